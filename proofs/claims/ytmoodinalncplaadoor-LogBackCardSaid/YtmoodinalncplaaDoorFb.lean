/- Contracts of internal/strconv's formatting at base 16. -/
import Derived.Test.YtmoodinalncplaaDoorProg
import Derived.Test.YtmoodinalncplaaDoorHex
import Derived.Test.YtmoodinalncplaaDoorKit
import Derived.Lib.Hide
import Derived.Laws.Rows
import Derived.Laws.BytesString
import Derived.Laws.BitsAllLaws
import Derived.Laws.BitsLemmas
import Derived.Laws.Bits64b
import Derived.WalkKit
import Derived.BigCall
import Derived.BigGuard
import Derived.Outline
import Derived.Handy
import Derived.WalkSpells
import Derived.Deep.DeepMust
namespace Go.Proofs.YtmoodinalncplaaDoor
open Go.RowKit

theorem tz16 (w : World) (hc : w.cell? ⟨6, 15, none⟩ = some (.int .u8 4)) :
    Calls Tryd.prog 96 #[.int .u64 16] w fun e w' => e = .returned (.int .i64 4) ∧ w = w' := by
  have key : IntKind.u64.wrap (bits BinOp.and IntKind.u64 16 (IntKind.u64.wrap (-16)) * 285870213051353865) / 288230376151711744 = (15 : Int) := by decide +kernel
  have h2 : Calls Tryd.prog 106 #[.int .u64 16] w fun e w' => e = .returned (.int .i64 4) ∧ w = w' := by
    go_enter Tryd.func106, Tryd.ntmps106
    go_wp2_with (simp only [key])
    go_ret
    exact ⟨rfl, rfl⟩
  go_enter Tryd.func96, Tryd.ntmps96
  go_wp2_with (go_at_call 106; refine h2.mono ?_; rintro e w' ⟨rfl, rfl⟩)
  go_ret
  exact ⟨rfl, rfl⟩

theorem pow16 (w : World) : Calls Tryd.prog 95 #[.int .i64 16] w fun e w' => e = .returned (.bool true) ∧ w = w' := by
  have key : bits BinOp.and IntKind.i64 16 15 = 0 := by decide +kernel
  go_enter Tryd.func95, Tryd.ntmps95
  go_wp2
  go_ret
  exact ⟨rfl, rfl⟩

theorem and15 (v : Nat) (hv : v < 18446744073709551616) : bits .and .u64 (v : Int) 15 = ((v % 16 : Nat) : Int) := by
  have h := bits_and_u64_nat v 15 hv (by omega)
  rw [show ((15 : Nat) : Int) = 15 from rfl] at h
  rw [h, show (15 : Nat) = 2 ^ 4 - 1 from rfl, Nat.and_two_pow_sub_one_eq_mod]

def digs : ByteArray := ⟨#[48, 49, 50, 51, 52, 53, 54, 55, 56, 57, 97, 98, 99, 100, 101, 102, 103, 104, 105, 106, 107, 108, 109, 110, 111, 112, 113, 114, 115, 116, 117, 118, 119, 120, 121, 122]⟩
theorem digs_at (d : Nat) (h : d < 16) (h' : d < digs.size) : digs[d] = Hex.dig d := by
  have : ∀ d : Fin 16, digs[d.1]'(Nat.lt_of_lt_of_le d.2 (by decide)) = Hex.dig d.1 := by decide
  exact this ⟨d, h⟩

/-- what a written digit does to the row of the digits -/
theorem fmt_step {u v n f : Nat} {cs : Array Value} {ds : List UInt8} (x : UInt8) (hx : x = Hex.dig (v % 16)) (h16 : 16 ≤ v)
    (h : cs.size = 65 ∧ Hex.num 15 u = Hex.num f v ++ ds ∧ ds.length = n ∧ f + n = 15 ∧ v < 16 ^ (f + 1) ∧ ∀ j (h : j < ds.length), cs[65 - n + j]? = some (.int .u8 (ds[j].toNat : Int))) :
    n + 1 ≤ 15 ∧ ((cs.setIfInBounds (65 - n - 1) (.int .u8 (x.toNat : Int))).size = 65 ∧ Hex.num 15 u = Hex.num (f - 1) (v / 16) ++ (x :: ds) ∧ (x :: ds).length = n + 1 ∧ f - 1 + (n + 1) = 15 ∧ v / 16 < 16 ^ (f - 1 + 1) ∧
      ∀ j (h : j < (x :: ds).length), (cs.setIfInBounds (65 - n - 1) (.int .u8 (x.toNat : Int)))[65 - (n + 1) + j]? = some (.int .u8 ((x :: ds)[j].toNat : Int))) := by
  obtain ⟨h1, h2, h3, h4, h5, h6⟩ := h
  obtain ⟨f, rfl⟩ : ∃ m, f = m + 1 := by
    cases f with
    | zero => simp at h5; omega
    | succ f => exact ⟨f, rfl⟩
  refine ⟨by omega, by simpa using h1, ?_, by simp [h3], by omega, ?_, ?_⟩
  · rw [h2, Hex.num, if_neg (by omega), hx]; simp
  · rw [Nat.add_sub_cancel, Nat.div_lt_iff_lt_mul (by omega)]
    simpa [Nat.pow_succ] using h5
  · intro j hj
    cases j with
    | zero =>
      rw [show 65 - (n + 1) + 0 = 65 - n - 1 from by omega, Array.getElem?_setIfInBounds_self_of_lt (by omega)]; simp
    | succ j =>
      rw [Array.getElem?_setIfInBounds_ne (by omega), show 65 - (n + 1) + (j + 1) = 65 - n + j from by omega]
      exact h6 j (by simpa using hj)

theorem tail65 (B n : Nat) (hn : n ≤ 15) (W : World) : (Instr.sliceAt 129 (.pointer (some ⟨B, 0, none⟩)) (some (.int .i64 (65 - (n : Int) - 1))) none none).run Tryd.prog W = .ok (.slice (some ⟨B, 65 - n - 1, none⟩) (n + 1) (n + 1)) W := by
  have ht : Tryd.prog.underlying 129 = some (.array (Tryd.prog.arrayLen 129) (Tryd.prog.elem 129)) := by kernel_rfl
  have hl : Tryd.prog.arrayLen 129 = 65 := by kernel_rfl
  have he : Tryd.prog.elem 129 = 5 := by kernel_rfl
  rw [run_sliceAt_array_l W _ _ ht .i64 _ (by omega) (by rw [hl]; omega), he, hl, Tryd.sizeOf5]
  have e1 : (65 - (n : Int) - 1).toNat = 65 - n - 1 := by omega
  simp only [Result.andThen, slicedAt, e1]
  rw [if_neg (by omega), add_plain, show 65 - (65 - n - 1) = n + 1 from by omega]
  simp

theorem str65 {B n f v u : Nat} {cs : Array Value} {ds : List UInt8} {wr : World} (hblk : Blk wr B 129 cs) (hn : n ≤ 15) (x : UInt8) (hx : x = Hex.dig v) (hl : v < 16)
    (h : cs.size = 65 ∧ Hex.num 15 u = Hex.num f v ++ ds ∧ ds.length = n ∧ f + n = 15 ∧ v < 16 ^ (f + 1) ∧ ∀ j (h : j < ds.length), cs[65 - n + j]? = some (.int .u8 (ds[j].toNat : Int))) :
    (convert 72 9 (.slice (some ⟨B, 65 - n - 1, none⟩) (n + 1) (n + 1))).run Tryd.prog (wr.setCell ⟨B, 65 - n - 1, none⟩ (.int .u8 (x.toNat : Int))) =
      .ok (.string ⟨(Hex.num 15 u).toArray⟩) (wr.setCell ⟨B, 65 - n - 1, none⟩ (.int .u8 (x.toNat : Int))) := by
  obtain ⟨h1, h2, h3, h4, h5, h6⟩ := h
  have hnum : Hex.num 15 u = x :: ds := by
    rw [h2, hx]
    cases f with
    | zero => rfl
    | succ f => rw [Hex.num, if_pos hl]; rfl
  rw [hnum]
  have hlen : n + 1 = (x :: ds).length := by simp [h3]
  rw [hlen]
  have hp := hblk.put (65 - n - 1) (.int .u8 (x.toNat : Int))
  refine run_convert_bytes_back _ _ _ _ _ _ _ Tryd.underlying72 Tryd.underlying5 Tryd.underlying9 fun j hj => ?_
  rw [add_plain, hp.cell]
  cases j with
  | zero => rw [Nat.add_zero, Array.getElem?_setIfInBounds_self_of_lt (by omega)]; simp
  | succ j =>
    rw [Array.getElem?_setIfInBounds_ne (by omega), show 65 - n - 1 + (j + 1) = 65 - n + j from by simp at hj; omega]
    exact h6 j (by simpa using hj)

set_option maxHeartbeats 1000000 in
set_option maxRecDepth 100000 in
theorem fmtBits16 (u : Nat) (hu : u < 18446744073709551616) (w : World) (hc : w.cell? ⟨6, 15, none⟩ = some (.int .u8 4)) :
    Calls Tryd.prog 74 #[.slice none 0 0, .int .u64 u, .int .i64 16, .bool false, .bool false] w fun e w' =>
      e = .returned (.tuple #[.slice none 0 0, .string ⟨(Hex.num 15 u).toArray⟩]) ∧ Below w.heap.size w w' := by
  have hc1 : ∀ o, (w.alloc o).cell? ⟨6, 15, none⟩ = some (.int .u8 4) := fun o => by
    rw [World.cell?_alloc_lt]
    · exact hc
    · exact lt_of_cell hc
  go_enter Tryd.func74, Tryd.ntmps74
  go_wp2_with (first | (go_at_call 95; refine (pow16 _).mono ?_; rintro e w' ⟨rfl, rfl⟩) | (go_at_call 96; refine (tz16 _ (hc1 _)).mono ?_; rintro e w' ⟨rfl, rfl⟩))
  go_loopw [13, 1] (fun vi vu wr => ∃ (v n f : Nat) (cs : Array Value) (ds : List UInt8), vu = .int .u64 v ∧ vi = .int .i64 (65 - (n : Int)) ∧ n ≤ 15 ∧ v < 18446744073709551616 ∧ Blk wr w.heap.size 129 cs ∧ Below w.heap.size w wr ∧
      Hid (cs.size = 65 ∧ Hex.num 15 u = Hex.num f v ++ ds ∧ ds.length = n ∧ f + n = 15 ∧ v < 16 ^ (f + 1) ∧ ∀ j (h : j < ds.length), cs[65 - n + j]? = some (.int .u8 (ds[j].toNat : Int))))
    (fun _ vu _ => (intOf vu).toNat)
  case atStart =>
    refine ⟨u, 0, 15, _, [], rfl, rfl, by omega, hu, Blk.new _ _ _, (Below.refl _ _).alloc (Nat.le_refl _) _, ?_⟩
    exact ⟨by kernel_rfl, by simp, rfl, rfl, hu, fun j h => by simp at h⟩
  case round =>
    obtain ⟨v, n, f, cs, ds, rfl, rfl, hn, hv, hblk, hbel, hh⟩ := hrel
    by_cases h16 : 16 ≤ v
    · have hc0 := hblk.cell (65 - n - 1)
      have hf0 := hblk.free (65 - n - 1)
      have hsz := hh.out.1
      rw [Array.getElem?_eq_getElem (show 65 - n - 1 < cs.size by omega)] at hc0
      generalize cs[65 - n - 1]'(by omega) = old at hc0
      have hand := and15 v hv
      obtain ⟨d, hd⟩ : ∃ d, d = v % 16 := ⟨_, rfl⟩
      have hd16 : d < 16 := by omega
      rw [← hd] at hand
      have Hd := Lib.hid hd
      clear hd hsz
      have Hstep : Hid _ := Lib.hid (fmt_step (digs[d]'(Nat.lt_of_lt_of_le hd16 (by decide))) ((digs_at d hd16 _).trans (by rw [Hd.out])) h16 hh.out)
      go_wp2
      obtain ⟨g1, g2⟩ := Hstep.out
      refine ⟨⟨v / 16, n + 1, f - 1, _, _, by simp, by go_num, g1, by omega, hblk.put _ _, hbel.setCell (Nat.le_refl _) _, g2⟩, ?_⟩
      simp [intOf]; omega
    · have hl : v < 16 := by omega
      have hc0 := hblk.cell (65 - n - 1)
      have hf0 := hblk.free (65 - n - 1)
      have hsz := hh.out.1
      rw [Array.getElem?_eq_getElem (show 65 - n - 1 < cs.size by omega)] at hc0
      generalize cs[65 - n - 1]'(by omega) = old at hc0
      have hsl := tail65 w.heap.size n hn
      have hst := str65 (u := u) hblk hn ((⟨#[48, 49, 50, 51, 52, 53, 54, 55, 56, 57, 97, 98, 99, 100, 101, 102, 103, 104, 105, 106, 107, 108, 109, 110, 111, 112, 113, 114, 115, 116, 117, 118, 119, 120, 121, 122]⟩ : ByteArray)[v]'(Nat.lt_of_lt_of_le hl (by decide))) (digs_at v hl _) hl hh.out
      have hbel' := hbel.setCell (p := ⟨w.heap.size, 65 - n - 1, none⟩) (Nat.le_refl _) (.int .u8 (((⟨#[48, 49, 50, 51, 52, 53, 54, 55, 56, 57, 97, 98, 99, 100, 101, 102, 103, 104, 105, 106, 107, 108, 109, 110, 111, 112, 113, 114, 115, 116, 117, 118, 119, 120, 121, 122]⟩ : ByteArray)[v]'(Nat.lt_of_lt_of_le hl (by decide))).toNat : Int))
      have Hbel := Lib.hid hbel'
      clear hsz hbel'
      go_wp2
      go_ret2
      exact ⟨rfl, Hbel.out⟩

theorem fmtUint16 (u : Nat) (hu : u < 18446744073709551616) (w : World) (hc : w.cell? ⟨6, 15, none⟩ = some (.int .u8 4)) :
    Calls Tryd.prog 24 #[.int .u64 u, .int .i64 16] w fun e w' => e = .returned (.string ⟨(Hex.num 15 u).toArray⟩) ∧ Below w.heap.size w w' := by
  have hi : Calls Tryd.prog 48 #[.int .u64 u, .int .i64 16] w fun e w' => e = .returned (.string ⟨(Hex.num 15 u).toArray⟩) ∧ Below w.heap.size w w' := by
    go_enter Tryd.func48, Tryd.ntmps48
    go_wp2_with (go_at_call 74; refine (fmtBits16 u hu _ hc).mono ?_; rintro e w1 ⟨rfl, hb⟩)
    go_ret
    exact ⟨rfl, hb⟩
  go_enter Tryd.func24, Tryd.ntmps24
  go_wp2_with (go_at_call 48; refine hi.mono ?_; rintro e w1 ⟨rfl, hb⟩)
  go_ret
  exact ⟨rfl, hb⟩
end Go.Proofs.YtmoodinalncplaaDoor
