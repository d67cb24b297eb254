/- What the log's walks want of the package variables; log.text. -/
import Derived.Test.YtmoodinalncplaaDoorLogB
import Derived.Test.YtmoodinalncplaaDoorSpanRead
import Derived.Lib.LaidTab
import Derived.Lib.ItoaLen
import Derived.Lib.AppendIntMem
import Derived.Deep.RegionHeld3
namespace Go.Proofs.YtmoodinalncplaaDoor
open Go.RowKit
namespace Log

/-- the package variables that are read, in blocks below B -/
structure Env (B : Nat) (w : World) : Prop where
  low : 8 < B
  size : B ≤ w.heap.size
  pow : Lib.TabIs Tryd.prog w "internal/strconv.uint64pow10" .u64 Lib.pow10Tab
  bruijn : w.cell? ⟨6, 15, none⟩ = some (.int .u8 4)
  maxLen : ∃ m, w.cell? ⟨4, 0, none⟩ = some (.int .i64 m)
  syn : ∃ v, w.cell? ⟨1, 0, none⟩ = some v ∧ Held v
  rng : ∃ v, w.cell? ⟨2, 0, none⟩ = some v ∧ Held v

theorem var_below {P : Program} {B g : Nat} {W W' : World} {n : String} {cs : Array Value} (h : Below B W W') (hg : P.globalNamed n = some g) (hgB : g < B) (hv : W.var? P n = some cs) : W'.var? P n = some cs := by
  simp only [World.var?, hg, Option.bind_some] at hv ⊢
  rw [h.block g hgB]
  exact hv

theorem Env.below {B : Nat} {w w' : World} (h : Env B w) (hb : Below B w w') : Env B w' where
  low := h.low
  size := Nat.le_trans h.size hb.size
  pow := var_below hb (g := 3) (by kernel_rfl) (Nat.lt_of_le_of_lt (by decide) h.low) h.pow
  bruijn := (hb.cell (p := ⟨6, 15, none⟩) (Nat.lt_of_le_of_lt (by decide) h.low)).trans h.bruijn
  maxLen := by
    obtain ⟨m, hm⟩ := h.maxLen
    exact ⟨m, (hb.cell (p := ⟨4, 0, none⟩) (Nat.lt_of_le_of_lt (by decide) h.low)).trans hm⟩
  syn := by
    obtain ⟨m, hm, hh⟩ := h.syn
    exact ⟨m, (hb.cell (p := ⟨1, 0, none⟩) (Nat.lt_of_le_of_lt (by decide) h.low)).trans hm, hh⟩
  rng := by
    obtain ⟨m, hm, hh⟩ := h.rng
    exact ⟨m, (hb.cell (p := ⟨2, 0, none⟩) (Nat.lt_of_le_of_lt (by decide) h.low)).trans hm, hh⟩

theorem cat_run (a b : ByteArray) (h : a.size + b.size ≤ 9223372036854775807) (W : World) : (Op.stringOp .add a b).run Tryd.prog W = .ok (.string (a ++ b)) W := by
  rw [run_string_add_sum]
  exact h

set_option maxHeartbeats 2000000 in
set_option linter.unusedSimpArgs false in
theorem text_any (B : Nat) (nm : ByteArray) (t : Int) (u : Nat) (hn : nm.size ≤ 100000) (ht0 : -9223372036854775808 ≤ t) (ht1 : t ≤ 9223372036854775807) (hu : u < 18446744073709551616) (w : World) (hE : Env B w) :
    Calls Tryd.prog 40 #[.agg #[.string nm, .int .i64 t, .float .f64 u]] w fun e w' => e = .returned (.string ⟨(line nm.data.toList t u).toArray⟩) ∧ Below w.heap.size w w' := by
  have hfi := fun W (hb : Below w.heap.size w W) => Tryd.strconv_FormatInt_10 t ht0 ht1 W ((hE.below (hb.mono hE.size)).pow)
  have htx := fun W (hb : Below w.heap.size w W) => Go.Proofs.YtmoodinalncplaaDoor.text_any u hu W ((hE.below (hb.mono hE.size)).bruijn)
  have hil : (Lib.itoa t).length ≤ 21 := Lib.itoa_length_le t ht0 ht1
  have hfl := Hex.fix_length 16 u
  generalize hI : Lib.itoa t = I at hfi hil
  generalize hX : Hex.fix 16 u = X at htx hfl
  have h1 := cat_run nm ⟨#[32]⟩ (by show nm.size + 1 ≤ _; omega)
  have z1 : (⟨I.toArray⟩ : ByteArray).size = I.length := List.size_toArray
  have z2 : (⟨X.toArray⟩ : ByteArray).size = X.length := List.size_toArray
  have z3 : (⟨#[32]⟩ : ByteArray).size = 1 := rfl
  have z4 : (⟨#[10]⟩ : ByteArray).size = 1 := rfl
  have h2 := cat_run (nm ++ ⟨#[32]⟩) ⟨I.toArray⟩ (by simp only [ByteArray.size_append, z1, z2, z3, z4]; omega)
  have h3 := cat_run ((nm ++ ⟨#[32]⟩) ++ ⟨I.toArray⟩) ⟨#[32]⟩ (by simp only [ByteArray.size_append, z1, z2, z3, z4]; omega)
  have h4 := cat_run (((nm ++ ⟨#[32]⟩) ++ ⟨I.toArray⟩) ++ ⟨#[32]⟩) ⟨X.toArray⟩ (by simp only [ByteArray.size_append, z1, z2, z3, z4]; omega)
  have h5 := cat_run ((((nm ++ ⟨#[32]⟩) ++ ⟨I.toArray⟩) ++ ⟨#[32]⟩) ++ ⟨X.toArray⟩) ⟨#[10]⟩ (by simp only [ByteArray.size_append, z1, z2, z3, z4]; omega)
  have hend : (((((nm ++ ⟨#[32]⟩) ++ ⟨I.toArray⟩) ++ ⟨#[32]⟩) ++ ⟨X.toArray⟩) ++ ⟨#[10]⟩ : ByteArray) = ⟨(line nm.data.toList t u).toArray⟩ := by
    unfold line
    rw [hI, hX]
    ext1
    simp
  rw [← hend]
  clear hI hX hend hE z1 z2 z3 z4
  generalize ((((nm ++ ⟨#[32]⟩) ++ ⟨I.toArray⟩) ++ ⟨#[32]⟩) ++ ⟨X.toArray⟩) ++ ⟨#[10]⟩ = s5 at h5 ⊢
  generalize (((nm ++ ⟨#[32]⟩) ++ ⟨I.toArray⟩) ++ ⟨#[32]⟩) ++ ⟨X.toArray⟩ = s4 at h4 h5
  generalize ((nm ++ ⟨#[32]⟩) ++ ⟨I.toArray⟩) ++ ⟨#[32]⟩ = s3 at h3 h4
  generalize (nm ++ ⟨#[32]⟩) ++ ⟨I.toArray⟩ = s2 at h2 h3
  generalize nm ++ ⟨#[32]⟩ = s1 at h1 h2
  let o : Obj := .cells #[.string nm, .int .i64 t, .float .f64 u] 35
  let S : World → Prop := fun W => Below (w.heap.size + 1) (w.alloc o) W ∧ W.cell? ⟨w.heap.size, 0, none⟩ = some (.string nm) ∧ W.cell? ⟨w.heap.size, 1, none⟩ = some (.int .i64 t) ∧ W.cell? ⟨w.heap.size, 2, none⟩ = some (.float .f64 u)
  have hbx := Blk.new w 35 #[.string nm, .int .i64 t, .float .f64 u]
  have hSof : ∀ W, Below (w.heap.size + 1) (w.alloc o) W → S W := fun W h =>
    ⟨h, (h.cell (p := ⟨w.heap.size, 0, none⟩) (by simp)).trans (hbx.cell 0), (h.cell (p := ⟨w.heap.size, 1, none⟩) (by simp)).trans (hbx.cell 1), (h.cell (p := ⟨w.heap.size, 2, none⟩) (by simp)).trans (hbx.cell 2)⟩
  have hsz : (w.alloc o).heap.size = w.heap.size + 1 := World.size_alloc _ _
  have hlow : ∀ W, S W → Below w.heap.size w W := fun W h => ((Below.refl w.heap.size w).alloc (Nat.le_refl _) o).trans (h.1.mono (by omega))
  have HFI := Lib.hid (fun W (h : S W) => (hfi W (hlow W h)).mono (R' := fun e w' => e = .returned (.string ⟨I.toArray⟩) ∧ S w') fun e w' ⟨he, k, os, hw⟩ => ⟨he, hSof w' (h.1.trans (by rw [hw]; exact (Lib.below_grow _ W h.1.size k os).mono (by rw [hsz]; exact Nat.le_refl _)))⟩)
  have HTX := Lib.hid (fun W (h : S W) => (htx W (hlow W h)).mono (R' := fun e w' => e = .returned (.string ⟨X.toArray⟩) ∧ S w') fun e w' ⟨he, hw⟩ => ⟨he, hSof w' (h.1.trans (hw.mono (by have := h.1.size; rw [hsz] at this; exact this)))⟩)
  have h00 : S (w.alloc o).drew := hSof _ (Below.drew (Below.refl _ _))
  have HLow := Lib.hid hlow
  clear hfi htx hSof hlow hsz hbx
  go_enter Tryd.func40, Tryd.ntmps40
  go_wp2_with fail
  go_region_held3 (fun W => Below (w.heap.size + 1) (w.alloc o) W ∧ W.cell? ⟨w.heap.size, 0, none⟩ = some (.string nm) ∧ W.cell? ⟨w.heap.size, 1, none⟩ = some (.int .i64 t) ∧ W.cell? ⟨w.heap.size, 2, none⟩ = some (.float .f64 u))
    (assumption)
    (first
      | (go_at_call 63; (refine (HFI.out _ ?_).mono ?_); (focus assumption); rintro e w4 ⟨rfl, hS4⟩)
      | (go_at_call 9; (refine (HTX.out _ ?_).mono ?_); (focus assumption); rintro e w5 ⟨rfl, hS5⟩))
  go_wp2_with fail
  go_ret
  exact ⟨rfl, HLow.out _ (by assumption)⟩
end Log
end Go.Proofs.YtmoodinalncplaaDoor
