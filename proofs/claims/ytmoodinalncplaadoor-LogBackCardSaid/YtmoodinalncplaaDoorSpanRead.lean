/- Contract of span.Read, and the plain law of SpanText. -/
import Derived.Test.YtmoodinalncplaaDoorSpan
namespace Go.Proofs.YtmoodinalncplaaDoor
open Go.RowKit

namespace Hex
theorem parse_lt (l : List UInt8) : ∀ n m, n < 18446744073709551616 → parse n l = .ok m → m < 18446744073709551616 := by
  induction l with
  | nil => intro n m h e; simp [parse] at e; omega
  | cons c l ih =>
    intro n m h e
    rw [parse] at e
    cases hv : val c.toNat with
    | none => rw [hv] at e; cases e
    | some d =>
      rw [hv] at e
      simp only at e
      by_cases hn : 1152921504606846976 ≤ n
      · rw [if_pos hn] at e; cases e
      · rw [if_neg hn] at e
        have hd : d < 16 := by
          unfold val at hv
          split at hv
          · injection hv; omega
          · split at hv
            · injection hv; omega
            · split at hv
              · injection hv; omega
              · cases hv
        exact ih _ _ (by omega) e
end Hex

theorem puVal_lt {l : List UInt8} {n : Nat} (h : puVal l = some n) : n < 18446744073709551616 := by
  unfold puVal at h
  split at h
  · cases h
  · cases hp : Hex.parse 0 l with
    | ok m => rw [hp] at h; injection h with h; subst h; exact Hex.parse_lt l 0 m (by omega) hp
    | bad => rw [hp] at h; cases h
    | large => rw [hp] at h; cases h

/-- what span.Read reads of a text: the bits -/
def rdVal (l : List UInt8) : Option Nat := match puVal l with
  | some n => if l.length = 16 then if Hex.fix 16 n = l then some n else none else none
  | none => none

def RdPost (l : List UInt8) (w : World) (e : Ending) (w' : World) : Prop :=
  Below w.heap.size w w' ∧ match rdVal l with
    | some n => e = .returned (.tuple #[.float .f64 n, .int .i64 0])
    | none => e = .returned (.tuple #[.float .f64 0, .int .i64 3])

theorem rdVal_fix (u : Nat) (hu : u < 18446744073709551616) : rdVal (Hex.fix 16 u) = some u := by
  have h16 : (16 : Nat) ^ 16 = 18446744073709551616 := by decide
  have hp : puVal (Hex.fix 16 u) = some u := by
    unfold puVal
    rw [if_neg (fun h => by have := congrArg List.length h; rw [Hex.fix_length] at this; cases this), Hex.parse_fix 16 u (by omega) (by omega)]
  unfold rdVal
  rw [hp]
  simp only [Hex.fix_length, if_true]

theorem rdVal_some {l : List UInt8} {n : Nat} (h : rdVal l = some n) : Hex.fix 16 n = l ∧ n < 18446744073709551616 := by
  unfold rdVal at h
  cases hp : puVal l with
  | none => rw [hp] at h; cases h
  | some m =>
    rw [hp] at h
    simp only at h
    split at h
    · split at h
      · next hf => injection h with h; subst h; exact ⟨hf, puVal_lt hp⟩
      · cases h
    · cases h

set_option maxRecDepth 100000 in
set_option maxHeartbeats 1600000 in
theorem read_any (s : ByteArray) (hs : s.size ≤ 281474976710656) (ev1 ev2 : Value) (w : World) (h1 : w.cell? ⟨1, 0, none⟩ = some ev1) (h2 : w.cell? ⟨2, 0, none⟩ = some ev2) (k1 : Held ev1) (k2 : Held ev2)
    (hc : w.cell? ⟨6, 15, none⟩ = some (.int .u8 4)) :
    Calls Tryd.prog 8 #[.string s] w (RdPost s.data.toList w) := by
  have bc := lt_of_cell hc
  have hpu := pu_any s hs ev1 ev2 w h1 h2 k1 k2
  have hsz : s.size = s.data.toList.length := Lib.size_eq s
  have ff := run_frombits
  have hstr : s = ⟨s.data.toList.toArray⟩ := by simp
  have hrd : ∀ l, l = s.data.toList → rdVal l = rdVal l := fun _ _ => rfl
  clear hrd
  cases hv : puVal s.data.toList with
  | none =>
    have hpu : Calls Tryd.prog 22 #[.string s, .int .i64 16, .int .i64 64] w fun e w' => Below w.heap.size w w' ∧ ∃ (v : Int) (N : Nat), e = .returned (.tuple #[.int .u64 v, .iface 102 (.pointer (some ⟨N, 0, none⟩))]) :=
      hpu.mono fun e w' h => ⟨h.1, by have := h.2; rw [hv] at this; exact this⟩
    have hr : rdVal s.data.toList = none := by unfold rdVal; rw [hv]
    have Hr := Lib.hid hr
    clear hr hv hsz hstr
    have Hpu := Lib.hid hpu
    clear hpu
    go_enter Tryd.func8, Tryd.ntmps8
    go_wp2_with (first | (go_at_call 22; refine Hpu.out.mono ?_; rintro e w1 ⟨hb, v, N, rfl⟩))
    go_ret2
    exact ⟨hb, by rw [Hr.out]; rfl⟩
  | some n =>
    have hn := puVal_lt hv
    have hpu : Calls Tryd.prog 22 #[.string s, .int .i64 16, .int .i64 64] w fun e w' => Below w.heap.size w w' ∧ e = .returned (.tuple #[.int .u64 n, .nilIface]) :=
      hpu.mono fun e w' h => ⟨h.1, by have := h.2; rw [hv] at this; exact this⟩
    have Hpu := Lib.hid hpu
    clear hpu
    by_cases hl : s.data.toList.length = 16
    · have htx := fun W hW => text_any n hn W hW
      have hl16 : ((s.size : Int) == 16) = true := by simp; omega
      have hl16' : ((s.size : Int) != 16) = false := by simp; omega
      by_cases hf : Hex.fix 16 n = s.data.toList
      · have hr : rdVal s.data.toList = some n := by unfold rdVal; rw [hv]; simp only; rw [if_pos hl, if_pos hf]
        have Hr := Lib.hid hr
        have hfs : (⟨(Hex.fix 16 n).toArray⟩ : ByteArray) = s := by rw [hf]
        have Hfs := Lib.hid hfs
        have Htx := Lib.hid htx
        clear hr hv hl hf hsz hstr hfs htx
        go_enter Tryd.func8, Tryd.ntmps8
        go_wp2_with (first | (go_at_call 22; refine Hpu.out.mono ?_; rintro e w1 ⟨hb, rfl⟩; have hc1 := (hb.cell bc).trans hc) | (go_at_call 9; refine (Htx.out _ hc1).mono ?_; rw [Hfs.out]; rintro e w2 ⟨rfl, hb2⟩))
        go_ret2
        exact ⟨hb.trans (hb2.mono hb.size), by rw [Hr.out]; rfl⟩
      · have hr : rdVal s.data.toList = none := by unfold rdVal; rw [hv]; simp only; rw [if_pos hl, if_neg hf]
        have Hr := Lib.hid hr
        have hne : (Hex.fix 16 n == s.toList) = false := by rw [ByteArray.toList_eq, beq_eq_false_iff_ne]; exact hf
        have Htx := Lib.hid htx
        clear hr hv hl hf hsz hstr htx
        go_enter Tryd.func8, Tryd.ntmps8
        go_wp2_with (first | (go_at_call 22; refine Hpu.out.mono ?_; rintro e w1 ⟨hb, rfl⟩; have hc1 := (hb.cell bc).trans hc) | (go_at_call 9; refine (Htx.out _ hc1).mono ?_; rintro e w2 ⟨rfl, hb2⟩))
        go_ret2
        exact ⟨hb.trans (hb2.mono hb.size), by rw [Hr.out]; rfl⟩
    · have hr : rdVal s.data.toList = none := by unfold rdVal; rw [hv]; simp only; rw [if_neg hl]
      have Hr := Lib.hid hr
      have hl16 : ((s.size : Int) != 16) = true := by simp; omega
      clear hr hv hl hsz hstr
      go_enter Tryd.func8, Tryd.ntmps8
      go_wp2_with (first | (go_at_call 22; refine Hpu.out.mono ?_; rintro e w1 ⟨hb, rfl⟩))
      go_ret2
      exact ⟨hb, by rw [Hr.out]; rfl⟩

end Go.Proofs.YtmoodinalncplaaDoor
