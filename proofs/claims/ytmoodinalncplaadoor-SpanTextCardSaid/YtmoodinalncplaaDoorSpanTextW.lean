/- The walk of SpanText. -/
import Derived.Test.YtmoodinalncplaaDoorSpanRead
import Derived.Test.YtmoodinalncplaaDoorSpans
namespace Go.Proofs.YtmoodinalncplaaDoor
open Go.RowKit

set_option maxHeartbeats 1000000 in
set_option maxRecDepth 100000 in
theorem spanText_walk (u : Nat) (hu : u < 18446744073709551616) (s : ByteArray) (hs : s.size ≤ 281474976710656) (ev1 ev2 : Value) (w : World) (h1 : w.cell? ⟨1, 0, none⟩ = some ev1) (h2 : w.cell? ⟨2, 0, none⟩ = some ev2) (k1 : Held ev1) (k2 : Held ev2)
    (hc : w.cell? ⟨6, 15, none⟩ = some (.int .u8 4)) :
    Calls Tryd.prog 3 #[.float .f64 u, .string s] w fun e w' => e = .returned (.bool true) ∧ Below w.heap.size w w' := by
  have b1 := lt_of_cell h1
  have b2 := lt_of_cell h2
  have bc := lt_of_cell hc
  -- the facts on the cells in every later world
  have keep : ∀ W, Below w.heap.size w W → W.cell? ⟨1, 0, none⟩ = some ev1 ∧ W.cell? ⟨2, 0, none⟩ = some ev2 ∧ W.cell? ⟨6, 15, none⟩ = some (.int .u8 4) :=
    fun W hb => ⟨(hb.cell b1).trans h1, (hb.cell b2).trans h2, (hb.cell bc).trans hc⟩
  have htext : ∀ n, n < 18446744073709551616 → ∀ W, Below w.heap.size w W → Calls Tryd.prog 9 #[.float .f64 n] W fun e w' => e = .returned (.string ⟨(Hex.fix 16 n).toArray⟩) ∧ Below w.heap.size w w' := fun n hn W hb =>
    (text_any n hn W (keep W hb).2.2).mono fun e w' ⟨he, hb'⟩ => ⟨he, hb.trans (hb'.mono hb.size)⟩
  have hread : ∀ (t : ByteArray), t.size ≤ 281474976710656 → ∀ W, Below w.heap.size w W → Calls Tryd.prog 8 #[.string t] W fun e w' => Below w.heap.size w w' ∧ match rdVal t.data.toList with
    | some n => e = .returned (.tuple #[.float .f64 n, .int .i64 0])
    | none => e = .returned (.tuple #[.float .f64 0, .int .i64 3]) := fun t ht W hb =>
    (read_any t ht ev1 ev2 W (keep W hb).1 (keep W hb).2.1 k1 k2 (keep W hb).2.2).mono fun e w' ⟨hb', he⟩ => ⟨hb.trans (hb'.mono hb.size), he⟩
  have hread1 : ∀ W, Below w.heap.size w W → Calls Tryd.prog 8 #[.string ⟨(Hex.fix 16 u).toArray⟩] W fun e w' => Below w.heap.size w w' ∧ e = .returned (.tuple #[.float .f64 u, .int .i64 0]) := fun W hb => by
    have h := hread ⟨(Hex.fix 16 u).toArray⟩ (by show (Hex.fix 16 u).toArray.size ≤ _; simp [Hex.fix_length]) W hb
    rw [show (⟨(Hex.fix 16 u).toArray⟩ : ByteArray).data.toList = Hex.fix 16 u from by simp, rdVal_fix u hu] at h
    exact h
  have htext1 := htext u hu
  have ff := run_bits
  have hneq : ((u : Int) != (u : Int)) = false := by simp
  clear keep b1 b2 bc h1 h2 k1 k2 hc
  cases hv : rdVal s.data.toList with
  | none =>
    have hread2 : ∀ W, Below w.heap.size w W → Calls Tryd.prog 8 #[.string s] W fun e w' => Below w.heap.size w w' ∧ e = .returned (.tuple #[.float .f64 0, .int .i64 3]) := fun W hb => by
      have h := hread s hs W hb
      rw [hv] at h
      exact h
    have H1 := Lib.hid htext1
    have H2 := Lib.hid hread1
    have H3 := Lib.hid hread2
    clear htext hread hread1 htext1 hread2 hv
    go_enter Tryd.func3, Tryd.ntmps3
    go_wp2_with fail
    refine (spans_any _).mono ?_
    rintro e w1 ⟨rfl, hb1⟩
    go_wp2_with fail
    refine (H1.out _ hb1).mono ?_
    rintro e w2 ⟨rfl, hb2⟩
    go_wp2_with fail
    refine (H2.out _ hb2).mono ?_
    rintro e w3 ⟨hb3, rfl⟩
    go_wp2_with fail
    refine (H3.out _ hb3).mono ?_
    rintro e w4 ⟨hb4, rfl⟩
    go_wp2_with fail
    go_ret
    exact ⟨rfl, hb4⟩
  | some n =>
    obtain ⟨hf, hn⟩ := rdVal_some hv
    have hread2 : ∀ W, Below w.heap.size w W → Calls Tryd.prog 8 #[.string s] W fun e w' => Below w.heap.size w w' ∧ e = .returned (.tuple #[.float .f64 n, .int .i64 0]) := fun W hb => by
      have h := hread s hs W hb
      rw [hv] at h
      exact h
    have htext2 : ∀ W, Below w.heap.size w W → Calls Tryd.prog 9 #[.float .f64 n] W fun e w' => e = .returned (.string s) ∧ Below w.heap.size w w' := fun W hb => by
      have h := htext n hn W hb
      rw [hf] at h
      exact h
    have hse : (s.toList == s.toList) = true := by simp
    have H1 := Lib.hid htext1
    have H2 := Lib.hid hread1
    have H3 := Lib.hid hread2
    have H4 := Lib.hid htext2
    clear htext hread hread1 htext1 hread2 hv hf htext2
    go_enter Tryd.func3, Tryd.ntmps3
    go_wp2_with fail
    refine (spans_any _).mono ?_
    rintro e w1 ⟨rfl, hb1⟩
    go_wp2_with fail
    refine (H1.out _ hb1).mono ?_
    rintro e w2 ⟨rfl, hb2⟩
    go_wp2_with fail
    refine (H2.out _ hb2).mono ?_
    rintro e w3 ⟨hb3, rfl⟩
    go_wp2_with fail
    refine (H3.out _ hb3).mono ?_
    rintro e w4 ⟨hb4, rfl⟩
    go_wp2_with fail
    refine (H4.out _ hb4).mono ?_
    rintro e w5 ⟨rfl, hb5⟩
    go_wp2_with fail
    go_ret
    exact ⟨rfl, hb5⟩
end Go.Proofs.YtmoodinalncplaaDoor
