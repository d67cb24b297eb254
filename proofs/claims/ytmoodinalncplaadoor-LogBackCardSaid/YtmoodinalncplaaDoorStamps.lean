/- An argument that is a slice of stamps. -/
import Derived.Test.YtmoodinalncplaaDoorLogG
import Derived.Deep.Slices
import Derived.Deep.Fields
import Derived.ChangeSame
namespace Go.Proofs.YtmoodinalncplaaDoor
open Go.RowKit Go.ChangeShapes Go.WideShapes Go.Deep
namespace Log

theorem float_of {H : Type} {enc : TypeId × Value → H} {P : Program} {w : World} {base : Nat} {spare : Nat → Bool} {held : Bool} {n : Nat} {e : TypeId} {v : Value} {x : DataW H × List MemPlace} (he : P.underlying e = some (.float .f64))
    (h : DataW.trod enc P w base spare held n e [v] = some x) : ∃ u, v = .float .f64 u ∧ u < 18446744073709551616 := by
  cases n with
  | zero => simp [DataW.trod] at h
  | succ n =>
    simp only [DataW.trod, he] at h
    cases v <;> simp_all
    all_goals (first | (obtain ⟨h1, h2⟩ := h; simp_all [Lit.wf]) | skip)

theorem cells_st : Tryd.prog.cellsOf 35 = 3 := by kernel_rfl

set_option maxRecDepth 100000 in
theorem one_stamp {H : Type} {enc : TypeId × Value → H} {w : World} {base : Nat} {spare : Nat → Bool} {held : Bool} {n : Nat} {cs : List Value} {x : DataW H × List MemPlace}
    (h : DataW.trod enc Tryd.prog w base spare held n 35 cs = some x) : ∃ y : St, Fits y ∧ cs = [.string y.nm, .int .i64 y.t, .float .f64 y.u] := by
  obtain ⟨ys, n', _, _, hlen, hyl, hf⟩ := DataW.trod_struct Tryd.underlying35 h
  rw [cells_st] at hlen
  match cs, hlen with
  | [c0, c1, c2], _ =>
    have h0 := hf 0 _ rfl
    have h1 := hf 1 _ rfl
    have h2 := hf 2 _ rfl
    have o0 : ([c0, c1, c2].drop 0).take (Tryd.prog.cellsOf 9) = [c0] := by rw [show Tryd.prog.cellsOf 9 = 1 by kernel_rfl]; rfl
    have o1 : ([c0, c1, c2].drop 1).take (Tryd.prog.cellsOf 2) = [c1] := by rw [show Tryd.prog.cellsOf 2 = 1 by kernel_rfl]; rfl
    have o2 : ([c0, c1, c2].drop 2).take (Tryd.prog.cellsOf 22) = [c2] := by rw [show Tryd.prog.cellsOf 22 = 1 by kernel_rfl]; rfl
    have k0 : ∃ y, DataW.trod enc Tryd.prog w base spare held n' 9 [c0] = some y := by
      rw [← o0]
      exact ⟨_, h0.trans (List.getElem?_eq_getElem (by rw [hyl]; decide))⟩
    have k1 : ∃ y, DataW.trod enc Tryd.prog w base spare held n' 2 [c1] = some y := by
      rw [← o1]
      exact ⟨_, h1.trans (List.getElem?_eq_getElem (by rw [hyl]; decide))⟩
    have k2 : ∃ y, DataW.trod enc Tryd.prog w base spare held n' 22 [c2] = some y := by
      rw [← o2]
      exact ⟨_, h2.trans (List.getElem?_eq_getElem (by rw [hyl]; decide))⟩
    obtain ⟨y0, k0⟩ := k0
    obtain ⟨y1, k1⟩ := k1
    obtain ⟨y2, k2⟩ := k2
    obtain ⟨s, e0, _, hs⟩ := DataW.trod_string Tryd.underlying9 k0
    obtain ⟨t, e1, _, ht⟩ := DataW.trod_int Tryd.underlying2 k1
    obtain ⟨u, e2, hu⟩ := float_of Tryd.underlying22 k2
    injection e0 with e0
    injection e1 with e1
    subst e0 e1 e2
    have ht' : -9223372036854775808 ≤ t ∧ t ≤ 9223372036854775807 := by simpa [Lit.wf, IntKind.min, IntKind.max, IntKind.signed, IntKind.bits] using ht
    exact ⟨⟨s, t, u⟩, ⟨by unfold maxLen at hs; exact hs, ht'.1, ht'.2, hu⟩, rfl⟩

theorem open_stamps {H : Type} {enc : TypeId × Value → H} {w : World} {base : Nat} {spare : Nat → Bool} {held : Bool} {fuel : Nat} {a0 : Option Addr} {len cap : Nat} {x : DataW H × List MemPlace}
    (h : DataW.trod enc Tryd.prog w base spare held fuel 31 [.slice a0 len cap] = some x) : ∃ xs : List St, xs.length = len ∧ (∀ y ∈ xs, Fits y) ∧ RdS w w.heap.size a0 xs := by
  rcases open_slice Tryd.underlying31 h with ⟨hcs, _⟩ | ⟨a, l, c, m, n, D, Pl, hcs, _, hl, _, hm, _, hel⟩
  · simp at hcs
    obtain ⟨rfl, rfl, rfl⟩ := hcs
    exact ⟨[], rfl, fun y hy => by simp at hy, fun h => absurd rfl h⟩
  · simp only [List.cons.injEq, and_true, Value.slice.injEq] at hcs
    obtain ⟨rfl, rfl, rfl⟩ := hcs
    have hlm : len ≤ m := by rw [hm]; split <;> omega
    rw [cells_st] at hel
    have each : ∀ i, i < len → ∃ y : St, Fits y ∧ w.cell? (a.add (i * 3)) = some (.string y.nm) ∧ w.cell? ((a.add (i * 3)).add 1) = some (.int .i64 y.t) ∧ w.cell? ((a.add (i * 3)).add 2) = some (.float .f64 y.u) := fun i hi => by
      obtain ⟨cs', hc, ht⟩ := hel i (by omega)
      obtain ⟨y, hy, rfl⟩ := one_stamp ht
      obtain ⟨_, _, hat⟩ := World.cells?_some hc
      refine ⟨y, hy, ?_, hat 1 (by omega), hat 2 (by omega)⟩
      have := hat 0 (by omega)
      rwa [show (a.add (i * 3)).add 0 = a.add (i * 3) from by cases a; simp [Addr.add]] at this
    have upto : ∀ k, k ≤ len → ∃ xs : List St, xs.length = k ∧ (∀ y ∈ xs, Fits y) ∧ ∀ i (hi : i < xs.length), w.cell? (a.add (i * 3)) = some (.string xs[i].nm) ∧ w.cell? ((a.add (i * 3)).add 1) = some (.int .i64 xs[i].t) ∧ w.cell? ((a.add (i * 3)).add 2) = some (.float .f64 xs[i].u) := by
      intro k
      induction k with
      | zero => intro _; exact ⟨[], rfl, fun y hy => by simp at hy, fun i hi => by simp at hi⟩
      | succ k ih =>
        intro hk
        obtain ⟨xs, h1, h2, h3⟩ := ih (by omega)
        obtain ⟨y, hy, hc⟩ := each k (by omega)
        refine ⟨xs ++ [y], by simp [h1], fun z hz => ?_, fun i hi => ?_⟩
        · rw [List.mem_append] at hz
          rcases hz with hz | hz
          · exact h2 z hz
          · simp at hz; subst hz; exact hy
        · by_cases hik : i < xs.length
          · simp only [List.getElem_append_left hik]; exact h3 i hik
          · have : i = k := by simp at hi; omega
            subst this
            simp only [List.getElem_append_right (Nat.le_of_eq h1), h1, Nat.sub_self, List.getElem_cons_zero]
            exact hc
    obtain ⟨xs, h1, h2, h3⟩ := upto len (Nat.le_refl _)
    refine ⟨xs, h1, h2, fun hne => ?_⟩
    have hpos : 0 < xs.length := by
      rcases Nat.eq_zero_or_pos xs.length with h | h
      · exact absurd (List.eq_nil_of_length_eq_zero h) hne
      · exact h
    obtain ⟨b, off, spot⟩ := a
    have hc0 := (h3 0 hpos).1
    have hspot : spot = none := by simpa [Addr.add] using World.cell?_spot hc0
    subst hspot
    refine ⟨b, off, rfl, lt_of_cell hc0, fun i hi => ?_⟩
    have := h3 i hi
    simpa only [add_plain] using this
end Log
end Go.Proofs.YtmoodinalncplaaDoor
