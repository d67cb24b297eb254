/- SpanSort: the row. -/
import Derived.Test.YtmoodinalncplaaRows
import Derived.Test.YtmoodinalncplaaSpanSortX
import Derived.WalkKit
import Derived.ProofKit
import Derived.OpenShut
import Derived.ChangeOld
import Derived.Below
namespace Go.Proofs.Ytmoodinalncplaa.Row
open Go.ChangeShapes Go.WideShapes Go.ChangeAt Go.RowKit
set_option linter.unusedVariables false

theorem own : ownKnob Try.prog.godebug = none := by kernel_rfl
theorem laidOut : laidOutB Try.prog = true := by kernel_rfl
theorem under_fs : Try.prog.underlying 22 = some (.slice 26) := by kernel_rfl
theorem under_f : Try.prog.underlying 26 = some (.float .f64) := by kernel_rfl
theorem under_b : Try.prog.underlying 4 = some .bool := by kernel_rfl
theorem bytes_f : Try.prog.bytesOf 26 = 8 := by kernel_rfl
theorem cells_f : Try.prog.cellsOf 26 = 1 := by kernel_rfl

def ubit : Value → Nat
  | .float _ b => b
  | _ => 0

theorem float_of_trod {H : Type} {enc : TypeId × Value → H} {P : Program} {w : World} {base : Nat} {spare : Nat → Bool} {held : Bool} {n : Nat} {e : TypeId} {v : Value} {x : DataW H × List MemPlace} (he : P.underlying e = some (.float .f64))
    (h : DataW.trod enc P w base spare held n e [v] = some x) : v = .float .f64 (ubit v) ∧ ubit v < 18446744073709551616 := by
  cases n with
  | zero => simp [DataW.trod] at h
  | succ n =>
    simp only [DataW.trod, he] at h
    cases v <;> simp_all [ubit]
    all_goals (first | (obtain ⟨h1, h2⟩ := h; simp_all [Lit.wf]) | skip)

set_option maxRecDepth 100000 in
theorem lifted (os : Os) (started : os.Started) (H : Type) (enc : TypeId × Value → H) :
    ReturnsInHanded {} Try.checked os 3 .any (Rows.spanSortSpec.pre6 enc Try.prog Try.f3 Rows.spanSortRow.domain false) (Rows.spanSortSpec.post enc Try.prog Try.f3 false true false false) := by
  refine returnsInHanded_of_change_sized (C := Try.checked) own started (by kernel_rfl) Try.func3
    (ChangeSpec.witness6 (enc := enc) (C := Try.checked) false ⟨#[], #[.slice none 0 0], []⟩ 8 (by kernel_rfl) (by kernel_rfl) (by kernel_rfl) (by kernel_rfl)) ?_
  intro W base args ds gs before hval0 hW _ hsz0 _
  have hsz : (DataW.weightsEach Try.prog (Try.f3.params.toList ++ Rows.spanSortSpec.plain.varTypes Try.prog) (ds ++ gs)).all (· ≤ reachBytes) = true := hsz0
  clear hsz0
  have hval : ∀ (j : Nat) t v, Try.f3.params[j]? = some t → args[j]? = some v → Value.okWide Try.prog W .any base t v := hval0
  have hW' := hW
  obtain ⟨p, q, hA0, hV, rfl, hfz, hnd⟩ := hW
  have hA : DataW.TrodAll enc Try.prog W 0 (fun _ => true) true Try.f3.params.toList args.toList ds p := hA0
  rw [Try.params3] at hA hval hsz
  obtain ⟨v0, d0, rfl, rfl, h0⟩ := trodAll_one hA
  obtain ⟨rfl, rfl⟩ := trodVars_none hV
  obtain ⟨a0, len, cap, rfl⟩ := okWide_slice under_fs (hval 0 22 v0 rfl rfl)
  have k0 := h0
  have lt0 : ∀ x ∈ p, x.block < W.heap.size := by obtain ⟨m, hm⟩ := k0; exact DataW.trod_lt m _ _ _ hm
  obtain ⟨us, hlen, hbits, hnil, hreach, hrd⟩ : ∃ us : List Nat, us.length = len ∧ Bits us ∧ (a0 = none → us.length = 0) ∧ us.length * 8 ≤ 140737488351232 ∧ Rd W W.heap.size a0 (fls us) := by
    obtain ⟨fuel, hf⟩ := h0
    rcases Deep.open_slice1 under_fs cells_f hf with ⟨hcs, _⟩ | ⟨x, l, c, m, n, V, D, Pl, hcs, _, hl, hm, hmm, hx, hcell⟩
    · simp [Value.cells] at hcs
      obtain ⟨rfl, rfl, rfl⟩ := hcs
      exact ⟨[], rfl, fun u hu => by simp at hu, fun _ => rfl, by simp, fun h => absurd rfl h⟩
    · simp [Value.cells] at hcs
      obtain ⟨rfl, rfl, rfl⟩ := hcs
      have hm' : m = cap := by simpa using hmm
      subst hm'
      have hd : d0 = .slice ((List.range len).map D) ((List.range (m - len)).map fun j => D (len + j)) := congrArg Prod.fst hx
      subst hd
      have hs := sized_slice hsz (j := 0) (t := 22) (e := 26) rfl rfl under_fs
      rw [bytes_f] at hs
      simp only [List.length_map, List.length_range, reachBytes] at hs
      have hV' : ∀ i, i < len → W.cell? (x.add i) = some (.float .f64 (ubit (V i))) ∧ ubit (V i) < 18446744073709551616 := fun i hi => by
        obtain ⟨h1, h2⟩ := hcell i (by omega)
        obtain ⟨h3, h4⟩ := float_of_trod under_f h2
        exact ⟨by rw [h1, ← h3], h4⟩
      refine ⟨(List.range len).map fun i => ubit (V i), by simp, fun u hu => ?_, fun h => by simp at h, by simp; omega, fun hne => ?_⟩
      · obtain ⟨i, hi, rfl⟩ := List.mem_map.1 hu
        exact (hV' i (by simpa using hi)).2
      · have hpos : 0 < len := by
          rcases Nat.eq_zero_or_pos len with h | h
          · exfalso; apply hne; subst h; simp [fls]
          · exact h
        obtain ⟨b, off, spot⟩ := x
        have hc0 := (hV' 0 hpos).1
        have hspot : spot = none := by simpa [Addr.add] using World.cell?_spot hc0
        subst hspot
        refine ⟨b, off, rfl, ?_, fun i hi => ?_⟩
        · exact lt_of_cell hc0
        · have hi' : i < len := by simpa [fls] using hi
          have := (hV' i hi').1
          rw [add_plain] at this
          simpa [fls] using this
  subst hlen
  clear hA0 hval0
  refine (spanSort_walk us hbits a0 cap W hnil hreach hrd).mono fun e W' ⟨he, bel⟩ => ?_
  subst he
  exact ⟨_, rfl, _, _, _, [], _, [], hW', trodAll_mk1 (shut_bool under_b _), trodAll_mk1 (Below.trod laidOut (by kernel_rfl) (of_decide_eq_true (by kernel_rfl)) k0 bel lt0), rfl, bel.frame _, fun h => by cases h⟩

theorem over : Rows.spanSortRow.holds Try.pinned (OpenSpec.ofChange Rows.spanSortSpec) :=
  OpenClaim.holds_of_wide 3 Try.f3 rfl rfl rfl rfl rfl rfl rfl ⟨rfl, rfl, rfl, rfl, rfl⟩ rfl rfl rfl rfl rfl (by kernel_rfl) Try.func3 (by kernel_rfl)
    (of_decide_eq_true (by kernel_rfl)) (by unfold Func.isWrapper; first | (rw [if_pos (by decide +kernel)]; kernel_rfl) | (rw [if_neg (by decide +kernel)]; exact ⟨rfl, rfl⟩))
    (fun os started H enc _ => lifted os started H enc)

/-- the statement -/
theorem proved : Rows.SpanSortSaid := over
#print axioms proved
end Go.Proofs.Ytmoodinalncplaa.Row
