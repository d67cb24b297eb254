/- The walk of SpanSort. -/
import Derived.Test.YtmoodinalncplaaSpanSortK
import Derived.Test.YtmoodinalncplaaSpans
namespace Go.Proofs.Ytmoodinalncplaa
open Go.RowKit Go.Sort Go.Lib

theorem own_form {w : World} {base : Nat} {e : TypeId} {v : Value} {n : Nat} {xs : List Value} (h : w.ownsRow base e 1 v n xs) : ∃ A c, v = .slice A n c ∧ (A = none → n = 0) := by
  rcases h.2 with ⟨rfl, rfl⟩ | ⟨g, cap, cur, rfl, _⟩
  · exact ⟨none, 0, rfl, fun _ => rfl⟩
  · exact ⟨_, cap, rfl, fun h => by cases h⟩

theorem one_fls (us : List Nat) : ∀ u ∈ fls us, u.oneCell' = true := fun u hu => by
  obtain ⟨x, _, rfl⟩ := List.mem_map.1 hu
  rfl

set_option maxRecDepth 100000 in
theorem sort_any (us : List Nat) (hb : Bits us) (A : Option Addr) (c : Nat) (w : World) (hA : A = none → us.length = 0) (hn : us.length * 8 ≤ 140737488351232) (hr : Rd w w.heap.size A (fls us)) :
    Calls Try.prog 5 #[.slice A us.length c] w fun e w' => ∃ A' c' us', e = .returned (.slice A' us.length c') ∧ us'.Perm us ∧ (∀ i (h : i + 1 < us'.length), keyN us'[i] ≤ keyN us'[i + 1]) ∧
      w'.ownsRow w.heap.size 26 1 (.slice A' us.length c') us.length (fls us') ∧ Below w.heap.size w w' := by
  have hcl := clone_f64 A us.length c (fls us) w hA (by simp [fls]) (by omega) hr (one_fls us)
  have Hcl := Lib.hid hcl
  have Hb := Lib.hid hb
  clear hcl hr hA hb
  go_enter Try.func5, Try.ntmps5
  go_wp2_with fail
  refine Hcl.out.mono ?_
  rintro e w1 ⟨v, rfl, hown, hbel, _⟩
  have hso := sortFunc_any us Hb.out v w.heap.size w1 (by omega) hown
  obtain ⟨A', c', rfl, hA'⟩ := own_form hown
  have HO := Lib.hid hown
  have HS := Lib.hid hso
  clear hown hso hA'
  go_wp2_with fail
  refine HS.out.mono ?_
  rintro e w2 ⟨rfl, us', hp, hs, hown2, hgr⟩
  have hb2 := hbel.grown hgr hbel.size (fun g hg => (HO.out.lt g hg).1)
  have H := Lib.hid (show us'.Perm us ∧ (∀ i (h : i + 1 < us'.length), keyN us'[i] ≤ keyN us'[i + 1]) ∧ w2.ownsRow w.heap.size 26 1 (.slice A' us.length c') us.length (fls us') ∧ Below w.heap.size w w2 from ⟨hp, hs, hown2, hb2⟩)
  clear hp hs hown2 hb2 hgr hbel
  go_wp2_with fail
  go_ret
  obtain ⟨h1, h2, h3, h4⟩ := H.out
  exact ⟨A', c', us', rfl, h1, h2, h3, h4⟩

/-- span.Most -/
theorem most_any (us : List Nat) (hb : Bits us) (hne : us ≠ []) (A : Option Addr) (c B : Nat) (w : World) (hn : us.length ≤ 4611686018427387904) (hr : Rd w B A (fls us)) :
    Calls Try.prog 12 #[.slice A us.length c] w fun e w' => w' = w ∧ ∃ m, e = .returned (.float .f64 m) ∧ m ∈ us ∧ ∀ x ∈ us, keyN x ≤ keyN m := by
  have h := maxFunc_any us hb hne A c B w hn hr
  have H := Lib.hid h
  have hpos : ((us.length : Int) == 0) = false := by
    have := List.length_pos_iff.2 hne
    simp; omega
  clear h hr hb hne
  go_enter Try.func12, Try.ntmps12
  go_wp2_with fail
  refine H.out.mono ?_
  rintro e w1 ⟨rfl, m, rfl, hm, hmax⟩
  have H2 := Lib.hid (show m ∈ us ∧ ∀ x ∈ us, keyN x ≤ keyN m from ⟨hm, hmax⟩)
  clear hm hmax
  go_wp2_with fail
  go_ret
  exact ⟨rfl, m, rfl, H2.out.1, H2.out.2⟩
end Go.Proofs.Ytmoodinalncplaa
