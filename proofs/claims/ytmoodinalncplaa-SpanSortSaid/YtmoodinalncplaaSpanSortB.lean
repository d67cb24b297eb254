/- span.Sort, the closure of SpanSort, span.Most. -/
import Derived.Test.YtmoodinalncplaaSpanSortA
import Derived.Test.YtmoodinalncplaaShelf
import Derived.Test.YtmoodinalncplaaOwnSort
import Derived.Shelf.SlSortCmp.NoneTotal
import Derived.OwnWalk
namespace Go.Proofs.Ytmoodinalncplaa
open Go.RowKit Go.Sort Go.Lib

abbrev U : Type := { u : Nat // u < 18446744073709551616 }
instance : Inhabited U := ⟨⟨0, by omega⟩⟩
def encF (x : U) : Value := .float .f64 x.1
def toU (us : List Nat) (h : Bits us) : List U := us.pmap (fun u hu => ⟨u, hu⟩) h
theorem toU_val (us : List Nat) (h : Bits us) : (toU us h).map (·.1) = us := by
  induction us with
  | nil => rfl
  | cons u l ih =>
    have := ih (fun x hx => h x (List.mem_cons_of_mem _ hx))
    simp only [toU, List.pmap, List.map_cons] at this ⊢
    rw [this]
theorem toU_length (us : List Nat) (h : Bits us) : (toU us h).length = us.length := by
  have := congrArg List.length (toU_val us h)
  simpa using this
theorem toU_enc (us : List Nat) (h : Bits us) : (toU us h).map encF = fls us := by
  unfold fls
  conv => rhs; rw [← toU_val us h]
  rw [List.map_map]; rfl
def cfF (x y : U) : Int := cmpN (keyN x.1) (keyN y.1)
theorem cmpN_neg (a b : Nat) : cmpN a b < 0 ↔ a < b := by unfold cmpN; split <;> (try split) <;> constructor <;> intro h <;> omega
theorem swoF : SWO (ltOf cfF) where
  irrefl x := by simp [ltOf, cfF, cmpN_neg]
  trans x y z h1 h2 := by simp [ltOf, cfF, cmpN_neg] at *; omega
  ntrans x y z h1 h2 := by simp [ltOf, cfF, cmpN_neg] at *; omega
theorem oneF : OneCell encF := fun _ => rfl

/-- slices.SortFunc of a row of the call's own, by span.Order -/
theorem sortFunc_any (us : List Nat) (hb : Bits us) (v : Value) (base : Nat) (w : World) (hn : us.length < 4611686018427387904) (hown : w.ownsRow base 26 1 v us.length (fls us)) :
    Calls Try.prog 15 #[v, .func (.func 7) #[] #[]] w fun e w' => e = .returned (.tuple #[]) ∧
      ∃ us', us'.Perm us ∧ (∀ i (h : i + 1 < us'.length), keyN us'[i] ≤ keyN us'[i + 1]) ∧ w'.ownsRow base 26 1 v us.length (fls us') ∧ w.grownBy w' v.ownBlock := by
  rcases hown.2 with ⟨hv, h0⟩ | ⟨g, cap, cur, hv, hbase, hblk, h1, h2, h3, h4⟩
  · have hu : us = [] := List.eq_nil_of_length_eq_zero h0
    subst hu
    refine (show Calls Try.prog 15 #[v, .func (.func 7) #[] #[]] w fun e w' => e = .returned (.tuple #[]) ∧ w' = w from ?_).mono ?_
    · rw [hv]; exact AnyF.slices_SortFunc_none { Try.laysSlF6_f15 with } none 0 _ w
    · rintro e w' ⟨rfl, rfl⟩
      exact ⟨rfl, [], List.Perm.refl _, fun i h => by simp at h, hown, World.grownBy.refl _ _⟩
  · obtain ⟨d, hd⟩ : ∃ d : Array U, d = (toU us hb).toArray := ⟨_, rfl⟩
    have hsz : d.size = us.length := by rw [hd]; simp [toU_length]
    have henc : d.toList.map encF = fls us := by rw [hd]; exact toU_enc us hb
    have hH : Holds encF w g 0 d := holds_of_own encF d hblk (by rw [hsz, henc]; simpa using h4)
    have hlt : g < w.heap.size := (Array.getElem?_eq_some_iff.1 hblk).1
    have hs := Try.slices_SortFunc encF oneF cfF swoF 7 #[] g 0 cap d w (fun args w => by kernel_rfl)
      (CmpReads.lays fun m os dk _ x y => (order_any x.1 y.1 x.2 y.2 _).mono fun _ _ ⟨he, hw⟩ => ⟨he, 0, hw.symm⟩) hH hlt (by omega)
    rw [hsz] at hs
    rw [hv]
    refine hs.mono ?_
    rintro e w' ⟨rfl, d', n, os, hp, hso, rfl⟩
    rw [← hsz] at hp hso
    have hl : d'.size = d.size := hp.1
    refine ⟨rfl, d'.toList.map (·.1), ?_, ?_, ?_, ?_⟩
    · have := (perm_of_permIn hp).map (fun x : U => x.1)
      rw [hd] at this
      rwa [show (toU us hb).toArray.toList.map (fun x : U => x.1) = us from toU_val us hb] at this
    · intro i h
      have hi : i + 1 < d'.size := by simpa using h
      have := hso i (i + 1) (by omega) (by omega) (by omega)
      rw [getElem!_pos d' (i + 1) hi, getElem!_pos d' i (by omega)] at this
      simp only [ltOf, cfF, cmpN_neg, decide_eq_false_iff_not] at this
      simpa using this
    · have := own_sorted encF (base := base) (os := os) (n := n) d d' hl hbase hblk (by omega) h2 h3
      rw [hsz] at this
      have e : d'.toList.map encF = fls (d'.toList.map (·.1)) := by unfold fls; rw [List.map_map]; rfl
      rwa [e] at this
    · exact grownBy_sorted' encF d'
end Go.Proofs.Ytmoodinalncplaa
