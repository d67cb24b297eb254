/- The closure of SpanSort: the bits of a row, sorted; span.Sort, span.Most. -/
import Derived.Test.YtmoodinalncplaaSpanSortB
import Derived.Test.YtmoodinalncplaaSortU3
namespace Go.Proofs.Ytmoodinalncplaa
open Go.RowKit Go.Sort Go.Lib

abbrev srt (zs : List Int) : List Int := zs.mergeSort fun x y => decide (x ≤ y)
def ubits (us : List Nat) : List Int := us.map (fun (u : Nat) => (u : Int))

/-- slices.Sort of a row of the call's own -/
theorem sortU_any (zs : List Int) (v : Value) (base : Nat) (w : World) (hn : zs.length < 4611686018427387904) (hown : w.ownsRow base 29 1 v zs.length (zs.map (Value.int .u64))) :
    Calls Try.prog 10 #[v] w fun e w' => e = .returned (.tuple #[]) ∧ w'.ownsRow base 29 1 v zs.length ((srt zs).map (Value.int .u64)) ∧ w.grownBy w' v.ownBlock := by
  rcases hown.2 with ⟨hv, h0⟩ | ⟨g, cap, cur, hv, hbase, hblk, h1, h2, h3, h4⟩
  · have hu : zs = [] := List.eq_nil_of_length_eq_zero h0
    subst hu
    refine (show Calls Try.prog 10 #[v] w fun e w' => e = .returned (.tuple #[]) ∧ w' = w from ?_).mono ?_
    · rw [hv]; exact U.Sort_int_nil none 0 w
    · rintro e w' ⟨rfl, rfl⟩
      exact ⟨rfl, by simpa [srt] using hown, World.grownBy.refl _ _⟩
  · have hH : Holds (Value.int .u64) w g 0 zs.toArray := holds_of_own (Value.int .u64) zs.toArray hblk (by simpa using h4)
    have hlt : g < w.heap.size := (Array.getElem?_eq_some_iff.1 hblk).1
    have hs := U.slices_Sort_int g 0 cap zs w hH hlt hn
    rw [hv]
    refine hs.mono ?_
    rintro e w' ⟨rfl, n, os, rfl⟩
    refine ⟨rfl, ?_, grownBy_sorted' _ _⟩
    have := own_sorted (Value.int .u64) (base := base) (os := os) (n := n) zs.toArray (srt zs).toArray (by simp [srt]) hbase hblk (by simpa using h1) h2 h3
    simpa using this

end Go.Proofs.Ytmoodinalncplaa
