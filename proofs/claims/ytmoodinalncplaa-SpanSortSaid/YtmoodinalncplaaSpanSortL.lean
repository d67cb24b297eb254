/- The walk of SpanSort. -/
import Derived.Test.YtmoodinalncplaaSpanSortW
namespace Go.Proofs.Ytmoodinalncplaa
open Go.RowKit Go.Sort Go.Lib

theorem srt_perm {a b : List Int} (h : a.Perm b) : srt a = srt b := by
  have h1 : (srt a).Perm (srt b) := (List.mergeSort_perm _ _).trans (h.trans (List.mergeSort_perm _ _).symm)
  have s1 : (srt a).Pairwise (fun x y => x ≤ y) := by
    have := List.pairwise_mergeSort (le := fun x y : Int => decide (x ≤ y)) (fun a b c h1 h2 => by simp at *; omega) (fun a b => by simp; omega) a
    simpa using this
  have s2 : (srt b).Pairwise (fun x y => x ≤ y) := by
    have := List.pairwise_mergeSort (le := fun x y : Int => decide (x ≤ y)) (fun a b c h1 h2 => by simp at *; omega) (fun a b => by simp; omega) b
    simpa using this
  exact List.Perm.eq_of_pairwise (fun a b _ _ h1 h2 => Int.le_antisymm h1 h2) s1 s2 h1

theorem ubits_perm {a b : List Nat} (h : a.Perm b) : (ubits a).Perm (ubits b) := h.map _

theorem last_most (us : List Nat) (hs : ∀ i (h : i + 1 < us.length), keyN us[i] ≤ keyN us[i + 1]) (n : Nat) (hn : us.length = n + 1) (m : Nat) (hm : m ∈ us) (hmax : ∀ x ∈ us, keyN x ≤ keyN m) : keyN (us[n]'(by omega)) = keyN m := by
  have up : ∀ k i (h : i + k < us.length), keyN (us[i]'(by omega)) ≤ keyN us[i + k] := by
    intro k
    induction k with
    | zero => intro i h; exact Nat.le_refl _
    | succ k ih => intro i h; exact Nat.le_trans (ih i (by omega)) (hs (i + k) (by omega))
  obtain ⟨i, hi, rfl⟩ := List.getElem_of_mem hm
  have h1 := up (n - i) i (by omega)
  have e : us[i + (n - i)]'(by omega) = us[n]'(by omega) := by congr 1; omega
  rw [e] at h1
  have h2 := hmax _ (List.getElem_mem (show n < us.length by omega))
  omega
end Go.Proofs.Ytmoodinalncplaa
