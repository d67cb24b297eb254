/- The closure of SpanSort gathers the bits of a row and sorts them. -/
import Derived.Test.YtmoodinalncplaaSpanSortC
namespace Go.Proofs.Ytmoodinalncplaa
open Go.RowKit Go.Sort Go.Lib

theorem u64_info : (Try.prog.info? 29).map (fun i => (i.zero, i.size, i.bytes)) = some (some (.int .u64 0), 1, 8) := by kernel_rfl

theorem ubits_take (us : List Nat) (k : Nat) (h : k < us.length) : ((ubits us).take (k + 1)).map (Value.int .u64) = ((ubits us).take k).map (Value.int .u64) ++ [.int .u64 (us[k] : Int)] := by
  have hl : k < (ubits us).length := by simpa [ubits] using h
  rw [List.take_succ_eq_append_getElem hl, List.map_append]
  simp [ubits]

set_option maxHeartbeats 1000000 in
set_option maxRecDepth 100000 in
theorem keyOf_any (us : List Nat) (A : Option Addr) (c : Nat) (w : World) (hn : us.length * 8 ≤ 140737488351232) (hr : Rd w w.heap.size A (fls us)) :
    Calls Try.prog 8 #[.slice A us.length c] w fun e w' => ∃ v, e = .returned v ∧ w'.ownsRow w.heap.size 29 1 v us.length ((srt (ubits us)).map (Value.int .u64)) ∧ Below w.heap.size w w' := by
  obtain ⟨b, off, hA, hbl, hc⟩ : ∃ b off, (us ≠ [] → A = some ⟨b, off, none⟩) ∧ (us ≠ [] → b < w.heap.size) ∧ ∀ i (h : i < us.length), w.cell? ⟨b, off + i, none⟩ = some (.float .f64 us[i]) := by
    by_cases h0 : us = []
    · exact ⟨0, 0, fun h => absurd h0 h, fun h => absurd h0 h, fun i h => by rw [h0] at h; simp at h⟩
    · obtain ⟨b, off, e, hb, hc⟩ := hr (by unfold fls; simpa using h0)
      exact ⟨b, off, fun _ => e, fun _ => hb, fun i h => by have := hc i (by simpa [fls] using h); simpa [fls] using this⟩
  have HC := Lib.hid hc
  have HA := Lib.hid hA
  have HB := Lib.hid hbl
  have fb := run_bits0
  clear hr hc hA hbl
  obtain ⟨i0, hi, hz0, hz1, hz2⟩ := info_parts u64_info
  go_enter Try.func8, Try.ntmps8
  go_wp2
  go_loopw [3, 8] (fun v vi wr => ∃ k : Nat, vi = .int .i64 k ∧ k ≤ us.length ∧ wr.ownsRow w.heap.size 29 1 v k (((ubits us).take k).map (Value.int .u64)) ∧ Below w.heap.size w wr) (fun _ vi _ => us.length - (intOf vi).toNat)
  case atStart => exact ⟨0, rfl, by omega, World.ownsRow_nil _ _ _ _, Below.refl _ _⟩
  case round =>
    obtain ⟨k, rfl, hk, hown, hbel⟩ := hrel
    by_cases hkl : k < us.length
    · have hx : us ≠ [] := fun h => by rw [h] at hkl; simp at hkl
      obtain rfl := HA.out hx
      have hb := HB.out hx
      have c1 : wr.cell? ⟨b, off + k, none⟩ = some (.float .f64 us[k]) := (hbel.cell (p := ⟨b, off + k, none⟩) hb).trans (HC.out k hkl)
      have htk := ubits_take us k hkl
      generalize us[k] = x at c1 htk
      have Htk := Lib.hid htk
      have hsz := hbel.size
      clear hx htk
      go_wp2_with (first | (at_builtin; refine wpList_append_own _ rfl _ _ 28 rfl w.heap.size 29 i0 (.int .u64 0) 1 8 Try.underlying28 hi hz0 hz1 hz2 rfl (by decide) _ _ _ rfl (hown.alloc _) ⟨wr.heap.size, 0, none⟩ 1 1 [.int .u64 (x : Int)] rfl rfl (cell_one_new _ _ _) (by intro u hu; simp at hu; subst hu; rfl) (by unfold maxLen; omega) (by omega) (by simp; omega) ?_; intro v' w1 hown' hgrow _))
      have hbel' : Below w.heap.size w w1 := (hbel.alloc hsz _).grown hgrow (by simp; omega) (by
        intro g hg
        have := (hown.alloc (.cells #[.int .u64 (x : Int)] 29)).lt g hg
        exact this.1)
      have hown2 : w1.ownsRow w.heap.size 29 1 v' (k + 1) (((ubits us).take (k + 1)).map (Value.int .u64)) := by rw [Htk.out]; exact hown'
      have Hown := Lib.hid hown2
      clear hown' hown2 hgrow hown
      go_wp2
      exact ⟨⟨k + 1, by go_num, by omega, Hown.out, hbel'⟩, by simp [intOf]; omega⟩
    · obtain rfl : k = us.length := by omega
      have hfull : (ubits us).take us.length = ubits us := List.take_of_length_le (by simp [ubits])
      rw [hfull] at hown
      have hl : (ubits us).length = us.length := by simp [ubits]
      have hso := fun v (h : wr.ownsRow w.heap.size 29 1 v us.length ((ubits us).map (Value.int .u64))) => sortU_any (ubits us) v w.heap.size wr (by omega) (by rw [hl]; exact h)
      have Hso := Lib.hid (hso _ hown)
      rw [hl] at Hso
      have HO := Lib.hid hown
      clear hso hfull hl hown
      go_wp2_with (go_at_call 10; refine Hso.out.mono ?_; rintro e w1 ⟨rfl, hown1, hgr⟩)
      go_ret
      exact ⟨_, rfl, hown1, hbel.grown hgr hbel.size (fun g hg => (HO.out.lt g hg).1)⟩
end Go.Proofs.Ytmoodinalncplaa
