/- Contracts of the slices' functions that SpanSort uses at float64 and uint64. -/
import Derived.Test.YtmoodinalncplaaProg
import Derived.Test.YtmoodinalncplaaKit
import Derived.Test.YtmoodinalncplaaOrder
import Derived.Lib.Hide
import Derived.WalkKit
import Derived.BigCall
import Derived.BigGuard
import Derived.Outline
import Derived.Handy
import Derived.WalkSpells
import Derived.WalkLawsBesides
import Derived.Deep.DeepMust
import Derived.Deep.QuietTactic
import Derived.Deep.RegionWith
import Derived.Deep.RegionHeld3
import Derived.BigQuiet
namespace Go.Proofs.Ytmoodinalncplaa
open Go.RowKit

def fls (us : List Nat) : List Value := us.map (Value.float .f64)
def Bits (us : List Nat) : Prop := ∀ u ∈ us, u < 18446744073709551616

theorem order_q (u v : Nat) (hu : u < 18446744073709551616) (hv : v < 18446744073709551616) (w : World) :
    Calls Try.prog 7 #[.float .f64 u, .float .f64 v] w fun e w' => e = .returned (.int .i64 (cmpN (keyN u) (keyN v))) ∧ w' = w :=
  (order_any u v hu hv w).mono fun _ _ ⟨he, hw⟩ => ⟨he, hw.symm⟩

theorem isSorted_true (us : List Nat) (hb : Bits us) (hs : ∀ i (h : i + 1 < us.length), keyN us[i] ≤ keyN us[i + 1]) (A : Option Addr) (c B : Nat) (w : World) (hn : us.length ≤ 4611686018427387904) (hr : Rd w B A (fls us)) :
    Calls Try.prog 6 #[.slice A us.length c, .func (.func 7) #[] #[]] w fun e w' => e = .returned (.bool true) ∧ ∃ q, w' = w.drewN q := by
  obtain ⟨b, off, hA, hc⟩ : ∃ b off, (us ≠ [] → A = some ⟨b, off, none⟩) ∧ ∀ i (h : i < us.length), w.cell? ⟨b, off + i, none⟩ = some (.float .f64 us[i]) := by
    by_cases h0 : us = []
    · exact ⟨0, 0, fun h => absurd h0 h, fun i h => by rw [h0] at h; simp at h⟩
    · obtain ⟨b, off, e, _, hc⟩ := hr (by unfold fls; simpa using h0)
      exact ⟨b, off, fun _ => e, fun i h => by have := hc i (by simpa [fls] using h); simpa [fls] using this⟩
  clear hr
  have HC := Lib.hid hc
  have HS := Lib.hid hs
  have HB := Lib.hid hb
  have HA := Lib.hid hA
  clear hc hs hb hA
  go_enter Try.func6, Try.ntmps6
  go_wp2
  go_loopw [5] (fun v wr => ∃ z : Int, v = .int .i64 z ∧ -1 ≤ z ∧ z < us.length ∧ ∃ q, wr = w.drewN q) (fun v _ => (intOf v).toNat)
  case atStart => exact ⟨_, rfl, by omega, by omega, 0, rfl⟩
  case round =>
    obtain ⟨z, rfl, hz1, hz2, q, rfl⟩ := hrel
    by_cases hz : 0 < z
    · obtain ⟨k, hzk⟩ : ∃ k : Nat, z = ((k + 1 : Nat) : Int) := ⟨z.toNat - 1, by omega⟩
      have hk : k + 1 < us.length := by omega
      have hk' : k < us.length := by omega
      have hx : us ≠ [] := fun h => by rw [h] at hk; simp at hk
      obtain rfl := HA.out hx
      have c1 := HC.out (k + 1) hk
      have c0 := HC.out k hk'
      have ho := fun W => order_q us[k + 1] us[k] (HB.out _ (List.getElem_mem hk)) (HB.out _ (List.getElem_mem hk')) W
      have hle := HS.out k hk
      have hcm : ¬ cmpN (keyN us[k + 1]) (keyN us[k]) < 0 := by unfold cmpN; rw [if_neg (by omega)]; split <;> omega
      generalize us[k + 1] = x at c1 ho hcm
      generalize us[k] = y at c0 ho hcm
      generalize cmpN (keyN x) (keyN y) = r at ho hcm
      have Ho := Lib.hid ho
      have e1 : z.toNat = k + 1 := by omega
      have e2 : (z - 1).toNat = k := by omega
      have e3 : IntKind.i64.wrap (z - 1) = z - 1 := IntWalk.i64_in _ (by omega)
      have g1 : 0 ≤ z := by omega
      have g2 : 1 ≤ z := by omega
      have g3 : 0 ≤ z - 1 := by omega
      have g4 : z - 1 < (us.length : Int) := by omega
      have Hzk := Lib.hid hzk
      clear hle ho hx hzk
      go_wp2
      go_quiet ((go_at_call 7; first | exact Calls.quiet_of_same (Ho.out _) | exact quiet_here (Ho.out _)))
      go_wp2
      exact ⟨⟨z - 1, rfl, by omega, by omega, q + nq, rfl⟩, by simp [intOf]; omega⟩
    · go_wp2
      go_ret
      exact ⟨rfl, q, rfl⟩

theorem clone_f64_info : (Try.prog.info? 26).map (fun i => (i.zero, i.size, i.bytes)) = some (some (.float .f64 0), 1, 8) := by kernel_rfl
set_option maxRecDepth 100000 in
/-- slices.Clone: a row of the call's own with the same cells; nil of nil. -/
theorem clone_f64 (A : Option Addr) (n c : Nat) (news : List Value) (w : World) (hA : A = none → n = 0) (hl : news.length = n * 1) (hbig : n * 8 ≤ 140737488355328) (hr : Rd w w.heap.size A news) (h1 : ∀ u ∈ news, u.oneCell' = true) :
    Calls Try.prog 14 #[.slice A n c] w fun e w' => ∃ v', e = .returned v' ∧ w'.ownsRow w.heap.size 26 1 v' n news ∧ Below w.heap.size w w' ∧ (v' = .slice none 0 0 ↔ A = none) := by
  have q22 : ∀ (w : World) (a : Option Addr) (n c n' c' : Nat), (binOp .eql 22 (.slice a n c) (.slice none n' c')).run Try.prog w = .ok (.bool a.isNone) w := fun w a n c n' c' => Lib.run_eql_slice_nil w _ _ a n c n' c' Try.underlying22
  rcases A with _ | ad
  · obtain rfl := hA rfl
    have hnews : news = [] := List.eq_nil_of_length_eq_zero (by simpa using hl)
    subst hnews
    clear hr h1
    go_enter Try.func14, Try.ntmps14
    go_wp2
    go_ret
    exact ⟨_, rfl, World.ownsRow_nil _ _ _ _, Below.refl _ _, by simp⟩
  · have hc : ∀ o j u, news[j]? = some u → (w.alloc o).cell? (ad.add j) = some u := by
      intro o j u hj
      have hlt : j < news.length := (List.getElem?_eq_some_iff.1 hj).1
      obtain ⟨b, off, e, hb, hcell⟩ := hr (fun h => by rw [h] at hlt; simp at hlt)
      injection e with e
      subst e
      rw [add_plain, World.cell?_alloc_lt w o _ hb, hcell j hlt]
      rw [← hj, List.getElem?_eq_getElem hlt]
    have HC := Lib.hid hc
    have H1 := Lib.hid h1
    clear hr hc h1 hA
    obtain ⟨i0, hi, hz0, hz1, hz2⟩ := info_parts clone_f64_info
    go_enter Try.func14, Try.ntmps14
    go_wp2_with (at_builtin; refine wpList_append_own _ rfl _ _ 22 rfl w.heap.size 26 i0 (.float .f64 0) 1 8 Try.underlying22 hi hz0 hz1 hz2 rfl (by decide) _ _ _ rfl (World.ownsRow_made w #[] 0 (Nat.le_refl _) (Nat.zero_le _) (by simp)) ad n c news rfl ?qc1 ?qc2 ?qc3 ?qc4 ?qc5 ?qc6 ?_)
    case qc1 => exact hl
    case qc2 => exact HC.out _
    case qc3 => exact H1.out
    case qc4 => rw [Nat.zero_add]; unfold maxLen; omega
    case qc5 => rw [Nat.zero_add]; exact hbig
    case qc6 => simp
    intro v' w1 hown hgrow hnil
    go_wp2
    go_ret
    refine ⟨v', rfl, by simpa using hown, ?_, ?_⟩
    · exact ((Below.refl _ w).alloc (Nat.le_refl _) _).grown hgrow (by simp) (by intro k hk; simp [Value.ownBlock] at hk; omega)
    · constructor
      · intro h; first | exact absurd h hnil | exact absurd (hnil.1 h).1 (by simp)
      · intro h; cases h

/-- slices.Equal of two rows that read alike -/
theorem equal_u64 (xs : List Int) (A1 A2 : Option Addr) (c1 c2 B : Nat) (w : World) (hn : xs.length ≤ 4611686018427387904) (hr1 : Rd w B A1 (xs.map (Value.int .u64))) (hr2 : Rd w B A2 (xs.map (Value.int .u64))) :
    Calls Try.prog 11 #[.slice A1 xs.length c1, .slice A2 xs.length c2] w fun e w' => e = .returned (.bool true) ∧ ∃ q, w' = w.drewN q := by
  obtain ⟨b, off, hA, hc⟩ : ∃ b off, (xs ≠ [] → A1 = some ⟨b, off, none⟩) ∧ ∀ i (h : i < xs.length), w.cell? ⟨b, off + i, none⟩ = some (.int .u64 xs[i]) := by
    by_cases h0 : xs = []
    · exact ⟨0, 0, fun h => absurd h0 h, fun i h => by rw [h0] at h; simp at h⟩
    · obtain ⟨b, off, e, _, hc⟩ := hr1 (by simpa using h0)
      exact ⟨b, off, fun _ => e, fun i h => by have := hc i (by simpa using h); simpa using this⟩
  obtain ⟨b2, off2, hA2, hc2⟩ : ∃ b off, (xs ≠ [] → A2 = some ⟨b, off, none⟩) ∧ ∀ i (h : i < xs.length), w.cell? ⟨b, off + i, none⟩ = some (.int .u64 xs[i]) := by
    by_cases h0 : xs = []
    · exact ⟨0, 0, fun h => absurd h0 h, fun i h => by rw [h0] at h; simp at h⟩
    · obtain ⟨b, off, e, _, hc⟩ := hr2 (by simpa using h0)
      exact ⟨b, off, fun _ => e, fun i h => by have := hc i (by simpa using h); simpa using this⟩
  have HC := Lib.hid hc
  have HA := Lib.hid hA
  have HC2 := Lib.hid hc2
  have HA2 := Lib.hid hA2
  clear hr1 hr2 hc hA hc2 hA2
  have hlen : ((xs.length : Int) != (xs.length : Int)) = false := by simp
  go_enter Try.func11, Try.ntmps11
  go_wp2
  go_loopw [13] (fun v wr => ∃ k : Nat, v = .int .i64 k ∧ k ≤ xs.length ∧ ∃ q, wr = w.drewN q) (fun v _ => xs.length - (intOf v).toNat)
  case atStart => exact ⟨0, rfl, by omega, 0, rfl⟩
  case round =>
    obtain ⟨k, rfl, hk, q, rfl⟩ := hrel
    by_cases hkl : k < xs.length
    · have hx : xs ≠ [] := fun h => by rw [h] at hkl; simp at hkl
      obtain rfl := HA.out hx
      obtain rfl := HA2.out hx
      have c1 := HC.out k hkl
      have c2 := HC2.out k hkl
      generalize xs[k] = x at c1 c2
      have hne : (x != x) = false := by simp
      have g1 : 0 ≤ (k : Int) := by omega
      have g2 : (k : Int) < xs.length := by omega
      clear hx
      go_wp2
      go_quiet (fail)
      go_wp2
      exact ⟨⟨k + 1, by go_num, by omega, q + nq, rfl⟩, by simp [intOf]; omega⟩
    · go_wp2
      go_ret
      exact ⟨rfl, q, rfl⟩

/-- slices.MaxFunc: an element that none is above -/
theorem maxFunc_any (us : List Nat) (hb : Bits us) (hne : us ≠ []) (A : Option Addr) (c B : Nat) (w : World) (hn : us.length ≤ 4611686018427387904) (hr : Rd w B A (fls us)) :
    Calls Try.prog 20 #[.slice A us.length c, .func (.func 7) #[] #[]] w fun e w' => w = w' ∧ ∃ m, e = .returned (.float .f64 m) ∧ m ∈ us ∧ ∀ x ∈ us, keyN x ≤ keyN m := by
  obtain ⟨b, off, rfl, _, hc⟩ := hr (by unfold fls; simpa using hne)
  have hc : ∀ i (h : i < us.length), w.cell? ⟨b, off + i, none⟩ = some (.float .f64 us[i]) := fun i h => by have := hc i (by simpa [fls] using h); simpa [fls] using this
  have hpos : 0 < us.length := List.length_pos_iff.2 hne
  have c0 := hc 0 hpos
  rw [Nat.add_zero] at c0
  have HC := Lib.hid hc
  have HB := Lib.hid hb
  have hl1 : ¬ (us.length : Int) < 1 := by omega
  have hm0 : us[0] ∈ us := List.getElem_mem hpos
  have hs0 : ∀ i (h : i < us.length), i < 1 → keyN us[i] ≤ keyN us[0] := fun i h h1 => by
    obtain rfl : i = 0 := by omega
    exact Nat.le_refl _
  generalize us[0] = m0 at c0 hm0 hs0
  have HM := Lib.hid hm0
  have HS := Lib.hid hs0
  have g0 : (0 : Int) < us.length := by omega
  clear hr hc hb hne hm0 hs0
  go_enter Try.func20, Try.ntmps20
  go_wp2
  go_loop [5, 6] (fun vm vi => ∃ (k m : Nat), vi = .int .i64 k ∧ k ≤ us.length ∧ 1 ≤ k ∧ vm = .float .f64 m ∧ Hid (m ∈ us ∧ ∀ i (h : i < us.length), i < k → keyN us[i] ≤ keyN m)) (fun _ vi => us.length - (intOf vi).toNat)
  case atStart => exact ⟨1, m0, rfl, hpos, by omega, rfl, HM.out, HS.out⟩
  case round =>
    obtain ⟨k, m, rfl, hk, hk1, rfl, hh⟩ := hrel
    by_cases hkl : k < us.length
    · have c1 := HC.out k hkl
      obtain ⟨hm, hmax⟩ := hh.out
      have ho := fun W => order_any us[k] m (HB.out _ (List.getElem_mem hkl)) (HB.out _ hm) W
      have hcm : (0 < cmpN (keyN us[k]) (keyN m) ∧ keyN m ≤ keyN us[k]) ∨ (¬ 0 < cmpN (keyN us[k]) (keyN m) ∧ keyN us[k] ≤ keyN m) := by
        unfold cmpN
        split
        · exact .inr ⟨by omega, by omega⟩
        · split
          · exact .inl ⟨by omega, by omega⟩
          · exact .inr ⟨by omega, by omega⟩
      have hmem : us[k] ∈ us := List.getElem_mem hkl
      have hstep : ∀ x, keyN m ≤ keyN x → keyN us[k] ≤ keyN x → ∀ i (h : i < us.length), i < k + 1 → keyN us[i] ≤ keyN x := fun x h1 h2 i hi hik => by
        by_cases e : i = k
        · subst e; exact h2
        · exact Nat.le_trans (hmax i hi (by omega)) h1
      generalize us[k] = x at c1 ho hcm hmem hstep
      have Ho := Lib.hid ho
      have Hst := Lib.hid hstep
      have Hmem := Lib.hid hmem
      have Hm := Lib.hid hm
      rcases hcm with ⟨hcm, hle⟩ | ⟨hcm, hle⟩
      · generalize cmpN (keyN x) (keyN m) = r at Ho hcm
        have Hle := Lib.hid hle
        clear ho hstep hmem hm hmax hle
        go_wp2_with (go_at_call 7; refine (Ho.out _).mono ?_; rintro e w' ⟨rfl, rfl⟩)
        go_round
        case rel => exact ⟨k + 1, x, by go_num, by omega, by omega, rfl, Hmem.out, Hst.out x Hle.out (Nat.le_refl _)⟩
        case measure => simp [intOf]; omega
      · generalize cmpN (keyN x) (keyN m) = r at Ho hcm
        have Hle := Lib.hid hle
        clear ho hstep hmem hm hmax hle
        go_wp2_with (go_at_call 7; refine (Ho.out _).mono ?_; rintro e w' ⟨rfl, rfl⟩)
        go_round
        case rel => exact ⟨k + 1, m, by go_num, by omega, by omega, rfl, Hm.out, Hst.out m (Nat.le_refl _) Hle.out⟩
        case measure => simp [intOf]; omega
    · obtain rfl : k = us.length := by omega
      go_wp2
      go_ret
      obtain ⟨hm, hmax⟩ := hh.out
      refine ⟨rfl, m, rfl, hm, fun x hx => ?_⟩
      obtain ⟨i, hi, rfl⟩ := List.getElem_of_mem hx
      exact hmax i hi hi
end Go.Proofs.Ytmoodinalncplaa
