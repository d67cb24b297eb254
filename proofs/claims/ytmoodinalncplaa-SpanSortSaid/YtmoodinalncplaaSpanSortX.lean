/- The walk of SpanSort. -/
import Derived.Test.YtmoodinalncplaaSpanSortL
namespace Go.Proofs.Ytmoodinalncplaa
open Go.RowKit Go.Sort Go.Lib

/-- the closure's contract in any later world -/
def KeyC (n : Nat) (A : Option Addr) (c : Nat) (zs : List Int) (w0 : World) : Prop :=
  ∀ W, Below w0.heap.size w0 W → Calls Try.prog 8 #[.slice A n c] W fun e w' => ∃ A1 c1, e = .returned (.slice A1 n c1) ∧ Rd w' w'.heap.size A1 (zs.map (Value.int .u64)) ∧ Below w0.heap.size w0 w' ∧ ∀ A2, Rd W W.heap.size A2 (zs.map (Value.int .u64)) → Rd w' w'.heap.size A2 (zs.map (Value.int .u64))

theorem keyC_of (us : List Nat) (A : Option Addr) (c : Nat) (w0 : World) (hn : us.length * 8 ≤ 140737488351232) (hr : Rd w0 w0.heap.size A (fls us)) : KeyC us.length A c (srt (ubits us)) w0 := fun W hb =>
  (keyOf_any us A c W hn ((hr.below hb).more hb.size)).mono fun e w' ⟨v, he, hown, hbel⟩ => by
    obtain ⟨A1, c1, rfl, _⟩ := own_form hown
    exact ⟨A1, c1, he, Rd.of_own hown, hb.trans (hbel.mono hb.size), fun A2 h2 => (h2.below hbel).more hbel.size⟩

/-- what the last region asks of the world -/
def LastC (n : Nat) (A A' : Option Addr) (c : Nat) (w w2 : World) : Prop :=
  ∀ k, n = k + 1 → ∃ b off u, A' = some ⟨b, off, none⟩ ∧ b < w2.heap.size ∧ w2.cell? ⟨b, off + k, none⟩ = some (.float .f64 u) ∧
    ∀ W, Below w.heap.size w W → Calls Try.prog 12 #[.slice A n c] W fun e w' => ∃ m, e = .returned (.float .f64 m) ∧ W = w' ∧
      ∀ W1, Calls Try.prog 7 #[.float .f64 m, .float .f64 u] W1 fun e w' => e = .returned (.int .i64 0) ∧ W1 = w'

/-- the contracts of the last region, by what the region holds of the world -/
theorem KeyC.held {n : Nat} {A : Option Addr} {c : Nat} {zs : List Int} {w0 : World} (h : KeyC n A c zs w0) (S : World → Prop) (h1 : ∀ W, Below w0.heap.size w0 W → S W) (h2 : ∀ W, S W → Below w0.heap.size w0 W) :
    ∀ W, S W → Calls Try.prog 8 #[.slice A n c] W fun e w' => ∃ A1 c1, e = .returned (.slice A1 n c1) ∧ Rd w' w'.heap.size A1 (zs.map (Value.int .u64)) ∧ S w' ∧ ∀ A2, Rd W W.heap.size A2 (zs.map (Value.int .u64)) → Rd w' w'.heap.size A2 (zs.map (Value.int .u64)) := fun W hs =>
  (h W (h2 W hs)).mono fun _ _ ⟨A1, c1, he, hr, hb, hm⟩ => ⟨A1, c1, he, hr, h1 _ hb, hm⟩

set_option maxHeartbeats 8000000 in
set_option linter.unusedSimpArgs false in
set_option maxRecDepth 100000 in
theorem spanSort_walk (us : List Nat) (hb : Bits us) (A : Option Addr) (c : Nat) (w : World) (hA : A = none → us.length = 0) (hn : us.length * 8 ≤ 140737488351232) (hr : Rd w w.heap.size A (fls us)) :
    Calls Try.prog 3 #[.slice A us.length c] w fun e w' => e = .returned (.bool true) ∧ Below w.heap.size w w' := by
  have hso := fun W (hbW : Below w.heap.size w W) => sort_any us hb A c W hA hn ((hr.below hbW).more hbW.size)
  have Hso := Lib.hid hso
  have hlz : (srt (ubits us)).length = us.length := by simp [srt, ubits]
  have step : ∀ w1 w2 A' c' us', Below w.heap.size w w1 → us'.Perm us → (∀ i (h : i + 1 < us'.length), keyN us'[i] ≤ keyN us'[i + 1]) → w2.ownsRow w1.heap.size 26 1 (.slice A' us.length c') us.length (fls us') → Below w1.heap.size w1 w2 →
      (Calls Try.prog 6 #[.slice A' us.length c', .func (.func 7) #[] #[]] w2 fun e w' => e = .returned (.bool true) ∧ ∃ q, w' = w2.drewN q) ∧
      KeyC us.length A' c' (srt (ubits us)) w2 ∧ KeyC us.length A c (srt (ubits us)) w2 ∧ LastC us.length A A' c w w2 ∧ Below w.heap.size w w2 := by
    intro w1 w2 A' c' us' hb1 hp hs hown hb2
    have hb12 := hb1.trans (hb2.mono hb1.size)
    have hl : us'.length = us.length := hp.length_eq
    have hr2 : Rd w2 w2.heap.size A' (fls us') := Rd.of_own hown
    have hbits' : Bits us' := fun u hu => hb u (hp.mem_iff.1 hu)
    refine ⟨?_, ?_, keyC_of us A c w2 hn ((hr.below hb12).more hb12.size), ?_, hb12⟩
    · have := isSorted_true us' hbits' hs A' c' w2.heap.size w2 (by omega) hr2
      rwa [hl] at this
    · have := keyC_of us' A' c' w2 (by omega) hr2
      rwa [srt_perm (ubits_perm hp), hl] at this
    · intro n hn1
      have hn' : n < us'.length := by omega
      have hne : us ≠ [] := fun h => by rw [h] at hn1; simp at hn1
      obtain ⟨b, off, e, hbl, hc⟩ := hr2 (fun h => by have := congrArg List.length h; simp [fls] at this; subst this; simp at hn')
      refine ⟨b, off, us'[n], e, hbl, ?_, fun W hW => ?_⟩
      · have := hc n (by simpa [fls] using hn')
        simpa [fls] using this
      · refine (most_any us hb hne A c w.heap.size W (by omega) (hr.below hW)).mono ?_
        rintro e w' ⟨rfl, m, rfl, hm, hmax⟩
        refine ⟨m, rfl, rfl, fun W1 => ?_⟩
        refine (order_any m us'[n] (hb m hm) (hbits' _ (List.getElem_mem hn')) W1).mono ?_
        rintro e w' ⟨rfl, rfl⟩
        have h9 : keyN us'[n] = keyN m := last_most us' hs n (by omega) m (hp.mem_iff.2 hm) (fun x hx => hmax x (hp.mem_iff.1 hx))
        exact ⟨by rw [h9]; simp [cmpN], rfl⟩
  have heq : ∀ (A1 A2 : Option Addr) (c1 c2 : Nat) (W : World), Rd W W.heap.size A1 ((srt (ubits us)).map (Value.int .u64)) → Rd W W.heap.size A2 ((srt (ubits us)).map (Value.int .u64)) → Calls Try.prog 11 #[.slice A1 us.length c1, .slice A2 us.length c2] W fun e w' => e = .returned (.bool true) ∧ ∃ q, w' = W.drewN q :=
    fun A1 A2 c1 c2 W h1 h2 => by
      have := equal_u64 (srt (ubits us)) A1 A2 c1 c2 W.heap.size W (by omega) h1 h2
      rwa [hlz] at this
  have Hstep := Lib.hid step
  have HE := Lib.hid heq
  clear hso hr hb hA step heq hlz
  generalize srt (ubits us) = zs at Hstep HE
  have hnb : us.length < 140737488351232 := by omega
  go_enter Try.func3, Try.ntmps3
  go_wp2_with fail
  refine (spans_any _).mono ?_
  rintro e w1 ⟨rfl, hb1⟩
  go_wp2_with fail
  refine (Hso.out _ hb1).mono ?_
  rintro e w2 ⟨A', c', us', rfl, hp, hs, hown, hb2⟩
  obtain ⟨hsorted, hk1, hk2, hlast, hb12⟩ := Hstep.out w1 w2 A' c' us' hb1 hp hs hown hb2
  have hneq : ((us.length : Int) != (us.length : Int)) = false := by simp
  have HS := Lib.hid hsorted
  unfold KeyC at hk1 hk2
  unfold LastC at hlast
  have HK1 := Lib.hid hk1
  have HK2 := Lib.hid hk2
  have HL := Lib.hid hlast
  have HB12 := Lib.hid hb12
  clear hsorted hk1 hk2 hlast hp hs hown hb2 hb1 hb12 Hstep Hso
  clear us'
  generalize us.length = n at *
  go_wp2_with fail
  refine HS.out.mono ?_
  rintro e w3 ⟨rfl, q, rfl⟩
  clear HS
  by_cases h0 : n = 0
  · subst h0
    go_wp2_with fail
    let S : World → Prop := fun W => Below w2.heap.size w2 W
    have hB := below_drewN (Below.refl w2.heap.size w2) q
    refine wp_region_noPanic ?_
    refine wp_region_held_drew (S := S) (by kernel_rfl) (Below.drew hB) (fun hHeld => ?_)
    refine wpAnyH_take (i := 0) (v := ?hv1) rfl (by kernel_rfl) (by kernel_rfl) (by kernel_rfl) (fun _ _ _ h => h) (Or.inl ⟨by kernel_rfl, ?hy1⟩) (by assumption) ?hr1
    case hy1 => (intro w hSw; (try dsimp only at hSw); go_simp; try (with_reducible rfl))
    try simp only [Act.put, List.getElem_toArray, List.getElem_cons_zero, List.getElem_cons_succ, List.setIfInBounds_toArray, List.set_cons_zero, List.set_cons_succ]
    refine wpAnyH_take (i := 1) (v := ?hv2) rfl (by kernel_rfl) (by kernel_rfl) (by kernel_rfl) (fun _ _ _ h => h) (Or.inl ⟨by kernel_rfl, ?hy2⟩) (by assumption) ?hr2
    case hy2 => (intro w hSw; (try dsimp only at hSw); go_simp; try (with_reducible rfl))
    try simp only [Act.put, List.getElem_toArray, List.getElem_cons_zero, List.getElem_cons_succ, List.setIfInBounds_toArray, List.set_cons_zero, List.set_cons_succ]
    refine wpAnyH_take (i := 3) (v := ?hv3) rfl (by kernel_rfl) (by kernel_rfl) (by kernel_rfl) (fun _ _ _ h => h) (Or.inl ⟨by kernel_rfl, ?hy3⟩) (by assumption) ?hr3
    case hy3 => (intro w hSw; (try dsimp only at hSw); go_simp; try (with_reducible rfl))
    try simp only [Act.put, List.getElem_toArray, List.getElem_cons_zero, List.getElem_cons_succ, List.setIfInBounds_toArray, List.set_cons_zero, List.set_cons_succ]
    refine wpAnyH_take (i := 4) (v := ?hv4) rfl (by kernel_rfl) (by kernel_rfl) (by kernel_rfl) (fun _ _ _ h => h) (Or.inl ⟨by kernel_rfl, ?hy4⟩) (by assumption) ?hr4
    case hy4 => (intro w hSw; (try dsimp only at hSw); go_simp; try (with_reducible rfl))
    try simp only [Act.put, List.getElem_toArray, List.getElem_cons_zero, List.getElem_cons_succ, List.setIfInBounds_toArray, List.set_cons_zero, List.set_cons_succ]
    refine wpAnyH_ready (rs := [2]) (by kernel_rfl) (by simp) ?_
    refine AllReadyH.cons rfl ?_ AllReadyH.nil
    intro K hK
    go_simp
    go_at_call 8
    refine (HK1.out _ hHeld).mono ?_
    rintro e w4 ⟨A1, c1, rfl, hr4, hb4, -⟩
    try go_wp2_with fail
    refine hK.out _ _ hb4 (fun hHeld4 => ?_)
    clear hK K hHeld hb4 HK1
    try simp only [Act.put, List.getElem_toArray, List.getElem_cons_zero, List.getElem_cons_succ, List.setIfInBounds_toArray, List.set_cons_zero, List.set_cons_succ]
    refine wpAnyH_ready (rs := [5]) (by kernel_rfl) (by simp) ?_
    refine AllReadyH.cons rfl ?_ AllReadyH.nil
    intro K hK
    go_simp
    go_at_call 8
    refine (HK2.out _ hHeld4).mono ?_
    rintro e w5 ⟨A2, c2, rfl, hr5, hb5, hm5⟩
    try go_wp2_with fail
    refine hK.out _ _ hb5 (fun hHeld5 => ?_)
    clear hK K hHeld4 hb5 HK2
    try simp only [Act.put, List.getElem_toArray, List.getElem_cons_zero, List.getElem_cons_succ, List.setIfInBounds_toArray, List.set_cons_zero, List.set_cons_succ]
    refine wpAnyH_ready (rs := [6]) (by kernel_rfl) (by simp) ?_
    refine AllReadyH.cons rfl ?_ AllReadyH.nil
    intro K hK
    go_simp
    go_at_call 11
    refine (HE.out _ _ _ _ _ (hm5 _ hr4) hr5).mono ?_
    rintro e w6 ⟨rfl, q6, rfl⟩
    try go_wp2_with fail
    refine hK.out _ _ (below_drewN hHeld5 _) (fun hHeld6 => ?_)
    clear hK K hHeld5
    try simp only [Act.put, List.getElem_toArray, List.getElem_cons_zero, List.getElem_cons_succ, List.setIfInBounds_toArray, List.set_cons_zero, List.set_cons_succ]
    refine wpAnyH_take (i := 7) (v := ?hv11) rfl (by kernel_rfl) (by kernel_rfl) (by kernel_rfl) (fun _ _ _ h => h) (Or.inl ⟨by kernel_rfl, ?hy11⟩) (by assumption) ?hr11
    case hy11 => (intro w hSw; (try dsimp only at hSw); go_simp; try (with_reducible rfl))
    try simp only [Act.put, List.getElem_toArray, List.getElem_cons_zero, List.getElem_cons_succ, List.setIfInBounds_toArray, List.set_cons_zero, List.set_cons_succ]
    refine wpAnyH_take (i := 8) (v := ?hv12) rfl (by kernel_rfl) (by kernel_rfl) (by kernel_rfl) (fun _ _ _ h => h) (Or.inl ⟨by kernel_rfl, ?hy12⟩) (by assumption) ?hr12
    case hy12 => (intro w hSw; (try dsimp only at hSw); go_simp; try (with_reducible rfl))
    try simp only [Act.put, List.getElem_toArray, List.getElem_cons_zero, List.getElem_cons_succ, List.setIfInBounds_toArray, List.set_cons_zero, List.set_cons_succ]
    refine wpAnyH_take (i := 9) (v := ?hv13) rfl (by kernel_rfl) (by kernel_rfl) (by kernel_rfl) (fun _ _ _ h => h) (Or.inl ⟨by kernel_rfl, ?hy13⟩) (by assumption) ?hr13
    case hy13 => (intro w hSw; (try dsimp only at hSw); go_simp; try (with_reducible rfl))
    try simp only [Act.put, List.getElem_toArray, List.getElem_cons_zero, List.getElem_cons_succ, List.setIfInBounds_toArray, List.set_cons_zero, List.set_cons_succ]
    refine wpAnyH_take (i := 10) (v := ?hv14) rfl (by kernel_rfl) (by kernel_rfl) (by kernel_rfl) (fun _ _ _ h => h) (Or.inl ⟨by kernel_rfl, ?hy14⟩) (by assumption) ?hr14
    case hy14 => (intro w hSw; (try dsimp only at hSw); go_simp; try (with_reducible rfl))
    try simp only [Act.put, List.getElem_toArray, List.getElem_cons_zero, List.getElem_cons_succ, List.setIfInBounds_toArray, List.set_cons_zero, List.set_cons_succ]
    refine wpAnyH_take (i := 11) (v := ?hv15) rfl (by kernel_rfl) (by kernel_rfl) (by kernel_rfl) (fun _ _ _ h => h) (Or.inl ⟨by kernel_rfl, ?hy15⟩) (by assumption) ?hr15
    case hy15 => (intro w hSw; (try dsimp only at hSw); go_simp; try (with_reducible rfl))
    try simp only [Act.put, List.getElem_toArray, List.getElem_cons_zero, List.getElem_cons_succ, List.setIfInBounds_toArray, List.set_cons_zero, List.set_cons_succ]
    refine wpAnyH_take (i := 12) (v := undef) rfl (by kernel_rfl) (by kernel_rfl) (by kernel_rfl) (fun _ _ _ h => h) (Or.inr ⟨by kernel_rfl, rfl⟩) (by assumption) ?_
    try simp only [Act.put, List.getElem_toArray, List.getElem_cons_zero, List.getElem_cons_succ, List.setIfInBounds_toArray, List.set_cons_zero, List.set_cons_succ]
    refine wpAnyH_take (i := 13) (v := undef) rfl (by kernel_rfl) (by kernel_rfl) (by kernel_rfl) (fun _ _ _ h => h) (Or.inr ⟨by kernel_rfl, rfl⟩) (by assumption) ?_
    try simp only [Act.put, List.getElem_toArray, List.getElem_cons_zero, List.getElem_cons_succ, List.setIfInBounds_toArray, List.set_cons_zero, List.set_cons_succ]
    refine wpAnyH_take (i := 14) (v := undef) rfl (by kernel_rfl) (by kernel_rfl) (by kernel_rfl) (fun _ _ _ h => h) (Or.inr ⟨by kernel_rfl, rfl⟩) (by assumption) ?_
    try simp only [Act.put, List.getElem_toArray, List.getElem_cons_zero, List.getElem_cons_succ, List.setIfInBounds_toArray, List.set_cons_zero, List.set_cons_succ]
    refine wpAnyH_take (i := 15) (v := undef) rfl (by kernel_rfl) (by kernel_rfl) (by kernel_rfl) (fun _ _ _ h => h) (Or.inr ⟨by kernel_rfl, rfl⟩) (by assumption) ?_
    try simp only [Act.put, List.getElem_toArray, List.getElem_cons_zero, List.getElem_cons_succ, List.setIfInBounds_toArray, List.set_cons_zero, List.set_cons_succ]
    refine wpAnyH_take (i := 16) (v := undef) rfl (by kernel_rfl) (by kernel_rfl) (by kernel_rfl) (fun _ _ _ h => h) (Or.inr ⟨by kernel_rfl, rfl⟩) (by assumption) ?_
    try simp only [Act.put, List.getElem_toArray, List.getElem_cons_zero, List.getElem_cons_succ, List.setIfInBounds_toArray, List.set_cons_zero, List.set_cons_succ]
    refine wpAnyH_take (i := 17) (v := undef) rfl (by kernel_rfl) (by kernel_rfl) (by kernel_rfl) (fun _ _ _ h => h) (Or.inr ⟨by kernel_rfl, rfl⟩) (by assumption) ?_
    try simp only [Act.put, List.getElem_toArray, List.getElem_cons_zero, List.getElem_cons_succ, List.setIfInBounds_toArray, List.set_cons_zero, List.set_cons_succ]
    refine wpAnyH_take (i := 18) (v := undef) rfl (by kernel_rfl) (by kernel_rfl) (by kernel_rfl) (fun _ _ _ h => h) (Or.inr ⟨by kernel_rfl, rfl⟩) (by assumption) ?_
    try simp only [Act.put, List.getElem_toArray, List.getElem_cons_zero, List.getElem_cons_succ, List.setIfInBounds_toArray, List.set_cons_zero, List.set_cons_succ]
    refine wpAnyH_take (i := 19) (v := undef) rfl (by kernel_rfl) (by kernel_rfl) (by kernel_rfl) (fun _ _ _ h => h) (Or.inr ⟨by kernel_rfl, rfl⟩) (by assumption) ?_
    try simp only [Act.put, List.getElem_toArray, List.getElem_cons_zero, List.getElem_cons_succ, List.setIfInBounds_toArray, List.set_cons_zero, List.set_cons_succ]
    refine wpAnyH_take (i := 20) (v := undef) rfl (by kernel_rfl) (by kernel_rfl) (by kernel_rfl) (fun _ _ _ h => h) (Or.inr ⟨by kernel_rfl, rfl⟩) (by assumption) ?_
    try simp only [Act.put, List.getElem_toArray, List.getElem_cons_zero, List.getElem_cons_succ, List.setIfInBounds_toArray, List.set_cons_zero, List.set_cons_succ]
    refine wpAnyH_take (i := 21) (v := undef) rfl (by kernel_rfl) (by kernel_rfl) (by kernel_rfl) (fun _ _ _ h => h) (Or.inr ⟨by kernel_rfl, rfl⟩) (by assumption) ?_
    try simp only [Act.put, List.getElem_toArray, List.getElem_cons_zero, List.getElem_cons_succ, List.setIfInBounds_toArray, List.set_cons_zero, List.set_cons_succ]
    refine wpAnyH_take (i := 22) (v := ?hv26) rfl (by kernel_rfl) (by kernel_rfl) (by kernel_rfl) (fun _ _ _ h => h) (Or.inl ⟨by kernel_rfl, ?hy26⟩) (by assumption) ?hr26
    case hy26 => (intro w hSw; (try dsimp only at hSw); go_simp; try (with_reducible rfl))
    try simp only [Act.put, List.getElem_toArray, List.getElem_cons_zero, List.getElem_cons_succ, List.setIfInBounds_toArray, List.set_cons_zero, List.set_cons_succ]
    refine wpAnyH_take (i := 23) (v := ?hv27) rfl (by kernel_rfl) (by kernel_rfl) (by kernel_rfl) (fun _ _ _ h => h) (Or.inl ⟨by kernel_rfl, ?hy27⟩) (by assumption) ?hr27
    case hy27 => (intro w hSw; (try dsimp only at hSw); go_simp; try (with_reducible rfl))
    try simp only [Act.put, List.getElem_toArray, List.getElem_cons_zero, List.getElem_cons_succ, List.setIfInBounds_toArray, List.set_cons_zero, List.set_cons_succ]
    refine wpAnyH_take (i := 24) (v := ?hv28) rfl (by kernel_rfl) (by kernel_rfl) (by kernel_rfl) (fun _ _ _ h => h) (Or.inl ⟨by kernel_rfl, ?hy28⟩) (by assumption) ?hr28
    case hy28 => (intro w hSw; (try dsimp only at hSw); go_simp; try (with_reducible rfl))
    try simp only [Act.put, List.getElem_toArray, List.getElem_cons_zero, List.getElem_cons_succ, List.setIfInBounds_toArray, List.set_cons_zero, List.set_cons_succ]
    refine wpAnyH_done (by kernel_rfl) ?_ _
    refine NoPanic.normal ?_
    go_wp2_with fail
    go_ret
    exact ⟨rfl, HB12.out.trans (Below.mono hHeld6 HB12.out.size)⟩
  · obtain ⟨k, hk⟩ : ∃ k, n = k + 1 := ⟨n - 1, by omega⟩
    obtain ⟨b, off, u, rfl, hbl, hc, hM⟩ := HL.out k hk
    have HM := Lib.hid hM
    clear hM HL h0
    have e1 : ((n : Int) == 0) = false := by simp; omega
    have e2 : IntKind.i64.wrap ((n : Int) - 1) = (n : Int) - 1 := IntWalk.i64_in _ (by omega)
    have e3 : ((n : Int) - 1).toNat = k := by omega
    have e4 : (0 : Int) ≤ (n : Int) - 1 := by omega
    have e5 : (n : Int) - 1 < (n : Int) := by omega
    have e6 : (1 : Int) ≤ (n : Int) := by omega
    clear hk
    let S : World → Prop := fun W => Below w2.heap.size w2 W ∧ W.cell? ⟨b, off + k, none⟩ = some (.float .f64 u)
    have hS1 : ∀ W, Below w2.heap.size w2 W → S W := fun W h => ⟨h, (h.cell (p := ⟨b, off + k, none⟩) hbl).trans hc⟩
    have HK1' := Lib.hid (KeyC.held HK1.out S hS1 (fun _ h => h.1))
    have HK2' := Lib.hid (KeyC.held HK2.out S hS1 (fun _ h => h.1))
    have HM' := Lib.hid (fun W (h : S W) => HM.out W (HB12.out.trans (Below.mono h.1 HB12.out.size)))
    have HD := Lib.hid (fun W q (h : S W) => (show S (W.drewN q) from hS1 _ (below_drewN h.1 q)))
    have hB := below_drewN (Below.refl w2.heap.size w2) q
    have h00 := hS1 _ (Below.drew hB)
    have Hend := Lib.hid (fun W (h : S W) => HB12.out.trans (Below.mono h.1 HB12.out.size))
    clear HK1 HK2 HM hS1 hB hbl hc
    go_wp2_with fail
    refine wp_region_noPanic ?_
    refine wp_region_held_drew (S := fun W => Below w2.heap.size w2 W ∧ W.cell? ⟨b, off + k, none⟩ = some (.float .f64 u)) (by kernel_rfl) h00 (fun hHeld => ?_)
    refine wpAnyH_take (i := 0) (v := ?hv29) rfl (by kernel_rfl) (by kernel_rfl) (by kernel_rfl) (fun _ _ _ h => h) (Or.inl ⟨by kernel_rfl, ?hy29⟩) (by assumption) ?hr29
    case hy29 => (intro w hSw; (try dsimp only at hSw); go_simp; try (with_reducible rfl))
    try simp only [Act.put, List.getElem_toArray, List.getElem_cons_zero, List.getElem_cons_succ, List.setIfInBounds_toArray, List.set_cons_zero, List.set_cons_succ]
    refine wpAnyH_take (i := 1) (v := ?hv30) rfl (by kernel_rfl) (by kernel_rfl) (by kernel_rfl) (fun _ _ _ h => h) (Or.inl ⟨by kernel_rfl, ?hy30⟩) (by assumption) ?hr30
    case hy30 => (intro w hSw; (try dsimp only at hSw); go_simp; try (with_reducible rfl))
    try simp only [Act.put, List.getElem_toArray, List.getElem_cons_zero, List.getElem_cons_succ, List.setIfInBounds_toArray, List.set_cons_zero, List.set_cons_succ]
    refine wpAnyH_take (i := 3) (v := ?hv31) rfl (by kernel_rfl) (by kernel_rfl) (by kernel_rfl) (fun _ _ _ h => h) (Or.inl ⟨by kernel_rfl, ?hy31⟩) (by assumption) ?hr31
    case hy31 => (intro w hSw; (try dsimp only at hSw); go_simp; try (with_reducible rfl))
    try simp only [Act.put, List.getElem_toArray, List.getElem_cons_zero, List.getElem_cons_succ, List.setIfInBounds_toArray, List.set_cons_zero, List.set_cons_succ]
    refine wpAnyH_take (i := 4) (v := ?hv32) rfl (by kernel_rfl) (by kernel_rfl) (by kernel_rfl) (fun _ _ _ h => h) (Or.inl ⟨by kernel_rfl, ?hy32⟩) (by assumption) ?hr32
    case hy32 => (intro w hSw; (try dsimp only at hSw); go_simp; try (with_reducible rfl))
    try simp only [Act.put, List.getElem_toArray, List.getElem_cons_zero, List.getElem_cons_succ, List.setIfInBounds_toArray, List.set_cons_zero, List.set_cons_succ]
    refine wpAnyH_ready (rs := [2]) (by kernel_rfl) (by simp) ?_
    refine AllReadyH.cons rfl ?_ AllReadyH.nil
    intro K hK
    go_simp
    go_at_call 8
    refine (HK1'.out _ hHeld).mono ?_
    rintro e w4 ⟨A1, c1, rfl, hr4, hb4, -⟩
    try go_wp2_with fail
    refine hK.out _ _ hb4 (fun hHeld4 => ?_)
    clear hK K hHeld hb4 HK1'
    try simp only [Act.put, List.getElem_toArray, List.getElem_cons_zero, List.getElem_cons_succ, List.setIfInBounds_toArray, List.set_cons_zero, List.set_cons_succ]
    refine wpAnyH_ready (rs := [5]) (by kernel_rfl) (by simp) ?_
    refine AllReadyH.cons rfl ?_ AllReadyH.nil
    intro K hK
    go_simp
    go_at_call 8
    refine (HK2'.out _ hHeld4).mono ?_
    rintro e w5 ⟨A2, c2, rfl, hr5, hb5, hm5⟩
    try go_wp2_with fail
    refine hK.out _ _ hb5 (fun hHeld5 => ?_)
    clear hK K hHeld4 hb5 HK2'
    try simp only [Act.put, List.getElem_toArray, List.getElem_cons_zero, List.getElem_cons_succ, List.setIfInBounds_toArray, List.set_cons_zero, List.set_cons_succ]
    refine wpAnyH_ready (rs := [6]) (by kernel_rfl) (by simp) ?_
    refine AllReadyH.cons rfl ?_ AllReadyH.nil
    intro K hK
    go_simp
    go_at_call 11
    refine (HE.out _ _ _ _ _ (hm5 _ hr4) hr5).mono ?_
    rintro e w6 ⟨rfl, q6, rfl⟩
    try go_wp2_with fail
    refine hK.out _ _ (HD.out _ _ hHeld5) (fun hHeld6 => ?_)
    clear hK K hHeld5
    try simp only [Act.put, List.getElem_toArray, List.getElem_cons_zero, List.getElem_cons_succ, List.setIfInBounds_toArray, List.set_cons_zero, List.set_cons_succ]
    refine wpAnyH_take (i := 7) (v := ?hv39) rfl (by kernel_rfl) (by kernel_rfl) (by kernel_rfl) (fun _ _ _ h => h) (Or.inl ⟨by kernel_rfl, ?hy39⟩) (by assumption) ?hr39
    case hy39 => (intro w hSw; (try dsimp only at hSw); go_simp; try (with_reducible rfl))
    try simp only [Act.put, List.getElem_toArray, List.getElem_cons_zero, List.getElem_cons_succ, List.setIfInBounds_toArray, List.set_cons_zero, List.set_cons_succ]
    refine wpAnyH_take (i := 8) (v := ?hv40) rfl (by kernel_rfl) (by kernel_rfl) (by kernel_rfl) (fun _ _ _ h => h) (Or.inl ⟨by kernel_rfl, ?hy40⟩) (by assumption) ?hr40
    case hy40 => (intro w hSw; (try dsimp only at hSw); go_simp; try (with_reducible rfl))
    try simp only [Act.put, List.getElem_toArray, List.getElem_cons_zero, List.getElem_cons_succ, List.setIfInBounds_toArray, List.set_cons_zero, List.set_cons_succ]
    refine wpAnyH_take (i := 9) (v := ?hv41) rfl (by kernel_rfl) (by kernel_rfl) (by kernel_rfl) (fun _ _ _ h => h) (Or.inl ⟨by kernel_rfl, ?hy41⟩) (by assumption) ?hr41
    case hy41 => (intro w hSw; (try dsimp only at hSw); go_simp; try (with_reducible rfl))
    try simp only [Act.put, List.getElem_toArray, List.getElem_cons_zero, List.getElem_cons_succ, List.setIfInBounds_toArray, List.set_cons_zero, List.set_cons_succ]
    refine wpAnyH_take (i := 10) (v := ?hv42) rfl (by kernel_rfl) (by kernel_rfl) (by kernel_rfl) (fun _ _ _ h => h) (Or.inl ⟨by kernel_rfl, ?hy42⟩) (by assumption) ?hr42
    case hy42 => (intro w hSw; (try dsimp only at hSw); go_simp; try (with_reducible rfl))
    try simp only [Act.put, List.getElem_toArray, List.getElem_cons_zero, List.getElem_cons_succ, List.setIfInBounds_toArray, List.set_cons_zero, List.set_cons_succ]
    refine wpAnyH_take (i := 11) (v := ?hv43) rfl (by kernel_rfl) (by kernel_rfl) (by kernel_rfl) (fun _ _ _ h => h) (Or.inl ⟨by kernel_rfl, ?hy43⟩) (by assumption) ?hr43
    case hy43 => (intro w hSw; (try dsimp only at hSw); go_simp; try (with_reducible rfl))
    try simp only [Act.put, List.getElem_toArray, List.getElem_cons_zero, List.getElem_cons_succ, List.setIfInBounds_toArray, List.set_cons_zero, List.set_cons_succ]
    refine wpAnyH_take (i := 12) (v := ?hv44) rfl (by kernel_rfl) (by kernel_rfl) (by kernel_rfl) (fun _ _ _ h => h) (Or.inl ⟨by kernel_rfl, ?hy44⟩) (by assumption) ?hr44
    case hy44 => (intro w hSw; (try dsimp only at hSw); go_simp; try (with_reducible rfl))
    try simp only [Act.put, List.getElem_toArray, List.getElem_cons_zero, List.getElem_cons_succ, List.setIfInBounds_toArray, List.set_cons_zero, List.set_cons_succ]
    refine wpAnyH_take (i := 14) (v := ?hv45) rfl (by kernel_rfl) (by kernel_rfl) (by kernel_rfl) (fun _ _ _ h => h) (Or.inl ⟨by kernel_rfl, ?hy45⟩) (by assumption) ?hr45
    case hy45 => (intro w hSw; (try dsimp only at hSw); go_simp; try (with_reducible rfl))
    try simp only [Act.put, List.getElem_toArray, List.getElem_cons_zero, List.getElem_cons_succ, List.setIfInBounds_toArray, List.set_cons_zero, List.set_cons_succ]
    refine wpAnyH_take (i := 15) (v := ?hv46) rfl (by kernel_rfl) (by kernel_rfl) (by kernel_rfl) (fun _ _ _ h => h) (Or.inl ⟨by kernel_rfl, ?hy46⟩) (by assumption) ?hr46
    case hy46 => (intro w hSw; (try dsimp only at hSw); go_simp; try (with_reducible rfl))
    try simp only [Act.put, List.getElem_toArray, List.getElem_cons_zero, List.getElem_cons_succ, List.setIfInBounds_toArray, List.set_cons_zero, List.set_cons_succ]
    refine wpAnyH_take (i := 16) (v := ?hv47) rfl (by kernel_rfl) (by kernel_rfl) (by kernel_rfl) (fun _ _ _ h => h) (Or.inl ⟨by kernel_rfl, ?hy47⟩) (by assumption) ?hr47
    case hy47 => (intro w hSw; (try dsimp only at hSw); go_simp; try (with_reducible rfl))
    try simp only [Act.put, List.getElem_toArray, List.getElem_cons_zero, List.getElem_cons_succ, List.setIfInBounds_toArray, List.set_cons_zero, List.set_cons_succ]
    refine wpAnyH_take (i := 17) (v := ?hv48) rfl (by kernel_rfl) (by kernel_rfl) (by kernel_rfl) (fun _ _ _ h => h) (Or.inl ⟨by kernel_rfl, ?hy48⟩) (by assumption) ?hr48
    case hy48 => (intro w hSw; (try dsimp only at hSw); go_simp; try (with_reducible rfl))
    try simp only [Act.put, List.getElem_toArray, List.getElem_cons_zero, List.getElem_cons_succ, List.setIfInBounds_toArray, List.set_cons_zero, List.set_cons_succ]
    refine wpAnyH_take (i := 18) (v := ?hv49) rfl (by kernel_rfl) (by kernel_rfl) (by kernel_rfl) (fun _ _ _ h => h) (Or.inl ⟨by kernel_rfl, ?hy49⟩) (by assumption) ?hr49
    case hy49 => (intro w hSw; (try dsimp only at hSw); go_simp; try (with_reducible rfl))
    try simp only [Act.put, List.getElem_toArray, List.getElem_cons_zero, List.getElem_cons_succ, List.setIfInBounds_toArray, List.set_cons_zero, List.set_cons_succ]
    refine wpAnyH_take (i := 19) (v := ?hv50) rfl (by kernel_rfl) (by kernel_rfl) (by kernel_rfl) (fun _ _ _ h => h) (Or.inl ⟨by kernel_rfl, ?hy50⟩) (by assumption) ?hr50
    case hy50 => (intro w hSw; (try dsimp only at hSw); go_simp; try (with_reducible rfl))
    try simp only [Act.put, List.getElem_toArray, List.getElem_cons_zero, List.getElem_cons_succ, List.setIfInBounds_toArray, List.set_cons_zero, List.set_cons_succ]
    refine wpAnyH_ready (rs := [13]) (by kernel_rfl) (by simp) ?_
    refine AllReadyH.cons rfl ?_ AllReadyH.nil
    intro K hK
    go_simp
    go_at_call 12
    refine (HM'.out _ hHeld6).mono ?_
    rintro e w7 ⟨m, rfl, rfl, hO⟩
    try go_wp2_with fail
    refine hK.out _ _ hHeld6 (fun hHeld7 => ?_)
    clear hK K
    try simp only [Act.put, List.getElem_toArray, List.getElem_cons_zero, List.getElem_cons_succ, List.setIfInBounds_toArray, List.set_cons_zero, List.set_cons_succ]
    have HO := Lib.hid hO
    clear hO
    refine wpAnyH_ready (rs := [20]) (by kernel_rfl) (by simp) ?_
    refine AllReadyH.cons rfl ?_ AllReadyH.nil
    intro K hK
    go_simp
    go_at_call 7
    refine (HO.out _).mono ?_
    rintro e w8 ⟨rfl, rfl⟩
    try go_wp2_with fail
    refine hK.out _ _ hHeld6 (fun hHeld8 => ?_)
    clear hK K
    try simp only [Act.put, List.getElem_toArray, List.getElem_cons_zero, List.getElem_cons_succ, List.setIfInBounds_toArray, List.set_cons_zero, List.set_cons_succ]
    refine wpAnyH_take (i := 21) (v := ?hv55) rfl (by kernel_rfl) (by kernel_rfl) (by kernel_rfl) (fun _ _ _ h => h) (Or.inl ⟨by kernel_rfl, ?hy55⟩) (by assumption) ?hr55
    case hy55 => (intro w hSw; (try dsimp only at hSw); go_simp; try (with_reducible rfl))
    try simp only [Act.put, List.getElem_toArray, List.getElem_cons_zero, List.getElem_cons_succ, List.setIfInBounds_toArray, List.set_cons_zero, List.set_cons_succ]
    refine wpAnyH_take (i := 22) (v := ?hv56) rfl (by kernel_rfl) (by kernel_rfl) (by kernel_rfl) (fun _ _ _ h => h) (Or.inl ⟨by kernel_rfl, ?hy56⟩) (by assumption) ?hr56
    case hy56 => (intro w hSw; (try dsimp only at hSw); go_simp; try (with_reducible rfl))
    try simp only [Act.put, List.getElem_toArray, List.getElem_cons_zero, List.getElem_cons_succ, List.setIfInBounds_toArray, List.set_cons_zero, List.set_cons_succ]
    refine wpAnyH_take (i := 23) (v := ?hv57) rfl (by kernel_rfl) (by kernel_rfl) (by kernel_rfl) (fun _ _ _ h => h) (Or.inl ⟨by kernel_rfl, ?hy57⟩) (by assumption) ?hr57
    case hy57 => (intro w hSw; (try dsimp only at hSw); go_simp; try (with_reducible rfl))
    try simp only [Act.put, List.getElem_toArray, List.getElem_cons_zero, List.getElem_cons_succ, List.setIfInBounds_toArray, List.set_cons_zero, List.set_cons_succ]
    refine wpAnyH_take (i := 24) (v := ?hv58) rfl (by kernel_rfl) (by kernel_rfl) (by kernel_rfl) (fun _ _ _ h => h) (Or.inl ⟨by kernel_rfl, ?hy58⟩) (by assumption) ?hr58
    case hy58 => (intro w hSw; (try dsimp only at hSw); go_simp; try (with_reducible rfl))
    try simp only [Act.put, List.getElem_toArray, List.getElem_cons_zero, List.getElem_cons_succ, List.setIfInBounds_toArray, List.set_cons_zero, List.set_cons_succ]
    refine wpAnyH_done (by kernel_rfl) ?_ _
    refine NoPanic.normal ?_
    go_wp2_with fail
    go_ret
    exact ⟨rfl, Hend.out _ hHeld6⟩
end Go.Proofs.Ytmoodinalncplaa
