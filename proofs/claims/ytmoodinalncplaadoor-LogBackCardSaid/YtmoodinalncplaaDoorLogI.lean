/- The walk of LogBack. -/
import Derived.Test.YtmoodinalncplaaDoorLogH
namespace Go.Proofs.YtmoodinalncplaaDoor
open Go.RowKit
namespace Log
attribute [local go_sem] run_store_float

set_option maxHeartbeats 2000000 in
set_option maxRecDepth 100000 in
theorem same_one (x : St) (w : World) : Calls Tryd.prog 36 #[.agg #[.string x.nm, .int .i64 x.t, .float .f64 x.u], .agg #[.string x.nm, .int .i64 x.t, .float .f64 x.u]] w fun e w' => e = .returned (.bool true) ∧ Below w.heap.size w w' := by
  have hb0 := (Blk.new w 35 #[.string x.nm, .int .i64 x.t, .float .f64 x.u]).alloc (.cells #[.string x.nm, .int .i64 x.t, .float .f64 x.u] 35)
  have hb1 := Blk.new (w.alloc (.cells #[.string x.nm, .int .i64 x.t, .float .f64 x.u] 35)) 35 #[.string x.nm, .int .i64 x.t, .float .f64 x.u]
  rw [World.size_alloc] at hb1
  have a0 := hb0.cell 0
  have a1 := hb0.cell 1
  have a2 := hb0.cell 2
  have c0 := hb1.cell 0
  have c1 := hb1.cell 1
  have c2 := hb1.cell 2
  have e0 : (x.nm.toList == x.nm.toList) = true := by simp
  have e1 : (x.t == x.t) = true := by simp
  have e2 : ((x.u : Int) == (x.u : Int)) = true := by simp
  have fb := run_bits
  have hlow := ((Below.refl w.heap.size w).alloc (Nat.le_refl _) (.cells #[.string x.nm, .int .i64 x.t, .float .f64 x.u] 35)).alloc (by simp) (.cells #[.string x.nm, .int .i64 x.t, .float .f64 x.u] 35)
  have HL := Lib.hid hlow
  clear hb0 hb1 hlow
  go_enter Tryd.func36, Tryd.ntmps36
  go_wp2_with fail
  go_quiet (fail)
  go_wp2_with fail
  go_ret
  exact ⟨rfl, below_drewN HL.out _⟩

set_option maxHeartbeats 2000000 in
set_option maxRecDepth 100000 in
theorem same_any (xs : List St) (A A' : Option Addr) (c c' B : Nat) (w : World) (hr : RdS w B A xs) (hr' : RdS w B A' xs) (hBw : B ≤ w.heap.size) (hlen : xs.length ≤ 200) :
    Calls Tryd.prog 17 #[.slice A xs.length c, .slice A' xs.length c'] w fun e w' => e = .returned (.bool true) ∧ Below w.heap.size w w' := by
  have heq : Calls Tryd.prog 35 #[.slice A xs.length c, .slice A' xs.length c', .func (.func 36) #[] #[]] w fun e w' => e = .returned (.bool true) ∧ Below w.heap.size w w' := by
    have HR := Lib.hid hr
    have HR' := Lib.hid hr'
    have e0 : ((xs.length : Int) != xs.length) = false := by simp
    have hl : (xs.length : Int) ≤ 200 := by omega
    clear hr hr'
    go_enter Tryd.func35, Tryd.ntmps35
    go_wp2_with fail
    go_loopw [17] (fun v wr => ∃ k : Nat, v = .int .i64 k ∧ k ≤ xs.length ∧ Below w.heap.size w wr) (fun v _ => xs.length - (intOf v).toNat)
    case atStart => exact ⟨0, rfl, Nat.zero_le _, Below.refl _ _⟩
    case round =>
      obtain ⟨k, rfl, hk, hb⟩ := hrel
      have HB := Lib.hid hb
      clear hb
      by_cases hkl : k < xs.length
      · have hne : xs ≠ [] := fun h => by rw [h] at hkl; simp at hkl
        obtain ⟨b, off, rfl, hbl, hc⟩ := (HR.out.below (HB.out.mono hBw)) hne
        obtain ⟨b', off', rfl, hbl', hc'⟩ := (HR'.out.below (HB.out.mono hBw)) hne
        obtain ⟨c0, c1, c2⟩ := hc k hkl
        obtain ⟨d0, d1, d2⟩ := hc' k hkl
        generalize xs[k] = x at c0 c1 c2 d0 d1 d2
        have hws := HB.out.size
        have d0' := (World.cell?_alloc_lt wr (.cells #[.string x.nm, .int .i64 x.t, .float .f64 x.u] 35) ⟨b', off' + k * 3, none⟩ (by show b' < _; omega)).trans d0
        have d1' := (World.cell?_alloc_lt wr (.cells #[.string x.nm, .int .i64 x.t, .float .f64 x.u] 35) ⟨b', off' + k * 3 + 1, none⟩ (by show b' < _; omega)).trans d1
        have d2' := (World.cell?_alloc_lt wr (.cells #[.string x.nm, .int .i64 x.t, .float .f64 x.u] 35) ⟨b', off' + k * 3 + 2, none⟩ (by show b' < _; omega)).trans d2
        have g1 : (0 : Int) ≤ k := by omega
        have g2 : (k : Int) < xs.length := by omega
        have hso := fun W => same_one x W
        have HSO := Lib.hid hso
        have hb2 := (HB.out.alloc hws (.cells #[.string x.nm, .int .i64 x.t, .float .f64 x.u] 35)).alloc (by simp; omega) (.cells #[.string x.nm, .int .i64 x.t, .float .f64 x.u] 35)
        have HB2 := Lib.hid hb2
        clear hne hc hc' hso hb2
        go_wp2_with fail
        refine (HSO.out _).mono ?_
        rintro e w2 ⟨rfl, hb3⟩
        have hb4 := HB2.out.trans (hb3.mono HB2.out.size)
        have HB4 := Lib.hid hb4
        clear hb3 hb4
        go_wp2_with fail
        go_roundw
        case rel => exact ⟨k + 1, by go_num, by omega, HB4.out⟩
        case measure => simp [intOf]; omega
      · go_wp2_with fail
        go_ret
        exact ⟨rfl, HB.out⟩
  have HEQ := Lib.hid heq
  clear heq hr hr'
  go_enter Tryd.func17, Tryd.ntmps17
  go_wp2_with fail
  refine HEQ.out.mono ?_
  rintro e w1 ⟨rfl, hb⟩
  go_wp2_with fail
  go_ret
  exact ⟨rfl, hb⟩

theorem rd_u {s : List UInt8} {x : St} (h : rd s = some x) : x.u < 18446744073709551616 := by
  unfold rd at h
  split at h
  · split at h
    · next hv => 
      split at h
      · injection h with h; subst h; exact (rdVal_some hv).2
      · cases h
    · cases h
  · cases h

theorem parseGo_u : ∀ (ls : List (List UInt8)) (out a : List St) (n : Nat) (e : Int), (∀ x ∈ out, x.u < 18446744073709551616) → parseGo out ls = (a, n, e) → ∀ x ∈ a, x.u < 18446744073709551616
  | [], out, a, n, e, hu, h => by
    simp only [parseGo, Prod.mk.injEq] at h
    obtain ⟨rfl, _⟩ := h
    exact hu
  | s :: ls, out, a, n, e, hu, h => by
    have stop : ∀ (k : Nat) (e' : Int), (([], k, e') : List St × Nat × Int) = (a, n, e) → ∀ x ∈ a, x.u < 18446744073709551616 := fun k e' h' => by
      simp only [Prod.mk.injEq] at h'
      obtain ⟨rfl, _⟩ := h'
      intro x hx; cases hx
    rw [parseGo] at h
    split at h
    · exact stop _ _ h
    · split at h
      · exact stop _ _ h
      · next x hx =>
        split at h
        · refine parseGo_u ls (out ++ [x]) a n e (fun y hy => ?_) h
          rw [List.mem_append] at hy
          rcases hy with hy | hy
          · exact hu y hy
          · simp at hy; subst hy; exact rd_u hx
        · exact stop _ _ h

theorem parse_fits {s : List UInt8} {a : List St} {n : Nat} (h : parse s = (a, n, 0)) : ∀ x ∈ a, Fits x := by
  obtain ⟨_, h2, _⟩ := text_parse h
  have hz := (chk_zero.1 h2).2.1
  have hu : ∀ x ∈ a, x.u < 18446744073709551616 := by
    unfold parse at h
    split at h
    · simp at h
    · exact parseGo_u _ _ _ _ _ (fun x hx => by cases hx) h
  intro x hx
  obtain ⟨h3, h4, h5, _⟩ := stErr_zero (hz x hx)
  unfold nmOk at h3
  simp only [Bool.and_eq_true, decide_eq_true_eq] at h3
  exact ⟨by rw [Lib.size_eq]; omega, by omega, by omega, hu x hx⟩

set_option maxHeartbeats 8000000 in
set_option maxRecDepth 100000 in
theorem back_walk (xs : List St) (A : Option Addr) (c B : Nat) (s : ByteArray) (hs : s.size ≤ 140737488355328) (w : World) (hr : RdS w B A xs) (hBw : B ≤ w.heap.size) (B' : Nat) (hE : Env B' w) (hx : ∀ x ∈ xs, Fits x) :
    Calls Tryd.prog 6 #[.slice A xs.length c, .string s] w fun e w' => e = .returned (.bool true) ∧ Below w.heap.size w w' := by
  have hlg := logs_any B' w hE
  have hpr := fun W (hb : Below w.heap.size w W) => print_any xs A c B B' W (hr.below (hb.mono hBw)) (Nat.le_trans hBw hb.size) (hE.below (hb.mono hE.size)) hx
  have hpa := fun W (hb : Below w.heap.size w W) => parse_any s hs B' W (hE.below (hb.mono hE.size))
  have hpb := fun W (hb : Below w.heap.size w W) (ys : List St) (A2 : Option Addr) (c2 : Nat) (hr2 : RdS W W.heap.size A2 ys) (hf : ∀ y ∈ ys, Fits y) => print_any ys A2 c2 W.heap.size B' W hr2 (Nat.le_refl _) (hE.below (hb.mono hE.size)) hf
  have HLG := Lib.hid hlg
  have HPB := Lib.hid hpb
  clear hlg hpb
  obtain ⟨a, n, er, hp⟩ : ∃ a n er, parse s.data.toList = (a, n, er) := ⟨_, _, _, rfl⟩
  unfold ParsePost at hpa
  rw [hp] at hpa
  have HPA := Lib.hid hpa
  clear hpa
  have hok : er = 0 → (∀ y ∈ a, Fits y) ∧ chk a = 0 ∧ text a = s.data.toList := fun h => by
    subst h
    have h2 := text_parse hp
    exact ⟨parse_fits hp, h2.2⟩
  have hbad : er ≠ 0 → a = [] := fun h => parse_err hp h
  clear hp
  by_cases h0 : chk xs = 0
  · have hpr2 : ∀ W, Below w.heap.size w W → Calls Tryd.prog 19 #[.slice A xs.length c] W fun e w' => Below W.heap.size W w' ∧ e = .returned (.tuple #[.string (str (text xs)), .int .i64 0]) := fun W hb => by
      have h := hpr W hb
      unfold PrintPost at h
      rw [h0, if_pos rfl] at h
      exact h
    have HPR := Lib.hid hpr2
    have hlen := (chk_zero.1 h0).1
    clear hpr hpr2
    by_cases hbig : (text xs).length ≤ 20000
    · have hpt := parse_text xs (fun x h => (hx x h).2.2.2) h0 hbig
      have hpc : ∀ W, Below w.heap.size w W → Calls Tryd.prog 18 #[.string (str (text xs))] W fun e w' => Below W.heap.size W w' ∧ ∃ A2 c2, RdS w' w'.heap.size A2 xs ∧ e = .returned (.tuple #[.slice A2 xs.length c2, .int .i64 0, .int .i64 0]) := fun W hb => by
        have h := parse_any (str (text xs)) (by rw [str_size]; omega) B' W (hE.below (hb.mono hE.size))
        unfold ParsePost at h
        rw [show (str (text xs)).data.toList = text xs from rfl, hpt] at h
        exact h.mono fun e w' ⟨h1, A2, c2, h2, _, h3⟩ => ⟨h1, A2, c2, h2, h3⟩
      have HPC := Lib.hid hpc
      have HR := Lib.hid hr
      have g1 : ((str (text xs)).size : Int) ≤ 20000 := by rw [str_size]; omega
      clear hpt hpc hr hx h0 hbig
      generalize str (text xs) = T at HPR HPC g1
      go_enter Tryd.func6, Tryd.ntmps6
      go_wp2_with fail
      refine HLG.out.mono ?_
      rintro e w1 ⟨rfl, hb1⟩
      have HB1 := Lib.hid hb1
      clear hb1
      go_wp2_with fail
      refine (HPR.out _ HB1.out).mono ?_
      rintro e w2 ⟨hb2, rfl⟩
      have hb2' := HB1.out.trans (hb2.mono HB1.out.size)
      have HB2 := Lib.hid hb2'
      clear hb2 hb2'
      go_wp2_with fail
      refine (HPC.out _ HB2.out).mono ?_
      rintro e w3 ⟨hb3, A2, c2, hr2, rfl⟩
      have hb4 := HB2.out.trans (hb3.mono HB2.out.size)
      have hsm := same_any xs A2 A c2 c w3.heap.size w3 hr2 ((HR.out.below (hb4.mono hBw)).more (Nat.le_trans hBw hb4.size)) (Nat.le_refl _) hlen
      have HSM := Lib.hid hsm
      have HB4 := Lib.hid hb4
      clear hsm hb4 hb3 hr2
      go_wp2_with fail
      refine HSM.out.mono ?_
      rintro e w4 ⟨rfl, hb5⟩
      have hb6 := HB4.out.trans (hb5.mono HB4.out.size)
      have HB6 := Lib.hid hb6
      clear hb5 hb6
      by_cases her : er = 0
      · subst her
        obtain ⟨hf, hc0, htx⟩ := hok rfl
        have HF := Lib.hid hf
        have HC0 := Lib.hid hc0
        have HTX := Lib.hid htx
        clear hok hbad hf hc0 htx
        go_wp2_with fail
        refine (HPA.out _ HB6.out).mono ?_
        rintro e w5 ⟨hb7, A5, c5, hr5, _, rfl⟩
        have hb8 := HB6.out.trans (hb7.mono HB6.out.size)
        have hpu := HPB.out w5 hb8 a A5 c5 hr5 HF.out
        have hse : (s.toList == s.toList) = true := by simp
        have hst : str (text a) = s := by rw [HTX.out]; exact str_data s
        unfold PrintPost at hpu
        rw [HC0.out, if_pos rfl, hst] at hpu
        have HPU := Lib.hid hpu
        have HB8 := Lib.hid hb8
        clear hpu hb8 hb7 hr5 hst
        go_wp2_with fail
        refine HPU.out.mono ?_
        rintro e w6 ⟨hb9, rfl⟩
        go_wp2_with fail
        go_ret
        exact ⟨rfl, HB8.out.trans (hb9.mono HB8.out.size)⟩
      · obtain rfl := hbad her
        have hnz : (er != 0) = true := by rw [bne_iff_ne]; exact her
        clear hok hbad her
        go_wp2_with fail
        refine (HPA.out _ HB6.out).mono ?_
        rintro e w5 ⟨hb7, A5, c5, hr5, _, rfl⟩
        have hb8 := HB6.out.trans (hb7.mono HB6.out.size)
        have HB8 := Lib.hid hb8
        clear hb7 hb8 hr5
        go_wp2_with fail
        go_ret
        exact ⟨rfl, HB8.out⟩
    · have g1 : ¬ ((str (text xs)).size : Int) ≤ 20000 := by rw [str_size]; omega
      clear hx h0 hbig hr
      generalize str (text xs) = T at HPR g1
      go_enter Tryd.func6, Tryd.ntmps6
      go_wp2_with fail
      refine HLG.out.mono ?_
      rintro e w1 ⟨rfl, hb1⟩
      have HB1 := Lib.hid hb1
      clear hb1
      go_wp2_with fail
      refine (HPR.out _ HB1.out).mono ?_
      rintro e w2 ⟨hb2, rfl⟩
      have hb2' := HB1.out.trans (hb2.mono HB1.out.size)
      have HB2 := Lib.hid hb2'
      clear hb2 hb2'
      go_wp2_with fail
      by_cases her : er = 0
      · subst her
        obtain ⟨hf, hc0, htx⟩ := hok rfl
        have HF := Lib.hid hf
        have HC0 := Lib.hid hc0
        have HTX := Lib.hid htx
        clear hok hbad hf hc0 htx
        go_wp2_with fail
        refine (HPA.out _ HB2.out).mono ?_
        rintro e w5 ⟨hb7, A5, c5, hr5, _, rfl⟩
        have hb8 := HB2.out.trans (hb7.mono HB2.out.size)
        have hpu := HPB.out w5 hb8 a A5 c5 hr5 HF.out
        have hse : (s.toList == s.toList) = true := by simp
        have hst : str (text a) = s := by rw [HTX.out]; exact str_data s
        unfold PrintPost at hpu
        rw [HC0.out, if_pos rfl, hst] at hpu
        have HPU := Lib.hid hpu
        have HB8 := Lib.hid hb8
        clear hpu hb8 hb7 hr5 hst
        go_wp2_with fail
        refine HPU.out.mono ?_
        rintro e w6 ⟨hb9, rfl⟩
        go_wp2_with fail
        go_ret
        exact ⟨rfl, HB8.out.trans (hb9.mono HB8.out.size)⟩
      · obtain rfl := hbad her
        have hnz : (er != 0) = true := by rw [bne_iff_ne]; exact her
        clear hok hbad her
        go_wp2_with fail
        refine (HPA.out _ HB2.out).mono ?_
        rintro e w5 ⟨hb7, A5, c5, hr5, _, rfl⟩
        have hb8 := HB2.out.trans (hb7.mono HB2.out.size)
        have HB8 := Lib.hid hb8
        clear hb7 hb8 hr5
        go_wp2_with fail
        go_ret
        exact ⟨rfl, HB8.out⟩
  · have hpr2 : ∀ W, Below w.heap.size w W → Calls Tryd.prog 19 #[.slice A xs.length c] W fun e w' => Below W.heap.size W w' ∧ e = .returned (.tuple #[.string ⟨#[]⟩, .int .i64 (chk xs)]) := fun W hb => by
      have h := hpr W hb
      unfold PrintPost at h
      rw [if_neg h0] at h
      exact h
    have HPR := Lib.hid hpr2
    have hne : (chk xs == 0) = false := by rw [beq_eq_false_iff_ne]; exact h0
    clear hpr hpr2 h0 hx hr
    generalize chk xs = cx at HPR hne
    go_enter Tryd.func6, Tryd.ntmps6
    go_wp2_with fail
    refine HLG.out.mono ?_
    rintro e w1 ⟨rfl, hb1⟩
    have HB1 := Lib.hid hb1
    clear hb1
    go_wp2_with fail
    refine (HPR.out _ HB1.out).mono ?_
    rintro e w2 ⟨hb2, rfl⟩
    have hb2' := HB1.out.trans (hb2.mono HB1.out.size)
    have HB2 := Lib.hid hb2'
    clear hb2 hb2'
    go_wp2_with fail
    by_cases her : er = 0
    · subst her
      obtain ⟨hf, hc0, htx⟩ := hok rfl
      have HF := Lib.hid hf
      have HC0 := Lib.hid hc0
      have HTX := Lib.hid htx
      clear hok hbad hf hc0 htx
      go_wp2_with fail
      refine (HPA.out _ HB2.out).mono ?_
      rintro e w5 ⟨hb7, A5, c5, hr5, _, rfl⟩
      have hb8 := HB2.out.trans (hb7.mono HB2.out.size)
      have hpu := HPB.out w5 hb8 a A5 c5 hr5 HF.out
      have hse : (s.toList == s.toList) = true := by simp
      have hst : str (text a) = s := by rw [HTX.out]; exact str_data s
      unfold PrintPost at hpu
      rw [HC0.out, if_pos rfl, hst] at hpu
      have HPU := Lib.hid hpu
      have HB8 := Lib.hid hb8
      clear hpu hb8 hb7 hr5 hst
      go_wp2_with fail
      refine HPU.out.mono ?_
      rintro e w6 ⟨hb9, rfl⟩
      go_wp2_with fail
      go_ret
      exact ⟨rfl, HB8.out.trans (hb9.mono HB8.out.size)⟩
    · obtain rfl := hbad her
      have hnz : (er != 0) = true := by rw [bne_iff_ne]; exact her
      clear hok hbad her
      go_wp2_with fail
      refine (HPA.out _ HB2.out).mono ?_
      rintro e w5 ⟨hb7, A5, c5, hr5, _, rfl⟩
      have hb8 := HB2.out.trans (hb7.mono HB2.out.size)
      have HB8 := Lib.hid hb8
      clear hb7 hb8 hr5
      go_wp2_with fail
      go_ret
      exact ⟨rfl, HB8.out⟩
end Log
end Go.Proofs.YtmoodinalncplaaDoor
