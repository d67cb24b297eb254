/- The walk of LogWrong. -/
import Derived.Test.YtmoodinalncplaaDoorLogG
namespace Go.Proofs.YtmoodinalncplaaDoor
open Go.RowKit
namespace Log
attribute [local go_sem] run_store_float

def stA : St := ⟨⟨#[97]⟩, 0, 0⟩
theorem chk_A : chk [stA] = 0 := by decide +kernel
theorem text_A : text [stA] = [97, 32, 48, 32, 48, 48, 48, 48, 48, 48, 48, 48, 48, 48, 48, 48, 48, 48, 48, 48, 10] := by
  have h : Lib.itoa 0 = [48] := by
    unfold Lib.itoa
    rw [if_neg (by decide), Lib.decDigits, dif_pos (by decide)]
    rfl
  simp only [text, St.line, line, stA, List.map_cons, List.map_nil, List.flatten_cons, List.flatten_nil, h]
  decide +kernel

set_option maxHeartbeats 1000000 in
set_option maxRecDepth 100000 in
theorem logs_any (B : Nat) (w : World) (hE : Env B w) : Calls Tryd.prog 11 #[] w fun e w' => e = .returned (.bool true) ∧ Below w.heap.size w w' := by
  have hb0 := Blk.new w 35 #[.string ⟨#[97]⟩, .int .i64 0, .float .f64 0]
  have hr : RdS (w.alloc (.cells #[.string ⟨#[97]⟩, .int .i64 0, .float .f64 0] 35)) (w.heap.size + 1) (some ⟨w.heap.size, 0, none⟩) [stA] := fun _ => by
    refine ⟨w.heap.size, 0, rfl, by omega, fun i hi => ?_⟩
    have : i = 0 := by simpa using hi
    subst this
    exact ⟨hb0.cell 0, hb0.cell 1, hb0.cell 2⟩
  have hp := print_any [stA] (some ⟨w.heap.size, 0, none⟩) 1 (w.heap.size + 1) B _ hr (by simp) (hE.below (((Below.refl B w).alloc hE.size) _)) (fun x hx => by simp at hx; subst hx; exact ⟨by decide, by decide, by decide, by decide⟩)
  unfold PrintPost at hp
  rw [chk_A, if_pos rfl, text_A] at hp
  have hq : ((str [97, 32, 48, 32, 48, 48, 48, 48, 48, 48, 48, 48, 48, 48, 48, 48, 48, 48, 48, 48, 10]).toList == [97, 32, 48, 32, 48, 48, 48, 48, 48, 48, 48, 48, 48, 48, 48, 48, 48, 48, 48, 48, 10]) = true := by rw [ByteArray.toList_eq]; rfl
  have HP := Lib.hid hp
  clear hp hr hb0
  go_enter Tryd.func11, Tryd.ntmps11
  go_wp2_with fail
  refine HP.out.mono ?_
  rintro e w1 ⟨hb, rfl⟩
  go_wp2_with fail
  go_ret
  refine ⟨by rfl, ((Below.refl _ w).alloc (Nat.le_refl _) _).trans (hb.mono (by simp))⟩

theorem count_next (s : ByteArray) (m : Nat) (h : m < s.size) : (s.data.toList.take (m + 1)).count 10 = (s.data.toList.take m).count 10 + if s[m] = 10 then 1 else 0 := by
  have hl : m < s.data.toList.length := by rw [← Lib.size_eq]; exact h
  rw [List.take_succ_eq_append_getElem hl, List.count_append]
  have e : s.data.toList[m] = s[m] := by rw [Array.getElem_toList]; rfl
  rw [e]
  by_cases h10 : s[m] = 10
  · rw [h10]; simp
  · rw [if_neg h10, List.count_singleton]; simp [h10]

set_option maxHeartbeats 4000000 in
set_option maxRecDepth 100000 in
theorem wrong_walk (s : ByteArray) (hs : s.size ≤ 140737488355328) (B : Nat) (w : World) (hE : Env B w) :
    Calls Tryd.prog 5 #[.string s] w fun e w' => e = .returned (.bool true) ∧ Below w.heap.size w w' := by
  have hlg := logs_any B w hE
  have hpa := fun W (hb : Below w.heap.size w W) => parse_any s hs B W (hE.below (hb.mono hE.size))
  have HLG := Lib.hid hlg
  clear hlg
  obtain ⟨a, n, er, hp⟩ : ∃ a n er, parse s.data.toList = (a, n, er) := ⟨_, _, _, rfl⟩
  unfold ParsePost at hpa
  rw [hp] at hpa
  have HPA := Lib.hid hpa
  clear hpa
  by_cases h3 : er = 3
  · subst h3
    obtain ⟨hn0, hn1, l, hpl, hll⟩ := parse_wrong hp
    have hcnt := ahead_count hn0 hn1
    have hale := ahead_le s.data.toList n
    rw [← Lib.size_eq] at hale
    have hn2 : n ≤ s.size := by
      have h1 : ∀ (l : List UInt8), (lines l).length ≤ l.length := fun l => by
        induction l with
        | nil => simp [lines]
        | cons c l ih =>
          rw [lines]
          split
          · simp; exact ih
          · cases hh : lines l with
            | nil => simp
            | cons x xs => rw [hh] at ih; simp at ih ⊢; omega
      have := h1 s.data.toList
      rw [← Lib.size_eq] at this
      omega
    have hpa2 : ∀ W, Below w.heap.size w W → ∀ t : ByteArray, t.data.toList = s.data.toList.take (ahead s.data.toList n) → Calls Tryd.prog 18 #[.string t] W fun e w' => Below W.heap.size W w' ∧ ∃ A c, e = .returned (.tuple #[.slice A (n - 1) c, .int .i64 0, .int .i64 0]) := fun W hb t ht => by
      have h := parse_any t (by rw [Lib.size_eq, ht, List.length_take]; rw [← Lib.size_eq]; omega) B W (hE.below (hb.mono hE.size))
      unfold ParsePost at h
      rw [ht, hpl] at h
      refine h.mono fun e w' ⟨h1, A, c, _, _, h2⟩ => ⟨h1, A, c, ?_⟩
      rw [h2, hll]
      rfl
    have HPA2 := Lib.hid hpa2
    have g0 : (0 : Int) < n := by omega
    generalize hah : ahead s.data.toList n = m at hcnt hale HPA2
    obtain ⟨hc1, hc2⟩ := hcnt
    have HC1 := Lib.hid hc1
    have HC2 := Lib.hid hc2
    clear hpa2 hc1 hc2 hah hpl hll hp hn1
    go_enter Tryd.func5, Tryd.ntmps5
    go_wp2_with fail
    refine HLG.out.mono ?_
    rintro e w1 ⟨rfl, hb1⟩
    have HB1 := Lib.hid hb1
    clear hb1
    go_wp2_with fail
    refine (HPA.out _ HB1.out).mono ?_
    rintro e w2 ⟨hb2, A, c, _, _, rfl⟩
    have hb3 := HB1.out.trans (hb2.mono HB1.out.size)
    have HB3 := Lib.hid hb3
    clear hb2 hb3
    go_wp2_with fail
    go_loop [6, 7] (fun v u => ∃ q : Nat, v = .int .i64 (((s.data.toList.take q).count 10 : Nat) + 1 : Int) ∧ u = .int .i64 q ∧ q ≤ m) (fun _ u => m - (intOf u).toNat)
    case atStart => exact ⟨0, by simp, rfl, Nat.zero_le _⟩
    case round =>
      obtain ⟨q, rfl, rfl, hq⟩ := hrel
      by_cases hqm : q < m
      · have hlt := HC2.out q hqm
        have hqs : q < s.size := by omega
        have hnx := count_next s q hqs
        generalize (s.data.toList.take q).count 10 = cq at hlt hnx
        have g1 : (cq : Int) + 1 < n := by omega
        have g2 : (q : Int) < s.size := by omega
        by_cases h10 : s[q] = 10
        · rw [if_pos h10] at hnx
          have HNX := Lib.hid hnx
          clear hnx hlt
          have hb : ((s[q].toNat : Int) == 10) = true := by rw [h10]; rfl
          go_wp2_with fail
          go_round
          case rel => exact ⟨q + 1, by rw [HNX.out]; go_num, by go_num, by omega⟩
          case measure => simp [intOf]; omega
        · rw [if_neg h10] at hnx
          have HNX := Lib.hid hnx
          clear hnx hlt
          have hb : ((s[q].toNat : Int) == 10) = false := by
            rw [beq_eq_false_iff_ne]
            intro h
            apply h10
            apply UInt8.toNat_inj.1
            have : s[q].toNat = 10 := by omega
            rw [this]
            rfl
          go_wp2_with fail
          go_round
          case rel => exact ⟨q + 1, by rw [HNX.out]; go_num, by go_num, by omega⟩
          case measure => simp [intOf]; omega
      · obtain rfl : q = m := by omega
        obtain ⟨k, rfl⟩ : ∃ k, n = k + 1 := ⟨n - 1, by omega⟩
        have e1 : (((s.data.toList.take q).count 10 : Nat) : Int) + 1 = (k : Int) + 1 := by have := HC1.out; omega
        rw [e1]
        have hex : (s.extract 0 q).data.toList = s.data.toList.take q := Lib.extract_from_zero s q
        have hfin := fun W hb => HPA2.out W hb _ hex
        have HF := Lib.hid hfin
        have g2 : (q : Int) ≤ s.size := by omega
        clear hfin hex e1 hqm
        go_wp2_with fail
        refine (HF.out _ HB3.out).mono ?_
        rintro e w3 ⟨hb4, A', c', rfl⟩
        go_wp2_with fail
        go_ret
        refine ⟨?_, HB3.out.trans (hb4.mono HB3.out.size)⟩
        simp
  · have hres : er = 0 → n = 0 := fun h => by subst h; exact (text_parse hp).1
    have hne : (er != 3) = true := by rw [bne_iff_ne]; exact h3
    by_cases h0 : er = 0
    · obtain rfl := hres h0
      subst h0
      clear hp h3 hres hne
      go_enter Tryd.func5, Tryd.ntmps5
      go_wp2_with fail
      refine HLG.out.mono ?_
      rintro e w1 ⟨rfl, hb1⟩
      have HB1 := Lib.hid hb1
      clear hb1
      go_wp2_with fail
      refine (HPA.out _ HB1.out).mono ?_
      rintro e w2 ⟨hb2, A, c, _, _, rfl⟩
      have hb3 := HB1.out.trans (hb2.mono HB1.out.size)
      go_wp2_with fail
      go_ret
      exact ⟨rfl, hb3⟩
    · have hne0 : (er != 0) = true := by rw [bne_iff_ne]; exact h0
      clear hp h3 hres h0
      go_enter Tryd.func5, Tryd.ntmps5
      go_wp2_with fail
      refine HLG.out.mono ?_
      rintro e w1 ⟨rfl, hb1⟩
      have HB1 := Lib.hid hb1
      clear hb1
      go_wp2_with fail
      refine (HPA.out _ HB1.out).mono ?_
      rintro e w2 ⟨hb2, A, c, _, _, rfl⟩
      have hb3 := HB1.out.trans (hb2.mono HB1.out.size)
      go_wp2_with fail
      go_ret
      exact ⟨rfl, hb3⟩
end Log
end Go.Proofs.YtmoodinalncplaaDoor
