/- name.Check and span.Right. -/
import Derived.Test.YtmoodinalncplaaDoorProg
import Derived.Test.YtmoodinalncplaaDoorShelfB
import Derived.Test.YtmoodinalncplaaDoorKit
import Derived.Test.YtmoodinalncplaaDoorLogS
import Derived.Lib.Hide
import Derived.WalkKit
import Derived.BigCall
import Derived.BigGuard
import Derived.Outline
import Derived.Handy
import Derived.WalkSpells
import Derived.Laws.Cover2
import Derived.Deep.DeepMust
import Derived.Deep.QuietTactic
import Derived.BigQuiet
namespace Go.Proofs.YtmoodinalncplaaDoor
open Go.RowKit

namespace Log
set_option maxHeartbeats 2000000 in
set_option linter.unusedSimpArgs false in
theorem sign_any (c : UInt8) (w : World) : Calls Tryd.prog 79 #[.int .u8 c.toNat] w fun e w' => e = .returned (.bool (sgn c)) ∧ w' = w := by
  have hlt : c.toNat < 256 := c.toNat_lt
  have hix := Tryd.strings_IndexByte ⟨#[95, 46, 47, 45, 43]⟩ (c.toNat : Int) w
  have hc : ((c.toNat : Int).toNat).toUInt8 = c := by simp
  rw [hc] at hix
  unfold sgn
  have HX := Lib.hid hix
  clear hix hc
  change RowKit.Hid (Calls Tryd.prog 58 #[.string ⟨#[95, 46, 47, 45, 43]⟩, .int .u8 (c.toNat : Int)] w fun e w' => e = .returned (.int .i64 (Lib.indexByte [95, 46, 47, 45, 43] c)) ∧ w' = w) at HX
  generalize Lib.indexByte [95, 46, 47, 45, 43] c = r at HX ⊢
  generalize c.toNat = n at HX hlt ⊢
  rcases (show (97 ≤ n ∧ n ≤ 122) ∨ (123 ≤ n ∧ n ≤ 255) ∨ (91 ≤ n ∧ n ≤ 96) ∨ (65 ≤ n ∧ n ≤ 90) ∨ (58 ≤ n ∧ n ≤ 64) ∨ (48 ≤ n ∧ n ≤ 57) ∨ (0 ≤ n ∧ n ≤ 47) by omega) with ⟨h1, h2⟩ | ⟨h1, h2⟩ | ⟨h1, h2⟩ | ⟨h1, h2⟩ | ⟨h1, h2⟩ | ⟨h1, h2⟩ | ⟨h1, h2⟩
  · have g97 : (97 : Int) ≤ n := by omega
    have q97 : (n : Int) ≤ 122 := by omega
    have m97 : 97 ≤ n := by omega
    have r97 : n ≤ 122 := by omega
    have g65 : (65 : Int) ≤ n := by omega
    have q65 : ¬ (n : Int) ≤ 90 := by omega
    have m65 : 65 ≤ n := by omega
    have r65 : ¬ n ≤ 90 := by omega
    have g48 : (48 : Int) ≤ n := by omega
    have q48 : ¬ (n : Int) ≤ 57 := by omega
    have m48 : 48 ≤ n := by omega
    have r48 : ¬ n ≤ 57 := by omega
    go_enter Tryd.func79, Tryd.ntmps79
    go_wp2_with fail
    go_ret
    simp [m97, r97, m65, r65, m48, r48]
  · have g97 : (97 : Int) ≤ n := by omega
    have q97 : ¬ (n : Int) ≤ 122 := by omega
    have m97 : 97 ≤ n := by omega
    have r97 : ¬ n ≤ 122 := by omega
    have g65 : (65 : Int) ≤ n := by omega
    have q65 : ¬ (n : Int) ≤ 90 := by omega
    have m65 : 65 ≤ n := by omega
    have r65 : ¬ n ≤ 90 := by omega
    have g48 : (48 : Int) ≤ n := by omega
    have q48 : ¬ (n : Int) ≤ 57 := by omega
    have m48 : 48 ≤ n := by omega
    have r48 : ¬ n ≤ 57 := by omega
    go_enter Tryd.func79, Tryd.ntmps79
    go_wp2_with fail
    refine HX.out.mono ?_
    rintro e w1 ⟨rfl, rfl⟩
    go_wp2_with fail
    go_ret
    simp [m97, r97, m65, r65, m48, r48]
  · have g97 : ¬ (97 : Int) ≤ n := by omega
    have q97 : (n : Int) ≤ 122 := by omega
    have m97 : ¬ 97 ≤ n := by omega
    have r97 : n ≤ 122 := by omega
    have g65 : (65 : Int) ≤ n := by omega
    have q65 : ¬ (n : Int) ≤ 90 := by omega
    have m65 : 65 ≤ n := by omega
    have r65 : ¬ n ≤ 90 := by omega
    have g48 : (48 : Int) ≤ n := by omega
    have q48 : ¬ (n : Int) ≤ 57 := by omega
    have m48 : 48 ≤ n := by omega
    have r48 : ¬ n ≤ 57 := by omega
    go_enter Tryd.func79, Tryd.ntmps79
    go_wp2_with fail
    refine HX.out.mono ?_
    rintro e w1 ⟨rfl, rfl⟩
    go_wp2_with fail
    go_ret
    simp [m97, r97, m65, r65, m48, r48]
  · have g97 : ¬ (97 : Int) ≤ n := by omega
    have q97 : (n : Int) ≤ 122 := by omega
    have m97 : ¬ 97 ≤ n := by omega
    have r97 : n ≤ 122 := by omega
    have g65 : (65 : Int) ≤ n := by omega
    have q65 : (n : Int) ≤ 90 := by omega
    have m65 : 65 ≤ n := by omega
    have r65 : n ≤ 90 := by omega
    have g48 : (48 : Int) ≤ n := by omega
    have q48 : ¬ (n : Int) ≤ 57 := by omega
    have m48 : 48 ≤ n := by omega
    have r48 : ¬ n ≤ 57 := by omega
    go_enter Tryd.func79, Tryd.ntmps79
    go_wp2_with fail
    go_ret
    simp [m97, r97, m65, r65, m48, r48]
  · have g97 : ¬ (97 : Int) ≤ n := by omega
    have q97 : (n : Int) ≤ 122 := by omega
    have m97 : ¬ 97 ≤ n := by omega
    have r97 : n ≤ 122 := by omega
    have g65 : ¬ (65 : Int) ≤ n := by omega
    have q65 : (n : Int) ≤ 90 := by omega
    have m65 : ¬ 65 ≤ n := by omega
    have r65 : n ≤ 90 := by omega
    have g48 : (48 : Int) ≤ n := by omega
    have q48 : ¬ (n : Int) ≤ 57 := by omega
    have m48 : 48 ≤ n := by omega
    have r48 : ¬ n ≤ 57 := by omega
    go_enter Tryd.func79, Tryd.ntmps79
    go_wp2_with fail
    refine HX.out.mono ?_
    rintro e w1 ⟨rfl, rfl⟩
    go_wp2_with fail
    go_ret
    simp [m97, r97, m65, r65, m48, r48]
  · have g97 : ¬ (97 : Int) ≤ n := by omega
    have q97 : (n : Int) ≤ 122 := by omega
    have m97 : ¬ 97 ≤ n := by omega
    have r97 : n ≤ 122 := by omega
    have g65 : ¬ (65 : Int) ≤ n := by omega
    have q65 : (n : Int) ≤ 90 := by omega
    have m65 : ¬ 65 ≤ n := by omega
    have r65 : n ≤ 90 := by omega
    have g48 : (48 : Int) ≤ n := by omega
    have q48 : (n : Int) ≤ 57 := by omega
    have m48 : 48 ≤ n := by omega
    have r48 : n ≤ 57 := by omega
    go_enter Tryd.func79, Tryd.ntmps79
    go_wp2_with fail
    go_ret
    simp [m97, r97, m65, r65, m48, r48]
  · have g97 : ¬ (97 : Int) ≤ n := by omega
    have q97 : (n : Int) ≤ 122 := by omega
    have m97 : ¬ 97 ≤ n := by omega
    have r97 : n ≤ 122 := by omega
    have g65 : ¬ (65 : Int) ≤ n := by omega
    have q65 : (n : Int) ≤ 90 := by omega
    have m65 : ¬ 65 ≤ n := by omega
    have r65 : n ≤ 90 := by omega
    have g48 : ¬ (48 : Int) ≤ n := by omega
    have q48 : (n : Int) ≤ 57 := by omega
    have m48 : ¬ 48 ≤ n := by omega
    have r48 : n ≤ 57 := by omega
    go_enter Tryd.func79, Tryd.ntmps79
    go_wp2_with fail
    refine HX.out.mono ?_
    rintro e w1 ⟨rfl, rfl⟩
    go_wp2_with fail
    go_ret
    simp [m97, r97, m65, r65, m48, r48]

set_option maxHeartbeats 2000000 in
theorem nameCheck_any (s : ByteArray) (hs : s.size ≤ 9223372036854775807) (w : World) : Calls Tryd.prog 53 #[.string s] w fun e w' => e = .returned (.int .i64 (nmErr s.data.toList)) ∧ w' = w := by
  have hlen : s.data.toList.length = s.size := by rw [Array.length_toList]; rfl
  by_cases h0 : s.size = 0
  · have hs0 : s = ⟨#[]⟩ := by
      apply ByteArray.ext
      exact Array.eq_empty_of_size_eq_zero h0
    subst hs0
    go_enter Tryd.func53, Tryd.ntmps53
    go_wp2_with fail
    go_ret
    simp [nmErr, nmOk]
  · have he : s.toList.isEmpty = false := by
      rw [ByteArray.toList_eq]
      cases hh : s.data.toList with
      | nil => rw [hh] at hlen; simp at hlen; omega
      | cons a l => rfl
    by_cases h40 : 40 < s.size
    · have g : (40 : Int) < s.size := by omega
      have hno : nmOk s.data.toList = false := by
        unfold nmOk
        rw [hlen, decide_eq_false (by omega : ¬ s.size ≤ 40)]
        simp
      rw [nmErr, hno]
      go_enter Tryd.func53, Tryd.ntmps53
      go_wp2_with fail
      go_ret
      simp
    · have g : ¬ (40 : Int) < s.size := by omega
      have hok : nmOk s.data.toList = s.data.toList.all sgn := by
        unfold nmOk
        rw [hlen, decide_eq_true (by omega : s.size ≤ 40), decide_eq_true (by omega : 1 ≤ s.size)]
        simp
      rw [nmErr, hok]
      have hget : ∀ i (h : i < s.data.toList.length) (h' : i < s.size), s.data.toList[i] = s[i] := fun i h h' => by rw [Array.getElem_toList]; rfl
      have hT : (∀ i (h' : i < s.size), sgn s[i] = true) → s.data.toList.all sgn = true := fun h => by
        rw [List.all_eq_true]
        intro x hx
        obtain ⟨i, hi, rfl⟩ := List.getElem_of_mem hx
        rw [hget i hi (by rw [← hlen]; exact hi)]
        exact h i _
      have hF : ∀ i (h' : i < s.size), sgn s[i] = false → s.data.toList.all sgn = false := fun i h' hf => by
        rw [List.all_eq_false]
        refine ⟨s.data.toList[i]'(by rw [hlen]; exact h'), List.getElem_mem _, ?_⟩
        rw [hget i (by rw [hlen]; exact h') h', hf]
        simp
      have hT2 : (∀ i (h' : i < s.size), sgn s[i] = true) → (if s.data.toList.all sgn then (0 : Int) else 3) = 0 := fun h => by rw [hT h]; rfl
      have hF2 : ∀ i (h' : i < s.size), sgn s[i] = false → (if s.data.toList.all sgn then (0 : Int) else 3) = 3 := fun i h' h => by rw [hF i h' h]; rfl
      clear hT hF
      generalize (if s.data.toList.all sgn then (0 : Int) else 3) = r at hT2 hF2 ⊢
      have HT := Lib.hid hT2
      have HF := Lib.hid hF2
      clear h0 hok hT2 hF2 hget hlen
      go_enter Tryd.func53, Tryd.ntmps53
      go_wp2_with fail
      go_loopw [13] (fun v wr => ∃ k : Nat, v = .int .i64 k ∧ k ≤ s.size ∧ wr = w ∧ ∀ i (h : i < k) (h' : i < s.size), sgn s[i] = true) (fun v _ => s.size - (intOf v).toNat)
      case atStart => exact ⟨0, rfl, by omega, rfl, fun i h => by omega⟩
      case round =>
        obtain ⟨k, rfl, hk, rfl, hall⟩ := hrel
        have HA := Lib.hid hall
        clear hall
        by_cases hkl : k < s.size
        · have g1 : (0 : Int) ≤ k := by omega
          have g2 : (k : Int) < s.size := by omega
          have hsg := fun W => sign_any s[k] W
          have HSG := Lib.hid hsg
          clear hsg
          cases hb : sgn s[k] with
          | true =>
            rw [hb] at HSG
            have HB := Lib.hid hb
            clear hb
            go_wp2_with fail
            refine (HSG.out _).mono ?_
            rintro e w1 ⟨rfl, rfl⟩
            go_wp2_with fail
            refine ⟨⟨k + 1, by go_num, by omega, trivial, fun i h h' => ?_⟩, by simp [intOf]; omega⟩
            rcases Nat.lt_or_eq_of_le (Nat.le_of_lt_succ h) with h1 | h1
            · exact HA.out i h1 h'
            · subst h1; exact HB.out
          | false =>
            rw [hb] at HSG
            have HB := Lib.hid hb
            clear hb
            go_wp2_with fail
            refine (HSG.out _).mono ?_
            rintro e w1 ⟨rfl, rfl⟩
            go_wp2_with fail
            go_ret
            exact ⟨by rw [HF.out k hkl HB.out]; rfl, rfl⟩
        · go_wp2_with fail
          go_ret
          exact ⟨by rw [HT.out (fun i h' => HA.out i (by omega) h')]; rfl, rfl⟩
end Log
end Go.Proofs.YtmoodinalncplaaDoor
