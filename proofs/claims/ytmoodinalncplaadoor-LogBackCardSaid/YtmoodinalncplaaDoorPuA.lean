/- Contracts of internal/strconv.lower and internal/strconv.ParseUint at base 16 and 64 bits: what they return is the numeral's value by Hex.parse. -/
import Derived.Test.YtmoodinalncplaaDoorProg
import Derived.Test.YtmoodinalncplaaDoorHex
import Derived.Lib.Strings
import Derived.Lib.Walk
import Derived.Lib.ConvBytes
import Derived.Lib.Hide
import Derived.Lib.ParseIntBMem
import Derived.Laws.Strings3
import Derived.Laws.Closers25
import Derived.Laws.Closers25b
import Derived.WalkKit
import Derived.BigCall
import Derived.BigGuard
namespace Go.Proofs.YtmoodinalncplaaDoor
open Go.RowKit

theorem lower_any (c : Int) (w : World) :
    Calls Tryd.prog 65 #[.int .u8 c] w fun e w' => e = .returned (.int .u8 (bits .or .u8 c 32)) ∧ w' = w := by
  go_enter Tryd.func65, Tryd.ntmps65
  go_wp2
  go_ret
  exact ⟨rfl, rfl⟩

/-- an answer of ParseUint: the number and the error -/
def puTuple : Hex.Res → Value
  | .ok n => .tuple #[.int .u64 n, .nilIface]
  | .bad => .tuple #[.int .u64 0, .iface 100 (.int .i64 2)]
  | .large => .tuple #[.int .u64 18446744073709551615, .iface 100 (.int .i64 1)]

theorem lower_val (c : Nat) (h : c < 256) (hd : ¬ (48 ≤ c ∧ c ≤ 57)) :
    (Hex.val c = none ∧ ((bits .or .u8 (c : Int) 32 < 97 ∨ 122 < bits .or .u8 (c : Int) 32) ∨ (97 ≤ bits .or .u8 (c : Int) 32 ∧ bits .or .u8 (c : Int) 32 ≤ 122 ∧ 16 ≤ bits .or .u8 (c : Int) 32 - 87))) ∨
    (∃ d : Nat, Hex.val c = some d ∧ d < 16 ∧ 97 ≤ bits .or .u8 (c : Int) 32 ∧ bits .or .u8 (c : Int) 32 ≤ 122 ∧ bits .or .u8 (c : Int) 32 - 87 = (d : Int)) := by
  have key : ∀ c : Fin 256, ¬ (48 ≤ c.1 ∧ c.1 ≤ 57) →
    ((Hex.val c.1 = none ∧ ((bits .or .u8 (c.1 : Int) 32 < 97 ∨ 122 < bits .or .u8 (c.1 : Int) 32) ∨ (97 ≤ bits .or .u8 (c.1 : Int) 32 ∧ bits .or .u8 (c.1 : Int) 32 ≤ 122 ∧ 16 ≤ bits .or .u8 (c.1 : Int) 32 - 87))) ∨
    ((Hex.val c.1).isSome = true ∧ (Hex.val c.1).getD 0 < 16 ∧ 97 ≤ bits .or .u8 (c.1 : Int) 32 ∧ bits .or .u8 (c.1 : Int) 32 ≤ 122 ∧ bits .or .u8 (c.1 : Int) 32 - 87 = (((Hex.val c.1).getD 0 : Nat) : Int))) := by decide +kernel
  rcases key ⟨c, h⟩ hd with h1 | ⟨h1, h2⟩
  · exact .inl h1
  · obtain ⟨d, hd⟩ := Option.isSome_iff_exists.1 h1
    simp only at hd
    refine .inr ⟨d, hd, ?_⟩
    simpa [hd] using h2

set_option maxHeartbeats 4000000 in
set_option maxRecDepth 100000 in
theorem parse16 (t : ByteArray) (hne : t.size ≠ 0) (hmax : t.size ≤ 9223372036854775806) (w : World) :
    Calls Tryd.prog 46 #[.string t, .int .i64 16, .int .i64 64] w fun e w' => e = .returned (puTuple (Hex.parse 0 t.data.toList)) ∧ w' = Lib.bytesWorld w 5 t := by
  have hemp : t.toList.isEmpty = false := by
    rw [← decide_eq_emptyBytes]
    exact decide_eq_false (fun h => hne (by rw [h]; rfl))
  have hcv := Lib.run_convert_string_bytes (P := Tryd.prog) w 9 72 5 t (u := .string) Tryd.underlying9 Tryd.underlying72 Tryd.underlying5
  have hB : ∀ j, j < t.size → (Lib.bytesWorld w 5 t).cell? ⟨w.heap.size, j, none⟩ = some (.int .u8 (t.data.toList.getD j 0).toNat) := fun j hj => Lib.bytesWorld_cell w 5 t j hj
  obtain ⟨W1, hW1⟩ : ∃ W1, W1 = Lib.bytesWorld w 5 t := ⟨_, rfl⟩
  rw [← hW1] at hcv hB ⊢
  clear hW1
  obtain ⟨bs, hL⟩ : ∃ bs, bs = t.data.toList := ⟨_, rfl⟩
  have hLn : bs.length = t.size := by rw [hL, Lib.size_eq]
  rw [← hL] at hB ⊢
  clear hL
  have hmv : IntKind.u64.wrap (IntKind.u64.wrap 18446744073709551616 - 1) = 18446744073709551615 := by
    rw [IntKind.wrap_u64, IntKind.wrap_u64]
    decide
  go_enter Tryd.func46, Tryd.ntmps46
  go_wp2
  go_loop [12, 13, 101] (fun vu vn vi => ∃ (k acc : Nat) (a : Int), vu = .bool false ∧ vn = .int .u64 a ∧ vi = .int .i64 k ∧ k ≤ t.size ∧ Hid (a = (acc : Int) ∧ acc < 18446744073709551616 ∧ Hex.parse 0 bs = Hex.parse acc (bs.drop k)))
    (fun _ _ vi => t.size - (intOf vi).toNat)
  case atStart => exact ⟨0, 0, 0, rfl, rfl, rfl, by omega, rfl, by omega, rfl⟩
  case round =>
    obtain ⟨k, acc, a, rfl, rfl, rfl, hk, hh⟩ := hrel
    obtain ⟨ha, hacc, hdec⟩ := hh.out
    clear hh
    have a0 : 0 ≤ a := by omega
    have a1 : a < 18446744073709551616 := by omega
    by_cases hkn : k < t.size
    · have hc := hB k hkn
      have hdrop : bs.drop k = bs[k]'(by omega) :: bs.drop (k + 1) := List.drop_eq_getElem_cons (by omega)
      have hget : bs.getD k 0 = bs[k]'(by omega) := by simp [List.getD, List.getElem?_eq_getElem (show k < bs.length by omega)]
      rw [hdrop] at hdec
      rw [hget] at hc
      generalize bs[k]'(by omega) = c at hc hdec
      have hc256 : c.toNat < 256 := c.toNat_lt
      clear hB hdrop hget
      by_cases hdig : 48 ≤ c.toNat ∧ c.toNat ≤ 57
      · have hv : Hex.val c.toNat = some (c.toNat - 48) := by unfold Hex.val; rw [if_pos hdig]
        obtain ⟨hd0, hd1⟩ := hdig
        by_cases hcut : 1152921504606846976 ≤ acc
        · have hF : Hex.parse acc (c :: bs.drop (k + 1)) = .large := by simp [Hex.parse, hv, hcut]
          rw [hF] at hdec
          have icut : 1152921504606846976 ≤ a := by omega
          clear hcut hacc hF ha hv
          go_wp2
          go_ret2
          first | exact ⟨rfl, rfl⟩ | exact ⟨by rw [hdec]; rfl, rfl⟩
        · have hF : Hex.parse acc (c :: bs.drop (k + 1)) = Hex.parse (acc * 16 + (c.toNat - 48)) (bs.drop (k + 1)) := by simp [Hex.parse, hv, hcut]
          have HN : Hid (a * 16 + ((c.toNat : Int) - 48) = ((acc * 16 + (c.toNat - 48) : Nat) : Int) ∧ acc * 16 + (c.toNat - 48) < 18446744073709551616 ∧ Hex.parse 0 bs = Hex.parse (acc * 16 + (c.toNat - 48)) (bs.drop (k + 1))) := Lib.hid ⟨by omega, by omega, hdec.trans hF⟩
          have icut : a < 1152921504606846976 := by omega
          have iov : a * 16 + ((c.toNat : Int) - 48) < 18446744073709551616 := by omega
          clear hcut hacc hF hdec ha hv
          go_wp2
          refine ⟨⟨k + 1, acc * 16 + (c.toNat - 48), a * 16 + ((c.toNat : Int) - 48), rfl, (by first | rfl | (congr 1; omega)), (by first | rfl | (congr 1; omega)), by omega, HN⟩, by simp [intOf]; omega⟩
      · have hlv := lower_val c.toNat hc256 hdig
        have hparse : ∀ r, (∀ d, Hex.val c.toNat = some d → r = if 1152921504606846976 ≤ acc then .large else Hex.parse (acc * 16 + d) (bs.drop (k + 1))) → (Hex.val c.toNat = none → r = .bad) → Hex.parse 0 bs = r := by
          intro r h1 h2
          rw [hdec, Hex.parse]
          cases hv : Hex.val c.toNat with
          | none => rw [h2 hv]
          | some d => rw [h1 d hv]
        generalize c.toNat = n at hc hc256 hdig hlv hparse
        clear hdec
        by_cases h95 : n = 95
        · subst h95
          have hdec : Hex.parse 0 bs = .bad := hparse _ (fun d h => by rw [show Hex.val 95 = none from by decide] at h; cases h) (fun _ => rfl)
          have Hdec := Lib.hid hdec
          clear hacc ha hlv hparse hdec hdig
          go_wp2_with (go_at_call 65; refine (lower_any _ _).mono ?_; rintro e w' ⟨rfl, rfl⟩)
          all_goals go_ret2
          all_goals exact ⟨by rw [Hdec.out]; rfl, rfl⟩
        · have h95' : ((n : Int) == 95) = false := by simp; omega
          have hl0 := bits_lo_u8 .or (n : Int) 32
          have hl1 := bits_hi_u8 .or (n : Int) 32
          have hlow : ∀ W, Calls Tryd.prog 65 #[.int .u8 n] W fun e w' => e = .returned (.int .u8 (bits .or .u8 (n : Int) 32)) ∧ w' = W := fun W => lower_any _ W
          generalize bits .or .u8 (n : Int) 32 = q at hl0 hl1 hlv hlow
          have Hlow := Lib.hid hlow
          clear hlow h95
          rcases hlv with ⟨hv, hq⟩ | ⟨d, hv, hd16, hq0, hq1, hqd⟩
          · have hdec : Hex.parse 0 bs = .bad := hparse _ (fun d h => by rw [hv] at h; cases h) (fun _ => rfl)
            have Hdec := Lib.hid hdec
            clear hacc ha hdec hv hparse
            go_wp2_with (go_at_call 65; refine (Hlow.out _).mono ?_; rintro e w' ⟨rfl, rfl⟩)
            all_goals go_ret2
            all_goals exact ⟨by rw [Hdec.out]; rfl, rfl⟩
          · by_cases hcut : 1152921504606846976 ≤ acc
            · have hdec : Hex.parse 0 bs = .large := hparse _ (fun d' h => by rw [if_pos hcut]) (fun h => by rw [hv] at h; cases h)
              have Hdec := Lib.hid hdec
              have icut : 1152921504606846976 ≤ a := by omega
              have iq : q < 103 := by omega
              clear hcut hacc ha hv hqd hdec hparse
              go_wp2_with (go_at_call 65; refine (Hlow.out _).mono ?_; rintro e w' ⟨rfl, rfl⟩)
              all_goals go_ret2
              all_goals exact ⟨by rw [Hdec.out]; rfl, rfl⟩
            · have hdec : Hex.parse 0 bs = Hex.parse (acc * 16 + d) (bs.drop (k + 1)) := hparse _ (fun d' h => by rw [if_neg hcut]; rw [hv] at h; injection h with h; rw [h]) (fun h => by rw [hv] at h; cases h)
              have HN : Hid (a * 16 + (q - 97 + 10) = ((acc * 16 + d : Nat) : Int) ∧ acc * 16 + d < 18446744073709551616 ∧ Hex.parse 0 bs = Hex.parse (acc * 16 + d) (bs.drop (k + 1))) := Lib.hid ⟨by omega, by omega, hdec⟩
              have icut : a < 1152921504606846976 := by omega
              have iq : q < 103 := by omega
              have iov : a * 16 + (q - 97 + 10) < 18446744073709551616 := by omega
              clear hcut hacc hdec ha hv hqd hparse
              go_wp2_with (go_at_call 65; refine (Hlow.out _).mono ?_; rintro e w' ⟨rfl, rfl⟩)
              all_goals refine ⟨⟨k + 1, acc * 16 + d, a * 16 + (q - 97 + 10), rfl, (by first | rfl | (congr 1; omega)), (by first | rfl | (congr 1; omega)), by omega, HN⟩, by simp [intOf]; omega⟩
    · have hkk : k = t.size := by omega
      subst hkk
      have hF : Hex.parse acc (bs.drop t.size) = .ok acc := by rw [List.drop_eq_nil_of_le (by omega)]; rfl
      rw [hF] at hdec
      subst ha
      clear hacc hF a0 a1
      go_wp2
      go_ret2
      first | exact ⟨rfl, rfl⟩ | exact ⟨by rw [hdec]; rfl, rfl⟩

end Go.Proofs.YtmoodinalncplaaDoor
