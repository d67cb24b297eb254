/- log.Check. -/
import Derived.Test.YtmoodinalncplaaDoorLogC
import Derived.IntWalk
namespace Go.Proofs.YtmoodinalncplaaDoor
open Go.RowKit
namespace Log

theorem run_store_float {P : Program} {w : World} {a : Addr} {m : Mode} (k : FloatKind) (n : Nat) : (store a (.float k n) m).run P w = stored P w a (.float k n) m := run_store P w a _ m rfl
attribute [local go_sem] run_store_float

/-- a slice of stamps -/
def RdS (w : World) (B : Nat) (A : Option Addr) (xs : List St) : Prop :=
  xs ≠ [] → ∃ b off, A = some ⟨b, off, none⟩ ∧ b < B ∧ ∀ i (h : i < xs.length), w.cell? ⟨b, off + i * 3, none⟩ = some (.string xs[i].nm) ∧ w.cell? ⟨b, off + i * 3 + 1, none⟩ = some (.int .i64 xs[i].t) ∧ w.cell? ⟨b, off + i * 3 + 2, none⟩ = some (.float .f64 xs[i].u)

theorem RdS.below {w w' : World} {B : Nat} {A : Option Addr} {xs : List St} (h : RdS w B A xs) (hb : Below B w w') : RdS w' B A xs := fun hne => by
  obtain ⟨b, off, e, hl, hc⟩ := h hne
  refine ⟨b, off, e, hl, fun i hi => ?_⟩
  obtain ⟨c0, c1, c2⟩ := hc i hi
  exact ⟨(hb.cell (p := ⟨b, _, none⟩) hl).trans c0, (hb.cell (p := ⟨b, _, none⟩) hl).trans c1, (hb.cell (p := ⟨b, _, none⟩) hl).trans c2⟩
theorem RdS.more {w : World} {B B' : Nat} {A : Option Addr} {xs : List St} (h : RdS w B A xs) (hB : B ≤ B') : RdS w B' A xs := fun hne => by
  obtain ⟨b, off, e, hl, hc⟩ := h hne
  exact ⟨b, off, e, by omega, hc⟩

theorem stErrs_hit {xs : List St} {k : Nat} (h : stErrs (xs.take k) = 0) (hk : k < xs.length) {e : Int} (he : stErr xs[k] = e) (hne : e ≠ 0) : stErrs xs = e := by
  induction xs generalizing k with
  | nil => simp at hk
  | cons x l ih =>
    cases k with
    | zero =>
      rw [List.getElem_cons_zero] at he
      rw [stErrs, if_neg (by omega)]; exact he
    | succ k =>
      rw [List.take_succ_cons, stErrs] at h
      by_cases hx : stErr x = 0
      · rw [if_pos hx] at h
        rw [stErrs, if_pos hx]
        exact ih h (by simpa using hk) (by simpa using he)
      · rw [if_neg hx] at h; exact absurd h hx
theorem stErrs_next {xs : List St} {k : Nat} (h : stErrs (xs.take k) = 0) (hk : k < xs.length) (he : stErr xs[k] = 0) : stErrs (xs.take (k + 1)) = 0 := by
  rw [List.take_succ_eq_append_getElem hk]
  generalize xs.take k = l at h
  induction l with
  | nil => simp [stErrs, he]
  | cons y l ih =>
    rw [stErrs] at h
    by_cases hy : stErr y = 0
    · rw [if_pos hy] at h; rw [List.cons_append, stErrs, if_pos hy]; exact ih h
    · rw [if_neg hy] at h; exact absurd h hy
theorem rises_iff {xs : List St} : rises xs = true ↔ ∀ i (h : i + 1 < xs.length), xs[i].t ≤ xs[i + 1].t := by
  induction xs with
  | nil => simp [rises]
  | cons x l ih =>
    cases l with
    | nil => simp [rises]
    | cons y l =>
      rw [rises, Bool.and_eq_true, ih]
      constructor
      · rintro ⟨h1, h2⟩ i hi
        cases i with
        | zero => simpa using h1
        | succ i => exact h2 i (by simpa using hi)
      · intro h
        exact ⟨by simpa using h 0 (by simp), fun i hi => h (i + 1) (by simpa using hi)⟩

def UpTo (xs : List St) (k : Nat) : Prop := ∀ i (h : i + 1 < xs.length), i < k → xs[i].t ≤ xs[i + 1].t

set_option maxHeartbeats 4000000 in
set_option maxRecDepth 100000 in
theorem check_any (xs : List St) (A : Option Addr) (c B : Nat) (w : World) (hr : RdS w B A xs) (hBw : B ≤ w.heap.size) (hn : ∀ x ∈ xs, x.nm.size ≤ 9223372036854775807) :
    Calls Tryd.prog 26 #[.slice A xs.length c] w fun e w' => e = .returned (.int .i64 (chk xs)) ∧ Below w.heap.size w w' := by
  by_cases h200 : 200 < xs.length
  · have g : (200 : Int) < xs.length := by omega
    have hc : chk xs = 2 := by rw [chk, if_pos h200]
    rw [hc]
    go_enter Tryd.func26, Tryd.ntmps26
    go_wp2_with fail
    go_ret
    exact ⟨rfl, Below.refl _ _⟩
  · have g : ¬ (200 : Int) < xs.length := by omega
    have hc : chk xs = if stErrs xs = 0 then (if rises xs then 0 else 3) else stErrs xs := by rw [chk, if_neg h200]
    have he : ∀ e, e ≠ 0 → stErrs xs = e → chk xs = e := fun e h1 h2 => by rw [hc, h2, if_neg h1]
    have h3 : stErrs xs = 0 → rises xs = false → chk xs = 3 := fun h1 h2 => by rw [hc, h1, if_pos rfl, h2]; rfl
    have h0 : stErrs xs = 0 → rises xs = true → chk xs = 0 := fun h1 h2 => by rw [hc, h1, if_pos rfl, h2]; rfl
    have HR := Lib.hid hr
    have HN := Lib.hid hn
    have HE := Lib.hid he
    have H3 := Lib.hid h3
    have H0 := Lib.hid h0
    clear hr hn hc h200 he h3 h0
    generalize chk xs = r at HE H3 H0
    go_enter Tryd.func26, Tryd.ntmps26
    go_wp2_with fail
    go_loopw [11] (fun v wr => ∃ k : Nat, v = .int .i64 k ∧ k ≤ xs.length ∧ Below w.heap.size w wr ∧ stErrs (xs.take k) = 0) (fun v _ => xs.length - (intOf v).toNat)
    case atStart => exact ⟨0, rfl, by omega, Below.refl _ _, by simp [stErrs]⟩
    case round =>
      obtain ⟨k, rfl, hk, hb, hz⟩ := hrel
      have HB := Lib.hid hb
      have HZ := Lib.hid hz
      clear hb hz
      by_cases hkl : k < xs.length
      · have hx : xs ≠ [] := fun h => by rw [h] at hkl; simp at hkl
        obtain ⟨b, off, rfl, hbl, hc⟩ := (HR.out.below (HB.out.mono hBw)) hx
        obtain ⟨c0, c1, c2⟩ := hc k hkl
        have hnx := HN.out xs[k] (List.getElem_mem _)
        have hhit : ∀ e, stErr xs[k] = e → e ≠ 0 → r = e := fun e h1 h2 => HE.out e h2 (stErrs_hit HZ.out hkl h1 h2)
        have hnext : stErr xs[k] = 0 → stErrs (xs.take (k + 1)) = 0 := stErrs_next HZ.out hkl
        generalize xs[k] = x at c0 c1 c2 hnx hhit hnext
        have g1 : (0 : Int) ≤ k := by omega
        have g2 : (k : Int) < xs.length := by omega
        clear hx hc
        have hnc := fun W => nameCheck_any x.nm hnx W
        have hrt := fun W => right_any x.u W
        unfold nmErr at hnc
        have HRT := Lib.hid hrt
        clear hrt
        cases hnm : nmOk x.nm.data.toList with
        | false =>
          rw [hnm] at hnc
          have HNC := Lib.hid hnc
          have HX := Lib.hid (hhit 3 (by rw [stErr, if_pos hnm]) (by decide))
          clear hhit hnext hnm hnc
          go_wp2_with fail
          refine (HNC.out _).mono ?_
          rintro e w1 ⟨rfl, rfl⟩
          go_wp2_with fail
          go_ret
          exact ⟨by rw [HX.out]; rfl, HB.out.alloc (HB.out.size) _⟩
        | true =>
          rw [hnm] at hnc
          have HNC := Lib.hid hnc
          have hne : ¬ nmOk x.nm.data.toList = false := by rw [hnm]; decide
          clear hnc hnm
          by_cases ht0 : x.t < 0
          · have HX := Lib.hid (hhit 4 (by rw [stErr, if_neg hne, if_pos (.inl ht0)]) (by decide))
            have hd : decide (x.t < 0) = true := by simpa using ht0
            clear hhit hnext hne
            go_wp2_with fail
            refine (HNC.out _).mono ?_
            rintro e w1 ⟨rfl, rfl⟩
            go_wp2_with fail
            go_ret
            exact ⟨by rw [HX.out]; rfl, HB.out.alloc (HB.out.size) _⟩
          · by_cases ht1 : 1099511627776 < x.t
            · have HX := Lib.hid (hhit 4 (by rw [stErr, if_neg hne, if_pos (.inr ht1)]) (by decide))
              clear hhit hnext hne
              go_wp2_with fail
              refine (HNC.out _).mono ?_
              rintro e w1 ⟨rfl, rfl⟩
              go_wp2_with fail
              go_ret
              exact ⟨by rw [HX.out]; rfl, HB.out.alloc (HB.out.size) _⟩
            · have hst : stErr x = if rightB x.u = false then 1 else 0 := by rw [stErr, if_neg hne, if_neg (by omega)]
              cases hrb : rightB x.u with
              | false =>
                rw [hrb] at HRT
                have HX := Lib.hid (hhit 1 (by rw [hst, if_pos hrb]) (by decide))
                clear hhit hnext hne hst hrb
                go_wp2_with fail
                refine (HNC.out _).mono ?_
                rintro e w1 ⟨rfl, rfl⟩
                go_wp2_with fail
                refine (HRT.out _).mono ?_
                rintro e w1 ⟨rfl, rfl⟩
                go_wp2_with fail
                go_ret
                exact ⟨by rw [HX.out]; rfl, HB.out.alloc (HB.out.size) _⟩
              | true =>
                rw [hrb] at HRT
                have HX := Lib.hid (hnext (by rw [hst, if_neg (by rw [hrb]; decide)]))
                clear hhit hnext hne hst hrb
                go_wp2_with fail
                refine (HNC.out _).mono ?_
                rintro e w1 ⟨rfl, rfl⟩
                go_wp2_with fail
                refine (HRT.out _).mono ?_
                rintro e w1 ⟨rfl, rfl⟩
                go_wp2_with fail
                go_roundw
                case rel => exact ⟨k + 1, by go_num, by omega, HB.out.alloc (HB.out.size) _, HX.out⟩
                case measure => simp [intOf]; omega
      · have hall : stErrs xs = 0 := by have := HZ.out; rwa [List.take_of_length_le (by omega)] at this
        have HA := Lib.hid hall
        clear hall
        go_wp2_with fail
        go_loopw [39] (fun v wq => ∃ i : Nat, v = .int .i64 i ∧ (i : Int) ≤ max ((xs.length : Int) - 1) 0 ∧ Below w.heap.size w wq ∧ UpTo xs i) (fun v _ => xs.length - (intOf v).toNat)
        case atStart => exact ⟨0, rfl, by omega, HB.out, fun i h h' => by omega⟩
        case round =>
          obtain ⟨i, rfl, hi, hb2, hu⟩ := hrel
          have HB2 := Lib.hid hb2
          have HU := Lib.hid hu
          clear hb2 hu
          by_cases hil : i + 1 < xs.length
          · have hx : xs ≠ [] := fun h => by rw [h] at hil; simp at hil
            obtain ⟨b, off, rfl, hbl, hc⟩ := (HR.out.below (HB2.out.mono hBw)) hx
            have c1 := (hc i (by omega)).2.1
            have d1 := (hc (i + 1) hil).2.1
            have e1 : off + (i + 1) * 3 + 1 = off + i * 3 + 1 + 3 := by omega
            rw [e1] at d1
            have g1 : (0 : Int) ≤ i := by omega
            have g2 : (i : Int) < xs.length := by omega
            have g3 : (i : Int) + 1 < xs.length := by omega
            have g4 : (i : Int) < max ((xs.length : Int) - 1) 0 := by omega
            have hno : xs[i + 1].t < xs[i].t → rises xs = false := fun h => by
              rw [Bool.eq_false_iff]
              intro h2
              have := rises_iff.1 h2 i hil
              omega
            have hyes : xs[i].t ≤ xs[i + 1].t → UpTo xs (i + 1) := fun h j hj hji => by
              rcases Nat.lt_or_eq_of_le (Nat.le_of_lt_succ hji) with h1 | h1
              · exact HU.out j hj h1
              · subst h1; exact h
            generalize xs[i].t = ti at c1 hno hyes
            generalize xs[i + 1].t = tj at d1 hno hyes
            have w1 : IntKind.i64.wrap ((i : Int) + 1) = (i : Int) + 1 := IntWalk.i64_in _ (by omega)
            have w2 : (0 : Int) ≤ (i : Int) + 1 := by omega
            have w3 : ((i : Int) + 1).toNat = i + 1 := by omega
            have HN2 := Lib.hid hno
            have HY := Lib.hid hyes
            clear hc hx hno hyes
            by_cases hlt : tj < ti
            · have HX := Lib.hid (H3.out HA.out (HN2.out hlt))
              clear HN2 HY
              go_wp2_with fail
              go_quiet (fail)
              go_wp2_with fail
              go_ret
              exact ⟨by rw [HX.out]; rfl, below_drewN HB2.out _⟩
            · have HX := Lib.hid (HY.out (by omega))
              clear HN2 HY
              go_wp2_with fail
              go_quiet (fail)
              go_wp2_with fail
              go_roundw
              case rel => exact ⟨i + 1, by go_num, by omega, below_drewN HB2.out _, HX.out⟩
              case measure => simp [intOf]; omega
          · have g4 : ¬ (i : Int) < max ((xs.length : Int) - 1) 0 := by omega
            have HX := Lib.hid (H0.out HA.out (rises_iff.2 fun j hj => HU.out j hj (by omega)))
            go_wp2_with fail
            go_ret
            exact ⟨by rw [HX.out]; rfl, HB2.out⟩
end Log
end Go.Proofs.YtmoodinalncplaaDoor
