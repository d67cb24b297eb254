/- log.Print: the text of stamps. -/
import Derived.Test.YtmoodinalncplaaDoorLogF
import Derived.Test.YtmoodinalncplaaDoorBld
namespace Go.Proofs.YtmoodinalncplaaDoor
open Go.RowKit
namespace Log
attribute [local go_sem] run_store_float

theorem bld_below {T e : TypeId} {B b : Nat} {p : Value} {bs : List Value} {w w' : World} (h : Lib.BuilderAt T e B b p bs w) (hb : Below w.heap.size w w') : Lib.BuilderAt T e B b p bs w' := by
  obtain ⟨h1, v, h2, h3, h4⟩ := h
  exact ⟨h1, v, (hb.block b (Array.getElem?_eq_some_iff.1 h2).1).trans h2, own_below h3 hb, h4⟩
theorem isb_below {T e : TypeId} {B b : Nat} {bs : List Value} {w w' : World} (h : Lib.IsBuilder T e B b bs w) (hb : Below w.heap.size w w') : Lib.IsBuilder T e B b bs w' := by
  rcases h with h | h
  · exact .inl (bld_below h hb)
  · exact .inr (bld_below h hb)
theorem str_cells (l : List UInt8) : Lib.strCells (str l) = Lib.byteCells l := rfl
theorem byteCells_append (a b : List UInt8) : Lib.byteCells (a ++ b) = Lib.byteCells a ++ Lib.byteCells b := by simp [Lib.byteCells]

/-- a stamp fits -/
def Fits (x : St) : Prop := x.nm.size ≤ 9223372036854775807 ∧ -9223372036854775808 ≤ x.t ∧ x.t ≤ 9223372036854775807 ∧ x.u < 18446744073709551616

theorem itoa_small {t : Int} (h0 : -9223372036854775808 ≤ t) (h1 : t ≤ 9223372036854775807) : (Lib.itoa t).length ≤ 21 := Lib.itoa_length_le t h0 h1
theorem name_small {x : St} (h : stErr x = 0) : x.nm.size ≤ 100000 := by
  obtain ⟨h1, _⟩ := stErr_zero h
  unfold nmOk at h1
  simp only [Bool.and_eq_true, decide_eq_true_eq] at h1
  rw [Lib.size_eq]
  omega
theorem line_small {x : St} (hx : Fits x) (h : stErr x = 0) : x.line.length ≤ 80 := by
  obtain ⟨h1, _⟩ := stErr_zero h
  unfold nmOk at h1
  simp only [Bool.and_eq_true, decide_eq_true_eq] at h1
  have := itoa_small hx.2.1 hx.2.2.1
  have := Hex.fix_length 16 x.u
  rw [line_eq]
  simp only [List.length_append, List.length_cons, List.length_nil]
  omega
theorem text_small : ∀ (xs : List St), (∀ x ∈ xs, Fits x) → (∀ x ∈ xs, stErr x = 0) → (text xs).length ≤ xs.length * 80
  | [], _, _ => by simp [text]
  | x :: l, h1, h2 => by
    have := line_small (h1 x (by simp)) (h2 x (by simp))
    have := text_small l (fun y hy => h1 y (by simp [hy])) (fun y hy => h2 y (by simp [hy]))
    rw [text] at *
    simp only [List.map_cons, List.flatten_cons, List.length_append, List.length_cons]
    omega

def PrintPost (xs : List St) (w : World) (e : Ending) (w' : World) : Prop :=
  Below w.heap.size w w' ∧ e = .returned (.tuple #[.string (str (if chk xs = 0 then text xs else [])), .int .i64 (chk xs)])

set_option maxHeartbeats 4000000 in
set_option maxRecDepth 100000 in
theorem print_any (xs : List St) (A : Option Addr) (c B B' : Nat) (w : World) (hr : RdS w B A xs) (hBw : B ≤ w.heap.size) (hE : Env B' w) (hx : ∀ x ∈ xs, Fits x) :
    Calls Tryd.prog 19 #[.slice A xs.length c] w (PrintPost xs w) := by
  have hck := check_any xs A c B w hr hBw (fun x h => by have := (hx x h).1; omega)
  by_cases h0 : chk xs = 0
  · rw [h0] at hck
    have hz := chk_zero.1 h0
    have hlen : (xs.length : Int) ≤ 200 := by have := hz.1; omega
    have hpost : PrintPost xs w = fun e w' => Below w.heap.size w w' ∧ e = .returned (.tuple #[.string (str (text xs)), .int .i64 0]) := by
      unfold PrintPost
      rw [h0]
      rfl
    rw [hpost]
    have HZ := Lib.hid hz
    have HCK := Lib.hid hck
    have HR := Lib.hid hr
    have HX := Lib.hid hx
    clear hz hck hr hx h0 hpost
    go_enter Tryd.func19, Tryd.ntmps19
    go_wp2_with fail
    refine HCK.out.mono ?_
    rintro e w1 ⟨rfl, hb1⟩
    have hf := Lib.fresh_isBuilder 74 5 w1
    have hw1 := hb1.size
    have HB1 := Lib.hid hb1
    have HF := Lib.hid hf
    clear hb1 hf
    go_wp2_with fail
    go_loopw [15] (fun v wr => ∃ k : Nat, v = .int .i64 k ∧ k ≤ xs.length ∧ Below w.heap.size w wr ∧ w1.heap.size ≤ wr.heap.size ∧ Lib.IsBuilder 74 5 w1.heap.size w1.heap.size (Lib.byteCells (text (xs.take k))) wr) (fun v _ => xs.length - (intOf v).toNat)
    case atStart => exact ⟨0, rfl, Nat.zero_le _, HB1.out.alloc HB1.out.size _, by simp, HF.out⟩
    case round =>
      obtain ⟨k, rfl, hk, hb, hsz, hB⟩ := hrel
      have HB := Lib.hid hb
      have HBB := Lib.hid hB
      clear hb hB
      by_cases hkl : k < xs.length
      · have hne : xs ≠ [] := fun h => by rw [h] at hkl; simp at hkl
        obtain ⟨b, off, rfl, hbl, hc⟩ := (HR.out.below (HB.out.mono hBw)) hne
        obtain ⟨c0, c1, c2⟩ := hc k hkl
        have hfit := HX.out xs[k] (List.getElem_mem _)
        have htext : text (xs.take (k + 1)) = text (xs.take k) ++ xs[k].line := by
          rw [List.take_succ_eq_append_getElem hkl, text, List.map_append, List.flatten_append]
          simp [text]
        have hls := line_small hfit (HZ.out.2.1 _ (List.getElem_mem _))
        have hnm := name_small (HZ.out.2.1 _ (List.getElem_mem hkl))
        have htake : (text (xs.take k)).length ≤ k * 80 := by
          have := text_small (xs.take k) (fun y hy => HX.out y (List.mem_of_mem_take hy)) (fun y hy => HZ.out.2.1 y (List.mem_of_mem_take hy))
          rw [List.length_take] at this
          omega
        generalize xs[k] = x at c0 c1 c2 hfit htext hls hnm
        have g1 : (0 : Int) ≤ k := by omega
        have g2 : (k : Int) < xs.length := by omega
        have htx := fun W (hb : Below w.heap.size w W) => text_any B' x.nm x.t x.u hnm hfit.2.1 hfit.2.2.1 hfit.2.2.2 W (hE.below (hb.mono hE.size))
        have HTX := Lib.hid htx
        have HT := Lib.hid htext
        have HLS := Lib.hid hls
        have HTK := Lib.hid htake
        clear hne hc hfit htx htext hls htake hnm
        go_wp2_with fail
        have hb2 := HB.out.alloc HB.out.size (.cells #[.string x.nm, .int .i64 x.t, .float .f64 x.u] 35)
        have hbb2 := isb_below HBB.out ((Below.refl _ _).alloc (Nat.le_refl _) (.cells #[.string x.nm, .int .i64 x.t, .float .f64 x.u] 35))
        refine (HTX.out _ hb2).mono ?_
        rintro e w2 ⟨rfl, hb3⟩
        have hbb3 := isb_below hbb2 hb3
        have hb4 := hb2.trans (hb3.mono hb2.size)
        have hs4 : w1.heap.size ≤ w2.heap.size := by have := hb3.size; rw [World.size_alloc] at this; omega
        have HBB3 := Lib.hid hbb3
        have HB4 := Lib.hid hb4
        clear hb2 hbb2 hb3 hbb3 hb4
        go_wp2_with fail
        refine (Bld.writeString w1.heap.size w1.heap.size _ _ w2 HBB3.out ?_ hs4).mono ?_
        · show (Lib.byteCells (text (xs.take k))).length + (line x.nm.data.toList x.t x.u).length ≤ _
          have h1 := HLS.out
          have h2 := HTK.out
          unfold St.line at h1
          unfold Lib.byteCells
          rw [List.length_map]
          omega
        rintro e w3 ⟨rfl, hbb, hb5⟩
        have hcells : Lib.byteCells (text (xs.take k)) ++ Lib.strCells ⟨(line x.nm.data.toList x.t x.u).toArray⟩ = Lib.byteCells (text (xs.take (k + 1))) := by
          rw [HT.out, byteCells_append]; rfl
        rw [hcells] at hbb
        have hb6 := HB4.out.trans (hb5.mono hw1)
        have hs6 := Nat.le_trans hs4 hb5.size
        have HBB4 := Lib.hid hbb
        have HB6 := Lib.hid hb6
        clear hcells hbb hb5 hb6
        go_wp2_with fail
        go_roundw
        case rel => exact ⟨k + 1, by go_num, by omega, HB6.out, hs6, .inr HBB4.out⟩
        case measure => simp [intOf]; omega
      · have hk2 : xs.take k = xs := List.take_of_length_le (by omega)
        have HK2 := Lib.hid hk2
        clear hk2
        go_wp2_with fail
        refine (Tryd.Builder_String_any w1.heap.size w1.heap.size _ wr HBB.out hsz).mono ?_
        rintro e w3 ⟨rfl, hb5⟩
        go_wp2_with fail
        go_ret2
        exact ⟨HB.out.trans (hb5.mono hw1), by rw [HK2.out]; rfl⟩
  · have hpost : PrintPost xs w = fun e w' => Below w.heap.size w w' ∧ e = .returned (.tuple #[.string ⟨#[]⟩, .int .i64 (chk xs)]) := by
      unfold PrintPost
      rw [if_neg h0]
      rfl
    rw [hpost]
    have hne : (chk xs != 0) = true := by rw [bne_iff_ne]; exact h0
    have HCK := Lib.hid hck
    clear hck h0 hpost hr hx
    generalize chk xs = cv at hne HCK
    go_enter Tryd.func19, Tryd.ntmps19
    go_wp2_with fail
    refine HCK.out.mono ?_
    rintro e w1 ⟨rfl, hb1⟩
    go_wp2_with fail
    go_ret2
    exact ⟨hb1, rfl⟩
end Log
end Go.Proofs.YtmoodinalncplaaDoor
