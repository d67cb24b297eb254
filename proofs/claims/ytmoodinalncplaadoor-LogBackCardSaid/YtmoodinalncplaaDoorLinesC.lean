/- The contract of strings.Lines: its iterator gives the lines of the text. -/
import Derived.Test.YtmoodinalncplaaDoorLines
import Derived.Test.YtmoodinalncplaaDoorLogL
import Derived.Test.YtmoodinalncplaaDoorShelfB
import Derived.Lib.IndexLaws
namespace Go.Proofs.YtmoodinalncplaaDoor
open Go.RowKit Go.Shelf
attribute [local go_sem] Oper.semAt_some
namespace Log

def str (l : List UInt8) : ByteArray := ⟨l.toArray⟩
theorem str_data (t : ByteArray) : str t.data.toList = t := by cases t; rfl
theorem str_size (l : List UInt8) : (str l).size = l.length := rfl
def linesB (t : ByteArray) : List ByteArray := (lines t.data.toList).map str

theorem indexByte_cut (a r : List UInt8) (c : UInt8) (h : c ∉ a) : Lib.indexByte (a ++ c :: r) c = a.length := by
  rw [← Lib.index_one, index_one c a r h]
theorem indexByte_no (a : List UInt8) (c : UInt8) (h : c ∉ a) : Lib.indexByte a c = -1 := by
  induction a with
  | nil => rfl
  | cons b a ih =>
    rw [Lib.indexByte, ih (fun hm => h (List.mem_cons_of_mem _ hm))]
    have hb : (b == c) = false := by simp; rintro rfl; exact h (by simp)
    simp [hb]

def boxLen (g : Nat) (w : World) : Nat := match w.cell? ⟨g, 0, none⟩ with
  | some (.string t) => t.size
  | _ => 0
theorem boxLen_eq {g : Nat} {w : World} {t : ByteArray} {ty : TypeId} (h : Blk w g ty #[.string t]) : boxLen g w = t.size := by
  unfold boxLen; rw [h.cell 0]; rfl

theorem lines_any (w : World) (s : ByteArray) : Calls Tryd.prog 37 #[.string s] w fun e w' => e = .returned (.func (.func 57) #[] #[.pointer (some ⟨w.heap.size, 0, none⟩)]) ∧ w' = w.alloc (.cells #[.string s] 9) := by
  have hmf : ∀ (fn : Fn) (first cap : Array Value) (w : World), (Instr.makeFunc fn first cap).run Tryd.prog w = .ok (.func fn first cap) w := fun _ _ _ _ => rfl
  go_enter Tryd.func37, Tryd.ntmps37
  go_wp2
  go_ret
  exact ⟨rfl, rfl⟩

theorem AbdPut {β : Type} {g : Nat} {J : β → World → Prop} (h : Abd g J) {s : β} {W : World} (v : Value) (hs : J s W) : J s (W.setCell ⟨g, 0, none⟩ v) :=
  h s W _ (some g) hs (grownBy_setCell' W g v) fun r e => by cases e; rfl

theorem AbdDrew {β : Type} {g : Nat} {J : β → World → Prop} (h : Abd g J) {s : β} {W : World} (hs : J s W) : J s W.drew :=
  h s W _ none hs ⟨rfl, rfl, rfl, Nat.le_refl _, fun _ _ _ => rfl⟩ fun r e => by cases e

set_option maxRecDepth 100000 in
set_option maxHeartbeats 2000000 in
theorem lines_stops (n : Nat) (g : Nat) (s : ByteArray) (hs : s.size ≤ 100000) (w : World) (hg : Blk w g 9 #[.string s]) :
    StopsAt Fence.wide n Tryd.prog 57 #[.pointer (some ⟨g, 0, none⟩)] (fun x : ByteArray => #[Value.string x]) g (linesB s) w := by
  intro l J Jx W hW hJ hJx hY h0
  have hgW : Blk W g 9 #[.string s] := hW.trans hg
  have hroot : Fence.wide.fn 57 := trivial
  refine callsIn_of_wp Tryd.func57 rfl hroot ?_ rfl
  simp only [Tryd.ntmps57, List.size_toArray, List.length_cons, List.length_nil, Nat.reduceAdd, Nat.reduceSub, Array.replicate_succ, Array.replicate_zero, List.push_toArray, List.append_toArray, List.nil_append, List.cons_append]
  have HG := Lib.hid hgW
  have HJ := Lib.hid hJ
  have HY := Lib.hid hY
  have HJX := Lib.hid hJx
  clear hgW hJ hY hJx hg hW
  gi_wp2
  gi_loopw [3, 4] (fun _ _ wr => ∃ (pre : List ByteArray) (t : ByteArray), linesB s = pre ++ linesB t ∧ t.size ≤ 100000 ∧ Blk wr g 9 #[.string t] ∧ J pre wr) (fun _ _ wr => boxLen g wr)
  case atStart => exact ⟨[], s, rfl, hs, HG.out, h0⟩
  case round =>
    obtain ⟨pre, t, hx, ht, hb, hj⟩ := hrel
    have c0 := hb.cell 0
    have f0 := hb.free 0
    have HX := Lib.hid hx
    have HB := Lib.hid hb
    have HJ0 := Lib.hid hj
    clear hx hb hj
    by_cases hz : t.size = 0
    · have e0 : ¬ (0 : Int) < t.size := by omega
      have hl : linesB t = [] := by
        have : t.data.toList = [] := List.eq_nil_of_length_eq_zero (by rw [← Lib.size_eq]; exact hz)
        unfold linesB; rw [this]; rfl
      have HL := Lib.hid hl
      clear hl hz
      gi_wp2
      go_end0
      refine ⟨⟨_, rfl⟩, .inl ?_⟩
      have h1 := HX.out
      rw [HL.out, List.append_nil] at h1
      rw [h1]
      exact HJ0.out
    · have e0 : (0 : Int) < t.size := by omega
      have hix := fun W => callsIn_wide (n := n - 1).2 (Tryd.strings_IndexByte t 10 W)
      rcases cut_at t.data.toList with hno | ⟨a, r, he, hno⟩
      · have hL : linesB t = [t] := by
          unfold linesB
          rw [lines_last _ hno (fun h => hz (by rw [Lib.size_eq, h]; rfl))]
          simp [str_data]
        have e1 : Lib.indexByte t.data.toList ((10 : Int).toNat.toUInt8) = -1 := indexByte_no _ _ hno
        rw [e1] at hix
        have HIX := Lib.hid hix
        have hxs : linesB s = pre ++ t :: [] := by rw [HX.out, hL]
        obtain ⟨fn, tmps, assign, body, hy, hR⟩ := HY.out pre t [] _ hxs (AbdPut HJ.out (.string ⟨#[]⟩) HJ0.out)
        have HL := Lib.hid hL
        clear hix e1 hno hL hz hxs
        gi_wp2_with fail
        refine ⟨trivial, fun h => (by cases h), ?_⟩
        refine (HIX.out _).mono ?_
        rintro e w1 ⟨rfl, rfl⟩
        gi_wp2
        refine ⟨fun h => (by cases h), hR.mono ?_⟩
        rintro e W3 (⟨rfl, hJ3, hk3⟩ | ⟨rfl, hJx3⟩)
        · gi_wp2
          go_roundw
          case rel =>
            have hb3 : Blk W3 g 9 #[.string ⟨#[]⟩] := hk3.trans (HB.out.put 0 (.string ⟨#[]⟩))
            have hX := HX.out
            rw [HL.out] at hX
            exact ⟨pre ++ [t], ⟨#[]⟩, by rw [hX]; simp [linesB, lines], Nat.zero_le _, hb3, hJ3⟩
          case measure =>
            rw [boxLen_eq HB.out, boxLen_eq (hk3.trans (HB.out.put 0 (.string ⟨#[]⟩)) : Blk W3 g 9 #[.string ⟨#[]⟩])]
            show 0 < t.size
            omega
        · gi_wp2
          refine bodyPost_ret (results_none rfl _ _ _) rfl ?_
          exact ⟨⟨_, rfl⟩, .inr ⟨_, [], by rw [HX.out, HL.out, List.append_nil], hJx3⟩⟩
      · have hsz : t.size = a.length + 1 + r.length := by rw [Lib.size_eq, he]; simp; omega
        have hL : linesB t = str (a ++ [10]) :: linesB (str r) := by
          unfold linesB
          rw [he, lines_cut a r hno]
          rfl
        have e1 : Lib.indexByte t.data.toList ((10 : Int).toNat.toUInt8) = a.length := by rw [he]; exact indexByte_cut a r 10 hno
        rw [e1] at hix
        have HIX := Lib.hid hix
        have HL := Lib.hid hL
        have HS := Lib.hid hsz
        have HE := Lib.hid he
        have g1 : (a.length : Int) + 1 ≤ t.size := by omega
        have q1 : t.extract 0 (a.length + 1) = str (a ++ [10]) := by
          apply ByteArray.ext
          apply Array.toList_inj.1
          rw [Lib.extract_data, he, List.drop_zero, show a ++ 10 :: r = (a ++ [10]) ++ r by simp, List.take_left' (by simp)]
          rfl
        have q2 : t.extract (a.length + 1) t.size = str r := by
          apply ByteArray.ext
          apply Array.toList_inj.1
          rw [Lib.extract_to_end, he, show a ++ 10 :: r = (a ++ [10]) ++ r by simp, List.drop_left' (by simp)]
          rfl
        have hxs : linesB s = pre ++ t.extract 0 (a.length + 1) :: linesB (t.extract (a.length + 1) t.size) := by rw [HX.out, hL, q1, q2]
        obtain ⟨fn, tmps, assign, body, hy, hR⟩ := HY.out pre _ _ _ hxs (AbdDrew HJ.out (AbdPut HJ.out (.string (t.extract (a.length + 1) t.size)) HJ0.out))
        have hq : (t.extract (a.length + 1) t.size).size = r.length := by rw [q2]; rfl
        have HQ := Lib.hid hq
        have HXS := Lib.hid hxs
        clear hix e1 hno hL hz hsz he q1 q2 hxs hq
        gi_wp2_with fail
        refine ⟨trivial, fun h => (by cases h), ?_⟩
        refine (HIX.out _).mono ?_
        rintro e w1 ⟨rfl, rfl⟩
        gi_wp2_with fail
        gi_region
        gi_wp2
        refine ⟨fun h => (by cases h), hR.mono ?_⟩
        have hb2 := (HB.out.put 0 (.string (t.extract (a.length + 1) t.size))).drew
        rintro e W3 (⟨rfl, hJ3, hk3⟩ | ⟨rfl, hJx3⟩)
        · have hb3 : Blk W3 g 9 #[.string (t.extract (a.length + 1) t.size)] := hk3.trans hb2
          have HB3 := Lib.hid hb3
          clear hb3 hb2
          gi_wp2
          go_roundw
          case rel => exact ⟨pre ++ [t.extract 0 (a.length + 1)], t.extract (a.length + 1) t.size, by rw [HXS.out]; simp, by rw [HQ.out]; have := HS.out; omega, HB3.out, hJ3⟩
          case measure =>
            rw [boxLen_eq HB.out, boxLen_eq HB3.out, HQ.out, HS.out]
            omega
        · gi_wp2
          refine bodyPost_ret (results_none rfl _ _ _) rfl ?_
          exact ⟨⟨_, rfl⟩, .inr ⟨_, linesB (t.extract (a.length + 1) t.size), by rw [HXS.out]; simp, hJx3⟩⟩
end Log
end Go.Proofs.YtmoodinalncplaaDoor
