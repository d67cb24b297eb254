/- Contracts of span.Text and span.Read: the sixteen digits of a time's bits, and back. -/
import Derived.Test.YtmoodinalncplaaDoorProg
import Derived.Test.YtmoodinalncplaaDoorShelf
import Derived.Test.YtmoodinalncplaaDoorHex
import Derived.Test.YtmoodinalncplaaDoorKit
import Derived.Test.YtmoodinalncplaaDoorPuA
import Derived.Test.YtmoodinalncplaaDoorFb
import Derived.Shelf.Pu.ToError
import Derived.Shelf.Pu.ToErrorRange
import Derived.Lib.Hide
import Derived.WalkKit
import Derived.BigCall
import Derived.BigGuard
import Derived.Outline
import Derived.Handy
import Derived.WalkSpells
import Derived.Deep.DeepMust
import Derived.Deep.QuietTactic
import Derived.BigQuiet
namespace Go.Proofs.YtmoodinalncplaaDoor
open Go.RowKit

theorem repeat_zero (k : Nat) : Lib.repeatL [48] k = List.replicate k 48 := by
  induction k with
  | zero => rfl
  | succ k ih => rw [Lib.repeatL, ih]; rfl

theorem pad16 (u : Nat) (hu : u < 18446744073709551616) : Lib.repeatL [48] (16 - (Hex.num 15 u).length) ++ Hex.num 15 u = Hex.fix 16 u := by
  rw [repeat_zero]
  exact Hex.pad 15 16 u hu (Hex.num_length 15 u).2

theorem run_bits (b : Nat) (w : World) : (callFunc 10 #[.float .f64 b]).run Tryd.prog w = .ok (.value (.int .u64 b)) w := by kernel_rfl
theorem run_frombits (n : Int) (w : World) : (callFunc 23 #[.int .u64 n]).run Tryd.prog w = .ok (.value (.float .f64 n.toNat)) w := by kernel_rfl

set_option maxRecDepth 100000 in
theorem text_any (u : Nat) (hu : u < 18446744073709551616) (w : World) (hc : w.cell? ⟨6, 15, none⟩ = some (.int .u8 4)) :
    Calls Tryd.prog 9 #[.float .f64 u] w fun e w' => e = .returned (.string ⟨(Hex.fix 16 u).toArray⟩) ∧ Below w.heap.size w w' := by
  have hl := Hex.num_length 15 u
  have hp := pad16 u hu
  have hfu := fmtUint16 u hu w hc
  generalize Hex.num 15 u = l at hl hp hfu
  have Hfu := Lib.hid hfu
  clear hfu
  have Hp := Lib.hid hp
  clear hp
  have fb := run_bits
  have e16 : (16 : Int) - (l.length : Int) = ((16 - l.length : Nat) : Int) := by omega
  have hcat : ∀ W, (Op.stringOp .add ⟨(Lib.repeatL [48] (16 - l.length)).toArray⟩ ⟨l.toArray⟩).run Tryd.prog W = .ok (.string ⟨(Hex.fix 16 u).toArray⟩) W := fun W => by
    rw [run_string_add_sum]
    · rw [← Hp.out, show ((⟨(Lib.repeatL [48] (16 - l.length)).toArray⟩ : ByteArray) ++ ⟨l.toArray⟩) = ⟨(Lib.repeatL [48] (16 - l.length) ++ l).toArray⟩ from by ext1; simp]
    · show (Lib.repeatL [48] (16 - l.length)).toArray.size + l.toArray.size ≤ _
      simp [Lib.repeatL_length]; omega
  go_enter Tryd.func9, Tryd.ntmps9
  go_wp2_with (first | (go_at_call 24; refine Hfu.out.mono ?_; rintro e w1 ⟨rfl, hb1⟩) | (go_at_call 25; refine (Tryd.strings_Repeat ⟨#[48]⟩ (16 - l.length) _ (by omega) (by show 1 * _ ≤ _; omega)).mono ?_; rintro e w2 ⟨rfl, hb2⟩))
  go_ret
  exact ⟨rfl, hb1.trans (hb2.mono hb1.size)⟩
/-! strconv.ParseUint at base 16, 64 bits -/
def Held (v : Value) : Prop := v = .nilIface ∨ ∃ te pe, v = .iface te pe

theorem toErr_syntax (fn s : ByteArray) (ev : Value) (w : World) (hlim : s.size ≤ 281474976710656) (hv : w.cell? ⟨1, 0, none⟩ = some ev) (hev : Held ev) :
    Calls Tryd.prog 47 #[.string fn, .string s, .int .i64 16, .int .i64 64, .iface 100 (.int .i64 2)] w fun e w' => (∃ N, e = .returned (.iface 102 (.pointer (some ⟨N, 0, none⟩)))) ∧ Below w.heap.size w w' :=
  (AnyPu.strconv_toError_syntax { Tryd.laysPu14 with } fn s 16 64 ev w hlim hv hev).mono fun _ _ ⟨N, he, _, _, hb⟩ => ⟨⟨N, he⟩, hb⟩
theorem toErr_range (fn s : ByteArray) (ev : Value) (w : World) (hlim : s.size ≤ 281474976710656) (hv : w.cell? ⟨2, 0, none⟩ = some ev) (hev : Held ev) :
    Calls Tryd.prog 47 #[.string fn, .string s, .int .i64 16, .int .i64 64, .iface 100 (.int .i64 1)] w fun e w' => (∃ N, e = .returned (.iface 102 (.pointer (some ⟨N, 0, none⟩)))) ∧ Below w.heap.size w w' :=
  (AnyPu.strconv_toError_range { Tryd.laysPu14 with } fn s 16 64 ev w hlim hv hev).mono fun _ _ ⟨N, he, _, _, hb⟩ => ⟨⟨N, he⟩, hb⟩

/-- what strconv.ParseUint reads: the value, if the text is a numeral -/
def puVal (l : List UInt8) : Option Nat := if l = [] then none else match Hex.parse 0 l with | .ok n => some n | _ => none

def PuPost (l : List UInt8) (w : World) (e : Ending) (w' : World) : Prop :=
  Below w.heap.size w w' ∧ match puVal l with
    | some n => e = .returned (.tuple #[.int .u64 n, .nilIface])
    | none => ∃ (v : Int) (N : Nat), e = .returned (.tuple #[.int .u64 v, .iface 102 (.pointer (some ⟨N, 0, none⟩))])

set_option maxRecDepth 100000 in
theorem empty_parse (w : World) : Calls Tryd.prog 46 #[.string ⟨#[]⟩, .int .i64 16, .int .i64 64] w fun e w' => e = .returned (.tuple #[.int .u64 0, .iface 100 (.int .i64 2)]) ∧ w = w' := by
  go_enter Tryd.func46, Tryd.ntmps46
  go_wp2
  go_ret2
  exact ⟨rfl, rfl⟩

theorem bytes_below (w : World) (t : TypeId) (s : ByteArray) : Below w.heap.size w (Lib.bytesWorld w t s) := Lib.bytesWorld_below _ _ _

set_option maxRecDepth 100000 in
theorem pu_any (s : ByteArray) (hs : s.size ≤ 281474976710656) (ev1 ev2 : Value) (w : World) (h1 : w.cell? ⟨1, 0, none⟩ = some ev1) (h2 : w.cell? ⟨2, 0, none⟩ = some ev2) (k1 : Held ev1) (k2 : Held ev2) :
    Calls Tryd.prog 22 #[.string s, .int .i64 16, .int .i64 64] w (PuPost s.data.toList w) := by
  have b1 := lt_of_cell h1
  have b2 := lt_of_cell h2
  by_cases h0 : s.size = 0
  · have ht : s = ⟨#[]⟩ := by
      apply ByteArray.ext
      exact Array.eq_empty_of_size_eq_zero h0
    subst ht
    go_enter Tryd.func22, Tryd.ntmps22
    go_wp2_with (first | (go_at_call 46; refine (empty_parse _).mono ?_; rintro e w1 ⟨rfl, rfl⟩) | (go_at_call 47; refine (toErr_syntax _ _ _ _ (by decide) h1 k1).mono ?_; rintro e w2 ⟨⟨N, rfl⟩, hb⟩))
    go_ret2
    exact ⟨hb, 0, N, rfl⟩
  · have hin := parse16 s h0 (by omega) w
    have hb0 := bytes_below w 5 s
    obtain ⟨W1, hW1⟩ : ∃ W1, W1 = Lib.bytesWorld w 5 s := ⟨_, rfl⟩
    rw [← hW1] at hin hb0
    clear hW1
    have h1' := (hb0.cell b1).trans h1
    have h2' := (hb0.cell b2).trans h2
    have hne : s.data.toList ≠ [] := fun h => h0 (by rw [Lib.size_eq, h]; rfl)
    have hpv : ∀ l, l = s.data.toList → puVal l = match Hex.parse 0 l with | .ok n => some n | _ => none := by
      intro l hl; unfold puVal; rw [if_neg (by rw [hl]; exact hne)]
    generalize s.data.toList = l at hin hne hpv
    have hpv := hpv l rfl
    cases hr : Hex.parse 0 l with
    | ok n =>
      rw [hr] at hin hpv
      have Hpv := Lib.hid hpv
      have Hin := Lib.hid hin
      clear hpv hin hr
      go_enter Tryd.func22, Tryd.ntmps22
      go_wp2_with (first | (go_at_call 46; refine Hin.out.mono ?_; rintro e w1 ⟨rfl, rfl⟩; simp only [puTuple]))
      go_ret2
      exact ⟨hb0, by rw [Hpv.out]; rfl⟩
    | bad =>
      rw [hr] at hin hpv
      have Hpv := Lib.hid hpv
      have Hin := Lib.hid hin
      clear hpv hin hr
      go_enter Tryd.func22, Tryd.ntmps22
      go_wp2_with (first | (go_at_call 46; refine Hin.out.mono ?_; rintro e w1 ⟨rfl, rfl⟩; simp only [puTuple]) | (go_at_call 47; refine (toErr_syntax _ _ _ _ hs h1' k1).mono ?_; rintro e w2 ⟨⟨N, rfl⟩, hb⟩))
      go_ret2
      exact ⟨hb0.trans (hb.mono hb0.size), by rw [Hpv.out]; exact ⟨0, N, rfl⟩⟩
    | large =>
      rw [hr] at hin hpv
      have Hpv := Lib.hid hpv
      have Hin := Lib.hid hin
      clear hpv hin hr
      go_enter Tryd.func22, Tryd.ntmps22
      go_wp2_with (first | (go_at_call 46; refine Hin.out.mono ?_; rintro e w1 ⟨rfl, rfl⟩; simp only [puTuple]) | (go_at_call 47; refine (toErr_range _ _ _ _ hs h2' k2).mono ?_; rintro e w2 ⟨⟨N, rfl⟩, hb⟩))
      go_ret2
      exact ⟨hb0.trans (hb.mono hb0.size), by rw [Hpv.out]; exact ⟨_, N, rfl⟩⟩

end Go.Proofs.YtmoodinalncplaaDoor
