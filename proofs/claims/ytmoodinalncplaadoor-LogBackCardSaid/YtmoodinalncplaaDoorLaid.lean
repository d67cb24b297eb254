/- What the listed package variables give the walks. -/
import Derived.Test.YtmoodinalncplaaDoorRows
import Derived.Test.YtmoodinalncplaaDoorSpan
import Derived.ProofKit
import Derived.LaidSub
import Derived.LaidMore
import Derived.LaidLaws
import Derived.Lib.LaidTab
import Derived.Deep.CondSized
import Derived.Stop.Joined
namespace Go.Proofs.YtmoodinalncplaaDoor
open Go.RowKit Go.ChangeShapes Go.WideShapes Go.ChangeAt

theorem own : ownKnob Tryd.prog.godebug = none := by kernel_rfl
theorem laidOut : laidOutB Tryd.prog = true := by kernel_rfl

theorem iface_of_trod {H : Type} {enc : TypeId × Value → H} {P : Program} {W : World} {base : Nat} {sp : Nat → Bool} {hd : Bool} {fuel : Nat} {t : TypeId} {ms : Array (String × TypeId)} {cs : List Value} {x : DataW H × List MemPlace}
    (ht : P.underlying t = some (.interface ms)) (h : DataW.trod enc P W base sp hd fuel t cs = some x) : ∃ v, cs = [v] ∧ Held v := by
  cases fuel with
  | zero => simp [DataW.trod] at h
  | succ n =>
    unfold DataW.trod at h
    rw [ht] at h
    split at h <;> first | exact ⟨_, rfl, .inl rfl⟩ | exact ⟨_, rfl, .inr ⟨_, _, rfl⟩⟩ | simp_all

/-- a listed variable of an interface type holds nil or a value with its type -/
theorem held_of_laid {l : List (String × DataW Unit)} {W : World} {name : String} {d : DataW Unit} {g : Nat} {t : TypeId} {ms : Array (String × TypeId)}
    (h : laidMetH Tryd.prog l W) (hl : (l.filter fun x => x.1 == name) = [(name, d)]) (hh : d.handleName? = none)
    (hg : Tryd.prog.globalNamed name = some g) (ht : (Tryd.prog.globals[g]?).map (·.type) = some t) (hi : Tryd.prog.underlying t = some (.interface ms)) :
    ∃ v, W.cell? ⟨g, 0, none⟩ = some v ∧ Held v := by
  have h1 := (h.filter fun x => x.1 == name)
  rw [hl] at h1
  rw [laidMetH_iff] at h1
  have e : ([(name, d)].filter fun x => x.2.handleName?.isNone) = [(name, d)] := by simp [hh]
  rw [e] at h1
  obtain ⟨ps, ⟨g0, t0, cs0, f0, p0, q0, hg0, ht0, hv0, hd0, _⟩, _⟩ := h1.1
  obtain rfl := Option.some.inj (hg.symm.trans hg0)
  obtain rfl := Option.some.inj (ht.symm.trans ht0)
  obtain ⟨v, hcs, hv⟩ := iface_of_trod hi hd0
  refine ⟨v, ?_, hv⟩
  rw [World.var?_cell hg hv0 0]
  obtain ⟨l0⟩ := cs0
  simp at hcs
  subst hcs
  rfl

/-- a listed table of small numbers -/
theorem tab_of_laid {l : List (String × DataW Unit)} {W : World} {name : String} {k : IntKind} {zs : List Int} {g : Nat} {t e : TypeId} {n : Nat}
    (h : laidMetH Tryd.prog l W) (hl : (l.filter fun x => x.1 == name) = [(name, Lib.tabData k zs)])
    (hg : Tryd.prog.globalNamed name = some g) (hty : (Tryd.prog.globals[g]?).map (·.type) = some t) (ht : Tryd.prog.underlying t = some (.array n e)) (he : Tryd.prog.underlying e = some (.int k)) (hce : Tryd.prog.cellsOf e = 1) (hct : Tryd.prog.cellsOf t = n) :
    Lib.TabIs Tryd.prog W name k zs := by
  have h1 := (h.filter fun x => x.1 == name)
  rw [hl] at h1
  rw [laidMetH_iff] at h1
  have e' : ([(name, (Lib.tabData k zs : DataW Unit))].filter fun x => x.2.handleName?.isNone) = [(name, Lib.tabData k zs)] := rfl
  rw [e'] at h1
  exact Lib.tabIs_of_head (rest := []) hg hty ht he hce hct h1.1

def tab64 : List Int := [0, 1, 56, 2, 57, 49, 28, 3, 61, 58, 42, 50, 38, 29, 17, 4, 62, 47, 59, 36, 45, 43, 51, 22, 53, 39, 33, 30, 24, 18, 12, 5, 63, 55, 48, 27, 60, 41, 37, 16, 46, 35, 44, 21, 52, 32, 23, 11, 54, 26, 40, 15, 34, 20, 31, 10, 25, 14, 19, 9, 13, 8, 7, 6]
theorem cell64 {l : List (String × DataW Unit)} {W : World} (h : laidMetH Tryd.prog l W) (hl : (l.filter fun x => x.1 == "math/bits.deBruijn64tab") = [("math/bits.deBruijn64tab", Lib.tabData .u8 tab64)]) :
    W.cell? ⟨6, 15, none⟩ = some (.int .u8 4) :=
  (tab_of_laid (g := 6) (t := 142) (e := 5) (n := 64) h hl (by kernel_rfl) (by kernel_rfl) Tryd.underlying142 Tryd.underlying5 (by kernel_rfl) (by kernel_rfl)).cell (g := 6) (by kernel_rfl) 15 (by decide)

end Go.Proofs.YtmoodinalncplaaDoor
