/- A range over an iterator that keeps its state in one cell of its own (a captured variable that it writes between two rounds): the law, and the contract of strings.Lines. -/
import Derived.Test.YtmoodinalncplaaDoorProg
import Derived.Test.YtmoodinalncplaaDoorKit
import Derived.RangeFuncNested
import Derived.RangeFuncBound
import Derived.RangeFuncCalls
import Derived.RangeFuncLeaves
import Derived.Shelf.Abstract
import Derived.Shelf.AbstractIn
import Derived.Shelf.RegionOpen
import Derived.WalkKit
import Derived.OwnWalkIn
import Derived.TacticsInMore
import Derived.LoopNIn
import Derived.LoopIn
import Derived.Lib.Hide
import Derived.Outline
namespace Go.Proofs.YtmoodinalncplaaDoor
open Go.RowKit Go.Shelf
attribute [local go_sem] Oper.semAt_some

/-- what is said of the world abides new blocks and turns of block g -/
def Abd {β : Type} (g : Nat) (J : β → World → Prop) : Prop :=
  ∀ s W W' row, J s W → W.grownBy W' row → (∀ r, row = some r → r = g) → J s W'

/-- .. and turns of blocks from B on that are no cells -/
def AbdFrom {β : Type} (g B : Nat) (I : β → World → Prop) : Prop :=
  ∀ s W W' row, I s W → W.grownBy W' row → (∀ r, row = some r → r = g ∨ (B ≤ r ∧ ∃ o : Obj, W.heap[r]? = some o ∧ o.isCells = false)) → I s W'

theorem AbdFrom.abd {β : Type} {g B : Nat} {I : β → World → Prop} (h : AbdFrom g B I) : Abd g I := fun s W W' row hs hg hr => h s W W' row hs hg fun r e => .inl (hr r e)
theorem AbdFrom.put {β : Type} {g B : Nat} {I : β → World → Prop} (h : AbdFrom g B I) {s : β} {W : World} {l : Nat} {o : Obj} (o' : Obj) (hs : I s W) (hB : B ≤ l) (hl : W.heap[l]? = some o) (ho : o.isCells = false) : I s (W.putObj l o') :=
  h s W _ (some l) hs (grownBy_putObj' W l o') fun r e => by cases e; exact .inr ⟨hB, o, hl, ho⟩
theorem AbdFrom.new {β : Type} {g B : Nat} {I : β → World → Prop} (h : AbdFrom g B I) {s : β} {W : World} (o : Obj) (hs : I s W) : I s (W.alloc o) :=
  h s W _ none hs (World.grownBy_alloc W o none) fun r e => by cases e
theorem AbdFrom.and {β : Type} {g B : Nat} {I I' : β → World → Prop} (h : AbdFrom g B I) (h' : AbdFrom g B I') : AbdFrom g B (fun s W => I s W ∧ I' s W) :=
  fun s W W' row hs hg hr => ⟨h s W W' row hs.1 hg hr, h' s W W' row hs.2 hg hr⟩
theorem AbdFrom.pure {β : Type} {g B : Nat} {p : β → Prop} : AbdFrom g B (fun s _ => p s) := fun _ _ _ _ hs _ _ => hs
theorem AbdFrom.below {β : Type} {g B n₀ : Nat} {w : World} (h1 : n₀ ≤ g) (h2 : n₀ ≤ B) (h3 : n₀ ≤ w.heap.size) : AbdFrom g B (fun (_ : β) W => Below n₀ w W) :=
  fun _ W _ row hs hg hr => hs.grown hg (Nat.le_trans h3 hs.size) fun k e => by
    rcases hr k e with h | h
    · omega
    · omega

/-- an iterator's value that keeps its state in the block g: it gives xs, one a round; a round may stop it -/
def StopsAt {α : Type} (F : Fence) (n : Nat) (P : Program) (f : Nat) (lb : Array Value) (encs : α → Array Value) (g : Nat) (xs : List α) (w : World) : Prop :=
  ∀ (l : Nat) (J Jx : List α → World → Prop) (W : World), W.heap[g]? = w.heap[g]? → Abd g J → Abd g Jx →
    (∀ pre x rest W1, xs = pre ++ x :: rest → J pre W1 → YieldAt F (n - 1) P l (encs x) W1 fun e W' =>
      (e = .returned (.bool true) ∧ J (pre ++ [x]) W' ∧ W'.heap[g]? = W1.heap[g]?) ∨ (e = .returned (.bool false) ∧ Jx (pre ++ [x]) W')) →
    J [] W →
    CallsIn F n P f (#[.func (.yield l) #[] #[]] ++ lb) W fun e W' => (∃ v, e = .returned v) ∧ (J xs W' ∨ ∃ pre rest, xs = pre ++ rest ∧ Jx pre W')

variable {F : Fence} {n : Nat} {P : Program}

theorem wpIn_rangeAt {α : Type} {gi : Operand} {ps : Array Tmp} {assign body : Code} {Q : Exit → Act → World → Prop} {a : Act} {w : World}
    (hro : F.round = none) (h1 : 1 ≤ n) {gf : Nat} {lb : Array Value} (hg : a.eval gi = .func (.func gf) #[] lb) (hFg : F.fn gf) (eg : ∀ args w, (callFunc gf args).run P w = .ok (.enter gf args) w)
    {encs : α → Array Value} {g : Nat} {xs : List α} (hseq : StopsAt F (n - 1) P gf lb encs g xs w) (hgw : g < w.heap.size) (hps : ∀ x, (encs x).size = ps.size)
    (I : List α → World → Prop) (Ix : Code → List α → World → Prop) (hI : AbdFrom g w.heap.size I) (hIx : ∀ c, AbdFrom g w.heap.size (Ix c)) (h0 : I [] w) (a₁ : α → Act)
    (hassign : ∀ (l : Nat) (x : α) (W : World) (K : Act → World → Prop), K (a₁ x) W →
      assign.wpIn (F.inRound l) (n - 1 - 1) P (Exit.then K (fun _ _ _ => False)) { tmps := (ps.zip (encs x)).foldl (fun t (p, v) => t.setIfInBounds p v) a.tmps, defers := [] } W)
    (hbody : ∀ (l : Nat) (pre : List α) (x : α) (rest : List α) (W : World), xs = pre ++ x :: rest → I pre W →
      body.wpIn (F.inRound l) (n - 1 - 1) P (ownPostG w.heap.size (fun A B => B.heap[g]? = A.heap[g]?) I Ix (pre ++ [x]) W) (a₁ x) W)
    (hdone : ∀ (D : Nat) (W : World), w.heap.size ≤ D → I xs W → W.heap[D]? = some (.deferred (some [])) → Q .normal { a with defers := { target := .collected D, args := #[] } :: a.defers } W)
    (hstop : ∀ (D : Nat) (c : Code) (pre rest : List α) (W : World), w.heap.size ≤ D → xs = pre ++ rest → Ix c pre W → W.heap[D]? = some (.deferred (some [])) → c.wpIn F n P Q { a with defers := { target := .collected D, args := #[] } :: a.defers } W) :
    (Code.rangeFunc gi ps assign body).wpIn F n P Q a w := by
  refine wpIn_rangeFunc fun fn hfn => ?_
  rw [hro]
  let B := w.heap.size
  have hB : w.heap.size = B := rfl
  obtain ⟨rec, hrec⟩ : ∃ rec : LoopState → Option Code → Loop, rec = fun st pe => { state := st, pending := pe, fn, tmps := a.tmps, params := ps, assign, body, defers := B } := ⟨_, rfl⟩
  obtain ⟨V, hV⟩ : ∃ V, (w.alloc (.deferred (some []))).alloc (.loop (rec .ready none)) = V := ⟨_, rfl⟩
  have hrecV : V.heap[B + 1]? = some (.loop (rec .ready none)) := by
    rw [← hV]; have := World.alloc_heap_new (w.alloc (.deferred (some []))) (.loop (rec .ready none)); rwa [World.size_alloc] at this
  have hdefV : V.heap[B]? = some (.deferred (some [])) := by
    rw [← hV]; exact (Below.heap_alloc _ _ _ (by simp [B])).trans (World.alloc_heap_new w _)
  have hgV : V.heap[g]? = w.heap[g]? := by
    rw [← hV]; exact (Below.heap_alloc _ _ _ (by simp; omega)).trans (Below.heap_alloc _ _ _ hgw)
  have hIV : I [] V := by rw [← hV]; exact hI.new _ (hI.new _ h0)
  have keepRec : ∀ {A C : World} {row : Option Nat} {k : Nat} {o : Obj}, A.grownBy C row → (∀ r, row = some r → r = g) → B ≤ k → A.heap[k]? = some o → C.heap[k]? = some o := fun {A C row k o} hgr hrow hk ho =>
    (hgr.block k (Array.getElem?_eq_some_iff.1 ho).1 fun e => by have := hrow k e.symm; omega).trans ho
  refine ⟨B + 1, [{ target := .collected B, args := #[] }], V, { target := .fn (.func gf) lb, args := #[.func (.yield (B + 1)) #[] #[]] }, V, gf,
    #[.func (.yield (B + 1)) #[] #[]] ++ lb, V, ?_, ?_, ?_, ?_, fun _ => h1, ?_⟩
  · rw [← hV, hrec]; exact run_enterLoop_outer _ _ _ _ _
  · simp only [resolve, hg]
    simp [go_sem]
  · intro f' hf'; simp [Target.leads] at hf'; subst hf'; exact hFg
  · simp [invoke, go_sem, eg]
  · refine (hseq (B + 1)
      (fun pre W => I pre W ∧ W.heap[B + 1]? = some (.loop (rec .ready none)) ∧ W.heap[B]? = some (.deferred (some [])))
      (fun pre W => ∃ c, Ix c pre W ∧ W.heap[B + 1]? = some (.loop (rec .done (some c))) ∧ W.heap[B]? = some (.deferred (some [])))
      V hgV
      (fun s A C row hs hgr hr => ⟨hI.abd s A C row hs.1 hgr hr, keepRec hgr hr (by omega) hs.2.1, keepRec hgr hr (Nat.le_refl _) hs.2.2⟩)
      (fun s A C row hs hgr hr => by
        obtain ⟨c, hc, hl, hk⟩ := hs
        exact ⟨c, (hIx c).abd s A C row hc hgr hr, keepRec hgr hr (by omega) hl, keepRec hgr hr (Nat.le_refl _) hk⟩)
      ?_ ⟨hIV, hrecV, hdefV⟩).mono ?_
    · rintro pre x rest W hx ⟨hi, hl, hk⟩
      have hlt : B + 1 < W.heap.size := (Array.getElem?_eq_some_iff.1 hl).1
      have hy := run_yield (P := P) (args := encs x) hl (by rw [hrec]; exact hps x)
      rw [hrec] at hy
      refine ⟨fn, _, assign, body, hy, roundIn_of_wpIn hfn (hassign _ x W _ ⟨_, run_beginRound hl (by rw [hrec]), ?_⟩)⟩
      let busy : Loop := { rec .ready none with state := .busy }
      have hl2 : (W.putObj (B + 1) (.loop busy)).heap[B + 1]? = some (.loop busy) := World.putObj_heap_same hlt
      have hk2 : (W.putObj (B + 1) (.loop busy)).heap[B]? = some (.deferred (some [])) := (World.putObj_heap_other (by omega)).trans hk
      have hg2 : (W.putObj (B + 1) (.loop busy)).heap[g]? = W.heap[g]? := World.putObj_heap_other (by omega)
      refine wpIn_mono (hbody _ pre x rest _ hx (hI.put _ hi (by omega) hl rfl)) ?_
      have fin : ∀ (jump : Option Code) (U : World), KeepsFrom w.heap.size (W.putObj (B + 1) (.loop busy)) U →
          (Instr.endRound (B + 1) jump).run P U = .ok (.bool jump.isNone) (U.putObj (B + 1) (.loop (rec (if jump.isNone then .ready else .done) jump))) ∧
          U.heap[B + 1]? = some (.loop busy) ∧
          (U.putObj (B + 1) (.loop (rec (if jump.isNone then .ready else .done) jump))).heap[B + 1]? = some (.loop (rec (if jump.isNone then .ready else .done) jump)) ∧
          (U.putObj (B + 1) (.loop (rec (if jump.isNone then .ready else .done) jump))).heap[B]? = some (.deferred (some [])) := fun jump U hU => by
        have hl3 := hU.same (B + 1) _ (by omega) hl2 rfl
        have hr := run_endRound (P := P) jump hl3
        refine ⟨?_, hl3, World.putObj_heap_same (Array.getElem?_eq_some_iff.1 hl3).1, (World.putObj_heap_other (by omega)).trans (hU.same B _ (Nat.le_refl _) hk2 rfl)⟩
        simp only [busy, hrec] at hr ⊢
        exact hr
      rintro e a3 U hp
      cases e with
      | normal =>
        obtain ⟨hU, hgU, hi3⟩ := hp
        obtain ⟨hr, hl3, hl4, hk4⟩ := fin none U hU
        exact ⟨_, _, hr, .inl ⟨rfl, ⟨hI.put _ hi3 (by omega) hl3 rfl, hl4, hk4⟩, (World.putObj_heap_other (by omega)).trans (hgU.trans hg2)⟩⟩
      | ret =>
        obtain ⟨hU, hi3⟩ := hp
        obtain ⟨hr, hl3, hl4, hk4⟩ := fin (some .ret) U hU
        exact ⟨_, _, hr, .inr ⟨rfl, .ret, (hIx _).put _ hi3 (by omega) hl3 rfl, hl4, hk4⟩⟩
      | exit id =>
        obtain ⟨hU, hi3⟩ := hp
        obtain ⟨hr, hl3, hl4, hk4⟩ := fin (some (.exit id)) U hU
        exact ⟨_, _, hr, .inr ⟨rfl, .exit id, (hIx _).put _ hi3 (by omega) hl3 rfl, hl4, hk4⟩⟩
      | goto t =>
        obtain ⟨hU, hi3⟩ := hp
        obtain ⟨hr, hl3, hl4, hk4⟩ := fin (some (.goto t)) U hU
        exact ⟨_, _, hr, .inr ⟨rfl, .goto t, (hIx _).put _ hi3 (by omega) hl3 rfl, hl4, hk4⟩⟩
      | panic ch => exact hp.elim
      | outgrown => exact hp.elim
    · rintro e U ⟨⟨v, rfl⟩, (⟨hi, hl, hk⟩ | ⟨pre, rest, hx, c, hi, hl, hk⟩)⟩
      · refine ⟨none, _, by have := run_endLoop (P := P) hl (by rw [hrec]; simp); rw [hrec] at this; exact this, hdone B _ (Nat.le_refl _) (hI.put _ hi (by omega) hl rfl) ((World.putObj_heap_other (by omega)).trans hk)⟩
      · refine ⟨some c, _, by have := run_endLoop (P := P) hl (by rw [hrec]; simp); rw [hrec] at this; exact this, hstop B c pre rest _ (Nat.le_refl _) hx ((hIx c).put _ hi (by omega) hl rfl) ((World.putObj_heap_other (by omega)).trans hk)⟩
end Go.Proofs.YtmoodinalncplaaDoor
