/- log.Parse: the stamps of a text. -/
import Derived.Test.YtmoodinalncplaaDoorLinesC
import Derived.Test.YtmoodinalncplaaDoorLogE
import Derived.Maps.AppendAt
import Derived.RangeFuncBox
namespace Go.Proofs.YtmoodinalncplaaDoor
open Go.RowKit Go.Shelf
attribute [local go_sem] Oper.semAt_some
namespace Log
attribute [local go_sem] run_store_float

/-! stamps in memory -/
def St.cells (x : St) : List Value := [.string x.nm, .int .i64 x.t, .float .f64 x.u]
theorem cells_length (xs : List St) : (xs.flatMap St.cells).length = xs.length * 3 := by
  induction xs with
  | nil => rfl
  | cons x l ih => rw [List.flatMap_cons, List.length_append, ih]; simp [St.cells]; omega
theorem cells_get (xs : List St) (i j : Nat) (h : i < xs.length) (hj : j < 3) : (xs.flatMap St.cells)[i * 3 + j]? = xs[i].cells[j]? := by
  induction xs generalizing i with
  | nil => simp at h
  | cons x l ih =>
    rw [List.flatMap_cons]
    cases i with
    | zero => rw [List.getElem?_append_left (by simp [St.cells]; omega)]; simp
    | succ i =>
      rw [List.getElem?_append_right (by simp [St.cells]; omega)]
      have e : (i + 1) * 3 + j - x.cells.length = i * 3 + j := by simp [St.cells]; omega
      rw [e, ih i (by simpa using h)]
      simp

theorem RdS.of_own {w : World} {base g cap n : Nat} {xs : List St} (h : w.ownsRow base 35 3 (.slice (some ⟨g, 0, none⟩) n cap) n (xs.flatMap St.cells)) : RdS w w.heap.size (some ⟨g, 0, none⟩) xs := fun hne => by
  have hlen := h.1
  rw [cells_length] at hlen
  refine ⟨g, 0, rfl, (h.lt g rfl).2, fun i hi => ?_⟩
  have get : ∀ j, j < 3 → w.cell? ⟨g, 0 + i * 3 + j, none⟩ = xs[i].cells[j]? := fun j hj => by
    rw [Nat.zero_add, h.cellAt (i * 3 + j) (by omega), cells_get xs i j hi hj]
  exact ⟨get 0 (by omega), get 1 (by omega), get 2 (by omega)⟩

theorem RdS.drop {w : World} {B b off : Nat} {xs : List St} (h : RdS w B (some ⟨b, off, none⟩) xs) (k : Nat) : RdS w B (some ⟨b, off + k * 3, none⟩) (xs.drop k) := fun hne => by
  have hx : xs ≠ [] := fun e => hne (by rw [e, List.drop_nil])
  obtain ⟨b', off', e, hb, hc⟩ := h hx
  injection e with e
  injection e with e1 e2
  subst e1 e2
  refine ⟨b, _, rfl, hb, fun i hi => ?_⟩
  rw [List.length_drop] at hi
  have := hc (k + i) (by omega)
  rw [List.getElem_drop]
  rw [show off + (k + i) * 3 = off + k * 3 + i * 3 by omega] at this
  exact this

/-! the rounds -/
def Red (pre : List ByteArray) (out : List St) : Prop := out.length ≤ 200 ∧ (∀ y ∈ out, y.nm.size ≤ 100000) ∧ ∀ rest, parseGo [] (pre.map (·.data.toList) ++ rest) = parseGo out rest
theorem Red.nil : Red [] [] := ⟨Nat.zero_le _, fun y h => by simp at h, fun rest => rfl⟩
theorem Red.next {pre : List ByteArray} {out : List St} {x : ByteArray} {y : St} (h : Red pre out) (hlen : ¬ 200 < out.length + 1) (hx : rd x.data.toList = some y) (hc : chk (last2 (out ++ [y])) = 0) (hy : y.nm.size ≤ 100000) : Red (pre ++ [x]) (out ++ [y]) := by
  refine ⟨by simp; omega, fun z hz => ?_, fun rest => ?_⟩
  · rw [List.mem_append] at hz
    rcases hz with hz | hz
    · exact h.2.1 z hz
    · simp at hz; subst hz; exact hy
  · rw [List.map_append, List.append_assoc, h.2.2]
    simp only [List.map_cons, List.map_nil, List.singleton_append]
    rw [parseGo, if_neg hlen, hx]
    simp only
    rw [if_pos hc]
theorem Red.large {pre : List ByteArray} {out : List St} {x : ByteArray} (rest : List ByteArray) (h : Red pre out) (hlen : 200 < out.length + 1) : parseGo [] ((pre ++ x :: rest).map (·.data.toList)) = ([], out.length + 1, 2) := by
  rw [List.map_append, h.2.2, List.map_cons, parseGo, if_pos hlen]
theorem Red.bad {pre : List ByteArray} {out : List St} {x : ByteArray} (rest : List ByteArray) (h : Red pre out) (hlen : ¬ 200 < out.length + 1) (hb : rd x.data.toList = none ∨ ∃ y, rd x.data.toList = some y ∧ chk (last2 (out ++ [y])) ≠ 0) : parseGo [] ((pre ++ x :: rest).map (·.data.toList)) = ([], out.length + 1, 3) := by
  rw [List.map_append, h.2.2, List.map_cons, parseGo, if_neg hlen]
  rcases hb with hb | ⟨y, hb, hc⟩
  · rw [hb]
  · rw [hb]; simp only; rw [if_neg hc]
theorem linesB_data (s : ByteArray) : (linesB s).map (·.data.toList) = lines s.data.toList := by
  unfold linesB
  rw [List.map_map]
  exact List.map_id'' (fun x => by simp [str]) _

theorem lines_small (l : List UInt8) : ∀ x ∈ lines l, x.length ≤ l.length := by
  intro x hx
  have h := lines_flatten l
  have := (List.sublist_flatten_of_mem hx).length_le
  rwa [h] at this

def ParsePost (s : ByteArray) (w : World) (e : Ending) (w' : World) : Prop :=
  Below w.heap.size w w' ∧ ∃ (A : Option Addr) (c : Nat), RdS w' w'.heap.size A (parse s.data.toList).1 ∧ (∀ y ∈ (parse s.data.toList).1, y.nm.size ≤ 100000) ∧
    e = .returned (.tuple #[.slice A (parse s.data.toList).1.length c, .int .i64 (parse s.data.toList).2.1, .int .i64 (parse s.data.toList).2.2])

/-- the boxes of Parse's frame: three results, the stamps so far, the line's number -/
structure Fr (W : World) (n0 : Nat) (v : Value) (k : Int) : Prop where
  r0 : Blk W n0 31 #[.slice none 0 0]
  r1 : Blk W (n0 + 1) 3 #[.int .i64 0]
  r2 : Blk W (n0 + 1 + 1) 24 #[.int .i64 0]
  r3 : Blk W (n0 + 1 + 1 + 1) 31 #[v]
  r4 : Blk W (n0 + 1 + 1 + 1 + 1) 3 #[.int .i64 k]
  sz : n0 + 6 ≤ W.heap.size
section
variable {W W' : World} {n0 : Nat} {v : Value} {k : Int}
theorem Fr.size (h : Fr W n0 v k) : n0 + 1 + 1 + 1 + 1 < W.heap.size := h.r4.lt
theorem Fr.at' (h : Fr W n0 v k) (k' : Int) : Fr (W.setCell ⟨n0 + 1 + 1 + 1 + 1, 0, none⟩ (.int .i64 k')) n0 v k' where
  r0 := h.r0.far (by show n0 ≠ n0 + 1 + 1 + 1 + 1; omega) _
  r1 := h.r1.far (by show n0 + 1 ≠ n0 + 1 + 1 + 1 + 1; omega) _
  r2 := h.r2.far (by show n0 + 1 + 1 ≠ n0 + 1 + 1 + 1 + 1; omega) _
  r3 := h.r3.far (by show n0 + 1 + 1 + 1 ≠ n0 + 1 + 1 + 1 + 1; omega) _
  r4 := h.r4.put 0 _
  sz := by rw [show (W.setCell ⟨n0 + 1 + 1 + 1 + 1, 0, none⟩ (.int .i64 k')).heap.size = W.heap.size by simp [World.setCell]]; exact h.sz
theorem Fr.out' (h : Fr W n0 v k) (v' : Value) : Fr (W.setCell ⟨n0 + 1 + 1 + 1, 0, none⟩ v') n0 v' k where
  r0 := h.r0.far (by show n0 ≠ n0 + 1 + 1 + 1; omega) _
  r1 := h.r1.far (by show n0 + 1 ≠ n0 + 1 + 1 + 1; omega) _
  r2 := h.r2.far (by show n0 + 1 + 1 ≠ n0 + 1 + 1 + 1; omega) _
  r3 := h.r3.put 0 _
  r4 := h.r4.far (by show n0 + 1 + 1 + 1 + 1 ≠ n0 + 1 + 1 + 1; omega) _
  sz := by rw [show (W.setCell ⟨n0 + 1 + 1 + 1, 0, none⟩ v').heap.size = W.heap.size by simp [World.setCell]]; exact h.sz
theorem Fr.below (h : Fr W n0 v k) (hb : Below W.heap.size W W') : Fr W' n0 v k :=
  ⟨h.r0.below hb h.r0.lt, h.r1.below hb h.r1.lt, h.r2.below hb h.r2.lt, h.r3.below hb h.r3.lt, h.r4.below hb h.r4.lt, Nat.le_trans h.sz hb.size⟩
theorem Fr.alloc (h : Fr W n0 v k) (o : Obj) : Fr (W.alloc o) n0 v k := ⟨h.r0.alloc o, h.r1.alloc o, h.r2.alloc o, h.r3.alloc o, h.r4.alloc o, by rw [World.size_alloc]; exact Nat.le_succ_of_le h.sz⟩
theorem Fr.grown {row : Option Nat} (h : Fr W n0 v k) (hg : W.grownBy W' row) (hr : ∀ r, row = some r → n0 + 6 ≤ r) : Fr W' n0 v k where
  r0 := h.r0.grown hg (fun e => by have := hr _ e.symm; omega)
  r1 := h.r1.grown hg (fun e => by have := hr _ e.symm; omega)
  r2 := h.r2.grown hg (fun e => by have := hr _ e.symm; omega)
  r3 := h.r3.grown hg (fun e => by have := hr _ e.symm; omega)
  r4 := h.r4.grown hg (fun e => by have := hr _ e.symm; omega)
  sz := Nat.le_trans h.sz hg.size
theorem Fr.abd {g B0 : Nat} {row : Option Nat} (h : Fr W n0 v k) (hg : W.grownBy W' row) (hr : ∀ r, row = some r → r = g ∨ (B0 ≤ r ∧ ∃ o : Obj, W.heap[r]? = some o ∧ o.isCells = false)) (hgn : g = n0 + 1 + 1 + 1 + 1 + 1) : Fr W' n0 v k := by
  have hne : ∀ {q t cs}, Blk W q t cs → q ≠ g → some q ≠ row := fun {q t cs} hq hqg e => by
    rcases hr q e.symm with h | ⟨_, o, ho, hc⟩
    · exact hqg h
    · rw [show W.heap[q]? = _ from hq] at ho
      injection ho with ho
      subst ho
      cases hc
  exact ⟨h.r0.grown hg (hne h.r0 (by omega)), h.r1.grown hg (hne h.r1 (by omega)), h.r2.grown hg (hne h.r2 (by omega)), h.r3.grown hg (hne h.r3 (by omega)), h.r4.grown hg (hne h.r4 (by omega)), Nat.le_trans h.sz hg.size⟩
end
theorem Fr.fin0 {W : World} {n0 : Nat} {v : Value} {k : Int} (h : Fr W n0 v k) (u : Value) (a e : Int) :
    Blk (((W.setCell ⟨n0, 0, none⟩ u).setCell ⟨n0 + 1, 0, none⟩ (.int .i64 a)).setCell ⟨n0 + 1 + 1, 0, none⟩ (.int .i64 e)) n0 31 #[u] ∧
    Blk (((W.setCell ⟨n0, 0, none⟩ u).setCell ⟨n0 + 1, 0, none⟩ (.int .i64 a)).setCell ⟨n0 + 1 + 1, 0, none⟩ (.int .i64 e)) (n0 + 1) 3 #[.int .i64 a] ∧
    Blk (((W.setCell ⟨n0, 0, none⟩ u).setCell ⟨n0 + 1, 0, none⟩ (.int .i64 a)).setCell ⟨n0 + 1 + 1, 0, none⟩ (.int .i64 e)) (n0 + 1 + 1) 24 #[.int .i64 e] :=
  ⟨((h.r0.put 0 _).far (by show n0 ≠ n0 + 1; omega) _).far (by show n0 ≠ n0 + 1 + 1; omega) _,
   ((h.r1.far (by show n0 + 1 ≠ n0; omega) _).put 0 _).far (by show n0 + 1 ≠ n0 + 1 + 1; omega) _,
   ((h.r2.far (by show n0 + 1 + 1 ≠ n0; omega) _).far (by show n0 + 1 + 1 ≠ n0 + 1; omega) _).put 0 _⟩

/-- the block of the rounds' deferred calls is shut: the results' cells are kept -/
theorem fin_cells {U : World} {n0 D : Nat} {u0 u1 u2 : Value} {t0 t1 t2 : TypeId} (h : Blk U n0 t0 #[u0] ∧ Blk U (n0 + 1) t1 #[u1] ∧ Blk U (n0 + 1 + 1) t2 #[u2]) (hD : n0 + 6 ≤ D) :
    (U.putObj D (.deferred none)).cell? ⟨n0, 0, none⟩ = some u0 ∧ (U.putObj D (.deferred none)).cell? ⟨n0 + 1, 0, none⟩ = some u1 ∧ (U.putObj D (.deferred none)).cell? ⟨n0 + 1 + 1, 0, none⟩ = some u2 :=
  ⟨(h.1.grown (grownBy_putObj' U D _) (fun e => by injection e with e; omega)).cell 0, (h.2.1.grown (grownBy_putObj' U D _) (fun e => by injection e with e; omega)).cell 0, (h.2.2.grown (grownBy_putObj' U D _) (fun e => by injection e with e; omega)).cell 0⟩

theorem Fr.fin {W : World} {n0 : Nat} {v : Value} {k : Int} (h : Fr W n0 v k) (a e : Int) :
    Blk (((W.setCell ⟨n0, 0, none⟩ (.slice none 0 0)).setCell ⟨n0 + 1, 0, none⟩ (.int .i64 a)).setCell ⟨n0 + 1 + 1, 0, none⟩ (.int .i64 e)).drew n0 31 #[.slice none 0 0] ∧
    Blk (((W.setCell ⟨n0, 0, none⟩ (.slice none 0 0)).setCell ⟨n0 + 1, 0, none⟩ (.int .i64 a)).setCell ⟨n0 + 1 + 1, 0, none⟩ (.int .i64 e)).drew (n0 + 1) 3 #[.int .i64 a] ∧
    Blk (((W.setCell ⟨n0, 0, none⟩ (.slice none 0 0)).setCell ⟨n0 + 1, 0, none⟩ (.int .i64 a)).setCell ⟨n0 + 1 + 1, 0, none⟩ (.int .i64 e)).drew (n0 + 1 + 1) 24 #[.int .i64 e] :=
  ⟨((h.r0.put 0 _).far (by show n0 ≠ n0 + 1; omega) _).far (by show n0 ≠ n0 + 1 + 1; omega) _,
   ((h.r1.far (by show n0 + 1 ≠ n0; omega) _).put 0 _).far (by show n0 + 1 ≠ n0 + 1 + 1; omega) _,
   ((h.r2.far (by show n0 + 1 + 1 ≠ n0; omega) _).far (by show n0 + 1 + 1 ≠ n0 + 1; omega) _).put 0 _⟩

theorem own_abd {g B0 base : Nat} {e : TypeId} {sz n : Nat} {v : Value} {xs : List Value} {W W' : World} {row : Option Nat} (h : W.ownsRow base e sz v n xs) (hg : W.grownBy W' row) (hr : ∀ r, row = some r → r = g ∨ (B0 ≤ r ∧ ∃ o : Obj, W.heap[r]? = some o ∧ o.isCells = false)) (hgn : g < base) : W'.ownsRow base e sz v n xs := by
  refine h.kept hg ?_
  rcases h.2 with ⟨rfl, _⟩ | ⟨q, cap, cur, rfl, hq, hb, _⟩
  · exact .inl rfl
  · refine .inr fun e' => ?_
    rcases hr q e'.symm with h | ⟨_, o, ho, hc⟩
    · omega
    · rw [hb] at ho
      injection ho with ho
      subst ho
      cases hc

/-- what a round keeps: whatever is no cells, and block q -/
def Kep (q : Nat) (W W' : World) : Prop := KeepsOthers W W' ∧ W'.heap[q]? = W.heap[q]?
section
variable {q : Nat} {W U V : World}
theorem Kep.refl : Kep q W W := ⟨KeepsOthers.refl _, rfl⟩
theorem Kep.trans (h : Kep q W U) (k : Kep q U V) : Kep q W V := ⟨h.1.trans k.1, k.2.trans h.2⟩
theorem Kep.set (h : Kep q W U) {b : Nat} (hb : q ≠ b) (i : Nat) (u : Value) : Kep q W (U.setCell ⟨b, i, none⟩ u) := ⟨h.1.trans (KeepsOthers.setCell _ _ _), (Below.heap_setCell U ⟨b, i, none⟩ u q hb).trans h.2⟩
theorem Kep.drew (h : Kep q W U) : Kep q W U.drew := ⟨h.1.trans (KeepsOthers.drew _), h.2⟩
theorem Kep.below (h : Kep q W U) (hb : Below U.heap.size U V) (hq : q < U.heap.size) : Kep q W V := ⟨h.1.trans (KeepsOthers.of_grownBy (below_grown hb) (fun _ _ e => by cases e)), (hb.block q hq).trans h.2⟩
theorem Kep.alloc (h : Kep q W U) (o : Obj) (hq : q < U.heap.size) : Kep q W (U.alloc o) := h.below ((Below.refl _ _).alloc (Nat.le_refl _) o) hq
theorem Kep.grown {base : Nat} {e : TypeId} {sz n : Nat} {v : Value} {xs : List Value} (h : Kep q W U) (hg : U.grownBy V v.ownBlock) (ho : U.ownsRow base e sz v n xs) (hq : q < base) (hqs : q < U.heap.size) : Kep q W V := by
  refine ⟨h.1.trans (KeepsOthers.of_grownBy hg fun j o hj hh => ?_), (hg.block q hqs (fun e => by have := (ho.lt q e.symm).1; omega)).trans h.2⟩
  rcases ho.2 with ⟨rfl, _⟩ | ⟨g, cap, cur, rfl, _, hb, _⟩
  · cases hj
  · injection hj with hj
    subst hj
    rw [show U.heap[g]? = _ from hb] at hh
    injection hh with hh
    subst hh
    rfl
end

theorem info_st : (Tryd.prog.info? 35).map (fun i => (i.zero, i.size, i.bytes)) = some (some (.agg #[.string ⟨#[]⟩, .int .i64 0, .float .f64 0]), 3, 32) := by kernel_rfl

set_option maxHeartbeats 4000000 in
set_option maxRecDepth 100000 in
theorem parse_any (s : ByteArray) (hs : s.size ≤ 140737488355328) (B : Nat) (w : World) (hE : Env B w) :
    Calls Tryd.prog 18 #[.string s] w (ParsePost s w) := by
  by_cases hbig : 20000 < s.size
  · have hp : parse s.data.toList = ([], 0, 2) := by rw [parse, if_pos (by rw [← Lib.size_eq]; exact hbig)]
    have g : (20000 : Int) < s.size := by omega
    have HP := Lib.hid hp
    clear hp hbig
    refine (callsIn_wide (n := 5)).1 ?_
    refine callsIn_of_wp_marks Tryd.func18 rfl trivial ?_ rfl
    simp only [Tryd.ntmps18, List.size_toArray, List.length_cons, List.length_nil, Nat.reduceAdd, Nat.reduceSub, Array.replicate_succ, Array.replicate_zero, List.push_toArray, List.append_toArray, List.nil_append, List.cons_append]
    gi_wp2_with fail
    refine ⟨.tuple #[.slice none 0 0, .int .i64 0, .int .i64 2], by simp [results, Tryd.f18, go_sem], (((Below.refl _ _).alloc (Nat.le_refl _) _).alloc (by simp) _).alloc (by simp; omega) _, none, 0, ?_⟩
    rw [HP.out]
    exact ⟨fun h => absurd rfl h, fun y hy => by simp at hy, rfl⟩
  · have g : ¬ (20000 : Int) < s.size := by omega
    have hp : parse s.data.toList = parseGo [] ((linesB s).map (·.data.toList)) := by rw [parse, if_neg (by rw [← Lib.size_eq]; exact hbig), linesB_data]
    have HP := Lib.hid hp
    clear hp
    refine (callsIn_wide (n := 5)).1 ?_
    refine callsIn_of_wp_marks Tryd.func18 rfl trivial ?_ rfl
    simp only [Tryd.ntmps18, List.size_toArray, List.length_cons, List.length_nil, Nat.reduceAdd, Nat.reduceSub, Array.replicate_succ, Array.replicate_zero, List.push_toArray, List.append_toArray, List.nil_append, List.cons_append]
    gi_wp2_with fail
    refine ⟨trivial, ?_⟩
    refine (callsIn_wide.2 (lines_any _ _)).mono ?_
    rintro e w1 ⟨rfl, rfl⟩
    gi_wp2_with fail
    let n0 := w.heap.size
    have hz : ∀ (a b c d e f : Obj), ((((((w.alloc a).alloc b).alloc c).alloc d).alloc e).alloc f).heap.size = n0 + 6 := fun a b c d e f => by simp [n0]
    have r0 : ∀ (a b c d e f : Obj) t cs, a = .cells cs t → Blk ((((((w.alloc a).alloc b).alloc c).alloc d).alloc e).alloc f) n0 t cs := fun a b c d e f t cs h => by subst h; exact ((((((Blk.new w t cs).alloc _).alloc _).alloc _).alloc _).alloc _)
    have r1 : ∀ (a b c d e f : Obj) t cs, b = .cells cs t → Blk ((((((w.alloc a).alloc b).alloc c).alloc d).alloc e).alloc f) (n0 + 1) t cs := fun a b c d e f t cs h => by
      subst h
      have := Blk.new (w.alloc a) t cs
      rw [World.size_alloc] at this
      exact (((this.alloc _).alloc _).alloc _).alloc _
    have r2 : ∀ (a b c d e f : Obj) t cs, c = .cells cs t → Blk ((((((w.alloc a).alloc b).alloc c).alloc d).alloc e).alloc f) (n0 + 1 + 1) t cs := fun a b c d e f t cs h => by
      subst h
      have := Blk.new ((w.alloc a).alloc b) t cs
      simp only [World.size_alloc] at this
      exact ((this.alloc _).alloc _).alloc _
    have r3 : ∀ (a b c d e f : Obj) t cs, d = .cells cs t → Blk ((((((w.alloc a).alloc b).alloc c).alloc d).alloc e).alloc f) (n0 + 1 + 1 + 1) t cs := fun a b c d e f t cs h => by
      subst h
      have := Blk.new (((w.alloc a).alloc b).alloc c) t cs
      simp only [World.size_alloc] at this
      exact (this.alloc _).alloc _
    have r4 : ∀ (a b c d e f : Obj) t cs, e = .cells cs t → Blk ((((((w.alloc a).alloc b).alloc c).alloc d).alloc e).alloc f) (n0 + 1 + 1 + 1 + 1) t cs := fun a b c d e f t cs h => by
      subst h
      have := Blk.new ((((w.alloc a).alloc b).alloc c).alloc d) t cs
      simp only [World.size_alloc] at this
      exact this.alloc _
    have r5 : ∀ (a b c d e f : Obj) t cs, f = .cells cs t → Blk ((((((w.alloc a).alloc b).alloc c).alloc d).alloc e).alloc f) (n0 + 1 + 1 + 1 + 1 + 1) t cs := fun a b c d e f t cs h => by
      subst h
      have := Blk.new (((((w.alloc a).alloc b).alloc c).alloc d).alloc e) t cs
      simp only [World.size_alloc] at this
      exact this
    have rb : ∀ (a b c d e f : Obj), Below n0 w ((((((w.alloc a).alloc b).alloc c).alloc d).alloc e).alloc f) := fun a b c d e f => ((((((Below.refl _ _).alloc (Nat.le_refl _) _).alloc (by simp) _).alloc (by simp; omega) _).alloc (by simp; omega) _).alloc (by simp; omega) _).alloc (by simp; omega) _
    refine wpIn_rangeAt (F := Fence.wide) (n := 5) rfl (by decide) (gf := 57) (lb := #[.pointer (some ⟨n0 + 1 + 1 + 1 + 1 + 1, 0, none⟩)]) rfl trivial (enters_of Tryd.func57 (by kernel_rfl) rfl)
      (lines_stops (5 - 1) (n0 + 1 + 1 + 1 + 1 + 1) s (by omega) _ (r5 _ _ _ _ _ _ _ _ rfl)) (by rw [hz]; omega) (fun _ => rfl)
      (fun pre W => ∃ out v, Red pre out ∧ Fr W n0 v out.length ∧ W.ownsRow (n0 + 6) 35 3 v out.length (out.flatMap St.cells) ∧ Below n0 w W)
      (fun c pre W => c = .ret ∧ ∃ (k : Nat) (e : Int), parse s.data.toList = ([], k, e) ∧ Blk W n0 31 #[.slice none 0 0] ∧ Blk W (n0 + 1) 3 #[.int .i64 k] ∧ Blk W (n0 + 1 + 1) 24 #[.int .i64 e] ∧ Below n0 w W)
      ?hI ?hIx ?h0
      (fun x => { tmps := #[.string s, undef, .pointer (some ⟨n0, 0, none⟩), .pointer (some ⟨n0 + 1, 0, none⟩), .pointer (some ⟨n0 + 1 + 1, 0, none⟩), .pointer (some ⟨n0 + 1 + 1 + 1, 0, none⟩), .pointer (some ⟨n0 + 1 + 1 + 1 + 1, 0, none⟩), .string x, undef, undef, undef, .string s, .int .i64 s.size, .bool false, .string s, .func (.func 57) #[] #[.pointer (some ⟨n0 + 1 + 1 + 1 + 1 + 1, 0, none⟩)], .string x, undef, undef, undef, undef, undef, undef, undef, undef, undef, undef, undef, undef, undef, undef, undef, undef, undef, undef, undef, undef, undef, undef, undef, undef, undef, undef, undef, undef], defers := [] }) ?assign ?body ?done ?stop
    case hI =>
      rintro pre U U' row ⟨out, v, h1, h2, h3, h4⟩ hg hr
      rw [hz] at hr
      exact ⟨out, v, h1, h2.abd hg hr rfl, own_abd h3 hg hr (by omega), h4.grown hg h4.size fun q e => by rcases hr q e with h | h <;> omega⟩
    case hIx =>
      rintro c pre U U' row ⟨hc, k, e, h1, h2, h3, h4, h5⟩ hg hr
      rw [hz] at hr
      have hne : ∀ {q t cs}, Blk U q t cs → q ≠ n0 + 1 + 1 + 1 + 1 + 1 → some q ≠ row := fun {q t cs} hq hqg e => by
        rcases hr q e.symm with h | ⟨_, o, ho, hc⟩
        · exact hqg h
        · rw [show U.heap[q]? = _ from hq] at ho
          injection ho with ho
          subst ho
          cases hc
      exact ⟨hc, k, e, h1, h2.grown hg (hne h2 (by omega)), h3.grown hg (hne h3 (by omega)), h4.grown hg (hne h4 (by omega)), h5.grown hg h5.size fun q e => by rcases hr q e with h | h <;> omega⟩
    case h0 => exact ⟨[], _, Red.nil, ⟨r0 _ _ _ _ _ _ _ _ rfl, r1 _ _ _ _ _ _ _ _ rfl, r2 _ _ _ _ _ _ _ _ rfl, r3 _ _ _ _ _ _ _ _ rfl, r4 _ _ _ _ _ _ _ _ rfl, by rw [hz]; exact Nat.le_refl _⟩, World.ownsRow_nil _ _ _ _, rb _ _ _ _ _ _⟩
    case assign =>
      intro l x W K hK
      gi_wp2
      exact hK
    case body =>
      intro l pre x rest W hx hi
      obtain ⟨out, v, hred, hfr, hown, hb⟩ := hi
      have hxs : x.size ≤ 100000 := by
        have hm : x ∈ linesB s := by rw [hx]; simp
        unfold linesB at hm
        rw [List.mem_map] at hm
        obtain ⟨y, hy, rfl⟩ := hm
        have := lines_small _ y hy
        rw [← Lib.size_eq] at this
        rw [str_size]
        omega
      have c4 := hfr.r4.cell 0
      have f4 := hfr.r4.free 0
      have hk : (out.length : Int) ≤ 200 := by have := hred.1; omega
      have HXX := Lib.hid hx
      have HRED := Lib.hid hred
      have HFR := Lib.hid hfr
      have HOWN := Lib.hid hown
      have HB := Lib.hid hb
      have hrl := fun W' (h : Below n0 w W') => CallsIn.inRound l (callsIn_wide (n := 2).2 (read_line x hxs B W' (hE.below (h.mono hE.size))))
      clear hx hred hfr hown hb hz r0 r1 r2 r3 r4 r5 rb
      obtain ⟨ok, hok⟩ : ∃ ok, ok = (rd x.data.toList).isSome := ⟨_, rfl⟩
      have hrl2 : ∀ W', Below n0 w W' → CallsIn (Fence.wide.inRound l) 2 Tryd.prog 38 #[.string x] W' fun e w' => Below W'.heap.size W' w' ∧ ∃ y : St, y.nm.size ≤ 100000 ∧ e = .returned (.tuple #[.agg #[.string y.nm, .int .i64 y.t, .float .f64 y.u], .bool ok]) ∧ ∀ z, rd x.data.toList = some z → y = z := fun W' h => (hrl W' h).mono fun e w' hp => by
        obtain ⟨h1, z, h2, h3, h4⟩ := hp
        rw [← hok] at h3
        exact ⟨h1, z, by omega, h3, h4⟩
      have HRL := Lib.hid hrl2
      have HOK := Lib.hid hok
      clear hrl2 hrl hok
      gi_wp2_with fail
      refine ⟨trivial, ?_⟩
      refine (HRL.out _ (HB.out.setCell (p := ⟨n0 + 1 + 1 + 1 + 1, 0, none⟩) (by show w.heap.size ≤ n0 + 1 + 1 + 1 + 1; omega) _)).mono ?_
      rintro e w2 ⟨hb2, y, hny, rfl, hyz⟩
      have HYZ := Lib.hid hyz
      clear hyz
      have hfr2 := (HFR.out.at' ((out.length : Int) + 1)).below hb2
      have hown2 := own_below (own_set HOWN.out (b := n0 + 1 + 1 + 1 + 1) (by omega) 0 (.int .i64 ((out.length : Int) + 1))) hb2
      have hlow := HB.out.setCell (p := ⟨n0 + 1 + 1 + 1 + 1, 0, none⟩) (by show w.heap.size ≤ n0 + 1 + 1 + 1 + 1; omega) (.int .i64 ((out.length : Int) + 1))
      have hbw2 := hlow.trans (hb2.mono hlow.size)
      clear hlow
      have c3 := (hfr2.alloc (.cells #[.string y.nm, .int .i64 y.t, .float .f64 y.u] 35)).r3.cell 0
      have hkep2 : Kep (n0 + 1 + 1 + 1 + 1 + 1) W w2 := (Kep.refl.set (by omega) 0 (.int .i64 ((out.length : Int) + 1))).below hb2 (by have := (HFR.out.at' ((out.length : Int) + 1)).sz; omega)
      have hz2 := hfr2.sz
      have HFR2 := Lib.hid hfr2
      have HOWN2 := Lib.hid hown2
      have HBW2 := Lib.hid hbw2
      have hb2s := hfr2.size
      clear hfr2 hown2 hbw2 hb2
      obtain ⟨i0, hi0, hi1, hi2, hi3⟩ := info_parts info_st
      have hnews : ∀ j u, [Value.string y.nm, .int .i64 y.t, .float .f64 y.u][j]? = some u → ((w2.alloc (.cells #[.string y.nm, .int .i64 y.t, .float .f64 y.u] 35)).alloc (.cells #[.string y.nm, .int .i64 y.t, .float .f64 y.u] 35)).cell? ((⟨w2.heap.size + 1, 0, none⟩ : Addr).add j) = some u := fun j u h => by
        have hb := Blk.new (w2.alloc (.cells #[.string y.nm, .int .i64 y.t, .float .f64 y.u] 35)) 35 #[.string y.nm, .int .i64 y.t, .float .f64 y.u]
        rw [World.size_alloc] at hb
        rw [add_plain, Nat.zero_add, hb.cell j, ← h, List.getElem?_toArray]
      have HNEWS := Lib.hid hnews
      clear hnews
      gi_wp2_with (gi_at_builtin; refine wpListIn_append_own _ rfl _ _ 31 rfl (n0 + 6) 35 i0 (.agg #[.string ⟨#[]⟩, .int .i64 0, .float .f64 0]) 3 32 Tryd.underlying31 hi0 hi1 hi2 hi3 rfl (by decide) _ _ _ rfl ((HOWN2.out.alloc _).alloc _) ⟨w2.heap.size + 1, 0, none⟩ 1 1 [.string y.nm, .int .i64 y.t, .float .f64 y.u] rfl ?qc1 ?qc2 ?qc3 ?qc4 ?qc5 ?qc6 ?_)
      case qc1 => rfl
      case qc2 => exact HNEWS.out
      case qc3 => intro u hu; simp at hu; rcases hu with rfl | rfl | rfl <;> rfl
      case qc4 => unfold maxLen; omega
      case qc5 => omega
      case qc6 => simp; omega
      intro v' w3 hown3 hgrow _
      obtain ⟨g', cap', rfl⟩ := ownsRow_succ hown3
      have hfr3 := ((HFR2.out.alloc (.cells #[.string y.nm, .int .i64 y.t, .float .f64 y.u] 35)).alloc (.cells #[.string y.nm, .int .i64 y.t, .float .f64 y.u] 35)).grown hgrow (fun r e => (HOWN2.out.lt r e).1)
      have hbw3 := ((HBW2.out.alloc HBW2.out.size (.cells #[.string y.nm, .int .i64 y.t, .float .f64 y.u] 35)).alloc (by simp; exact Nat.le_succ_of_le HBW2.out.size) (.cells #[.string y.nm, .int .i64 y.t, .float .f64 y.u] 35)).grown hgrow (by simp; exact Nat.le_succ_of_le (Nat.le_succ_of_le HBW2.out.size)) (fun r e => by have := (HOWN2.out.lt r e).1; show w.heap.size ≤ r; omega)
      have hkep3 := ((hkep2.alloc (.cells #[.string y.nm, .int .i64 y.t, .float .f64 y.u] 35) (by omega)).alloc (.cells #[.string y.nm, .int .i64 y.t, .float .f64 y.u] 35) (by simp; omega)).grown hgrow ((HOWN2.out.alloc _).alloc _) (by omega) (by simp; omega)
      have hkep4 := hkep3.set (b := n0 + 1 + 1 + 1) (by omega) 0 (.slice (some ⟨g', 0, none⟩) (out.length + 1) cap')
      have HKEP4 := Lib.hid hkep4
      have hcells : out.flatMap St.cells ++ [Value.string y.nm, .int .i64 y.t, .float .f64 y.u] = (out ++ [y]).flatMap St.cells := by rw [List.flatMap_append]; rfl
      have hcapl : out.length + 1 ≤ cap' := by
        rcases hown3.2 with ⟨h, _⟩ | ⟨_, _, _, h, _, _, h2, _⟩
        · cases h
        · injection h with _ _ h; omega
      rw [hcells] at hown3
      have d3 := hfr3.r3.cell 0
      have e3 := hfr3.r3.free 0
      have hfr4 := hfr3.out' (.slice (some ⟨g', 0, none⟩) (out.length + 1) cap')
      have hown4 := own_set hown3 (b := n0 + 1 + 1 + 1) (by omega) 0 (.slice (some ⟨g', 0, none⟩) (out.length + 1) cap')
      have hbw4 := hbw3.setCell (p := ⟨n0 + 1 + 1 + 1, 0, none⟩) (by show w.heap.size ≤ n0 + 1 + 1 + 1; omega) (.slice (some ⟨g', 0, none⟩) (out.length + 1) cap')
      have d4 := hfr4.r3.cell 0
      have d5 := hfr4.r4.cell 0
      have HFR4 := Lib.hid hfr4
      have HOWN4 := Lib.hid hown4
      have HBW4 := Lib.hid hbw4
      clear hfr4 hown4 hbw4 hfr3 hown3 hgrow hbw3 hcells c3 HNEWS c4 f4 hkep2 hkep3 hkep4
      have hl2 : (last2 (out ++ [y])).length = out.length + 1 - (out.length + 1 - 2) := by simp [last2]
      have hsm : ∀ z ∈ last2 (out ++ [y]), z.nm.size ≤ 9223372036854775807 := fun z hz => by
        have hz := last2_mem hz
        rw [List.mem_append] at hz
        rcases hz with hz | hz
        · have := HRED.out.2.1 z hz; omega
        · simp at hz; subst hz; omega
      have hck := fun W' (hr : RdS W' W'.heap.size (some ⟨g', (out.length + 1 - 2) * 3, none⟩) (last2 (out ++ [y]))) => CallsIn.inRound l (callsIn_wide (n := 2).2 (check_any (last2 (out ++ [y])) (some ⟨g', (out.length + 1 - 2) * 3, none⟩) (cap' - (out.length + 1 - 2)) W'.heap.size W' hr (Nat.le_refl _) hsm))
      rw [hl2] at hck
      have hrd4 := (RdS.of_own HOWN4.out).drop (out.length + 1 - 2)
      rw [Nat.zero_add] at hrd4
      have he2 : (out ++ [y]).drop (out.length + 1 - 2) = last2 (out ++ [y]) := by simp [last2]
      rw [he2] at hrd4
      have HCK := Lib.hid hck
      have HRD4 := Lib.hid hrd4
      clear hl2 hsm hck hrd4 he2
      generalize hcv : chk (last2 (out ++ [y])) = cv at HCK
      have HCV := Lib.hid hcv
      clear hcv
      gi_wp2_with fail
      refine ⟨trivial, ?_⟩
      rw [show (max ((out.length : Int) + 1 - 2) 0).toNat = out.length + 1 - 2 from by omega]
      refine (HCK.out _ HRD4.out).mono ?_
      rintro e w5 ⟨rfl, hb5⟩
      have hfr5 := HFR4.out.below hb5
      have hown5 := own_below HOWN4.out hb5
      have hbw5 := HBW4.out.trans (hb5.mono HBW4.out.size)
      have hkep5 := HKEP4.out.below hb5 (by have := HFR4.out.sz; omega)
      have e0 := hfr5.r0.cell 0
      have e1 := hfr5.r1.cell 0
      have e2 := hfr5.r2.cell 0
      have e4 := hfr5.r4.cell 0
      have f0 := hfr5.r0.free 0
      have f1 := hfr5.r1.free 0
      have f2 := hfr5.r2.free 0
      have HFR5 := Lib.hid hfr5
      have HOWN5 := Lib.hid hown5
      have HBW5 := Lib.hid hbw5
      have HKEP5 := Lib.hid hkep5
      clear hfr5 hown5 hbw5 hkep5 hb5 d3 d4 d5 e3 HCK HRD4
      by_cases hlarge : 200 < out.length + 1
      · have gl : (200 : Int) < (out.length : Int) + 1 := by omega
        have hpe : parse s.data.toList = ([], out.length + 1, 2) := by
          rw [HP.out, HXX.out]
          exact HRED.out.large rest hlarge
        have HPE := Lib.hid hpe
        clear hpe
        gi_wp2_with fail
        gi_region
        all_goals
          gi_wp2_with fail
          have hend := HFR5.out.fin ((out.length : Int) + 1) 2
          exact ⟨(((((HKEP5.out.set (b := n0) (by omega) 0 (.slice none 0 0)).set (b := n0 + 1) (by omega) 0 (.int .i64 ((out.length : Int) + 1))).set (b := n0 + 1 + 1) (by omega) 0 (.int .i64 2)).drew).1).from _, rfl, out.length + 1, 2, HPE.out, hend.1, by rw [show ((out.length + 1 : Nat) : Int) = (out.length : Int) + 1 from by omega]; exact hend.2.1, hend.2.2, (((HBW5.out.setCell (p := ⟨n0, 0, none⟩) (Nat.le_refl _) _).setCell (p := ⟨n0 + 1, 0, none⟩) (by show w.heap.size ≤ n0 + 1; omega) _).setCell (p := ⟨n0 + 1 + 1, 0, none⟩) (by show w.heap.size ≤ n0 + 1 + 1; omega) _).drew⟩
      · have gl : ¬ (200 : Int) < (out.length : Int) + 1 := by omega
        cases ok with
        | false =>
          have hpe : parse s.data.toList = ([], out.length + 1, 3) := by
            rw [HP.out, HXX.out]
            exact HRED.out.bad rest hlarge (.inl (by
              have h := HOK.out
              cases hr : rd x.data.toList with
              | none => rfl
              | some z => rw [hr] at h; cases h))
          have HPE := Lib.hid hpe
          clear hpe
          gi_wp2_with fail
          gi_region
          all_goals
            gi_wp2_with fail
            have hend := HFR5.out.fin ((out.length : Int) + 1) 3
            exact ⟨(((((HKEP5.out.set (b := n0) (by omega) 0 (.slice none 0 0)).set (b := n0 + 1) (by omega) 0 (.int .i64 ((out.length : Int) + 1))).set (b := n0 + 1 + 1) (by omega) 0 (.int .i64 3)).drew).1).from _, rfl, out.length + 1, 3, HPE.out, hend.1, by rw [show ((out.length + 1 : Nat) : Int) = (out.length : Int) + 1 from by omega]; exact hend.2.1, hend.2.2, (((HBW5.out.setCell (p := ⟨n0, 0, none⟩) (Nat.le_refl _) _).setCell (p := ⟨n0 + 1, 0, none⟩) (by show w.heap.size ≤ n0 + 1; omega) _).setCell (p := ⟨n0 + 1 + 1, 0, none⟩) (by show w.heap.size ≤ n0 + 1 + 1; omega) _).drew⟩
        | true =>
          obtain ⟨z, hz⟩ : ∃ z, rd x.data.toList = some z := by
            have h := HOK.out
            cases hr : rd x.data.toList with
            | none => rw [hr] at h; cases h
            | some z => exact ⟨z, rfl⟩
          have hyz := HYZ.out z hz
          subst hyz
          have HZ := Lib.hid hz
          clear hz
          by_cases hc0 : cv = 0
          · subst hc0
            have hnext := HRED.out.next (x := x) hlarge HZ.out (by rw [HCV.out]) hny
            have HNEXT := Lib.hid hnext
            clear hnext
            gi_wp2_with fail
            exact ⟨HKEP5.out.1.from _, HKEP5.out.2, out ++ [y], _, HNEXT.out, by simpa using HFR5.out, by simpa using HOWN5.out, HBW5.out⟩
          · have hpe : parse s.data.toList = ([], out.length + 1, 3) := by
              rw [HP.out, HXX.out]
              exact HRED.out.bad rest hlarge (.inr ⟨y, HZ.out, by rw [HCV.out]; exact hc0⟩)
            have HPE := Lib.hid hpe
            have hcb : (cv != 0) = true := by rw [bne_iff_ne]; exact hc0
            clear hpe hc0
            gi_wp2_with fail
            gi_region
            all_goals
              gi_wp2_with fail
              have hend := HFR5.out.fin ((out.length : Int) + 1) 3
              exact ⟨(((((HKEP5.out.set (b := n0) (by omega) 0 (.slice none 0 0)).set (b := n0 + 1) (by omega) 0 (.int .i64 ((out.length : Int) + 1))).set (b := n0 + 1 + 1) (by omega) 0 (.int .i64 3)).drew).1).from _, rfl, out.length + 1, 3, HPE.out, hend.1, by rw [show ((out.length + 1 : Nat) : Int) = (out.length : Int) + 1 from by omega]; exact hend.2.1, hend.2.2, (((HBW5.out.setCell (p := ⟨n0, 0, none⟩) (Nat.le_refl _) _).setCell (p := ⟨n0 + 1, 0, none⟩) (by show w.heap.size ≤ n0 + 1; omega) _).setCell (p := ⟨n0 + 1 + 1, 0, none⟩) (by show w.heap.size ≤ n0 + 1 + 1; omega) _).drew⟩
    case done =>
      rintro D W hD ⟨out, v, hred, hfr, hown, hb⟩ hK
      rw [hz] at hD
      have hpe : parse s.data.toList = (out, 0, 0) := by
        have := hred.2.2 []
        rw [List.append_nil] at this
        rw [HP.out, this]
        rfl
      have HPE := Lib.hid hpe
      have HRED := Lib.hid hred
      have c3 := hfr.r3.cell 0
      have e0 := hfr.r0.cell 0
      have e1 := hfr.r1.cell 0
      have e2 := hfr.r2.cell 0
      have f0 := hfr.r0.free 0
      have f1 := hfr.r1.free 0
      have f2 := hfr.r2.free 0
      have HFR := Lib.hid hfr
      have HB := Lib.hid hb
      have HK := Lib.hid hK
      clear hpe hred hfr hb hK hz r0 r1 r2 r3 r4 r5 rb
      simp only [show n0 = w.heap.size from rfl] at c3 e0 e1 e2 f0 f1 f2
      rcases hown.2 with ⟨rfl, hn0⟩ | ⟨g', cap', cur, rfl, _⟩
      · have HOWN := Lib.hid hown
        have hout : out = [] := List.eq_nil_of_length_eq_zero hn0
        have HOUT := Lib.hid hout
        clear hown hn0 hout
        gi_wp2_with fail
        have hend := HFR.out.fin0 (.slice none 0 0) 0 0
        have hK' := (((KeepsOthers.setCell W ⟨w.heap.size, 0, none⟩ (.slice none 0 0)).trans (KeepsOthers.setCell _ ⟨w.heap.size + 1, 0, none⟩ (.int .i64 0))).trans (KeepsOthers.setCell _ ⟨w.heap.size + 1 + 1, 0, none⟩ (.int .i64 0))).same D _ HK.out rfl
        obtain ⟨q0, q1, q2⟩ := fin_cells hend hD
        simp only [show n0 = w.heap.size from rfl] at q0 q1 q2
        refine ⟨by simp, .inl ⟨_, _, rfl, run_takeDeferred hK', ?_⟩⟩
        refine ⟨.tuple #[.slice none 0 0, .int .i64 0, .int .i64 0], by simp [results, Tryd.f18, go_sem, q0, q1, q2], ?_, none, 0, ?_⟩
        · exact ((((HB.out.setCell (p := ⟨w.heap.size, 0, none⟩) (Nat.le_refl _) _).setCell (p := ⟨w.heap.size + 1, 0, none⟩) (by show w.heap.size ≤ w.heap.size + 1; omega) _).setCell (p := ⟨w.heap.size + 1 + 1, 0, none⟩) (by show w.heap.size ≤ w.heap.size + 1 + 1; omega) _)).trans (belowK_b (w := w) (Nat.le_refl _) _ D _ _ (by show w.heap.size ≤ D; omega) hK' rfl rfl)
        · rw [HPE.out, HOUT.out]
          exact ⟨fun h => absurd rfl h, fun y hy => by simp at hy, rfl⟩
      · have HOWN := Lib.hid hown
        clear hown
        gi_wp2_with fail
        have hend := HFR.out.fin0 (.slice (some ⟨g', 0, none⟩) out.length cap') 0 0
        have hK' := (((KeepsOthers.setCell W ⟨w.heap.size, 0, none⟩ (.slice (some ⟨g', 0, none⟩) out.length cap')).trans (KeepsOthers.setCell _ ⟨w.heap.size + 1, 0, none⟩ (.int .i64 0))).trans (KeepsOthers.setCell _ ⟨w.heap.size + 1 + 1, 0, none⟩ (.int .i64 0))).same D _ HK.out rfl
        obtain ⟨q0, q1, q2⟩ := fin_cells hend hD
        simp only [show n0 = w.heap.size from rfl] at q0 q1 q2
        refine ⟨by simp, .inl ⟨_, _, rfl, run_takeDeferred hK', ?_⟩⟩
        refine ⟨.tuple #[.slice (some ⟨g', 0, none⟩) out.length cap', .int .i64 0, .int .i64 0], by simp [results, Tryd.f18, go_sem, q0, q1, q2], ?_, some ⟨g', 0, none⟩, cap', ?_⟩
        · exact ((((HB.out.setCell (p := ⟨w.heap.size, 0, none⟩) (Nat.le_refl _) _).setCell (p := ⟨w.heap.size + 1, 0, none⟩) (by show w.heap.size ≤ w.heap.size + 1; omega) _).setCell (p := ⟨w.heap.size + 1 + 1, 0, none⟩) (by show w.heap.size ≤ w.heap.size + 1 + 1; omega) _)).trans (belowK_b (w := w) (Nat.le_refl _) _ D _ _ (by show w.heap.size ≤ D; omega) hK' rfl rfl)
        · rw [HPE.out]
          refine ⟨?_, HRED.out.2.1, rfl⟩
          exact RdS.of_own (ownsRow_putObj (own_set (own_set (own_set HOWN.out (b := n0) (by omega) 0 _) (b := n0 + 1) (by omega) 0 _) (b := n0 + 1 + 1) (by omega) 0 _) _ hK' rfl)
    case stop =>
      rintro D c pre rest W hD hx ⟨rfl, k, e, hpe, b0, b1, b2, hb⟩ hK
      rw [hz] at hD
      have HPE := Lib.hid hpe
      have HBS := Lib.hid (And.intro b0 (And.intro b1 b2))
      have HB := Lib.hid hb
      have HK := Lib.hid hK
      clear hpe b0 b1 b2 hb hK hz r0 r1 r2 r3 r4 r5 rb
      gi_wp2_with fail
      obtain ⟨q0, q1, q2⟩ := fin_cells HBS.out hD
      simp only [show n0 = w.heap.size from rfl] at q0 q1 q2
      refine ⟨by simp, .inl ⟨_, _, rfl, run_takeDeferred HK.out, ?_⟩⟩
      refine ⟨.tuple #[.slice none 0 0, .int .i64 k, .int .i64 e], by simp [results, Tryd.f18, go_sem, q0, q1, q2], HB.out.trans (belowK_b (w := w) (Nat.le_refl _) _ D _ _ (by show w.heap.size ≤ D; omega) HK.out rfl rfl), none, 0, ?_⟩
      rw [HPE.out]
      exact ⟨fun h => absurd rfl h, fun y hy => by simp at hy, rfl⟩
end Log
end Go.Proofs.YtmoodinalncplaaDoor
