/- log.read: a line of the log is read. -/
import Derived.Test.YtmoodinalncplaaDoorLogD
import Derived.Lib.AtoiErrMem
import Derived.StillTailTactics
namespace Go.Proofs.YtmoodinalncplaaDoor
open Go.RowKit
namespace Log
attribute [local go_sem] run_store_float

def PiPost (l : List UInt8) (w : World) (e : Ending) (w' : World) : Prop :=
  Below w.heap.size w w' ∧ match Lib.parseIntB 64 l with
    | .ok v => e = .returned (.tuple #[.int .i64 v, .nilIface])
    | _ => ∃ (v : Int) (N : Nat), e = .returned (.tuple #[.int .i64 v, .iface 102 (.pointer (some ⟨N, 0, none⟩))])

theorem parseInt_any (s : ByteArray) (hs : s.size ≤ 281474976710656) (B : Nat) (w : World) (hE : Env B w) :
    Calls Tryd.prog 61 #[.string s, .int .i64 10, .int .i64 64] w (PiPost s.data.toList w) := by
  obtain ⟨v1, c1, k1⟩ := hE.syn
  obtain ⟨v2, c2, k2⟩ := hE.rng
  cases h : Lib.parseIntB 64 s.data.toList with
  | ok v =>
    refine (Tryd.strconv_ParseInt_10_at64_ok s (by omega) v h w).mono ?_
    rintro e w' ⟨rfl, hw⟩
    refine ⟨?_, by rw [h]⟩
    rcases hw with rfl | ⟨t, rfl⟩
    · exact Below.refl _ _
    · exact Lib.bytesWorld_below w _ t
  | _ =>
    first
    | (refine (Any.strconv_ParseInt_10_at64_range Tryd.laysC174 s hs h v2 w c2 k2).mono ?_
       rintro e w' ⟨N, rfl, _, _, hb⟩
       exact ⟨hb, by rw [h]; exact ⟨_, N, rfl⟩⟩)
    | (refine (Any.strconv_ParseInt_10_at64_syntax Tryd.laysC174 s hs h v1 w c1 k1).mono ?_
       rintro e w' ⟨N, rfl, _, _, hb⟩
       exact ⟨hb, by rw [h]; exact ⟨_, N, rfl⟩⟩)

theorem parseInt_range {l : List UInt8} {v : Int} (h : Lib.parseIntB 64 l = .ok v) : -9223372036854775808 ≤ v ∧ v ≤ 9223372036854775807 := by
  unfold Lib.parseIntB at h
  split at h
  · cases h
  · next c r =>
    simp only at h
    split at h
    · cases h
    · cases h
    · next u hu =>
      split at h
      · cases h
      · next h1 =>
        split at h
        · cases h
        · next h2 =>
          injection h with h
          subst h
          split <;> omega

def RdLine (s : ByteArray) (w : World) (e : Ending) (w' : World) : Prop :=
  Below w.heap.size w w' ∧ ∃ x : St, x.nm.size ≤ s.size ∧ e = .returned (.tuple #[x.val, .bool (rd s.data.toList).isSome]) ∧ ∀ y, rd s.data.toList = some y → x = y

theorem splitK_small (c : UInt8) : ∀ (k : Nat) (s : List UInt8), ∀ x ∈ Lib.splitK [c] 0 k s, x.length ≤ s.length
  | 0, s, x, h => by simp [Lib.splitK] at h; subst h; exact Nat.le_refl _
  | k + 1, s, x, h => by
    rw [Lib.splitK] at h
    split at h
    · simp at h; subst h; exact Nat.le_refl _
    · rw [List.mem_cons] at h
      rcases h with rfl | h
      · rw [List.length_take]; omega
      · have := splitK_small c k _ x h
        rw [List.length_drop] at this
        omega

/-- the words of a line, as strings.Split gives them -/
theorem words_of (s : ByteArray) (hs : s.size ≤ 100000) (m : Int) : ∃ ps : List ByteArray, ps.map (·.data.toList) = Lib.split (Lib.trimSuffix s.data.toList [10]) [32] ∧ (∀ p ∈ ps, p.size ≤ s.size) ∧
    ∀ W : World, W.cell? ⟨4, 0, none⟩ = some (.int .i64 m) → Calls Tryd.prog 59 #[.string ⟨(Lib.trimSuffix s.data.toList [10]).toArray⟩, .string ⟨#[32]⟩] W fun e w' => e = .returned (.slice (some ⟨W.heap.size, 0, none⟩) ps.length ps.length) ∧ w' = W.alloc (.cells (ps.map Value.string).toArray 9) := by
  have hlt : (Lib.trimSuffix s.data.toList [10]).length ≤ s.size := by
    unfold Lib.trimSuffix
    split
    · rw [List.length_take, Lib.size_eq]; omega
    · rw [Lib.size_eq]; exact Nat.le_refl _
  have hT : (⟨(Lib.trimSuffix s.data.toList [10]).toArray⟩ : ByteArray).size ≤ s.size := hlt
  generalize hl : Lib.trimSuffix s.data.toList [10] = l at hlt hT ⊢
  have hdata := Lib.splitB_data ⟨#[32]⟩ 0 (Lib.countB ⟨l.toArray⟩ ⟨#[32]⟩) ⟨l.toArray⟩
  have hd2 : (Lib.splitB ⟨#[32]⟩ 0 (Lib.countB ⟨l.toArray⟩ ⟨#[32]⟩) ⟨l.toArray⟩).map (·.data.toList) = Lib.split l [32] := hdata
  refine ⟨_, hd2, fun p hp => ?_, fun W hm => ?_⟩
  · have hm : p.data.toList ∈ Lib.split l [32] := by rw [← hd2]; exact List.mem_map_of_mem (f := fun p : ByteArray => p.data.toList) hp
    have := splitK_small 32 _ _ _ hm
    rw [Lib.size_eq p]
    omega
  · refine (Tryd.strings_Split ⟨l.toArray⟩ ⟨#[32]⟩ m W (by omega) hm (by decide)).mono ?_
    rintro e w' ⟨rfl, rfl⟩
    rw [Lib.splitB_all ⟨#[32]⟩ (by decide) 0 _ _ rfl]
    exact ⟨rfl, rfl⟩

set_option maxHeartbeats 4000000 in
set_option maxRecDepth 100000 in
theorem read_line (s : ByteArray) (hs : s.size ≤ 100000) (B : Nat) (w : World) (hE : Env B w) :
    Calls Tryd.prog 38 #[.string s] w (RdLine s w) := by
  have htr := fun W => Tryd.strings_TrimSuffix s ⟨#[10]⟩ W (by omega)
  change ∀ W, Calls Tryd.prog 60 #[.string s, .string ⟨#[10]⟩] W fun e w' => e = .returned (.string ⟨(Lib.trimSuffix s.data.toList [10]).toArray⟩) ∧ w' = W at htr
  obtain ⟨m, hm⟩ := hE.maxLen
  obtain ⟨ps, hps, hsz, hsp⟩ := words_of s hs m
  have HTR := Lib.hid htr
  have HSP := Lib.hid hsp
  have hm2 : ∀ o, (w.alloc o).cell? ⟨4, 0, none⟩ = some (.int .i64 m) := fun o => by
    rw [World.cell?_alloc_lt w o _ (lt_of_cell hm), hm]
  have HM := Lib.hid hm2
  by_cases h3 : ps.length = 3
  · obtain ⟨a, b, c, rfl⟩ : ∃ a b c, ps = [a, b, c] := by
      match ps, h3 with
      | [a, b, c], _ => exact ⟨a, b, c, rfl⟩
    have hza := hsz a (by simp)
    have hzb := hsz b (by simp)
    have hzc := hsz c (by simp)
    have hrd : rd s.data.toList = match Lib.parseIntB 64 b.data.toList, rdVal c.data.toList with
        | .ok t, some u => if line a.data.toList t u = s.data.toList then some ⟨a, t, u⟩ else none
        | _, _ => none := by
      unfold rd
      rw [← hps]
      rfl
    have hpi := fun W (hb : Below w.heap.size w W) => parseInt_any b (by omega) B W (hE.below (hb.mono hE.size))
    have hsr : ∀ W, Below w.heap.size w W → Calls Tryd.prog 8 #[.string c] W (RdPost c.data.toList W) := fun W hb => by
      have hW := hE.below (hb.mono hE.size)
      obtain ⟨v1, c1, k1⟩ := hW.syn
      obtain ⟨v2, c2, k2⟩ := hW.rng
      exact read_any c (by omega) v1 v2 W c1 c2 k1 k2 hW.bruijn
    let O1 : Obj := .cells #[.string ⟨#[]⟩, .int .i64 0, .float .f64 0] 35
    let O2 : Obj := .cells #[.string a, .string b, .string c] 9
    have k1 : Blk ((w.alloc O1).alloc O2) w.heap.size 35 #[.string ⟨#[]⟩, .int .i64 0, .float .f64 0] := (Blk.new w _ _).alloc _
    have k2 : Blk ((w.alloc O1).alloc O2) (w.heap.size + 1) 9 #[.string a, .string b, .string c] := by have := Blk.new (w.alloc O1) 9 #[.string a, .string b, .string c]; rwa [World.size_alloc] at this
    have hB0 : Below w.heap.size w ((w.alloc O1).alloc O2) := ((Below.refl _ _).alloc (Nat.le_refl _) _).alloc (by simp) _
    have a1 := k2.cell 1
    have K1 := Lib.hid k1
    have K2 := Lib.hid k2
    have HB0 := Lib.hid hB0
    have hz0 : ((w.alloc O1).alloc O2).heap.size = w.heap.size + 2 := by simp
    have HZ0 := Lib.hid hz0
    cases hp : Lib.parseIntB 64 b.data.toList with
    | ok v =>
      have hpi2 : ∀ W, Below w.heap.size w W → Calls Tryd.prog 61 #[.string b, .int .i64 10, .int .i64 64] W fun e w' => Below W.heap.size W w' ∧ e = .returned (.tuple #[.int .i64 v, .nilIface]) := fun W hb => (hpi W hb).mono fun e w' h => by
        have h2 := h.2
        rw [hp] at h2
        exact ⟨h.1, h2⟩
      have HPI := Lib.hid hpi2
      cases hv : rdVal c.data.toList with
      | none =>
        have hsr2 : ∀ W, Below w.heap.size w W → Calls Tryd.prog 8 #[.string c] W fun e w' => Below W.heap.size W w' ∧ e = .returned (.tuple #[.float .f64 0, .int .i64 3]) := fun W hb => (hsr W hb).mono fun e w' h => by
          have h2 := h.2
          rw [hv] at h2
          exact ⟨h.1, h2⟩
        have hno : rd s.data.toList = none := by rw [hrd, hp, hv]
        have HX := Lib.hid hno
        have HSR := Lib.hid hsr2
        clear htr hsp hps hsz hm hm2 hrd h3 hpi hsr hno hpi2 hsr2 hz0 hB0 k1 k2 hp a1 hv
        go_enter Tryd.func38, Tryd.ntmps38
        go_wp2_with fail
        refine (HTR.out _).mono ?_
        rintro e w1 ⟨rfl, rfl⟩
        go_wp2_with fail
        refine (HSP.out _ ?_).mono ?_
        · exact HM.out _
        rintro e w1 ⟨rfl, rfl⟩
        go_wp2_with fail
        refine (HPI.out _ HB0.out).mono ?_
        rintro e w2 ⟨hb2, rfl⟩
        have d1 := K1.out.below hb2 (by rw [HZ0.out]; omega)
        have d2 := K2.out.below hb2 (by rw [HZ0.out]; omega)
        have hB2 := HB0.out.trans (hb2.mono HB0.out.size)
        have e2 := d2.cell 2
        have D1 := Lib.hid d1
        have D2 := Lib.hid d2
        have HB2 := Lib.hid hB2
        clear hb2 d1 d2 hB2
        go_wp2_with fail
        refine (HSR.out _ HB2.out).mono ?_
        rintro e w3 ⟨hb3, rfl⟩
        have d1 := D1.out.below hb3 D1.out.lt
        have d2 := D2.out.below hb3 D2.out.lt
        have hB3 := HB2.out.trans (hb3.mono HB2.out.size)
        have e0 := d2.cell 0
        have E := Lib.hid d1
        have HB3 := Lib.hid hB3
        have b4 := Blk.new w3 35 #[.string a, .int .i64 v, .float .f64 0]
        have d4 := d1.alloc (.cells #[.string a, .int .i64 v, .float .f64 0] 35)
        have hB4 := hB3.alloc hB3.size (.cells #[.string a, .int .i64 v, .float .f64 0] 35)
        have x0 := b4.cell 0
        have x1 := b4.cell 1
        have x2 := b4.cell 2
        have y0 := d4.cell 0
        have y1 := d4.cell 1
        have y2 := d4.cell 2
        have z0 := d4.free 0
        have z1 := d4.free 1
        have z2 := d4.free 2
        have HB4 := Lib.hid hB4
        have hne : w3.heap.size ≠ w.heap.size := by have := d1.lt; omega
        clear hb3 d1 d2 hB3 D1 D2 e2 b4 d4 hB4
        clear_value O1 O2
        go_wp2_with fail
        generalize w3.alloc (.cells #[.string a, .int .i64 v, .float .f64 0] 35) = W4 at *
        go_region
        all_goals
          go_wp2_with fail
          refine bodyPost_ret (v := .tuple #[.agg #[.string a, .int .i64 v, .float .f64 0], .bool false]) (by simp [results, Tryd.results38, go_sem, y0, y1, y2]) rfl ⟨(((HB4.out.setCell (p := ⟨w.heap.size, 0, none⟩) (Nat.le_refl _) _).setCell (p := ⟨w.heap.size, 1, none⟩) (Nat.le_refl _) _).setCell (p := ⟨w.heap.size, 2, none⟩) (Nat.le_refl _) _).drew, ⟨a, v, 0⟩, hza, by rw [HX.out]; rfl, fun y hy => by rw [HX.out] at hy; cases hy⟩
      | some u =>
        have hsr2 : ∀ W, Below w.heap.size w W → Calls Tryd.prog 8 #[.string c] W fun e w' => Below W.heap.size W w' ∧ e = .returned (.tuple #[.float .f64 u, .int .i64 0]) := fun W hb => (hsr W hb).mono fun e w' h => by
          have h2 := h.2
          rw [hv] at h2
          exact ⟨h.1, h2⟩
        have hu := (rdVal_some hv).2
        have hvr := parseInt_range hp
        have htx := fun W (hb : Below w.heap.size w W) => text_any B a v u (by omega) hvr.1 hvr.2 hu W (hE.below (hb.mono hE.size))
        have hyes : rd s.data.toList = if line a.data.toList v u = s.data.toList then some ⟨a, v, u⟩ else none := by rw [hrd, hp, hv]
        have hsome : (rd s.data.toList).isSome = (line a.data.toList v u == s.toList) ∧ ∀ y, rd s.data.toList = some y → (⟨a, v, u⟩ : St) = y := by
          rw [hyes, ByteArray.toList_eq]
          by_cases he : line a.data.toList v u = s.data.toList
          · rw [if_pos he]; simp [he]
          · rw [if_neg he]; simp [he]
        have HX := Lib.hid hsome
        have HSR := Lib.hid hsr2
        generalize line a.data.toList v u = L at htx HX
        have HTX := Lib.hid htx
        clear htr hsp hps hsz hm hm2 hrd h3 hpi hsr hpi2 hsr2 hz0 hB0 k1 k2 hp a1 hv hu hvr htx hyes hsome
        go_enter Tryd.func38, Tryd.ntmps38
        go_wp2_with fail
        refine (HTR.out _).mono ?_
        rintro e w1 ⟨rfl, rfl⟩
        go_wp2_with fail
        refine (HSP.out _ ?_).mono ?_
        · exact HM.out _
        rintro e w1 ⟨rfl, rfl⟩
        go_wp2_with fail
        refine (HPI.out _ HB0.out).mono ?_
        rintro e w2 ⟨hb2, rfl⟩
        have d1 := K1.out.below hb2 (by rw [HZ0.out]; omega)
        have d2 := K2.out.below hb2 (by rw [HZ0.out]; omega)
        have hB2 := HB0.out.trans (hb2.mono HB0.out.size)
        have e2 := d2.cell 2
        have D1 := Lib.hid d1
        have D2 := Lib.hid d2
        have HB2 := Lib.hid hB2
        clear hb2 d1 d2 hB2
        go_wp2_with fail
        refine (HSR.out _ HB2.out).mono ?_
        rintro e w3 ⟨hb3, rfl⟩
        have d1 := D1.out.below hb3 D1.out.lt
        have d2 := D2.out.below hb3 D2.out.lt
        have hB3 := HB2.out.trans (hb3.mono HB2.out.size)
        have e0 := d2.cell 0
        have E := Lib.hid d1
        have HB3 := Lib.hid hB3
        have b4 := Blk.new w3 35 #[.string a, .int .i64 v, .float .f64 u]
        have d4 := d1.alloc (.cells #[.string a, .int .i64 v, .float .f64 u] 35)
        have hB4 := hB3.alloc hB3.size (.cells #[.string a, .int .i64 v, .float .f64 u] 35)
        have x0 := b4.cell 0
        have x1 := b4.cell 1
        have x2 := b4.cell 2
        have y0 := d4.cell 0
        have y1 := d4.cell 1
        have y2 := d4.cell 2
        have z0 := d4.free 0
        have z1 := d4.free 1
        have z2 := d4.free 2
        have HB4 := Lib.hid hB4
        have hne : w3.heap.size ≠ w.heap.size := by have := d1.lt; omega
        clear hb3 d1 d2 hB3 D1 D2 e2 b4 d4 hB4
        clear_value O1 O2
        go_wp2_with fail
        generalize w3.alloc (.cells #[.string a, .int .i64 v, .float .f64 u] 35) = W4 at *
        have h00 : Below w.heap.size w W4.drew ∧ W4.drew.cell? ⟨w3.heap.size, 0, none⟩ = some (.string a) ∧ W4.drew.cell? ⟨w3.heap.size, 1, none⟩ = some (.int .i64 v) ∧ W4.drew.cell? ⟨w3.heap.size, 2, none⟩ = some (.float .f64 u) ∧ (∃ q, W4.drew.cell? ⟨w.heap.size, 0, none⟩ = some q) ∧ (∃ q, W4.drew.cell? ⟨w.heap.size, 1, none⟩ = some q) ∧ (∃ q, W4.drew.cell? ⟨w.heap.size, 2, none⟩ = some q) ∧ W4.drew.frozen? ⟨w.heap.size, 0, none⟩ = false ∧ W4.drew.frozen? ⟨w.heap.size, 1, none⟩ = false ∧ W4.drew.frozen? ⟨w.heap.size, 2, none⟩ = false := ⟨HB4.out.drew, x0, x1, x2, ⟨_, y0⟩, ⟨_, y1⟩, ⟨_, y2⟩, z0, z1, z2⟩
        let S : World → Prop := fun W => Below w.heap.size w W ∧ W.cell? ⟨w3.heap.size, 0, none⟩ = some (.string a) ∧ W.cell? ⟨w3.heap.size, 1, none⟩ = some (.int .i64 v) ∧ W.cell? ⟨w3.heap.size, 2, none⟩ = some (.float .f64 u) ∧ (∃ q, W.cell? ⟨w.heap.size, 0, none⟩ = some q) ∧ (∃ q, W.cell? ⟨w.heap.size, 1, none⟩ = some q) ∧ (∃ q, W.cell? ⟨w.heap.size, 2, none⟩ = some q) ∧ W.frozen? ⟨w.heap.size, 0, none⟩ = false ∧ W.frozen? ⟨w.heap.size, 1, none⟩ = false ∧ W.frozen? ⟨w.heap.size, 2, none⟩ = false
        have hkeep : ∀ W W', Below W.heap.size W W' → S W → S W' := fun W W' hb ⟨s0, s1, s2, s3, ⟨q4, s4⟩, ⟨q5, s5⟩, ⟨q6, s6⟩, s7, s8, s9⟩ =>
          ⟨s0.trans (hb.mono s0.size), (hb.cell (lt_of_cell s1)).trans s1, (hb.cell (lt_of_cell s2)).trans s2, (hb.cell (lt_of_cell s3)).trans s3, ⟨_, (hb.cell (lt_of_cell s4)).trans s4⟩, ⟨_, (hb.cell (lt_of_cell s5)).trans s5⟩, ⟨_, (hb.cell (lt_of_cell s6)).trans s6⟩, (hb.frozen (p := ⟨w.heap.size, 0, none⟩) (lt_of_cell s4)).trans s7, (hb.frozen (p := ⟨w.heap.size, 1, none⟩) (lt_of_cell s5)).trans s8, (hb.frozen (p := ⟨w.heap.size, 2, none⟩) (lt_of_cell s6)).trans s9⟩
        have HTY := Lib.hid (fun W (h : S W) => (HTX.out W h.1).mono (R' := fun e w' => e = .returned (.string ⟨L.toArray⟩) ∧ S w') fun e w' ⟨he, hb⟩ => ⟨he, hkeep W w' hb h⟩)
        have hput : ∀ W, S W → S (((W.setCell ⟨w.heap.size, 0, none⟩ (.string a)).setCell ⟨w.heap.size, 1, none⟩ (.int .i64 v)).setCell ⟨w.heap.size, 2, none⟩ (.float .f64 u)) := fun W ⟨s0, s1, s2, s3, ⟨q4, s4⟩, ⟨q5, s5⟩, ⟨q6, s6⟩, s7, s8, s9⟩ => by
          have hn : ∀ i j, (⟨w.heap.size, j, none⟩ : Addr) ≠ ⟨w3.heap.size, i, none⟩ := fun i j h => hne (congrArg Addr.block h).symm
          have far : ∀ (U : World) i j q, (U.setCell ⟨w.heap.size, j, none⟩ q).cell? ⟨w3.heap.size, i, none⟩ = U.cell? ⟨w3.heap.size, i, none⟩ := fun U i j q => World.cell?_setCell_other _ _ _ _ (hn i j)
          refine ⟨((s0.setCell (p := ⟨w.heap.size, 0, none⟩) (Nat.le_refl _) _).setCell (p := ⟨w.heap.size, 1, none⟩) (Nat.le_refl _) _).setCell (p := ⟨w.heap.size, 2, none⟩) (Nat.le_refl _) _, by rw [far, far, far]; exact s1, by rw [far, far, far]; exact s2, by rw [far, far, far]; exact s3, put_some _ _ (put_some _ _ (put_some _ _ ⟨q4, s4⟩)), put_some _ _ (put_some _ _ (put_some _ _ ⟨q5, s5⟩)), put_some _ _ (put_some _ _ (put_some _ _ ⟨q6, s6⟩)), ?_, ?_, ?_⟩ <;> simp only [World.frozen?_setCell] <;> assumption
        have HPUT := Lib.hid hput
        clear hkeep hput
        go_region_held3 (fun W => Below w.heap.size w W ∧ W.cell? ⟨w3.heap.size, 0, none⟩ = some (.string a) ∧ W.cell? ⟨w3.heap.size, 1, none⟩ = some (.int .i64 v) ∧ W.cell? ⟨w3.heap.size, 2, none⟩ = some (.float .f64 u) ∧ (∃ q, W.cell? ⟨w.heap.size, 0, none⟩ = some q) ∧ (∃ q, W.cell? ⟨w.heap.size, 1, none⟩ = some q) ∧ (∃ q, W.cell? ⟨w.heap.size, 2, none⟩ = some q) ∧ W.frozen? ⟨w.heap.size, 0, none⟩ = false ∧ W.frozen? ⟨w.heap.size, 1, none⟩ = false ∧ W.frozen? ⟨w.heap.size, 2, none⟩ = false)
          (first | assumption | (apply HPUT.out; assumption))
          ((go_at_call 40; (refine (HTY.out _ ?_).mono ?_); (focus assumption); rintro e w5 ⟨rfl, hS5⟩; obtain ⟨_, _, _, _, ⟨q0, hq0⟩, ⟨q1, hq1⟩, ⟨q2, hq2⟩, f0, f1, f2⟩ := id hS5))
        all_goals
          go_wp2_with fail
          refine bodyPost_ret (v := .tuple #[.agg #[.string a, .int .i64 v, .float .f64 u], .bool (L == s.toList)]) (by simp [results, Tryd.results38, go_sem, hq0, hq1, hq2]) rfl ⟨((hS5.1.setCell (p := ⟨w.heap.size, 0, none⟩) (Nat.le_refl _) _).setCell (p := ⟨w.heap.size, 1, none⟩) (Nat.le_refl _) _).setCell (p := ⟨w.heap.size, 2, none⟩) (Nat.le_refl _) _, ⟨a, v, u⟩, hza, by rw [HX.out.1]; rfl, HX.out.2⟩
    | _ =>
      have hpi2 : ∀ W, Below w.heap.size w W → Calls Tryd.prog 61 #[.string b, .int .i64 10, .int .i64 64] W fun e w' => Below W.heap.size W w' ∧ ∃ (v : Int) (N : Nat), e = .returned (.tuple #[.int .i64 v, .iface 102 (.pointer (some ⟨N, 0, none⟩))]) := fun W hb => (hpi W hb).mono fun e w' h => by
        have h2 := h.2
        rw [hp] at h2
        exact ⟨h.1, h2⟩
      have hsr2 : ∀ W, Below w.heap.size w W → Calls Tryd.prog 8 #[.string c] W fun e w' => Below W.heap.size W w' ∧ ∃ (u : Nat) (n : Int), e = .returned (.tuple #[.float .f64 u, .int .i64 n]) := fun W hb => (hsr W hb).mono fun e w' h => by
        have h2 := h.2
        refine ⟨h.1, ?_⟩
        cases hv : rdVal c.data.toList with
        | none => rw [hv] at h2; exact ⟨_, _, h2⟩
        | some n => rw [hv] at h2; exact ⟨_, _, h2⟩
      have hno : rd s.data.toList = none := by rw [hrd, hp]
      have HX := Lib.hid hno
      have HPI := Lib.hid hpi2
      have HSR := Lib.hid hsr2
      clear htr hsp hps hsz hm hm2 hrd h3 hpi hsr hno hpi2 hsr2 hz0 hB0 k1 k2 hp a1
      go_enter Tryd.func38, Tryd.ntmps38
      go_wp2_with fail
      refine (HTR.out _).mono ?_
      rintro e w1 ⟨rfl, rfl⟩
      go_wp2_with fail
      refine (HSP.out _ ?_).mono ?_
      · exact HM.out _
      rintro e w1 ⟨rfl, rfl⟩
      go_wp2_with fail
      refine (HPI.out _ HB0.out).mono ?_
      rintro e w2 ⟨hb2, v, N, rfl⟩
      have d1 := K1.out.below hb2 (by rw [HZ0.out]; omega)
      have d2 := K2.out.below hb2 (by rw [HZ0.out]; omega)
      have hB2 := HB0.out.trans (hb2.mono HB0.out.size)
      have e2 := d2.cell 2
      have D1 := Lib.hid d1
      have D2 := Lib.hid d2
      have HB2 := Lib.hid hB2
      clear hb2 d1 d2 hB2
      go_wp2_with fail
      refine (HSR.out _ HB2.out).mono ?_
      rintro e w3 ⟨hb3, u, n, rfl⟩
      have d1 := D1.out.below hb3 D1.out.lt
      have d2 := D2.out.below hb3 D2.out.lt
      have hB3 := HB2.out.trans (hb3.mono HB2.out.size)
      have e0 := d2.cell 0
      have E := Lib.hid d1
      have HB3 := Lib.hid hB3
      have b4 := Blk.new w3 35 #[.string a, .int .i64 v, .float .f64 u]
      have d4 := d1.alloc (.cells #[.string a, .int .i64 v, .float .f64 u] 35)
      have hB4 := hB3.alloc hB3.size (.cells #[.string a, .int .i64 v, .float .f64 u] 35)
      have x0 := b4.cell 0
      have x1 := b4.cell 1
      have x2 := b4.cell 2
      have y0 := d4.cell 0
      have y1 := d4.cell 1
      have y2 := d4.cell 2
      have z0 := d4.free 0
      have z1 := d4.free 1
      have z2 := d4.free 2
      have HB4 := Lib.hid hB4
      have hne : w3.heap.size ≠ w.heap.size := by have := d1.lt; omega
      clear hb3 d1 d2 hB3 D1 D2 e2 b4 d4 hB4
      clear_value O1 O2
      go_wp2_with fail
      generalize w3.alloc (.cells #[.string a, .int .i64 v, .float .f64 u] 35) = W4 at *
      go_region
      all_goals
        go_wp2_with fail
        refine bodyPost_ret (v := .tuple #[.agg #[.string a, .int .i64 v, .float .f64 u], .bool false]) (by simp [results, Tryd.results38, go_sem, y0, y1, y2]) rfl ⟨(((HB4.out.setCell (p := ⟨w.heap.size, 0, none⟩) (Nat.le_refl _) _).setCell (p := ⟨w.heap.size, 1, none⟩) (Nat.le_refl _) _).setCell (p := ⟨w.heap.size, 2, none⟩) (Nat.le_refl _) _).drew, ⟨a, v, u⟩, hza, by rw [HX.out]; rfl, fun y hy => by rw [HX.out] at hy; cases hy⟩
  · have hrd : rd s.data.toList = none := by
      unfold rd
      rw [← hps]
      match ps, h3 with
      | [], _ => rfl
      | [_], _ => rfl
      | [_, _], _ => rfl
      | [_, _, _], h => exact absurd rfl h
      | _ :: _ :: _ :: _ :: _, _ => rfl
    have hne : ((ps.length : Int) != 3) = true := by rw [bne_iff_ne]; omega
    have HX := Lib.hid hrd
    clear htr hsp hps hsz hm hm2 hrd h3
    go_enter Tryd.func38, Tryd.ntmps38
    go_wp2_with fail
    refine (HTR.out _).mono ?_
    rintro e w1 ⟨rfl, rfl⟩
    go_wp2_with fail
    refine (HSP.out _ ?_).mono ?_
    · exact HM.out _
    rintro e w1 ⟨rfl, rfl⟩
    go_wp2_with fail
    refine bodyPost_ret (v := .tuple #[.agg #[.string ⟨#[]⟩, .int .i64 0, .float .f64 0], .bool false]) (by simp [results, Tryd.results38, go_sem]) rfl ⟨((Below.refl _ _).alloc (Nat.le_refl _) _).alloc (by simp) _, ⟨⟨#[]⟩, 0, 0⟩, Nat.zero_le _, ?_, ?_⟩
    · rw [HX.out]; rfl
    · intro y hy; rw [HX.out] at hy; cases hy
end Log
end Go.Proofs.YtmoodinalncplaaDoor
