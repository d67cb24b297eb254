/- The plain law of the log: what is printed is read as the same stamps, what is read is printed as the same text, and the line that is told as wrong is the first one. -/
import Derived.Test.YtmoodinalncplaaDoorLogS
namespace Go.Proofs.YtmoodinalncplaaDoor
open Go.RowKit
namespace Log

/-! lines -/
theorem lines_flatten (l : List UInt8) : (lines l).flatten = l := by
  induction l with
  | nil => rfl
  | cons c l ih =>
    rw [lines]
    split
    · next h => subst h; simp [ih]
    · cases hl : lines l with
      | nil => rw [hl] at ih; simp at ih; subst ih; rfl
      | cons x xs => rw [hl] at ih; simp only [List.flatten_cons] at ih ⊢; rw [List.cons_append, ih]

theorem lines_cut (a l : List UInt8) (h : 10 ∉ a) : lines (a ++ 10 :: l) = (a ++ [10]) :: lines l := by
  induction a with
  | nil => simp [lines]
  | cons c a ih =>
    have hc : c ≠ 10 := fun e => h (by rw [e]; simp)
    rw [List.cons_append, lines, if_neg hc, ih (fun hm => h (List.mem_cons_of_mem _ hm))]
    rfl

theorem lines_last (a : List UInt8) (h : 10 ∉ a) (hne : a ≠ []) : lines a = [a] := by
  induction a with
  | nil => exact absurd rfl hne
  | cons c a ih =>
    have hc : c ≠ 10 := fun e => h (by rw [e]; simp)
    rw [lines, if_neg hc]
    cases a with
    | nil => rfl
    | cons d a => rw [ih (fun hm => h (List.mem_cons_of_mem _ hm)) (by simp)]

/-- where the first newline is -/
theorem cut_at (l : List UInt8) : 10 ∉ l ∨ ∃ a r, l = a ++ 10 :: r ∧ 10 ∉ a := by
  induction l with
  | nil => left; simp
  | cons c l ih =>
    by_cases hc : c = 10
    · exact .inr ⟨[], l, by rw [hc]; rfl, by simp⟩
    · rcases ih with h | ⟨a, r, e, h⟩
      · exact .inl (by simp [Ne.symm hc, h])
      · exact .inr ⟨c :: a, r, by rw [e]; rfl, by simp [Ne.symm hc, h]⟩

/-- the first k lines are the lines of what they make; they hold k newlines if there are more -/
theorem lines_take (k : Nat) : ∀ l, k ≤ (lines l).length → lines ((lines l).take k).flatten = (lines l).take k ∧ (k < (lines l).length → ((lines l).take k).flatten.count 10 = k ∧ (0 < k → ∃ p, ((lines l).take k).flatten = p ++ [10])) := by
  induction k with
  | zero => intro l _; exact ⟨rfl, fun _ => ⟨rfl, fun h => absurd h (by omega)⟩⟩
  | succ k ih =>
    intro l hk
    rcases cut_at l with h | ⟨a, r, rfl, h⟩
    · cases l with
      | nil => simp [lines] at hk
      | cons c l =>
        rw [lines_last _ h (by simp)] at hk ⊢
        simp at hk
        subst hk
        refine ⟨by simp [lines_last _ h (by simp)], fun hlt => by simp at hlt⟩
    · rw [lines_cut a r h] at hk ⊢
      simp only [List.length_cons, Nat.add_le_add_iff_right] at hk
      obtain ⟨h1, h2⟩ := ih r hk
      rw [List.take_succ_cons, List.flatten_cons]
      refine ⟨?_, fun hlt => ?_⟩
      · rw [List.append_assoc, List.singleton_append, lines_cut a _ h, h1]
      · simp only [List.length_cons, Nat.add_lt_add_iff_right] at hlt
        obtain ⟨h3, h4⟩ := h2 hlt
        refine ⟨?_, fun _ => ?_⟩
        · rw [List.count_append, List.count_append, h3, List.count_eq_zero_of_not_mem h]
          simp; omega
        · cases k with
          | zero => exact ⟨a, by simp⟩
          | succ k =>
            obtain ⟨p, hp⟩ := h4 (by omega)
            exact ⟨a ++ [10] ++ p, by rw [hp]; simp⟩

/-! a stamp's line is read -/
theorem sgn_no {c : UInt8} (h : sgn c = true) : c ≠ 10 ∧ c ≠ 32 := by
  constructor <;> (rintro rfl; revert h; decide +kernel)

theorem nm_no {l : List UInt8} (h : nmOk l = true) : 10 ∉ l ∧ 32 ∉ l := by
  unfold nmOk at h
  simp only [Bool.and_eq_true, List.all_eq_true] at h
  exact ⟨fun hm => (sgn_no (h.2 _ hm)).1 rfl, fun hm => (sgn_no (h.2 _ hm)).2 rfl⟩

theorem dec_digit (u : Nat) : ∀ c ∈ Lib.decDigits u, 48 ≤ c.toNat ∧ c.toNat ≤ 57 := by
  induction u using Nat.strongRecOn with
  | _ u ih =>
    intro c hc
    rw [Lib.decDigits] at hc
    split at hc
    · next h =>
      rw [List.mem_singleton] at hc; subst hc
      rw [UInt8.toNat_ofNat_of_lt' (by show _ < 256; omega)]; omega
    · next h =>
      rw [List.mem_append] at hc
      rcases hc with hc | hc
      · exact ih _ (by omega) c hc
      · rw [List.mem_singleton] at hc; subst hc
        rw [UInt8.toNat_ofNat_of_lt' (by show _ < 256; omega)]; omega

theorem itoa_no {t : Int} (h : 0 ≤ t) : 10 ∉ Lib.itoa t ∧ 32 ∉ Lib.itoa t := by
  unfold Lib.itoa
  rw [if_neg (by omega)]
  exact ⟨fun hm => by have := dec_digit _ _ hm; simp at this, fun hm => by have := dec_digit _ _ hm; simp at this⟩

theorem hexdig_no (d : Nat) (h : d < 16) : Hex.dig d ≠ 10 ∧ Hex.dig d ≠ 32 := by
  have : ∀ d : Fin 16, Hex.dig d.val ≠ 10 ∧ Hex.dig d.val ≠ 32 := by decide +kernel
  exact this ⟨d, h⟩

theorem fix_no (k u : Nat) : 10 ∉ Hex.fix k u ∧ 32 ∉ Hex.fix k u := by
  induction k generalizing u with
  | zero => simp [Hex.fix]
  | succ k ih =>
    have h := hexdig_no (u % 16) (Nat.mod_lt _ (by omega))
    have h2 := ih (u / 16)
    simp only [Hex.fix, List.mem_append, List.mem_singleton, not_or]
    exact ⟨⟨h2.1, Ne.symm h.1⟩, ⟨h2.2, Ne.symm h.2⟩⟩

theorem index_one (c : UInt8) (a l : List UInt8) (h : c ∉ a) : Lib.index (a ++ c :: l) [c] = a.length := by
  induction a with
  | nil => rw [List.nil_append, Lib.index]; simp [List.isPrefixOf]
  | cons b a ih =>
    have hb : b ≠ c := fun e => h (by rw [e]; simp)
    have ih' := ih (fun hm => h (List.mem_cons_of_mem _ hm))
    rw [List.cons_append, Lib.index]
    have hp : ([c] : List UInt8).isPrefixOf (b :: (a ++ c :: l)) = false := by simp [List.isPrefixOf, Ne.symm hb]
    rw [hp, ih']
    simp

theorem splitK_cut (c : UInt8) (k : Nat) (a l : List UInt8) (h : c ∉ a) : Lib.splitK [c] 0 (k + 1) (a ++ c :: l) = a :: Lib.splitK [c] 0 k l := by
  rw [Lib.splitK, index_one c a l h]
  have : ¬ ((a.length : Int) == -1) = true := fun e => by have := beq_iff_eq.1 e; omega
  rw [if_neg this]
  simp

theorem split_three (a b c : List UInt8) (ha : 32 ∉ a) (hb : 32 ∉ b) (hc : 32 ∉ c) : Lib.split (a ++ 32 :: (b ++ 32 :: c)) [32] = [a, b, c] := by
  have hcnt : Lib.count (a ++ 32 :: (b ++ 32 :: c)) [32] = 2 := by
    rw [Lib.count_one, List.count_append, List.count_cons_self, List.count_append, List.count_cons_self, List.count_eq_zero_of_not_mem ha, List.count_eq_zero_of_not_mem hb, List.count_eq_zero_of_not_mem hc]
  rw [Lib.split, hcnt, splitK_cut 32 1 a _ ha, splitK_cut 32 0 b _ hb]
  rfl

theorem trim_end (a : List UInt8) : Lib.trimSuffix (a ++ [10]) [10] = a := by
  unfold Lib.trimSuffix Lib.hasSuffix
  rw [if_pos (by simp)]
  simp

theorem toNat_dig {d : Nat} (h : d < 10) : (UInt8.ofNat (48 + d)).toNat = 48 + d := UInt8.toNat_ofNat_of_lt' (by show _ < 256; omega)

theorem parseM_dec (M : Nat) : ∀ u, u ≤ M → u ≤ 1099511627776 → ∀ r, Lib.parseUintM M 0 (Lib.decDigits u ++ r) = Lib.parseUintM M u r := by
  intro u
  induction u using Nat.strongRecOn with
  | _ u ih =>
    intro hu h64 r
    rw [Lib.decDigits]
    split
    · next h =>
      rw [List.singleton_append, Lib.parseUintM, toNat_dig h, if_pos (by omega), if_neg (by omega), if_neg (by omega)]
      congr 1
      omega
    · next h =>
      rw [List.append_assoc, ih (u / 10) (by omega) (by omega) (by omega), List.singleton_append, Lib.parseUintM, toNat_dig (Nat.mod_lt _ (by omega)), if_pos (by omega), if_neg (by omega), if_neg (by omega)]
      congr 1
      omega

theorem parse_itoa {t : Int} (h0 : 0 ≤ t) (h1 : t ≤ 1099511627776) : Lib.parseIntB 64 (Lib.itoa t) = .ok t := by
  obtain ⟨u, rfl⟩ := Int.eq_ofNat_of_zero_le h0
  have hu : u ≤ 1099511627776 := by omega
  have hit : Lib.itoa (u : Int) = Lib.decDigits u := by unfold Lib.itoa; rw [if_neg (by omega)]; simp
  rw [hit]
  cases hd : Lib.decDigits u with
  | nil => have := Lib.decDigits_length u; rw [hd] at this; rw [Lib.decDigits] at hd; split at hd <;> simp at hd
  | cons c r =>
    have hc := dec_digit u c (by rw [hd]; simp)
    have hp : Lib.parseUintB 64 (c :: r) = .ok u := by
      rw [Lib.parseUintB, if_neg (by simp), ← hd, ← List.append_nil (Lib.decDigits u), parseM_dec _ u (by omega) hu]
      rfl
    unfold Lib.parseIntB
    simp only
    rw [if_neg (by omega), hp]
    simp only
    rw [if_neg (by omega), if_neg (by omega), if_neg (by omega)]

theorem stErr_zero {x : St} (h : stErr x = 0) : nmOk x.nm.data.toList = true ∧ 0 ≤ x.t ∧ x.t ≤ 1099511627776 ∧ rightB x.u = true := by
  unfold stErr at h
  split at h
  · cases h
  · next h1 =>
    split at h
    · cases h
    · next h2 =>
      split at h
      · cases h
      · next h3 => exact ⟨by simpa using h1, by omega, by omega, by simpa using h3⟩

theorem line_eq (x : St) : x.line = (x.nm.data.toList ++ 32 :: (Lib.itoa x.t ++ 32 :: Hex.fix 16 x.u)) ++ [10] := by
  simp [St.line, line]

theorem line_no {x : St} (h : stErr x = 0) : 10 ∉ (x.nm.data.toList ++ 32 :: (Lib.itoa x.t ++ 32 :: Hex.fix 16 x.u)) := by
  obtain ⟨h1, h2, _, _⟩ := stErr_zero h
  simp [(nm_no h1).1, (itoa_no h2).1, (fix_no 16 x.u).1]

theorem rd_line {x : St} (hu : x.u < 18446744073709551616) (h : stErr x = 0) : rd x.line = some x := by
  obtain ⟨h1, h2, h3, _⟩ := stErr_zero h
  unfold rd
  rw [line_eq, trim_end, split_three _ _ _ (nm_no h1).2 (itoa_no h2).2 (fix_no 16 x.u).2]
  simp only
  rw [parse_itoa h2 h3, rdVal_fix x.u hu]
  simp only
  rw [if_pos (by simp [line])]

theorem rd_some {s : List UInt8} {x : St} (h : rd s = some x) : x.line = s := by
  unfold rd at h
  split at h
  · split at h
    · split at h
      · next he => injection h with h; subst h; exact he
      · cases h
    · cases h
  · cases h

theorem lines_text (l : List St) (h : ∀ x ∈ l, stErr x = 0) : lines (text l) = l.map St.line := by
  induction l with
  | nil => rfl
  | cons x l ih =>
    rw [text, List.map_cons, List.flatten_cons, line_eq, List.append_assoc, List.singleton_append, lines_cut _ _ (line_no (h x (by simp)))]
    rw [show (l.map St.line).flatten = text l from rfl, ih (fun y hy => h y (by simp [hy]))]

/-! Check -/
theorem stErrs_zero {l : List St} : stErrs l = 0 ↔ ∀ x ∈ l, stErr x = 0 := by
  induction l with
  | nil => simp [stErrs]
  | cons x l ih =>
    rw [stErrs]
    split
    · next h => rw [ih]; simp [h]
    · next h => simp [h]

theorem chk_zero {l : List St} : chk l = 0 ↔ l.length ≤ 200 ∧ (∀ x ∈ l, stErr x = 0) ∧ rises l = true := by
  unfold chk
  split
  · next h => constructor
              · intro h'; cases h'
              · rintro ⟨h', _⟩; omega
  · next h =>
    split
    · next h1 =>
      rw [← stErrs_zero]
      cases rises l <;> simp [h1]; omega
    · next h1 =>
      rw [← stErrs_zero]
      simp [h1]

theorem rises_snoc (l : List St) (x : St) : rises (l ++ [x]) = (rises l && rises (last2 (l ++ [x]))) := by
  induction l with
  | nil => simp [rises, last2]
  | cons y l ih =>
    cases l with
    | nil => simp [rises, last2]
    | cons z l =>
      have e1 : last2 (y :: z :: l ++ [x]) = last2 (z :: l ++ [x]) := by
        unfold last2
        simp
      rw [e1]
      simp only [List.cons_append] at ih ⊢
      rw [rises, ih, rises]
      cases decide (y.t ≤ z.t) <;> simp

theorem last2_le (l : List St) : (last2 l).length ≤ 2 := by unfold last2; rw [List.length_drop]; omega
theorem last2_mem {l : List St} {x : St} (h : x ∈ last2 l) : x ∈ l := List.mem_of_mem_drop h
theorem mem_last2 (l : List St) (x : St) : x ∈ last2 (l ++ [x]) := by
  unfold last2
  cases l with
  | nil => simp
  | cons y l => rw [List.drop_append_of_le_length (by simp)]; simp

theorem chk_snoc (l : List St) (x : St) : chk (l ++ [x]) = 0 ↔ l.length < 200 ∧ chk l = 0 ∧ chk (last2 (l ++ [x])) = 0 := by
  rw [chk_zero, chk_zero, chk_zero, rises_snoc]
  have := last2_le (l ++ [x])
  simp only [List.length_append, List.length_singleton, Bool.and_eq_true]
  constructor
  · rintro ⟨h1, h2, h3, h4⟩
    exact ⟨by omega, ⟨by omega, fun y hy => h2 y (by simp [hy]), h3⟩, by omega, fun y hy => h2 y (last2_mem hy), h4⟩
  · rintro ⟨h1, ⟨_, h2, h3⟩, _, h4, h5⟩
    refine ⟨by omega, fun y hy => ?_, h3, h5⟩
    rw [List.mem_append] at hy
    rcases hy with hy | hy
    · exact h2 y hy
    · simp at hy; subst hy; exact h4 _ (mem_last2 l _)

/-! Parse -/
/-- what Parse has read so far is right -/
theorem parseGo_ok : ∀ (ls : List (List UInt8)) (out a : List St) (n : Nat), chk out = 0 → parseGo out ls = (a, n, 0) → n = 0 ∧ chk a = 0 ∧ ∃ l, a = out ++ l ∧ l.map St.line = ls
  | [], out, a, n, hc, h => by
    simp only [parseGo, Prod.mk.injEq] at h
    obtain ⟨rfl, rfl, _⟩ := h
    exact ⟨rfl, hc, [], by simp, rfl⟩
  | s :: ls, out, a, n, hc, h => by
    rw [parseGo] at h
    split at h
    · simp at h
    · next hlen =>
      split at h
      · simp at h
      · next x hx =>
        split at h
        · next hc2 =>
          obtain ⟨h1, h2, l, h3, h4⟩ := parseGo_ok ls (out ++ [x]) a n ((chk_snoc out x).2 ⟨by omega, hc, hc2⟩) h
          exact ⟨h1, h2, x :: l, by rw [h3]; simp, by rw [List.map_cons, h4, rd_some hx]⟩
        · simp at h

theorem chk_part (l m : List St) : chk (l ++ m) = 0 → chk l = 0 := by
  induction m generalizing l with
  | nil => simp
  | cons y m ih => intro h; rw [show l ++ y :: m = (l ++ [y]) ++ m by simp] at h; exact ((chk_snoc _ _).1 (ih _ h)).2.1

theorem parseGo_text : ∀ (l out : List St), (∀ x ∈ l, x.u < 18446744073709551616) → chk (out ++ l) = 0 → parseGo out (l.map St.line) = (out ++ l, 0, 0)
  | [], out, _, _ => by simp [parseGo]
  | x :: l, out, hu, hc => by
    have e : out ++ x :: l = (out ++ [x]) ++ l := by simp
    have hz := chk_zero.1 hc
    have hx : stErr x = 0 := hz.2.1 x (by simp)
    have hc2 : chk (out ++ [x]) = 0 := by
      rw [e] at hc
      exact chk_part _ _ hc
    have h3 := (chk_snoc out x).1 hc2
    rw [List.map_cons, parseGo, if_neg (by omega), rd_line (hu x (by simp)) hx]
    simp only
    rw [if_pos h3.2.2, parseGo_text l (out ++ [x]) (fun y hy => hu y (by simp [hy])) (by rw [← e]; exact hc), e]

/-- printed stamps are parsed as they were -/
theorem parse_text (l : List St) (hu : ∀ x ∈ l, x.u < 18446744073709551616) (hc : chk l = 0) (hl : (text l).length ≤ 20000) : parse (text l) = (l, 0, 0) := by
  rw [parse, if_neg (by omega), lines_text l (chk_zero.1 hc).2.1, parseGo_text l [] hu (by simpa using hc)]
  simp

/-- parsed stamps are printed as the text -/
theorem text_parse {s : List UInt8} {a : List St} {n : Nat} (h : parse s = (a, n, 0)) : n = 0 ∧ chk a = 0 ∧ text a = s := by
  unfold parse at h
  split at h
  · simp at h
  · obtain ⟨h1, h2, l, h3, h4⟩ := parseGo_ok _ _ _ _ (by rfl) h
    simp at h3
    subst h3
    exact ⟨h1, h2, by rw [text, h4, lines_flatten]⟩

theorem parseGo_err : ∀ (ls : List (List UInt8)) (out a : List St) (n : Nat) (e : Int), parseGo out ls = (a, n, e) → e ≠ 0 → a = [] ∧ out.length < n ∧ n ≤ out.length + ls.length ∧ (chk out = 0 → ∃ l, parseGo out (ls.take (n - 1 - out.length)) = (out ++ l, 0, 0) ∧ (out ++ l).length = n - 1)
  | [], out, a, n, e, h, he => by
    simp only [parseGo, Prod.mk.injEq] at h
    exact absurd h.2.2.symm he
  | s :: ls, out, a, n, e, h, he => by
    have stop : ∀ (e' : Int), (([], out.length + 1, e') : List St × Nat × Int) = (a, n, e) → a = [] ∧ out.length < n ∧ n ≤ out.length + (s :: ls).length ∧ (chk out = 0 → ∃ l, parseGo out ((s :: ls).take (n - 1 - out.length)) = (out ++ l, 0, 0) ∧ (out ++ l).length = n - 1) := fun e' h' => by
      simp only [Prod.mk.injEq] at h'
      obtain ⟨rfl, rfl, _⟩ := h'
      refine ⟨rfl, by omega, by simp, fun _ => ⟨[], by rw [show out.length + 1 - 1 - out.length = 0 by omega]; simp [parseGo], by simp⟩⟩
    rw [parseGo] at h
    split at h
    · exact stop _ h
    · next hlen =>
      split at h
      · exact stop _ h
      · next x hx =>
        split at h
        · next hc2 =>
          obtain ⟨h1, h2, h3, h4⟩ := parseGo_err ls (out ++ [x]) a n e h he
          simp only [List.length_append, List.length_singleton] at h2 h3 h4
          refine ⟨h1, by omega, by simp; omega, fun hc => ?_⟩
          obtain ⟨l, h5, h6⟩ := h4 ((chk_snoc out x).2 ⟨by omega, hc, hc2⟩)
          refine ⟨x :: l, ?_, by simp at h6 ⊢; omega⟩
          obtain ⟨m, hm⟩ : ∃ m, n - 1 - out.length = m + 1 := ⟨n - 1 - (out.length + 1), by omega⟩
          rw [hm, List.take_succ_cons, parseGo, if_neg hlen, hx]
          simp only
          rw [if_pos hc2, show m = n - 1 - (out.length + 1) by omega, h5]
          simp
        · exact stop _ h

/-- an error tells a line, or 0 -/
theorem parse_err {s : List UInt8} {a : List St} {n : Nat} {e : Int} (h : parse s = (a, n, e)) (he : e ≠ 0) : a = [] := by
  unfold parse at h
  split at h
  · simp at h; exact h.1
  · exact (parseGo_err _ _ _ _ _ h he).1

/-- the bytes ahead of line n: as far as the text goes, n - 1 newlines are counted -/
def ahead (s : List UInt8) (n : Nat) : Nat := ((lines s).take (n - 1)).flatten.length

theorem ahead_take (s : List UInt8) (n : Nat) : s.take (ahead s n) = ((lines s).take (n - 1)).flatten := by
  have h := lines_flatten s
  have h2 : ((lines s).take (n - 1)).flatten ++ ((lines s).drop (n - 1)).flatten = s := by rw [← List.flatten_append, List.take_append_drop, h]
  have h3 : s.take (ahead s n) = (((lines s).take (n - 1)).flatten ++ ((lines s).drop (n - 1)).flatten).take (ahead s n) := by rw [h2]
  rw [h3, ahead, List.take_append_of_le_length (Nat.le_refl _), List.take_length]

theorem ahead_le (s : List UInt8) (n : Nat) : ahead s n ≤ s.length := by
  have := ahead_take s n
  have h2 := congrArg List.length this
  rw [List.length_take] at h2
  unfold ahead at *
  omega

/-- the wrong line that is told: what is ahead of it is right -/
theorem parse_wrong {s : List UInt8} {a : List St} {n : Nat} (h : parse s = (a, n, 3)) :
    0 < n ∧ n ≤ (lines s).length ∧ ∃ l, parse (s.take (ahead s n)) = (l, 0, 0) ∧ l.length = n - 1 := by
  unfold parse at h
  split at h
  · simp at h
  · next hl =>
    obtain ⟨h1, h2, h3, h4⟩ := parseGo_err _ _ _ _ _ h (by decide)
    simp only [List.length_nil, Nat.zero_add, Nat.sub_zero, List.nil_append] at h2 h3 h4
    obtain ⟨l, h5, h6⟩ := h4 rfl
    refine ⟨h2, h3, l, ?_, h6⟩
    rw [ahead_take]
    have hle : ((lines s).take (n - 1)).flatten.length ≤ s.length := ahead_le s n
    rw [parse, if_neg (by omega), (lines_take (n - 1) s (by omega)).1, h5]

/-- where the walk of LogWrong comes to: from any place up to there fewer newlines lie behind -/
theorem ahead_count {s : List UInt8} {n : Nat} (h0 : 0 < n) (hn : n ≤ (lines s).length) : (s.take (ahead s n)).count 10 = n - 1 ∧ ∀ e, e < ahead s n → (s.take e).count 10 < n - 1 := by
  obtain ⟨_, h2⟩ := lines_take (n - 1) s (by omega)
  obtain ⟨h3, h4⟩ := h2 (by omega)
  rw [ahead_take]
  refine ⟨h3, fun e he => ?_⟩
  have hpos : 0 < n - 1 := by
    rcases Nat.eq_zero_or_pos (n - 1) with hz | hz
    · rw [ahead, hz] at he; simp at he
    · exact hz
  obtain ⟨p, hp⟩ := h4 hpos
  have hlen : ahead s n = p.length + 1 := by rw [ahead, hp]; simp
  have h5 : s.take e = p.take e := by
    have : s.take e = (s.take (ahead s n)).take e := by rw [List.take_take, Nat.min_eq_left (by omega)]
    rw [this, ahead_take, hp, List.take_append_of_le_length (by omega)]
  have h6 : p.count 10 + 1 = n - 1 := by rw [← h3, hp, List.count_append]; simp
  rw [h5]
  have : (p.take e).count 10 ≤ p.count 10 := List.Sublist.count_le _ (List.take_sublist _ _)
  omega
end Log
end Go.Proofs.YtmoodinalncplaaDoor
