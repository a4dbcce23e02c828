/- Lemmas for the claim: a calculus of steps over the given program, plain laws, and the contracts of its functions. -/
import Derived.Lib.ItoaLen
import Derived.Lib.AtoiAll
import Derived.Lib.AtoiAllCases
import Derived.Lib.Atoi
import Derived.Test.YtinbfghmnfldjaaDoorProg
import Derived.Shelf.Abstract
import Derived.Lib.IndexLaws
import Derived.Lib.SplitLaws
import Derived.Lib.IndexBytes
import Derived.Shelf.Strings.Builder1
import Derived.Shelf.Small.Strs
import Derived.Shelf.Strconv.Itoa1
import Derived.Shelf.LaysM
import Derived.Shelf.Strconv.Itoa2
import Derived.Shelf.Strconv.Itoa3
import Derived.Shelf.LaysC
import Derived.Shelf.Strconv.AtoiAll
import Derived.Shelf.Strings.Search1
import Derived.Shelf.Strings.Search2
import Derived.Shelf.Strings.Search3
import Derived.Shelf.Strings.Cut
import Derived.Shelf.Strings.Count
import Derived.Shelf.Strings.Prefix
import Derived.Shelf.Strings.Split
import Derived.Lib.AppendIntMem
import Derived.Lib.AtoiErrMem
import Derived.Test.YtinbfghmnfldjaaDoorB0
set_option linter.unusedSimpArgs false
set_option linter.unusedVariables false
namespace Go.Scr
open Go Go.Lib
def InR (v : Int) : Prop := -9223372036854775808 ≤ v ∧ v ≤ 9223372036854775807
theorem decFrom_append : ∀ (a b : List UInt8) (acc : Nat), decFrom acc (a ++ b) = (decFrom acc a).bind (fun n => decFrom n b)
  | [], b, acc => rfl
  | c :: a, b, acc => by
    simp only [List.cons_append, decFrom]
    cases digitVal c with
    | none => rfl
    | some d => exact decFrom_append a b _
theorem decFrom_mono : ∀ (l : List UInt8) (acc n : Nat), decFrom acc l = some n → acc ≤ n
  | [], acc, n, h => by simp [decFrom] at h; omega
  | c :: l, acc, n, h => by
    simp only [decFrom] at h
    cases hc : digitVal c with
    | none => rw [hc] at h; cases h
    | some d => rw [hc] at h; have := decFrom_mono l _ _ h; omega
theorem digitVal_ofNat (d : Nat) (h : d < 10) : digitVal (UInt8.ofNat (48 + d)) = some d := by
  unfold digitVal
  have : (UInt8.ofNat (48 + d)).toNat = 48 + d := by simp; omega
  rw [this, if_pos (by omega)]; simp
theorem decFrom_digits (u : Nat) : decFrom 0 (decDigits u) = some u := by
  induction u using Nat.strongRecOn with
  | _ u ih =>
    by_cases h : u < 10
    · rw [decDigits_one h]; simp only [decFrom, digitVal_ofNat u h]; simp
    · rw [decDigits, dif_neg h, decFrom_append, ih (u / 10) (by omega)]
      simp only [Option.bind_some, decFrom, digitVal_ofNat (u % 10) (by omega)]
      congr 1; omega
theorem parse_of_dec : ∀ (l : List UInt8) (acc n : Nat), decFrom acc l = some n → n < 18446744073709551616 → parseUint10 acc l = .ok n
  | [], acc, n, h, _ => by simp [decFrom] at h; subst h; rfl
  | c :: l, acc, n, h, hn => by
    simp only [decFrom] at h
    cases hc : digitVal c with
    | none => rw [hc] at h; cases h
    | some d =>
      rw [hc] at h
      simp only at h
      have hm := decFrom_mono l _ _ h
      unfold digitVal at hc
      split at hc
      · rename_i hd
        injection hc with hc
        simp only [parseUint10, if_pos hd]
        rw [if_neg (by omega), if_neg (by omega), hc]
        exact parse_of_dec l _ n h hn
      · cases hc
theorem decDigits_ne (u : Nat) : decDigits u ≠ [] := by
  intro h
  have := decDigits_length u
  rw [h] at this; have := nDigits_pos u; simp at *; omega
theorem decDigits_head (u : Nat) (c : UInt8) (r : List UInt8) (h : decDigits u = c :: r) : 48 ≤ c.toNat ∧ c.toNat ≤ 57 := by
  have h1 := digit_of_decFrom _ _ _ (decFrom_digits u) 0 c (by rw [h]; rfl)
  obtain ⟨d, hd⟩ := h1
  unfold digitVal at hd
  split at hd
  · assumption
  · cases hd
theorem atoiAll_itoa (v : Int) (h : InR v) : atoiAll (itoa v) = .ok v := by
  obtain ⟨h1, h2⟩ := h
  unfold itoa
  split
  · rename_i hn
    rw [atoiAll_minus]
    unfold parseMag
    rw [if_neg (decDigits_ne _), parse_of_dec _ _ _ (decFrom_digits _) (by omega)]
    simp only [signed]
    rw [if_neg (by omega)]
    congr 1; omega
  · rename_i hn
    cases hd : decDigits v.toNat with
    | nil => exact absurd hd (decDigits_ne _)
    | cons c r =>
      have := decDigits_head _ _ _ hd
      rw [atoiAll_plain c r (by omega) (by omega), ← hd]
      unfold parseMag
      rw [if_neg (decDigits_ne _), parse_of_dec _ _ _ (decFrom_digits _) (by omega)]
      simp only [signless]
      rw [if_neg (by omega)]
      congr 1; omega
/-- a number as the script spells it -/
def num (l : List UInt8) : Option Int := match atoiAll l with
  | .ok v => if itoa v = l then some v else none
  | _ => none
theorem num_some {l : List UInt8} {v : Int} : num l = some v ↔ InR v ∧ l = itoa v := by
  constructor
  · intro h
    unfold num at h
    split at h
    · rename_i u hu
      split at h
      · rename_i he
        injection h with h
        subst h
        exact ⟨atoiAll_bounds hu, he.symm⟩
      · cases h
    · cases h
  · rintro ⟨h, rfl⟩
    unfold num
    rw [atoiAll_itoa v h]
    simp
theorem num_itoa (v : Int) (h : InR v) : num (itoa v) = some v := num_some.2 ⟨h, rfl⟩
/-- what a number's text is made of -/
theorem itoa_shape (v : Int) (h : InR v) : ∃ s, (s = if v < 0 then 1 else 0) ∧ s < (itoa v).length ∧ (itoa v).length ≤ 20 ∧ decFrom 0 ((itoa v).drop s) = some v.natAbs ∧ (v < 0 → (itoa v)[0]? = some 45) ∧ (¬ v < 0 → (itoa v)[0]? ≠ some 45) := by
  obtain ⟨h1, h2⟩ := h
  have hl : nDigits v.natAbs ≤ 19 := by
    by_cases hc : nDigits v.natAbs ≤ 19
    · exact hc
    · exfalso
      have h3 : ∀ k u, 1 ≤ u → nDigits u = k + 1 → 10 ^ k ≤ u := by
        intro k
        induction k with
        | zero => intro u hu _; simpa using hu
        | succ k ih =>
          intro u hu hk
          by_cases h10 : u < 10
          · rw [nDigits_small h10] at hk; omega
          · rw [nDigits_big h10] at hk
            have := ih (u / 10) (by omega) (by omega)
            rw [Nat.pow_succ]; omega
      have h4 : nDigits v.natAbs ≤ 20 := nDigits_le20 _ (by omega)
      have h5 : nDigits v.natAbs = 19 + 1 := by omega
      have h6 : 1 ≤ v.natAbs := by
        rcases Nat.eq_zero_or_pos v.natAbs with h0 | h0
        · rw [h0, nDigits_small (by omega)] at h5; omega
        · exact h0
      have := h3 19 _ h6 h5
      omega
  have hne := decDigits_ne v.natAbs
  have hlen := decDigits_length v.natAbs
  by_cases hn : v < 0
  · refine ⟨1, by rw [if_pos hn], ?_⟩
    unfold itoa
    rw [if_pos hn]
    refine ⟨?_, ?_, ?_, by simp, fun h => absurd hn h⟩
    · have := nDigits_pos v.natAbs
      simp only [List.length_cons]; omega
    · simp only [List.length_cons]; omega
    · exact decFrom_digits _
  · refine ⟨0, by rw [if_neg hn], ?_⟩
    unfold itoa
    rw [if_neg hn]
    have e : v.toNat = v.natAbs := by omega
    rw [e]
    refine ⟨?_, ?_, ?_, fun h => absurd h hn, fun _ => ?_⟩
    · have := nDigits_pos v.natAbs
      omega
    · omega
    · exact decFrom_digits _
    · cases hd : decDigits v.natAbs with
      | nil => exact absurd hd hne
      | cons c r =>
        have := decDigits_head _ _ _ hd
        simp only [List.getElem?_cons_zero, ne_eq, Option.some.injEq]
        rintro rfl
        simp at this
end Go.Scr
namespace Go.Scr
open Go Go.Lib
theorem u8eq (u : UInt8) : ((u.toNat : Int) = 45) = (u = 45) := by
  apply propext
  constructor
  · intro h; apply UInt8.toNat_inj.1; simpa using (by omega : u.toNat = 45)
  · rintro rfl; rfl
theorem val_q {v : Int} {q : Nat} (h : InR v) (hq : q = if (itoa v)[0]? = some 45 then 1 else 0) : (q = if v < 0 then 1 else 0) ∧ q < (itoa v).length ∧ (itoa v).length ≤ 20 ∧ decFrom 0 ((itoa v).drop q) = some v.natAbs := by
  obtain ⟨s, hs, h1, h2, h3, h4, h5⟩ := itoa_shape v h
  have : q = s := by
    rw [hq, hs]
    by_cases hn : v < 0
    · rw [if_pos (h4 hn), if_pos hn]
    · rw [if_neg (h5 hn), if_neg hn]
  subst this
  exact ⟨hs, h1, h2, h3⟩
theorem num_none {l : List UInt8} (h : ∀ v, InR v → l = itoa v → False) : num l = none := by
  cases hn : num l with
  | none => rfl
  | some v => exact (h v (num_some.1 hn).1 (num_some.1 hn).2).elim
theorem val_len (l : List UInt8) (q : Nat) (hq : q = if l[0]? = some 45 then 1 else 0) (h : l.length ≤ q ∨ 20 < l.length) : num l = none :=
  num_none fun v hv e => by subst e; have := val_q hv hq; omega
theorem drop_split (l : List UInt8) (q i : Nat) (hi : q ≤ i) (u : UInt8) (hu : l[i]? = some u) : l.drop q = (l.drop q).take (i - q) ++ u :: l.drop (i + 1) := by
  conv => lhs; rw [← List.take_append_drop (i - q) (l.drop q)]
  congr 1
  rw [List.drop_drop, show q + (i - q) = i by omega]
  obtain ⟨hlt, hu⟩ := List.getElem?_eq_some_iff.1 hu
  rw [List.drop_eq_getElem_cons hlt, hu]
theorem digitVal_none (u : UInt8) (h : ¬ (48 ≤ u.toNat ∧ u.toNat ≤ 57)) : digitVal u = none := by unfold digitVal; rw [if_neg h]
theorem digitVal_some (u : UInt8) (h : 48 ≤ u.toNat ∧ u.toNat ≤ 57) : digitVal u = some (u.toNat - 48) := by unfold digitVal; rw [if_pos h]
theorem val_digit (l : List UInt8) (q : Nat) (hq : q = if l[0]? = some 45 then 1 else 0) (i : Nat) (hi : q ≤ i) (u : UInt8) (hu : l[i]? = some u) (h : ¬ (48 ≤ u.toNat ∧ u.toNat ≤ 57)) : num l = none :=
  num_none fun v hv e => by
    subst e
    have h1 := (val_q hv hq).2.2.2
    rw [drop_split _ q i hi u hu, decFrom_append] at h1
    cases hd : decFrom 0 (((itoa v).drop q).take (i - q)) with
    | none => rw [hd] at h1; cases h1
    | some n => rw [hd] at h1; simp [decFrom, digitVal_none u h] at h1
theorem val_step (l : List UInt8) (q i : Nat) (m : Int) (hi : q ≤ i) (u : UInt8) (hu : l[i]? = some u) (h48 : 48 ≤ u.toNat) (h57 : u.toNat ≤ 57) (hm : m ≤ 0) (h : decFrom 0 ((l.drop q).take (i - q)) = some m.natAbs) :
    decFrom 0 ((l.drop q).take (i + 1 - q)) = some (m * 10 - (u.toNat - 48)).natAbs := by
  have h2 : (l.drop q).take (i + 1 - q) = (l.drop q).take (i - q) ++ [u] := by
    rw [show i + 1 - q = (i - q) + 1 by omega, List.take_add_one]
    congr 1
    rw [List.getElem?_drop, show q + (i - q) = i by omega, hu]; rfl
  rw [h2, decFrom_append, h]
  simp only [Option.bind_some, decFrom, digitVal_some u ⟨h48, h57⟩]
  congr 1; omega
theorem val_over (l : List UInt8) (q : Nat) (hq : q = if l[0]? = some 45 then 1 else 0) (i : Nat) (m : Int) (hi : q ≤ i) (hm : m ≤ 0) (u : UInt8) (hu : l[i]? = some u) (h48 : 48 ≤ u.toNat) (h57 : u.toNat ≤ 57) (h : decFrom 0 ((l.drop q).take (i - q)) = some m.natAbs)
    (ho : 9223372036854775808 < m.natAbs * 10 + (u.toNat - 48)) : num l = none :=
  num_none fun v hv e => by
    subst e
    have h1 := (val_q hv hq).2.2.2
    rw [drop_split _ q i hi u hu, decFrom_append, h] at h1
    simp only [Option.bind_some, decFrom, digitVal_some u ⟨h48, h57⟩] at h1
    have := decFrom_mono _ _ _ h1
    obtain ⟨h5, h6⟩ := hv
    omega
theorem take_all (l : List UInt8) (q i : Nat) (hi : l.length ≤ i) : (l.drop q).take (i - q) = l.drop q := by
  apply List.take_of_length_le; simp; omega
theorem val_min (l : List UInt8) (q : Nat) (hq : q = if l[0]? = some 45 then 1 else 0) (i : Nat) (m : Int) (hi : l.length ≤ i) (_ : q ≤ i) (hn : ¬ l[0]? = some 45) (hm : m = -9223372036854775808) (h : decFrom 0 ((l.drop q).take (i - q)) = some m.natAbs) : num l = none :=
  num_none fun v hv e => by
    subst e
    have h1 := val_q hv hq
    rw [take_all _ q i hi, h1.2.2.2] at h
    injection h with h
    have : ¬ v < 0 := fun hv0 => by
      have h4 := h1.1
      rw [if_neg hn] at hq; rw [if_pos hv0] at h4; omega
    obtain ⟨h5, h6⟩ := hv
    omega
theorem S_inj {a b : List UInt8} : (a = b) = (a = b) := rfl
theorem val_end (l : List UInt8) (q : Nat) (hq : q = if l[0]? = some 45 then 1 else 0) (i : Nat) (m r : Int) (hr : InR r) (hr2 : if l[0]? = some 45 then r = m else r = -m) (hi : l.length ≤ i) (hm : m ≤ 0) (h : decFrom 0 ((l.drop q).take (i - q)) = some m.natAbs) :
    num l = if (decide (itoa r = l)) = true then some r else none := by
  by_cases he : itoa r = l
  · rw [if_pos (by simpa using he), ← he, num_itoa r hr]
  · rw [if_neg (by simpa using he)]
    refine num_none fun v hv e => he ?_
    subst e
    have h1 := val_q hv hq
    rw [take_all _ q i hi, h1.2.2.2] at h
    injection h with h
    have h4 := h1.1
    congr 1
    by_cases h0 : (itoa v)[0]? = some 45
    · rw [if_pos h0] at hr2 hq
      by_cases hv0 : v < 0
      · omega
      · rw [if_neg hv0] at h4; omega
    · rw [if_neg h0] at hr2 hq
      by_cases hv0 : v < 0
      · rw [if_pos hv0] at h4; omega
      · omega
end Go.Scr
namespace Go.Scr
open Go Go.Lib
def hexv (c : UInt8) : Int := if 48 ≤ c.toNat ∧ c.toNat ≤ 57 then c.toNat - 48 else if 97 ≤ c.toNat ∧ c.toNat ≤ 102 then c.toNat - 87 else -1
theorem hexv_lt (c : UInt8) : hexv c < 16 := by unfold hexv; split <;> (try split) <;> omega
theorem hexv_ge (c : UInt8) : -1 ≤ hexv c := by unfold hexv; split <;> (try split) <;> omega
def hex2 (a b : UInt8) : UInt8 := UInt8.ofNat (16 * (hexv a).toNat + (hexv b).toNat)
def pairs : List UInt8 → List UInt8
  | a :: b :: r => hex2 a b :: pairs r
  | _ => []
theorem pairs_length : ∀ l : List UInt8, (pairs l).length = l.length / 2
  | [] => rfl
  | [_] => by simp [pairs]
  | a :: b :: r => by simp only [pairs, List.length_cons, pairs_length r]; omega
theorem pairs_get : ∀ (l : List UInt8) (k : Nat) (a b : UInt8), l[2 * k]? = some a → l[2 * k + 1]? = some b → (pairs l)[k]? = some (hex2 a b)
  | [], k, a, b, h, _ => by simp at h
  | [_], k, a, b, _, h => by simp at h
  | x :: y :: r, 0, a, b, h1, h2 => by simp at h1 h2; subst h1 h2; rfl
  | x :: y :: r, k + 1, a, b, h1, h2 => by
    simp only [pairs, List.getElem?_cons_succ]
    exact pairs_get r k a b (by simpa [Nat.mul_add] using h1) (by simpa [Nat.mul_add] using h2)
theorem pairs_take (l : List UInt8) (k : Nat) (a b : UInt8) (ha : l[2 * k]? = some a) (hb : l[2 * k + 1]? = some b) : (pairs l).take (k + 1) = (pairs l).take k ++ [hex2 a b] := by
  rw [List.take_add_one, pairs_get l k a b ha hb]; rfl
def goodHex (l : List UInt8) : Prop := ∀ (i : Nat) (c : UInt8), l[i]? = some c → 0 ≤ hexv c
/-- the bytes that a data word spells -/
def unhexL (l : List UInt8) : Option (List UInt8) :=
  if l = [45] then some [] else if l = [] ∨ l.length % 2 = 1 ∨ ¬ (l.all fun c => decide (0 ≤ hexv c)) then none else some (pairs l)
theorem unhexL_dash : unhexL [45] = some [] := rfl
theorem unhexL_odd {l : List UInt8} (h0 : ¬ l = [45]) (h : l.length = 0 ∨ l.length % 2 ≠ 0) : unhexL l = none := by
  unfold unhexL; rw [if_neg h0, if_pos]
  rcases h with h | h
  · exact .inl (List.length_eq_zero_iff.1 h)
  · exact .inr (.inl (by omega))
theorem unhexL_bad {l : List UInt8} (h0 : ¬ l = [45]) {i : Nat} {c : UInt8} (h : l[i]? = some c) (hc : hexv c < 0) : unhexL l = none := by
  unfold unhexL; rw [if_neg h0, if_pos]
  refine .inr (.inr fun ha => ?_)
  rw [List.all_eq_true] at ha
  have := ha c (List.mem_of_getElem? h)
  simp at this; omega
theorem unhexL_good {l : List UInt8} (h0 : ¬ l = [45]) (hl : l.length ≠ 0) (h2 : l.length % 2 = 0) (h : goodHex l) : unhexL l = some (pairs l) := by
  unfold unhexL; rw [if_neg h0, if_neg]
  rintro (h' | h' | h')
  · subst h'; simp at hl
  · omega
  · apply h'
    rw [List.all_eq_true]
    intro c hc
    obtain ⟨i, hi⟩ := List.getElem?_of_mem hc
    simpa using h i c hi
/-! cutting at a byte -/
def splitc (c : UInt8) : List UInt8 → List (List UInt8)
  | [] => [[]]
  | x :: r => if x = c then [] :: splitc c r else match splitc c r with
    | [] => [[x]]
    | h :: t => (x :: h) :: t
theorem splitc_ne (c : UInt8) : ∀ l, splitc c l ≠ []
  | [] => by simp [splitc]
  | x :: r => by
    simp only [splitc]
    split
    · simp
    · split <;> simp
theorem splitc_none (c : UInt8) : ∀ a : List UInt8, c ∉ a → splitc c a = [a]
  | [], _ => rfl
  | x :: r, h => by
    simp at h
    simp only [splitc]
    rw [if_neg (fun e => h.1 e.symm), splitc_none c r h.2]
theorem splitc_hit (c : UInt8) : ∀ a b : List UInt8, c ∉ a → splitc c (a ++ c :: b) = a :: splitc c b
  | [], b, _ => by simp [splitc]
  | x :: r, b, h => by
    simp at h
    simp only [List.cons_append, splitc]
    rw [if_neg (fun e => h.1 e.symm), splitc_hit c r b h.2]
theorem splitc_length (c : UInt8) : ∀ l : List UInt8, (splitc c l).length = l.count c + 1
  | [] => rfl
  | x :: r => by
    simp only [splitc]
    split
    · rename_i h; subst h; simp [splitc_length x r]
    · rename_i h
      have := splitc_length c r
      rw [List.count_cons_of_ne h]
      split
      · rename_i h'; exact absurd h' (splitc_ne c r)
      · rename_i h'; rw [h'] at this; simpa using this
theorem splitc_bound (c : UInt8) (l : List UInt8) : (splitc c l).length ≤ l.length + 1 := by
  rw [splitc_length]; have := List.count_le_length (a := c) (l := l); omega
theorem splitc_mem (c : UInt8) : ∀ (l p : List UInt8), p ∈ splitc c l → p.length ≤ l.length
  | [], p, h => by simp [splitc] at h; subst h; simp
  | x :: r, p, h => by
    simp only [splitc] at h
    split at h
    · rcases List.mem_cons.1 h with h | h
      · subst h; simp
      · have := splitc_mem c r p h; simp; omega
    · split at h
      · simp at h; subst h; simp
      · rename_i h' t hs
        rcases List.mem_cons.1 h with h | h
        · have := splitc_mem c r h' (by rw [hs]; simp); subst h; simp; omega
        · have := splitc_mem c r p (by rw [hs]; simp [h]); simp; omega
theorem splitc_small (c : UInt8) (l : List UInt8) (i : Nat) (p : List UInt8) (h : (splitc c l)[i]? = some p) : p.length ≤ l.length := splitc_mem c l p (List.mem_of_getElem? h)
/-- while the text is walked: s where the piece began, i the place now -/
def Spl (c : UInt8) (l : List UInt8) (ls : List (List UInt8)) (s i : Nat) : Prop := s ≤ i ∧ i ≤ l.length ∧ splitc c l = ls ++ splitc c (l.drop s) ∧ c ∉ (l.drop s).take (i - s) ∧ ls.length ≤ s
theorem Spl.start (c : UInt8) (l : List UInt8) : Spl c l [] 0 0 := ⟨Nat.le_refl _, Nat.zero_le _, by simp, by simp, Nat.zero_le _⟩
theorem Spl.hit {c : UInt8} {l : List UInt8} {ls : List (List UInt8)} {s i : Nat} (h : Spl c l ls s i) (hu : l[i]? = some c) : Spl c l (ls ++ [(l.drop s).take (i - s)]) (i + 1) (i + 1) := by
  obtain ⟨h1, h2, h3, h4, h5⟩ := h
  have hlt := (List.getElem?_eq_some_iff.1 hu).1
  refine ⟨Nat.le_refl _, hlt, ?_, by simp, by simp; omega⟩
  have e := drop_split l s i h1 c hu
  rw [h3, e, splitc_hit c _ _ h4, ← e]
  simp
theorem Spl.miss {c : UInt8} {l : List UInt8} {ls : List (List UInt8)} {s i : Nat} (h : Spl c l ls s i) {u : UInt8} (hu : l[i]? = some u) (hne : u ≠ c) : Spl c l ls s (i + 1) := by
  obtain ⟨h1, h2, h3, h4, h5⟩ := h
  have hlt := (List.getElem?_eq_some_iff.1 hu).1
  refine ⟨by omega, hlt, h3, ?_, h5⟩
  rw [show i + 1 - s = (i - s) + 1 by omega, List.take_add_one, List.getElem?_drop, show s + (i - s) = i by omega, hu]
  simp [h4]
  exact fun e => hne e.symm
theorem Spl.fin {c : UInt8} {l : List UInt8} {ls : List (List UInt8)} {s i : Nat} (h : Spl c l ls s i) (hi : l.length ≤ i) : splitc c l = ls ++ [l.drop s] := by
  obtain ⟨h1, h2, h3, h4, h5⟩ := h
  rw [take_all l s i hi] at h4
  rw [h3, splitc_none c _ h4]
end Go.Scr
set_option maxHeartbeats 1000000
namespace Go.Proofs.YtinbfghmnfldjaaDoor
open Go Go.X Go.Shelf Go.Scr
theorem ag25 : Ag Go.Proofs.Tryd.prog 25 8 := ⟨_, Go.Proofs.Tryd.underlying25, rfl, by kernel_rfl⟩
theorem ag36 : Ag Go.Proofs.Tryd.prog 36 3 := ⟨_, Go.Proofs.Tryd.underlying36, rfl, by kernel_rfl⟩
theorem ag39 : Ag Go.Proofs.Tryd.prog 39 3 := ⟨_, Go.Proofs.Tryd.underlying39, rfl, by kernel_rfl⟩
theorem ag59 : Ag Go.Proofs.Tryd.prog 59 8 := ⟨_, Go.Proofs.Tryd.underlying59, rfl, by kernel_rfl⟩
theorem bd25 : ∃ fs, Go.Proofs.Tryd.prog.underlying 25 = some (.struct fs) ∧ fs.toList.mapM (fun f => (Go.Proofs.Tryd.prog.info? f.type).map fun i => (f.offset, i.size)) = some [(0, 1), (1, 1), (2, 1), (3, 1), (4, 1), (5, 1), (6, 1), (7, 1)] := ⟨_, Go.Proofs.Tryd.underlying25, by kernel_rfl⟩
theorem bd36 : ∃ fs, Go.Proofs.Tryd.prog.underlying 36 = some (.struct fs) ∧ fs.toList.mapM (fun f => (Go.Proofs.Tryd.prog.info? f.type).map fun i => (f.offset, i.size)) = some [(0, 1), (1, 1), (2, 1)] := ⟨_, Go.Proofs.Tryd.underlying36, by kernel_rfl⟩
theorem bd39 : ∃ fs, Go.Proofs.Tryd.prog.underlying 39 = some (.struct fs) ∧ fs.toList.mapM (fun f => (Go.Proofs.Tryd.prog.info? f.type).map fun i => (f.offset, i.size)) = some [(0, 1), (1, 1), (2, 1)] := ⟨_, Go.Proofs.Tryd.underlying39, by kernel_rfl⟩
theorem elt26 : ElT Go.Proofs.Tryd.prog 26 36 3 40 := ElT.of (z := .agg #[.int .i64 0, .int .i64 0, .slice none 0 0]) Go.Proofs.Tryd.underlying26 (by kernel_rfl) rfl (by decide)
theorem elt30 : ElT Go.Proofs.Tryd.prog 30 39 3 40 := ElT.of (z := .agg #[.int .i64 0, .int .i64 0, .slice none 0 0]) Go.Proofs.Tryd.underlying30 (by kernel_rfl) rfl (by decide)
theorem elt34 : ElT Go.Proofs.Tryd.prog 34 5 1 1 := ElT.of (z := .int .u8 0) Go.Proofs.Tryd.underlying34 (by kernel_rfl) rfl (by decide)
theorem elt55 : ElT Go.Proofs.Tryd.prog 55 9 1 16 := ElT.of (z := .string ⟨#[]⟩) Go.Proofs.Tryd.underlying55 (by kernel_rfl) rfl (by decide)
theorem elt67 : ElT Go.Proofs.Tryd.prog 67 3 1 8 := ElT.of (z := .int .i64 0) Go.Proofs.Tryd.underlying67 (by kernel_rfl) rfl (by decide)
theorem fl25_0 : Fld Go.Proofs.Tryd.prog 25 0 0 := ⟨_, _, Go.Proofs.Tryd.underlying25, rfl, rfl, _, (by kernel_rfl : (Go.Proofs.Tryd.prog.info? 23).map (·.size) = some 1), by decide⟩
theorem fl25_1 : Fld Go.Proofs.Tryd.prog 25 1 1 := ⟨_, _, Go.Proofs.Tryd.underlying25, rfl, rfl, _, (by kernel_rfl : (Go.Proofs.Tryd.prog.info? 3).map (·.size) = some 1), by decide⟩
theorem fl25_2 : Fld Go.Proofs.Tryd.prog 25 2 2 := ⟨_, _, Go.Proofs.Tryd.underlying25, rfl, rfl, _, (by kernel_rfl : (Go.Proofs.Tryd.prog.info? 3).map (·.size) = some 1), by decide⟩
theorem fl25_3 : Fld Go.Proofs.Tryd.prog 25 3 3 := ⟨_, _, Go.Proofs.Tryd.underlying25, rfl, rfl, _, (by kernel_rfl : (Go.Proofs.Tryd.prog.info? 3).map (·.size) = some 1), by decide⟩
theorem fl25_4 : Fld Go.Proofs.Tryd.prog 25 4 4 := ⟨_, _, Go.Proofs.Tryd.underlying25, rfl, rfl, _, (by kernel_rfl : (Go.Proofs.Tryd.prog.info? 3).map (·.size) = some 1), by decide⟩
theorem fl25_5 : Fld Go.Proofs.Tryd.prog 25 5 5 := ⟨_, _, Go.Proofs.Tryd.underlying25, rfl, rfl, _, (by kernel_rfl : (Go.Proofs.Tryd.prog.info? 3).map (·.size) = some 1), by decide⟩
theorem fl25_6 : Fld Go.Proofs.Tryd.prog 25 6 6 := ⟨_, _, Go.Proofs.Tryd.underlying25, rfl, rfl, _, (by kernel_rfl : (Go.Proofs.Tryd.prog.info? 3).map (·.size) = some 1), by decide⟩
theorem fl25_7 : Fld Go.Proofs.Tryd.prog 25 7 7 := ⟨_, _, Go.Proofs.Tryd.underlying25, rfl, rfl, _, (by kernel_rfl : (Go.Proofs.Tryd.prog.info? 3).map (·.size) = some 1), by decide⟩
theorem fl36_0 : Fld Go.Proofs.Tryd.prog 36 0 0 := ⟨_, _, Go.Proofs.Tryd.underlying36, rfl, rfl, _, (by kernel_rfl : (Go.Proofs.Tryd.prog.info? 3).map (·.size) = some 1), by decide⟩
theorem fl36_1 : Fld Go.Proofs.Tryd.prog 36 1 1 := ⟨_, _, Go.Proofs.Tryd.underlying36, rfl, rfl, _, (by kernel_rfl : (Go.Proofs.Tryd.prog.info? 3).map (·.size) = some 1), by decide⟩
theorem fl36_2 : Fld Go.Proofs.Tryd.prog 36 2 2 := ⟨_, _, Go.Proofs.Tryd.underlying36, rfl, rfl, _, (by kernel_rfl : (Go.Proofs.Tryd.prog.info? 34).map (·.size) = some 1), by decide⟩
theorem fl39_0 : Fld Go.Proofs.Tryd.prog 39 0 0 := ⟨_, _, Go.Proofs.Tryd.underlying39, rfl, rfl, _, (by kernel_rfl : (Go.Proofs.Tryd.prog.info? 3).map (·.size) = some 1), by decide⟩
theorem fl39_1 : Fld Go.Proofs.Tryd.prog 39 1 1 := ⟨_, _, Go.Proofs.Tryd.underlying39, rfl, rfl, _, (by kernel_rfl : (Go.Proofs.Tryd.prog.info? 3).map (·.size) = some 1), by decide⟩
theorem fl39_2 : Fld Go.Proofs.Tryd.prog 39 2 2 := ⟨_, _, Go.Proofs.Tryd.underlying39, rfl, rfl, _, (by kernel_rfl : (Go.Proofs.Tryd.prog.info? 34).map (·.size) = some 1), by decide⟩
theorem fl71_0 : Fld Go.Proofs.Tryd.prog 71 0 0 := ⟨_, _, Go.Proofs.Tryd.underlying71, rfl, rfl, _, (by kernel_rfl : (Go.Proofs.Tryd.prog.info? 69).map (·.size) = some 1), by decide⟩
theorem fl71_1 : Fld Go.Proofs.Tryd.prog 71 1 1 := ⟨_, _, Go.Proofs.Tryd.underlying71, rfl, rfl, _, (by kernel_rfl : (Go.Proofs.Tryd.prog.info? 34).map (·.size) = some 1), by decide⟩
theorem go10 : Goes Go.Proofs.Tryd.prog 10 := enters_of Go.Proofs.Tryd.func10 (by kernel_rfl) rfl
theorem go11 : Goes Go.Proofs.Tryd.prog 11 := enters_of Go.Proofs.Tryd.func11 (by kernel_rfl) rfl
theorem go12 : Goes Go.Proofs.Tryd.prog 12 := enters_of Go.Proofs.Tryd.func12 (by kernel_rfl) rfl
theorem go13 : Goes Go.Proofs.Tryd.prog 13 := enters_of Go.Proofs.Tryd.func13 (by kernel_rfl) rfl
theorem go14 : Goes Go.Proofs.Tryd.prog 14 := enters_of Go.Proofs.Tryd.func14 (by kernel_rfl) rfl
theorem go16 : Goes Go.Proofs.Tryd.prog 16 := enters_of Go.Proofs.Tryd.func16 (by kernel_rfl) rfl
theorem go17 : Goes Go.Proofs.Tryd.prog 17 := enters_of Go.Proofs.Tryd.func17 (by kernel_rfl) rfl
theorem go18 : Goes Go.Proofs.Tryd.prog 18 := enters_of Go.Proofs.Tryd.func18 (by kernel_rfl) rfl
theorem go19 : Goes Go.Proofs.Tryd.prog 19 := enters_of Go.Proofs.Tryd.func19 (by kernel_rfl) rfl
theorem go20 : Goes Go.Proofs.Tryd.prog 20 := enters_of Go.Proofs.Tryd.func20 (by kernel_rfl) rfl
theorem go21 : Goes Go.Proofs.Tryd.prog 21 := enters_of Go.Proofs.Tryd.func21 (by kernel_rfl) rfl
theorem go22 : Goes Go.Proofs.Tryd.prog 22 := enters_of Go.Proofs.Tryd.func22 (by kernel_rfl) rfl
theorem go23 : Goes Go.Proofs.Tryd.prog 23 := enters_of Go.Proofs.Tryd.func23 (by kernel_rfl) rfl
theorem go24 : Goes Go.Proofs.Tryd.prog 24 := enters_of Go.Proofs.Tryd.func24 (by kernel_rfl) rfl
theorem go25 : Goes Go.Proofs.Tryd.prog 25 := enters_of Go.Proofs.Tryd.func25 (by kernel_rfl) rfl
theorem go26 : Goes Go.Proofs.Tryd.prog 26 := enters_of Go.Proofs.Tryd.func26 (by kernel_rfl) rfl
theorem go27 : Goes Go.Proofs.Tryd.prog 27 := enters_of Go.Proofs.Tryd.func27 (by kernel_rfl) rfl
theorem go28 : Goes Go.Proofs.Tryd.prog 28 := enters_of Go.Proofs.Tryd.func28 (by kernel_rfl) rfl
theorem go29 : Goes Go.Proofs.Tryd.prog 29 := enters_of Go.Proofs.Tryd.func29 (by kernel_rfl) rfl
theorem go30 : Goes Go.Proofs.Tryd.prog 30 := enters_of Go.Proofs.Tryd.func30 (by kernel_rfl) rfl
theorem go31 : Goes Go.Proofs.Tryd.prog 31 := enters_of Go.Proofs.Tryd.func31 (by kernel_rfl) rfl
theorem go32 : Goes Go.Proofs.Tryd.prog 32 := enters_of Go.Proofs.Tryd.func32 (by kernel_rfl) rfl
theorem go37 : Goes Go.Proofs.Tryd.prog 37 := enters_of Go.Proofs.Tryd.func37 (by kernel_rfl) rfl
theorem go38 : Goes Go.Proofs.Tryd.prog 38 := enters_of Go.Proofs.Tryd.func38 (by kernel_rfl) rfl
theorem go41 : Goes Go.Proofs.Tryd.prog 41 := enters_of Go.Proofs.Tryd.func41 (by kernel_rfl) rfl
theorem go42 : Goes Go.Proofs.Tryd.prog 42 := enters_of Go.Proofs.Tryd.func42 (by kernel_rfl) rfl
theorem go43 : Goes Go.Proofs.Tryd.prog 43 := enters_of Go.Proofs.Tryd.func43 (by kernel_rfl) rfl
theorem go44 : Goes Go.Proofs.Tryd.prog 44 := enters_of Go.Proofs.Tryd.func44 (by kernel_rfl) rfl
theorem go46 : Goes Go.Proofs.Tryd.prog 46 := enters_of Go.Proofs.Tryd.func46 (by kernel_rfl) rfl
theorem go47 : Goes Go.Proofs.Tryd.prog 47 := enters_of Go.Proofs.Tryd.func47 (by kernel_rfl) rfl
theorem go48 : Goes Go.Proofs.Tryd.prog 48 := enters_of Go.Proofs.Tryd.func48 (by kernel_rfl) rfl
theorem go5 : Goes Go.Proofs.Tryd.prog 5 := enters_of Go.Proofs.Tryd.func5 (by kernel_rfl) rfl
theorem go56 : Goes Go.Proofs.Tryd.prog 56 := enters_of Go.Proofs.Tryd.func56 (by kernel_rfl) rfl
theorem go6 : Goes Go.Proofs.Tryd.prog 6 := enters_of Go.Proofs.Tryd.func6 (by kernel_rfl) rfl
theorem go68 : Goes Go.Proofs.Tryd.prog 68 := enters_of Go.Proofs.Tryd.func68 (by kernel_rfl) rfl
theorem go69 : Goes Go.Proofs.Tryd.prog 69 := enters_of Go.Proofs.Tryd.func69 (by kernel_rfl) rfl
theorem go7 : Goes Go.Proofs.Tryd.prog 7 := enters_of Go.Proofs.Tryd.func7 (by kernel_rfl) rfl
theorem go70 : Goes Go.Proofs.Tryd.prog 70 := enters_of Go.Proofs.Tryd.func70 (by kernel_rfl) rfl
theorem go8 : Goes Go.Proofs.Tryd.prog 8 := enters_of Go.Proofs.Tryd.func8 (by kernel_rfl) rfl
theorem go9 : Goes Go.Proofs.Tryd.prog 9 := enters_of Go.Proofs.Tryd.func9 (by kernel_rfl) rfl
theorem mixo : Go.Proofs.Tryd.prog.follows .mixedOrders = true := by kernel_rfl
theorem mk5 : ∃ it, Go.Proofs.Tryd.prog.info? 5 = some it ∧ it.zero = some (.int .u8 0) ∧ it.size = 1 ∧ it.bytes = 1 := mkOf (by kernel_rfl)
theorem sc23 : Sc Go.Proofs.Tryd.prog 23 := ⟨_, Go.Proofs.Tryd.underlying23, rfl, by kernel_rfl⟩
theorem sc26 : Sc Go.Proofs.Tryd.prog 26 := ⟨_, Go.Proofs.Tryd.underlying26, rfl, by kernel_rfl⟩
theorem sc27 : Sc Go.Proofs.Tryd.prog 27 := ⟨_, Go.Proofs.Tryd.underlying27, rfl, by kernel_rfl⟩
theorem sc3 : Sc Go.Proofs.Tryd.prog 3 := ⟨_, Go.Proofs.Tryd.underlying3, rfl, by kernel_rfl⟩
theorem sc34 : Sc Go.Proofs.Tryd.prog 34 := ⟨_, Go.Proofs.Tryd.underlying34, rfl, by kernel_rfl⟩
theorem sc5 : Sc Go.Proofs.Tryd.prog 5 := ⟨_, Go.Proofs.Tryd.underlying5, rfl, by kernel_rfl⟩
theorem sc69 : Sc Go.Proofs.Tryd.prog 69 := ⟨_, Go.Proofs.Tryd.underlying69, rfl, by kernel_rfl⟩
theorem sc9 : Sc Go.Proofs.Tryd.prog 9 := ⟨_, Go.Proofs.Tryd.underlying9, rfl, by kernel_rfl⟩
theorem slt26 : SlT Go.Proofs.Tryd.prog 26 36 3 := ⟨Go.Proofs.Tryd.underlying26, by kernel_rfl, by decide⟩
theorem slt30 : SlT Go.Proofs.Tryd.prog 30 39 3 := ⟨Go.Proofs.Tryd.underlying30, by kernel_rfl, by decide⟩
theorem slt34 : SlT Go.Proofs.Tryd.prog 34 5 1 := ⟨Go.Proofs.Tryd.underlying34, by kernel_rfl, by decide⟩
theorem slt55 : SlT Go.Proofs.Tryd.prog 55 9 1 := ⟨Go.Proofs.Tryd.underlying55, by kernel_rfl, by decide⟩
theorem slt67 : SlT Go.Proofs.Tryd.prog 67 3 1 := ⟨Go.Proofs.Tryd.underlying67, by kernel_rfl, by decide⟩
theorem zr104 : Zr Go.Proofs.Tryd.prog 104 (.agg #[.int .u8 0, .int .u8 0, .int .u8 0, .int .u8 0, .int .u8 0, .int .u8 0, .int .u8 0, .int .u8 0, .int .u8 0, .int .u8 0, .int .u8 0, .int .u8 0, .int .u8 0, .int .u8 0, .int .u8 0, .int .u8 0, .int .u8 0, .int .u8 0, .int .u8 0, .int .u8 0, .int .u8 0, .int .u8 0, .int .u8 0, .int .u8 0]) := by unfold Zr; kernel_rfl
theorem zr25 : Zr Go.Proofs.Tryd.prog 25 (.agg #[.int .u32 0, .int .i64 0, .int .i64 0, .int .i64 0, .int .i64 0, .int .i64 0, .int .i64 0, .int .i64 0]) := by unfold Zr; kernel_rfl
theorem zr26 : Zr Go.Proofs.Tryd.prog 26 (.slice none 0 0) := by unfold Zr; kernel_rfl
theorem zr27 : Zr Go.Proofs.Tryd.prog 27 (.int .i64 0) := by unfold Zr; kernel_rfl
theorem zr3 : Zr Go.Proofs.Tryd.prog 3 (.int .i64 0) := by unfold Zr; kernel_rfl
theorem zr36 : Zr Go.Proofs.Tryd.prog 36 (.agg #[.int .i64 0, .int .i64 0, .slice none 0 0]) := by unfold Zr; kernel_rfl
theorem zr39 : Zr Go.Proofs.Tryd.prog 39 (.agg #[.int .i64 0, .int .i64 0, .slice none 0 0]) := by unfold Zr; kernel_rfl
theorem zr66 : Zr Go.Proofs.Tryd.prog 66 (.agg #[.int .i64 0, .int .i64 0, .int .i64 0, .int .i64 0, .int .i64 0, .int .i64 0, .int .i64 0, .int .i64 0]) := by unfold Zr; kernel_rfl
theorem zr71 : Zr Go.Proofs.Tryd.prog 71 (.agg #[.pointer none, .slice none 0 0]) := by unfold Zr; kernel_rfl
theorem zr87 : Zr Go.Proofs.Tryd.prog 87 (.agg #[.int .i64 0, .int .i64 0, .int .i64 0, .int .i64 0, .int .i64 0, .int .i64 0, .int .i64 0]) := by unfold Zr; kernel_rfl
end Go.Proofs.YtinbfghmnfldjaaDoor
set_option maxHeartbeats 1000000
namespace Go.Proofs.YtinbfghmnfldjaaDoor
open Go Go.X Go.Shelf Go.Scr

def digs (u : Nat) : List UInt8 := if h : u = 0 then [] else digs (u / 10) ++ [UInt8.ofNat (48 + u % 10)]
theorem digs_zero : digs 0 = [] := by rw [digs, dif_pos rfl]
theorem digs_pos {u : Nat} (h : u ≠ 0) : digs u = digs (u / 10) ++ [UInt8.ofNat (48 + u % 10)] := by rw [digs, dif_neg h]
theorem digs_dec (u : Nat) (h : u ≠ 0) : digs u = Lib.decDigits u := by
  induction u using Nat.strongRecOn with
  | _ u ih =>
    rw [digs_pos h]
    by_cases h10 : u < 10
    · rw [show u / 10 = 0 by omega, digs_zero, Lib.decDigits_one h10, Nat.mod_eq_of_lt h10]; rfl
    · rw [ih (u / 10) (by omega) (by omega)]
      conv => rhs; rw [Lib.decDigits, dif_neg h10]
theorem digs_len (u : Nat) (h : u < 18446744073709551616) : (digs u).length ≤ 20 := by
  by_cases h0 : u = 0
  · subst h0; simp [digs_zero]
  · rw [digs_dec u h0, Lib.decDigits_length]; exact Lib.nDigits_le20 u h
theorem tmod10 (m : Int) : (m.tmod 10).natAbs = m.natAbs % 10 ∧ (0 ≤ m → 0 ≤ m.tmod 10) ∧ (m ≤ 0 → m.tmod 10 ≤ 0) := by
  refine ⟨by rw [Int.natAbs_tmod]; rfl, fun h => Int.tmod_nonneg 10 h, fun h => ?_⟩
  have := Int.tmod_nonneg 10 (show 0 ≤ -m by omega)
  rw [Int.neg_tmod] at this; omega
theorem tdiv10 (m : Int) : (m.tdiv 10).natAbs = m.natAbs / 10 := by rw [Int.natAbs_tdiv]; rfl
theorem dstep (m : Int) (h : m ≠ 0) : digs m.natAbs = digs (m.tdiv 10).natAbs ++ [UInt8.ofNat (48 + m.natAbs % 10)] := by
  rw [digs_pos (by omega), Int.natAbs_tdiv]; rfl
theorem dcast (m : Int) (ds : List UInt8) (d : Int) (h : (d = m.tmod 10 ∧ 0 ≤ m.tmod 10) ∨ (d = -(m.tmod 10) ∧ m.tmod 10 < 0)) : [Value.int .u8 (IntKind.u8.wrap (48 + d))] ++ byteL ds = byteL (UInt8.ofNat (48 + m.natAbs % 10) :: ds) := by
  have h1 := (tmod10 m).1
  have h2 : d = ((m.natAbs % 10 : Nat) : Int) := by omega
  subst h2
  simp only [byteL, List.map_cons, List.singleton_append]
  congr 2
theorem ref_Number (n : Int) (hn : -9223372036854775808 ≤ n ∧ n ≤ 9223372036854775807) (w : World) : Pur Go.Proofs.Tryd.prog 44 [.int .i64 n] (.string (S (Lib.itoa n))) w := by
  refine pur_of Go.Proofs.Tryd.func44 rfl Go.Proofs.Tryd.ntmps44 rfl ?_
  change C _ _ _ _ _ _ _ ⟨[(0, _)], []⟩ _
  refine C.regS ?_
  refine L.yl (Y.as rfl) ?_
  refine L.nil ?_
  refine C.seq ?_
  refine C.regS ?_
  refine L.yl (Y.mv rfl) ?_
  refine L.yl (Y.eqi rfl rfl) ?_
  refine L.nil ?_
  refine C.condP rfl (fun hc1 => ?_) (fun hc1 => ?_)
  ·
    refine C.regS ?_
    refine L.yl (Y.as rfl) ?_
    refine L.nil ?_
    refine C.ret ?_
    refine Then.r ?_
    refine FnPost.r1 Go.Proofs.Tryd.results44 rfl ?_
    rw [hc1]; simp [Lib.itoa, Lib.decDigits_one]; rfl
  ·
    refine C.skip ?_
    refine Then.n ?_
    refine C.regS ?_
    refine L.yl (Y.as rfl) ?_
    refine L.nil ?_
    refine C.regS ?_
    refine L.yl (Y.mv rfl) ?_
    refine L.yl (Y.as rfl) ?_
    refine L.nil ?_
    refine C.seq ?_
    refine C.block ?_
    refine C.nil0 5 1 ?_
    refine C.loop (σ := List UInt8 × Int × Option Addr × Nat × Nat) (fun (ds, m, a, q, c) => [(0, .int .i64 n), (3, .slice a q c), (4, .int .i64 m)]) (fun (ds, m, a, q, c) => [own 5 1 a q c (byteL ds)]) (fun (ds, m, a, q, c) => digs m.natAbs ++ ds = digs n.natAbs ∧ m.natAbs ≤ n.natAbs ∧ q = ds.length) (fun (ds, m, a, q, c) => m.natAbs) ([], n, none, 0, 0) ?_ ?_ ?_ ?_
    · repeat (first | exact trivial | refine ⟨rfl, ?_⟩)
    · first | exact .of (.refl _) | exact inferInstance | (dsimp only; exact inferInstance)
    · exact ⟨by simp, Nat.le_refl _, rfl⟩
    · rintro ⟨ds, m, a, q, c⟩ ⟨hI1, hI2, hI3⟩
      have hlen := digs_len n.natAbs (by omega)
      have hl2 : ds.length ≤ 20 := by rw [← hI1] at hlen; simp at hlen; omega
      try dsimp only
      refine C.seq ?_
      refine C.regS ?_
      refine L.yl (Y.mv rfl) ?_
      refine L.yl (Y.nei rfl rfl) ?_
      refine L.nil ?_
      refine C.condP rfl (fun hc2 => ?_) (fun hc2 => ?_)
      ·
        refine C.skip ?_
        refine Then.n ?_
        refine C.block ?_
        refine C.regS ?_
        refine L.yl (Y.mv rfl) ?_
        refine L.yl (Y.remT rfl rfl (by decide)) ?_
        have hm10 := tmod10 m
        refine L.yl (Y.as rfl) ?_
        refine L.nil ?_
        refine C.seq ?_
        refine C.regS ?_
        refine L.yl (Y.mv rfl) ?_
        refine L.yl (Y.lss rfl rfl) ?_
        refine L.nil ?_
        refine C.condP rfl (fun hc3 => ?_) (fun hc3 => ?_)
        ·
          refine C.reg ?_
          refine L.yl (Y.mv rfl) ?_
          refine L.yl (Y.neg rfl (by omega)) ?_
          refine L.yl (Y.as rfl) ?_
          refine L.nil ?_
          refine Then.n ?_
          refine C.regS ?_
          refine L.yl (Y.mv rfl) ?_
          first | refine L.yl (Y.add rfl rfl (by omega)) ?_ | refine L.yl (Y.addW rfl rfl) ?_
          refine L.yl (Y.cvW Go.Proofs.Tryd.underlying5 ⟨_, Go.Proofs.Tryd.underlying3⟩ rfl) ?_
          refine L.bs1 elt34 rfl rfl ?_; intro b20
          refine L.yl (Y.mv rfl) ?_
          refine L.app elt34 rfl rfl (by rfl) (by simp [byteL]; omega) (by omega) (by omega) ?_; intro a22 c22
          first | rw [dcast m ds _ (Or.inl ⟨rfl, by omega⟩)] | rw [dcast m ds _ (Or.inr ⟨rfl, by omega⟩)]
          refine L.yl (Y.as rfl) ?_
          refine L.nil ?_
          refine C.reg ?_
          refine L.yl (Y.mv rfl) ?_
          refine L.yl (Y.quoT rfl rfl (by decide) (by have := tdiv10 m; omega)) ?_
          have hd10 := tdiv10 m
          refine L.yl (Y.as rfl) ?_
          refine L.nil ?_
          refine InBlo.n ?_
          exact ⟨(UInt8.ofNat (48 + m.natAbs % 10) :: ds, m.tdiv 10, _, _, _), ⟨rfl, rfl, rfl, trivial⟩, rfl, (by dsimp only; exact inferInstance), ⟨by rw [← hI1, dstep m hc2]; simp, by dsimp only; omega, by simp; omega⟩, by dsimp only; omega⟩
        ·
          refine C.skip ?_
          refine Then.n ?_
          refine C.regS ?_
          refine L.yl (Y.mv rfl) ?_
          first | refine L.yl (Y.add rfl rfl (by omega)) ?_ | refine L.yl (Y.addW rfl rfl) ?_
          refine L.yl (Y.cvW Go.Proofs.Tryd.underlying5 ⟨_, Go.Proofs.Tryd.underlying3⟩ rfl) ?_
          refine L.bs1 elt34 rfl rfl ?_; intro b20
          refine L.yl (Y.mv rfl) ?_
          refine L.app elt34 rfl rfl (by rfl) (by simp [byteL]; omega) (by omega) (by omega) ?_; intro a22 c22
          first | rw [dcast m ds _ (Or.inl ⟨rfl, by omega⟩)] | rw [dcast m ds _ (Or.inr ⟨rfl, by omega⟩)]
          refine L.yl (Y.as rfl) ?_
          refine L.nil ?_
          refine C.reg ?_
          refine L.yl (Y.mv rfl) ?_
          refine L.yl (Y.quoT rfl rfl (by decide) (by have := tdiv10 m; omega)) ?_
          have hd10 := tdiv10 m
          refine L.yl (Y.as rfl) ?_
          refine L.nil ?_
          refine InBlo.n ?_
          exact ⟨(UInt8.ofNat (48 + m.natAbs % 10) :: ds, m.tdiv 10, _, _, _), ⟨rfl, rfl, rfl, trivial⟩, rfl, (by dsimp only; exact inferInstance), ⟨by rw [← hI1, dstep m hc2]; simp, by dsimp only; omega, by simp; omega⟩, by dsimp only; omega⟩
      ·
        refine C.exit ?_
        refine Then.x ?_
        refine Then.x ?_
        refine InBlo.x ?_
        refine Then.n ?_
        refine C.seq ?_
        refine C.regS ?_
        refine L.yl (Y.mv rfl) ?_
        refine L.yl (Y.lss rfl rfl) ?_
        refine L.nil ?_
        refine C.condP rfl (fun hc4 => ?_) (fun hc4 => ?_)
        ·
          refine C.regS ?_
          refine L.yl (Y.mv rfl) ?_
          refine L.yl (Y.b2s slt34 Go.Proofs.Tryd.underlying5 Go.Proofs.Tryd.underlying9 rfl (by first | rfl | assumption) (by omega)) ?_
          refine L.yl (Y.cat rfl rfl (by simp; omega)) ?_
          refine L.yl (Y.as rfl) ?_
          refine L.nil ?_
          refine C.ret ?_
          refine Then.r ?_
          refine FnPost.r1 Go.Proofs.Tryd.results44 rfl ?_
          have : m = 0 := by omega
          subst this
          simp [digs_zero] at hI1
          subst hI1
          rw [digs_dec _ (by omega)]
          simp [Lib.itoa, hc4]
        ·
          refine C.skip ?_
          refine Then.n ?_
          refine C.regS ?_
          refine L.yl (Y.mv rfl) ?_
          refine L.yl (Y.b2s slt34 Go.Proofs.Tryd.underlying5 Go.Proofs.Tryd.underlying9 rfl (by first | rfl | assumption) (by first | rfl | omega)) ?_
          refine L.yl (Y.as rfl) ?_
          refine L.nil ?_
          refine C.ret ?_
          refine FnPost.r1 Go.Proofs.Tryd.results44 rfl ?_
          have : m = 0 := by omega
          subst this
          simp [digs_zero] at hI1
          subst hI1
          rw [digs_dec _ (by omega)]
          simp [Lib.itoa, hc4, show n.natAbs = n.toNat from by omega]

end Go.Proofs.YtinbfghmnfldjaaDoor
set_option maxHeartbeats 1000000
namespace Go.Proofs.YtinbfghmnfldjaaDoor
open Go Go.X Go.Shelf Go.Scr
theorem ref_Value (l : List UInt8) (w : World) : Calls Go.Proofs.Tryd.prog 26 #[.string (S l)] w (Post w [] fun r _ => ∃ v b, r = .tuple #[.int .i64 v, .bool b] ∧ num l = if b = true then some v else none) := by
  refine spec_of Go.Proofs.Tryd.func26 rfl Go.Proofs.Tryd.ntmps26 rfl (Holds.nil w) ?_
  change C _ _ _ _ _ _ _ ⟨[(0, _)], []⟩ _
  refine C.regS ?_
  refine L.yl (Y.as rfl) ?_
  refine L.yl (Y.as rfl) ?_
  refine L.nil ?_
  refine C.regS ?_
  refine L.yl (Y.as rfl) ?_
  refine L.nil ?_
  refine C.cut (fun (_:Unit) => [(0, .string (S l)), (4, .int .i64 0), (5, .bool (decide (l[0]? = some 45)))]) [] (fun _ => []) (fun _ => True) ?_ ?_
  ·
    refine C.reg ?_
    refine L.yl (Y.mv rfl) ?_
    refine L.yl (Y.lenS (tys := #[]) Go.Proofs.Tryd.underlying9 rfl) ?_
    refine L.yl (Y.gtr rfl rfl) ?_
    refine L.yl (Y.mv rfl) ?_
    refine L.gsplit (i := 11) rfl (fun hg11 => ?_) (fun hg11 => ?_)
    ·
      refine L.gOn (t := 11) rfl rfl ?_
      refine L.yl (Y.mv rfl) ?_
      refine L.gOn (t := 11) rfl rfl ?_
      refine L.sidx Go.Proofs.Tryd.underlying9 rfl rfl (by omega) (by omega) (fun u13 hu13 => ?_)
      have hb13 := u8lt u13
      refine L.gOn (t := 11) rfl rfl ?_
      refine L.yl (Y.eqi rfl rfl) ?_
      refine L.yl (Y.pickT rfl rfl) ?_
      refine L.yl (Y.as rfl) ?_
      refine L.nil ?_
      refine Then.n ?_
      exact ⟨(), ⟨rfl, rfl, congrArg some (congrArg Value.bool (by first | (have hu13 : l[0]? = some u13 := hu13; simp [hu13, u8eq]) | (have : l = [] := List.length_eq_zero_iff.1 (by omega); subst this; simp))), trivial⟩, rfl, inferInstance, trivial⟩
    ·
      refine L.gOff (t := 11) rfl rfl rfl ?_
      refine L.gOff (t := 11) rfl rfl rfl ?_
      refine L.gOff (t := 11) rfl rfl rfl ?_
      refine L.yl (Y.pickF rfl rfl) ?_
      refine L.yl (Y.as rfl) ?_
      refine L.nil ?_
      refine Then.n ?_
      exact ⟨(), ⟨rfl, rfl, congrArg some (congrArg Value.bool (by first | (have hu13 : l[0]? = some u13 := hu13; simp [hu13, u8eq]) | (have : l = [] := List.length_eq_zero_iff.1 (by omega); subst this; simp))), trivial⟩, rfl, inferInstance, trivial⟩
  · rintro ⟨⟩ _
    refine C.regS ?_
    refine L.yl (Y.as rfl) ?_
    refine L.nil ?_
    refine C.cut (fun (q:Nat) => [(0, .string (S l)), (4, .int .i64 0), (5, .bool (decide (l[0]? = some 45))), (6, .int .i64 q)]) [] (fun _ => []) (fun q => q = if l[0]? = some 45 then 1 else 0) ?_ ?_
    ·
      refine C.regS ?_
      refine L.yl (Y.mv rfl) ?_
      refine L.nil ?_
      refine C.condP rfl (fun hc1 => ?_) (fun hc1 => ?_)
      ·
        refine C.reg ?_
        refine L.yl (Y.as rfl) ?_
        refine L.nil ?_
        refine Then.n ?_
        first | exact ⟨1, ⟨rfl, rfl, rfl, rfl, trivial⟩, rfl, inferInstance, by simp [*]⟩ | exact ⟨0, ⟨rfl, rfl, rfl, rfl, trivial⟩, rfl, inferInstance, by simp [*]⟩
      ·
        refine C.skip ?_
        refine Then.n ?_
        first | exact ⟨1, ⟨rfl, rfl, rfl, rfl, trivial⟩, rfl, inferInstance, by simp [*]⟩ | exact ⟨0, ⟨rfl, rfl, rfl, rfl, trivial⟩, rfl, inferInstance, by simp [*]⟩
    · rintro q hq
      have hq1 : q ≤ 1 := by rw [hq]; split <;> omega
      refine C.seq ?_
      refine C.test (l.length ≤ q ∨ 20 < l.length) ?_ (fun hc2 => ?_) (fun hc2 => ?_)
      ·
        refine L.yl (Y.mv rfl) ?_
        refine L.yl (Y.mv rfl) ?_
        refine L.yl (Y.lenS (tys := #[]) Go.Proofs.Tryd.underlying9 rfl) ?_
        refine L.yl (Y.geq rfl rfl) ?_
        refine L.yl (Y.mv rfl) ?_
        refine L.gsplit (i := 21) rfl (fun hg21 => ?_) (fun hg21 => ?_)
        ·
          refine L.gOff (t := 21) rfl rfl rfl ?_
          refine L.gOff (t := 21) rfl rfl rfl ?_
          refine L.gOff (t := 21) rfl rfl rfl ?_
          refine L.yl (Y.pickT rfl rfl) ?_
          refine L.nil ?_
          exact ⟨_, rfl, by first | exact ⟨fun _ => by omega, fun _ => rfl⟩ | (rw [decide_eq_true_iff]; omega) | exact ⟨fun h => by cases h, fun h => by omega⟩ | (simp [*] <;> omega), (by repeat (first | exact Inc.refl _ | refine Inc.cons rfl ?_)), rfl, rfl⟩
        ·
          refine L.gOn (t := 21) rfl rfl ?_
          refine L.yl (Y.mv rfl) ?_
          refine L.gOn (t := 21) rfl rfl ?_
          refine L.yl (Y.lenS (tys := #[]) Go.Proofs.Tryd.underlying9 rfl) ?_
          refine L.gOn (t := 21) rfl rfl ?_
          refine L.yl (Y.gtr rfl rfl) ?_
          refine L.yl (Y.pickF rfl rfl) ?_
          refine L.nil ?_
          exact ⟨_, rfl, by first | exact ⟨fun _ => by omega, fun _ => rfl⟩ | (rw [decide_eq_true_iff]; omega) | exact ⟨fun h => by cases h, fun h => by omega⟩ | (simp [*] <;> omega), (by repeat (first | exact Inc.refl _ | refine Inc.cons rfl ?_)), rfl, rfl⟩
      ·
        have hN := val_len l q hq hc2
        refine C.regS ?_
        refine L.yl (Y.as rfl) ?_
        refine L.yl (Y.as rfl) ?_
        refine L.nil ?_
        refine C.ret ?_
        refine Then.r ?_
        refine FnPost.r2 Go.Proofs.Tryd.results26 rfl rfl ?_
        exact ⟨_, _, rfl, by simp [hN]⟩
      ·
        refine C.skip ?_
        refine Then.n ?_
        refine C.seq ?_
        refine C.block ?_
        refine C.loop (σ := Nat × Int) (fun (i, m) => [(0, .string (S l)), (4, .int .i64 m), (5, .bool (decide (l[0]? = some 45))), (6, .int .i64 i)]) (fun (i, m) => []) (fun (i, m) => q ≤ i ∧ i ≤ l.length ∧ m ≤ 0 ∧ -9223372036854775808 ≤ m ∧ Lib.decFrom 0 ((l.drop q).take (i - q)) = some m.natAbs) (fun (i, m) => l.length - i) (q, 0) ?_ ?_ ?_ ?_
        · repeat (first | exact trivial | refine ⟨rfl, ?_⟩)
        · first | exact .of (.refl _) | exact inferInstance | (dsimp only; exact inferInstance)
        · exact ⟨Nat.le_refl _, by omega, by omega, by omega, by simp [Lib.decFrom]⟩
        · rintro ⟨i, m⟩ ⟨h1, h2, h3, h4, h5⟩
          try dsimp only
          refine C.seq ?_
          refine C.regS ?_
          refine L.yl (Y.mv rfl) ?_
          refine L.yl (Y.mv rfl) ?_
          refine L.yl (Y.lenS (tys := #[]) Go.Proofs.Tryd.underlying9 rfl) ?_
          refine L.yl (Y.lss rfl rfl) ?_
          refine L.nil ?_
          refine C.condP rfl (fun hc3 => ?_) (fun hc3 => ?_)
          ·
            refine C.skip ?_
            refine Then.n ?_
            refine C.block ?_
            refine C.regS ?_
            refine L.yl (Y.mv rfl) ?_
            refine L.yl (Y.mv rfl) ?_
            refine L.sidx Go.Proofs.Tryd.underlying9 rfl rfl (by omega) (by omega) (fun u32 hu32 => ?_)
            have hb32 := u8lt u32
            first | refine L.yl (Y.cvI Go.Proofs.Tryd.underlying3 ⟨_, Go.Proofs.Tryd.underlying5⟩ rfl (by omega)) ?_ | refine L.yl (Y.cvW Go.Proofs.Tryd.underlying3 ⟨_, Go.Proofs.Tryd.underlying5⟩ rfl) ?_
            first | refine L.yl (Y.sub rfl rfl (by omega)) ?_ | refine L.yl (Y.subW rfl rfl) ?_
            refine L.yl (Y.as rfl) ?_
            refine L.nil ?_
            refine C.seq ?_
            refine C.test ((u32.toNat : Int) - 48 < 0 ∨ 9 < (u32.toNat : Int) - 48) ?_ (fun hc4 => ?_) (fun hc4 => ?_)
            ·
              refine L.yl (Y.mv rfl) ?_
              refine L.yl (Y.lss rfl rfl) ?_
              refine L.yl (Y.mv rfl) ?_
              refine L.gsplit (i := 37) rfl (fun hg37 => ?_) (fun hg37 => ?_)
              ·
                refine L.gOff (t := 37) rfl rfl rfl ?_
                refine L.gOff (t := 37) rfl rfl rfl ?_
                refine L.yl (Y.pickT rfl rfl) ?_
                refine L.nil ?_
                exact ⟨_, rfl, by first | exact ⟨fun _ => by omega, fun _ => rfl⟩ | (rw [decide_eq_true_iff]; omega) | exact ⟨fun h => by cases h, fun h => by omega⟩ | (simp [*] <;> omega), (by repeat (first | exact Inc.refl _ | refine Inc.cons rfl ?_)), rfl, rfl⟩
              ·
                refine L.gOn (t := 37) rfl rfl ?_
                refine L.yl (Y.mv rfl) ?_
                refine L.gOn (t := 37) rfl rfl ?_
                refine L.yl (Y.gtr rfl rfl) ?_
                refine L.yl (Y.pickF rfl rfl) ?_
                refine L.nil ?_
                exact ⟨_, rfl, by first | exact ⟨fun _ => by omega, fun _ => rfl⟩ | (rw [decide_eq_true_iff]; omega) | exact ⟨fun h => by cases h, fun h => by omega⟩ | (simp [*] <;> omega), (by repeat (first | exact Inc.refl _ | refine Inc.cons rfl ?_)), rfl, rfl⟩
            ·
              have hN := val_digit l q hq i h1 u32 hu32 (by omega)
              refine C.regS ?_
              refine L.yl (Y.as rfl) ?_
              refine L.yl (Y.as rfl) ?_
              refine L.nil ?_
              refine C.ret ?_
              refine Then.r ?_
              refine InBlo.r ?_
              refine Then.r ?_
              refine InBlo.r ?_
              refine Then.r ?_
              refine FnPost.r2 Go.Proofs.Tryd.results26 rfl rfl ?_
              exact ⟨_, _, rfl, by simp [hN]⟩
            ·
              refine C.skip ?_
              refine Then.n ?_
              refine C.seq ?_
              refine C.test (m < -922337203685477580 ∨ (m = -922337203685477580 ∧ 8 < (u32.toNat : Int) - 48)) ?_ (fun hc5 => ?_) (fun hc5 => ?_)
              ·
                refine L.yl (Y.mv rfl) ?_
                refine L.yl (Y.lss rfl rfl) ?_
                refine L.yl (Y.mv rfl) ?_
                refine L.gsplit (i := 43) rfl (fun hg43 => ?_) (fun hg43 => ?_)
                ·
                  refine L.gOff (t := 43) rfl rfl rfl ?_
                  refine L.gOff (t := 43) rfl rfl rfl ?_
                  refine L.gOff (t := 43) rfl rfl rfl ?_
                  refine L.gOffU (t := 46) rfl rfl ?_
                  refine L.gOffU (t := 46) rfl rfl ?_
                  refine L.gOff (t := 43) rfl rfl rfl ?_
                  refine L.yl (Y.pickT rfl rfl) ?_
                  refine L.nil ?_
                  exact ⟨_, rfl, by first | exact ⟨fun _ => by omega, fun _ => rfl⟩ | (rw [decide_eq_true_iff]; omega) | exact ⟨fun h => by cases h, fun h => by omega⟩ | (simp [*] <;> omega), (by repeat (first | exact Inc.refl _ | refine Inc.cons rfl ?_)), rfl, rfl⟩
                ·
                  refine L.gOn (t := 43) rfl rfl ?_
                  refine L.yl (Y.mv rfl) ?_
                  refine L.gOn (t := 43) rfl rfl ?_
                  refine L.yl (Y.eqi rfl rfl) ?_
                  refine L.gOn (t := 43) rfl rfl ?_
                  refine L.yl (Y.mv rfl) ?_
                  refine L.gsplit (i := 46) rfl (fun hg46 => ?_) (fun hg46 => ?_)
                  ·
                    refine L.gOn (t := 46) rfl rfl ?_
                    refine L.yl (Y.mv rfl) ?_
                    refine L.gOn (t := 46) rfl rfl ?_
                    refine L.yl (Y.gtr rfl rfl) ?_
                    refine L.gOn (t := 43) rfl rfl ?_
                    refine L.yl (Y.pickT rfl rfl) ?_
                    refine L.yl (Y.pickF rfl rfl) ?_
                    refine L.nil ?_
                    exact ⟨_, rfl, by first | exact ⟨fun _ => by omega, fun _ => rfl⟩ | (rw [decide_eq_true_iff]; omega) | exact ⟨fun h => by cases h, fun h => by omega⟩ | (simp [*] <;> omega), (by repeat (first | exact Inc.refl _ | refine Inc.cons rfl ?_)), rfl, rfl⟩
                  ·
                    refine L.gOff (t := 46) rfl rfl rfl ?_
                    refine L.gOff (t := 46) rfl rfl rfl ?_
                    refine L.gOn (t := 43) rfl rfl ?_
                    refine L.yl (Y.pickF rfl rfl) ?_
                    refine L.yl (Y.pickF rfl rfl) ?_
                    refine L.nil ?_
                    exact ⟨_, rfl, by first | exact ⟨fun _ => by omega, fun _ => rfl⟩ | (rw [decide_eq_true_iff]; omega) | exact ⟨fun h => by cases h, fun h => by omega⟩ | (simp [*] <;> omega), (by repeat (first | exact Inc.refl _ | refine Inc.cons rfl ?_)), rfl, rfl⟩
              ·
                have hN := val_over l q hq i m h1 h3 u32 hu32 (by omega) (by omega) h5 (by omega)
                refine C.regS ?_
                refine L.yl (Y.as rfl) ?_
                refine L.yl (Y.as rfl) ?_
                refine L.nil ?_
                refine C.ret ?_
                refine Then.r ?_
                refine InBlo.r ?_
                refine Then.r ?_
                refine InBlo.r ?_
                refine Then.r ?_
                refine FnPost.r2 Go.Proofs.Tryd.results26 rfl rfl ?_
                exact ⟨_, _, rfl, by simp [hN]⟩
              ·
                refine C.skip ?_
                refine Then.n ?_
                refine C.regS ?_
                refine L.yl (Y.mv rfl) ?_
                first | refine L.yl (Y.mul rfl rfl (by omega)) ?_ | refine L.yl (Y.mulW rfl rfl) ?_
                refine L.yl (Y.mv rfl) ?_
                first | refine L.yl (Y.sub rfl rfl (by omega)) ?_ | refine L.yl (Y.subW rfl rfl) ?_
                refine L.yl (Y.as rfl) ?_
                refine L.nil ?_
                refine C.reg ?_
                refine L.yl (Y.mv rfl) ?_
                first | refine L.yl (Y.add rfl rfl (by omega)) ?_ | refine L.yl (Y.addW rfl rfl) ?_
                refine L.yl (Y.as rfl) ?_
                refine L.nil ?_
                refine InBlo.n ?_
                exact ⟨(i + 1, m * 10 - (u32.toNat - 48)), (by repeat (first | exact trivial | refine ⟨rfl, ?_⟩ | refine ⟨congrArg some (by simp), ?_⟩ | refine ⟨congrArg some (by simp; omega), ?_⟩)), rfl, (by first | exact inferInstance | (dsimp only; exact inferInstance)), ⟨by omega, by omega, by omega, by omega, val_step l q i m h1 u32 hu32 (by omega) (by omega) (by omega) h5⟩, (by first | omega | (dsimp only; omega))⟩
          ·
            refine C.exit ?_
            refine Then.x ?_
            refine Then.x ?_
            refine InBlo.x ?_
            refine Then.n ?_
            refine C.cut (fun (r:Int) => [(0, .string (S l)), (4, .int .i64 r)]) [] (fun _ => []) (fun r => InR r ∧ (if l[0]? = some 45 then r = m else r = -m)) ?_ ?_
            ·
              refine C.regS ?_
              refine L.yl (Y.mv rfl) ?_
              first | refine L.yl (Y.notP rfl) ?_ | refine L.yl (Y.not rfl) ?_
              refine L.nil ?_
              refine C.condP rfl (fun hc6 => ?_) (fun hc6 => ?_)
              ·
                refine C.seq ?_
                refine C.regS ?_
                refine L.yl (Y.mv rfl) ?_
                refine L.yl (Y.eqi rfl rfl) ?_
                refine L.nil ?_
                refine C.condP rfl (fun hc7 => ?_) (fun hc7 => ?_)
                ·
                  have hN := val_min l q hq i m (by omega) (by omega) hc6 (by omega) h5
                  refine C.regS ?_
                  refine L.yl (Y.as rfl) ?_
                  refine L.yl (Y.as rfl) ?_
                  refine L.nil ?_
                  refine C.ret ?_
                  refine Then.r ?_
                  refine Then.r ?_
                  refine FnPost.r2 Go.Proofs.Tryd.results26 rfl rfl ?_
                  exact ⟨_, _, rfl, by simp [hN]⟩
                ·
                  refine C.skip ?_
                  refine Then.n ?_
                  refine C.reg ?_
                  refine L.yl (Y.mv rfl) ?_
                  refine L.yl (Y.neg rfl (by omega)) ?_
                  refine L.yl (Y.as rfl) ?_
                  refine L.nil ?_
                  refine Then.n ?_
                  first | exact ⟨-m, ⟨rfl, rfl, trivial⟩, rfl, inferInstance, ⟨by omega, by omega⟩, by simp [*]⟩ | exact ⟨m, ⟨rfl, rfl, trivial⟩, rfl, inferInstance, ⟨by omega, by omega⟩, by simp_all⟩
              ·
                refine C.skip ?_
                refine Then.n ?_
                first | exact ⟨-m, ⟨rfl, rfl, trivial⟩, rfl, inferInstance, ⟨by omega, by omega⟩, by simp [*]⟩ | exact ⟨m, ⟨rfl, rfl, trivial⟩, rfl, inferInstance, ⟨by omega, by omega⟩, by simp_all⟩
            · rintro r ⟨hr1, hr2⟩
              have hr1' := hr1
              unfold InR at hr1'
              refine C.regS ?_
              refine L.yl (Y.mv rfl) ?_
              refine L.yl (Y.mv rfl) ?_
              refine L.callP go44 rfl (fun w hw => ref_Number _ (by omega) w) ?_
              refine L.yl (Y.mv rfl) ?_
              refine L.yl (Y.eqs rfl rfl) ?_
              refine L.yl (Y.as rfl) ?_
              refine L.yl (Y.as rfl) ?_
              refine L.nil ?_
              refine C.ret ?_
              refine FnPost.r2 Go.Proofs.Tryd.results26 rfl rfl ?_
              exact ⟨_, _, rfl, val_end l q hq i m r hr1 hr2 (by omega) h3 h5⟩
def NumR (l : List UInt8) (r : Value) (Γ : List Ch) : Prop := Γ = [] ∧ ∃ v, r = .tuple #[.int .i64 v, .bool (decide (num l = some v))] ∧ (¬ num l = some v → num l = none)
theorem ref_Value' (l : List UInt8) (w : World) : Calls Go.Proofs.Tryd.prog 26 #[.string (S l)] w (Post w [] (RW (NumR l))) := by
  refine Calls.mono (ref_Value l w) ?_
  rintro e w' ⟨v, Γ', rfl, ⟨x, b, rfl, hx⟩, hs⟩
  refine ⟨_, Γ', rfl, ⟨[], inferInstance, rfl, x, ?_, ?_⟩, hs⟩
  · cases b <;> simp [hx]
  · cases b <;> simp [hx]

end Go.Proofs.YtinbfghmnfldjaaDoor
set_option maxHeartbeats 1000000
namespace Go.Proofs.YtinbfghmnfldjaaDoor
open Go Go.X Go.Shelf Go.Scr
theorem ref_value (c : UInt8) (w : World) : Pur Go.Proofs.Tryd.prog 43 [.int .u8 c.toNat] (.int .i64 (hexv c)) w := by
  have hc := u8lt c
  refine pur_of Go.Proofs.Tryd.func43 rfl Go.Proofs.Tryd.ntmps43 rfl ?_
  change C _ _ _ _ _ _ _ ⟨[(0, _)], []⟩ _
  refine C.regS ?_
  refine L.yl (Y.as rfl) ?_
  refine L.nil ?_
  refine C.seq ?_
  refine C.test (48 ≤ (c.toNat:Int) ∧ (c.toNat:Int) ≤ 57) ?_ (fun hc1 => ?_) (fun hc1 => ?_)
  ·
    refine L.yl (Y.mv rfl) ?_
    refine L.yl (Y.geq rfl rfl) ?_
    refine L.yl (Y.mv rfl) ?_
    refine L.gsplit (i := 5) rfl (fun hg5 => ?_) (fun hg5 => ?_)
    ·
      refine L.gOn (t := 5) rfl rfl ?_
      refine L.yl (Y.mv rfl) ?_
      refine L.gOn (t := 5) rfl rfl ?_
      refine L.yl (Y.leq rfl rfl) ?_
      refine L.yl (Y.pick rfl rfl rfl) ?_
      refine L.nil ?_
      exact ⟨_, rfl, by first | exact ⟨fun _ => by omega, fun _ => rfl⟩ | (rw [decide_eq_true_iff]; omega) | exact ⟨fun h => by cases h, fun h => by omega⟩ | (simp [*] <;> omega), (by repeat (first | exact Inc.refl _ | refine Inc.cons rfl ?_)), rfl, rfl⟩
    ·
      refine L.gOff (t := 5) rfl rfl rfl ?_
      refine L.gOff (t := 5) rfl rfl rfl ?_
      refine L.yl (Y.pick rfl rfl rfl) ?_
      refine L.nil ?_
      exact ⟨_, rfl, by first | exact ⟨fun _ => by omega, fun _ => rfl⟩ | (rw [decide_eq_true_iff]; omega) | exact ⟨fun h => by cases h, fun h => by omega⟩ | (simp [*] <;> omega), (by repeat (first | exact Inc.refl _ | refine Inc.cons rfl ?_)), rfl, rfl⟩
  ·
    refine C.regS ?_
    refine L.yl (Y.mv rfl) ?_
    first | refine L.yl (Y.cvI Go.Proofs.Tryd.underlying3 ⟨_, Go.Proofs.Tryd.underlying5⟩ rfl (by omega)) ?_ | refine L.yl (Y.cvW Go.Proofs.Tryd.underlying3 ⟨_, Go.Proofs.Tryd.underlying5⟩ rfl) ?_
    first | refine L.yl (Y.sub rfl rfl (by omega)) ?_ | refine L.yl (Y.subW rfl rfl) ?_
    refine L.yl (Y.as rfl) ?_
    refine L.nil ?_
    refine C.ret ?_
    refine Then.r ?_
    refine FnPost.r1 Go.Proofs.Tryd.results43 rfl ?_
    (try simp); unfold hexv; rw [if_pos (by omega)]
  ·
    refine C.skip ?_
    refine Then.n ?_
    refine C.seq ?_
    refine C.test (97 ≤ (c.toNat:Int) ∧ (c.toNat:Int) ≤ 102) ?_ (fun hc2 => ?_) (fun hc2 => ?_)
    ·
      refine L.yl (Y.mv rfl) ?_
      refine L.yl (Y.geq rfl rfl) ?_
      refine L.yl (Y.mv rfl) ?_
      refine L.gsplit (i := 14) rfl (fun hg14 => ?_) (fun hg14 => ?_)
      ·
        refine L.gOn (t := 14) rfl rfl ?_
        refine L.yl (Y.mv rfl) ?_
        refine L.gOn (t := 14) rfl rfl ?_
        refine L.yl (Y.leq rfl rfl) ?_
        refine L.yl (Y.pickT rfl rfl) ?_
        refine L.nil ?_
        exact ⟨_, rfl, by first | exact ⟨fun _ => by omega, fun _ => rfl⟩ | (rw [decide_eq_true_iff]; omega) | exact ⟨fun h => by cases h, fun h => by omega⟩ | (simp [*] <;> omega), (by repeat (first | exact Inc.refl _ | refine Inc.cons rfl ?_)), rfl, rfl⟩
      ·
        refine L.gOff (t := 14) rfl rfl rfl ?_
        refine L.gOff (t := 14) rfl rfl rfl ?_
        refine L.yl (Y.pickF rfl rfl) ?_
        refine L.nil ?_
        exact ⟨_, rfl, by first | exact ⟨fun _ => by omega, fun _ => rfl⟩ | (rw [decide_eq_true_iff]; omega) | exact ⟨fun h => by cases h, fun h => by omega⟩ | (simp [*] <;> omega), (by repeat (first | exact Inc.refl _ | refine Inc.cons rfl ?_)), rfl, rfl⟩
    ·
      refine C.regS ?_
      refine L.yl (Y.mv rfl) ?_
      first | refine L.yl (Y.cvI Go.Proofs.Tryd.underlying3 ⟨_, Go.Proofs.Tryd.underlying5⟩ rfl (by omega)) ?_ | refine L.yl (Y.cvW Go.Proofs.Tryd.underlying3 ⟨_, Go.Proofs.Tryd.underlying5⟩ rfl) ?_
      first | refine L.yl (Y.sub rfl rfl (by omega)) ?_ | refine L.yl (Y.subW rfl rfl) ?_
      refine L.yl (Y.as rfl) ?_
      refine L.nil ?_
      refine C.ret ?_
      refine Then.r ?_
      refine FnPost.r1 Go.Proofs.Tryd.results43 rfl ?_
      (try simp); unfold hexv; rw [if_neg (by omega), if_pos (by omega)]
    ·
      refine C.skip ?_
      refine Then.n ?_
      refine C.regS ?_
      refine L.yl (Y.as rfl) ?_
      refine L.nil ?_
      refine C.ret ?_
      refine FnPost.r1 Go.Proofs.Tryd.results43 rfl ?_
      (try simp); unfold hexv; rw [if_neg (by omega), if_neg (by omega)]
/-- what both sides' reading of a data word gives -/
def BytesR (l : List UInt8) (r : Value) (Γ : List Ch) : Prop := ∃ a c bs, r = .tuple #[.slice a bs.length c, .bool (decide (unhexL l = some bs))] ∧ Γ = [own 5 1 a bs.length c (byteL bs)] ∧ (¬ unhexL l = some bs → unhexL l = none ∧ bs = [] ∧ a = none ∧ c = 0)
theorem BytesR.no {l : List UInt8} (h : unhexL l = none) : BytesR l (.tuple #[.slice none 0 0, .bool false]) [own 5 1 none 0 0 []] := ⟨none, 0, [], by rw [decide_eq_false (by simp [h])]; rfl, rfl, fun _ => ⟨h, rfl, rfl, rfl⟩⟩
theorem BytesR.yes {l bs : List UInt8} {a : Option Addr} {c : Nat} (h : unhexL l = some bs) : BytesR l (.tuple #[.slice a bs.length c, .bool true]) [own 5 1 a bs.length c (byteL bs)] := ⟨a, c, bs, by rw [decide_eq_true h], rfl, fun hn => absurd h hn⟩
theorem ref_bytes (l : List UInt8) (hl : l.length ≤ 4294967280) (w : World) : Calls Go.Proofs.Tryd.prog 24 #[.string (S l)] w (Post w [] (RW (BytesR l))) := by
  refine spec_of Go.Proofs.Tryd.func24 rfl Go.Proofs.Tryd.ntmps24 rfl (Holds.nil w) ?_
  change C _ _ _ _ _ _ _ ⟨[(0, _)], []⟩ _
  refine C.regS ?_
  refine L.yl (Y.as rfl) ?_
  refine L.yl (Y.as rfl) ?_
  refine L.nil ?_
  refine C.seq ?_
  refine C.regS ?_
  refine L.yl (Y.mv rfl) ?_
  refine L.yl (Y.eqs rfl rfl) ?_
  refine L.nil ?_
  refine C.condP rfl (fun hc1 => ?_) (fun hc1 => ?_)
  ·
    refine C.regS ?_
    refine L.yl (Y.as rfl) ?_
    refine L.yl (Y.as rfl) ?_
    refine L.nil ?_
    refine C.nil0 5 1 ?_
    refine C.ret ?_
    refine Then.r ?_
    refine FnPost.r2 Go.Proofs.Tryd.results24 rfl rfl ?_
    subst hc1; exact ⟨[own 5 1 none 0 0 []], inferInstance, BytesR.yes (bs := []) unhexL_dash⟩
  ·
    refine C.skip ?_
    refine Then.n ?_
    refine C.seq ?_
    refine C.test (l.length = 0 ∨ l.length % 2 ≠ 0) ?_ (fun hc2 => ?_) (fun hc2 => ?_)
    ·
      refine L.yl (Y.mv rfl) ?_
      refine L.yl (Y.lenS (tys := #[]) Go.Proofs.Tryd.underlying9 rfl) ?_
      refine L.yl (Y.eqi rfl rfl) ?_
      refine L.yl (Y.mv rfl) ?_
      refine L.gsplit (i := 13) rfl (fun hg13 => ?_) (fun hg13 => ?_)
      ·
        refine L.gOff (t := 13) rfl rfl rfl ?_
        refine L.gOff (t := 13) rfl rfl rfl ?_
        refine L.gOff (t := 13) rfl rfl rfl ?_
        refine L.gOff (t := 13) rfl rfl rfl ?_
        refine L.yl (Y.pickT rfl rfl) ?_
        refine L.nil ?_
        exact ⟨_, rfl, by first | exact ⟨fun _ => by omega, fun _ => rfl⟩ | (rw [decide_eq_true_iff]; omega) | exact ⟨fun h => by cases h, fun h => by omega⟩ | (simp [*] <;> omega), (by repeat (first | exact Inc.refl _ | refine Inc.cons rfl ?_)), rfl, rfl⟩
      ·
        refine L.gOn (t := 13) rfl rfl ?_
        refine L.yl (Y.mv rfl) ?_
        refine L.gOn (t := 13) rfl rfl ?_
        refine L.yl (Y.lenS (tys := #[]) Go.Proofs.Tryd.underlying9 rfl) ?_
        refine L.gOn (t := 13) rfl rfl ?_
        refine L.yl (Y.rem rfl rfl (by omega) (by omega)) ?_
        refine L.gOn (t := 13) rfl rfl ?_
        refine L.yl (Y.nei rfl rfl) ?_
        refine L.yl (Y.pickF rfl rfl) ?_
        refine L.nil ?_
        exact ⟨_, rfl, by first | exact ⟨fun _ => by omega, fun _ => rfl⟩ | (rw [decide_eq_true_iff]; omega) | exact ⟨fun h => by cases h, fun h => by omega⟩ | (simp [*] <;> omega), (by repeat (first | exact Inc.refl _ | refine Inc.cons rfl ?_)), rfl, rfl⟩
    ·
      refine C.regS ?_
      refine L.yl (Y.as rfl) ?_
      refine L.yl (Y.as rfl) ?_
      refine L.nil ?_
      refine C.nil0 5 1 ?_
      refine C.ret ?_
      refine Then.r ?_
      refine FnPost.r2 Go.Proofs.Tryd.results24 rfl rfl ?_
      exact ⟨[own 5 1 none 0 0 []], inferInstance, BytesR.no (unhexL_odd hc1 hc2)⟩
    ·
      refine C.skip ?_
      refine Then.n ?_
      refine C.regS ?_
      refine L.yl (Y.as rfl) ?_
      refine L.nil ?_
      refine C.seq ?_
      refine C.regS ?_
      refine L.yl (Y.as rfl) ?_
      refine L.nil ?_
      refine C.block ?_
      refine C.nil0 5 1 ?_
      refine C.loop (σ := Nat × Option Addr × Nat × Nat) (fun (k, a, q, c) => [(0, .string (S l)), (4, .slice a q c), (5, .int .i64 (2 * k : Nat))]) (fun (k, a, q, c) => [own 5 1 a q c (byteL ((pairs l).take k))]) (fun (k, a, q, c) => 2 * k ≤ l.length ∧ q = k ∧ ∀ (i : Nat) (c : UInt8), i < 2 * k → l[i]? = some c → 0 ≤ hexv c) (fun (k, a, q, c) => l.length - 2 * k) (0, none, 0, 0) ?_ ?_ ?_ ?_
      · repeat (first | exact trivial | refine ⟨rfl, ?_⟩)
      · first | exact .of (.refl _) | exact inferInstance | (dsimp only; exact inferInstance)
      · exact ⟨by omega, rfl, fun i c h => absurd h (by omega)⟩
      · rintro ⟨k, a, q, c⟩ ⟨hI1, rfl, hI3⟩
        have hcs : l.length = 0 ∨ l.length % 2 = 0 := by omega
        try dsimp only
        refine C.seq ?_
        refine C.regS ?_
        refine L.yl (Y.mv rfl) ?_
        refine L.yl (Y.mv rfl) ?_
        refine L.yl (Y.lenS (tys := #[]) Go.Proofs.Tryd.underlying9 rfl) ?_
        refine L.yl (Y.lss rfl rfl) ?_
        refine L.nil ?_
        refine C.condP rfl (fun hc3 => ?_) (fun hc3 => ?_)
        ·
          refine C.skip ?_
          refine Then.n ?_
          refine C.seq ?_
          refine C.block ?_
          refine C.regS ?_
          refine L.yl (Y.mv rfl) ?_
          refine L.yl (Y.mv rfl) ?_
          refine L.sidx Go.Proofs.Tryd.underlying9 rfl rfl (by omega) (by omega) (fun u27 hu27 => ?_)
          have hb27 := u8lt u27
          refine L.callP go43 rfl (fun w hw => ref_value _ w) ?_
          have hx1 := hexv_lt u27; have hx1g := hexv_ge u27; have hu27 : l[2 * q]? = some u27 := hu27
          refine L.yl (Y.as rfl) ?_
          refine L.nil ?_
          refine C.regS ?_
          refine L.yl (Y.mv rfl) ?_
          refine L.yl (Y.mv rfl) ?_
          first | refine L.yl (Y.add rfl rfl (by omega)) ?_ | refine L.yl (Y.addW rfl rfl) ?_
          refine L.sidx Go.Proofs.Tryd.underlying9 rfl rfl (by omega) (by omega) (fun u32 hu32 => ?_)
          have hb32 := u8lt u32
          refine L.callP go43 rfl (fun w hw => ref_value _ w) ?_
          have hx2 := hexv_lt u32; have hx2g := hexv_ge u32; have hu32' : l[2 * q + 1]? = some u32 := by rw [← hu32]; congr 1
          refine L.yl (Y.as rfl) ?_
          refine L.nil ?_
          refine C.seq ?_
          refine C.test (hexv u27 < 0 ∨ hexv u32 < 0) ?_ (fun hc4 => ?_) (fun hc4 => ?_)
          ·
            refine L.yl (Y.mv rfl) ?_
            refine L.yl (Y.lss rfl rfl) ?_
            refine L.yl (Y.mv rfl) ?_
            refine L.gsplit (i := 36) rfl (fun hg36 => ?_) (fun hg36 => ?_)
            ·
              refine L.gOff (t := 36) rfl rfl rfl ?_
              refine L.gOff (t := 36) rfl rfl rfl ?_
              refine L.yl (Y.pickT rfl rfl) ?_
              refine L.nil ?_
              exact ⟨_, rfl, by first | exact ⟨fun _ => by omega, fun _ => rfl⟩ | (rw [decide_eq_true_iff]; omega) | exact ⟨fun h => by cases h, fun h => by omega⟩ | (simp [*] <;> omega), (by repeat (first | exact Inc.refl _ | refine Inc.cons rfl ?_)), rfl, rfl⟩
            ·
              refine L.gOn (t := 36) rfl rfl ?_
              refine L.yl (Y.mv rfl) ?_
              refine L.gOn (t := 36) rfl rfl ?_
              refine L.yl (Y.lss rfl rfl) ?_
              refine L.yl (Y.pickF rfl rfl) ?_
              refine L.nil ?_
              exact ⟨_, rfl, by first | exact ⟨fun _ => by omega, fun _ => rfl⟩ | (rw [decide_eq_true_iff]; omega) | exact ⟨fun h => by cases h, fun h => by omega⟩ | (simp [*] <;> omega), (by repeat (first | exact Inc.refl _ | refine Inc.cons rfl ?_)), rfl, rfl⟩
          ·
            have hN : unhexL l = none := by
              rcases hc4 with h | h
              · exact unhexL_bad hc1 hu27 h
              · exact unhexL_bad hc1 hu32' h
            refine C.regS ?_
            refine L.yl (Y.as rfl) ?_
            refine L.yl (Y.as rfl) ?_
            refine L.nil ?_
            refine C.nil0 5 1 ?_
            refine C.ret ?_
            refine Then.r ?_
            refine InBlo.r ?_
            refine Then.r ?_
            refine Then.r ?_
            refine InBlo.r ?_
            refine Then.r ?_
            refine FnPost.r2 Go.Proofs.Tryd.results24 rfl rfl ?_
            exact ⟨[own 5 1 none 0 0 []], inferInstance, BytesR.no hN⟩
          ·
            refine C.skip ?_
            refine Then.n ?_
            refine C.reg ?_
            refine L.yl (Y.mv rfl) ?_
            refine L.yl (Y.mv rfl) ?_
            first | refine L.yl (Y.mul rfl rfl (by omega)) ?_ | refine L.yl (Y.mulW rfl rfl) ?_
            refine L.yl (Y.mv rfl) ?_
            first | refine L.yl (Y.add rfl rfl (by omega)) ?_ | refine L.yl (Y.addW rfl rfl) ?_
            refine L.yl (Y.cvW Go.Proofs.Tryd.underlying5 ⟨_, Go.Proofs.Tryd.underlying3⟩ rfl) ?_
            refine L.bs1 elt34 rfl rfl ?_; intro b46
            refine L.app elt34 rfl rfl (by rfl) (by simp [byteL, pairs_length] <;> omega) (by omega) (by omega) ?_; intro a47 c47
            have hp : [Value.int .u8 (IntKind.u8.wrap (16 * hexv u27 + hexv u32))] = byteL [hex2 u27 u32] := by
              simp only [byteL, List.map_cons, List.map_nil, hex2]; congr 2; rw [show IntKind.u8.wrap (16 * hexv u27 + hexv u32) = (16 * hexv u27 + hexv u32) % 256 from rfl]; simp <;> omega
            rw [hp, show byteL ((pairs l).take q) ++ byteL [hex2 u27 u32] = byteL ((pairs l).take (q + 1)) from by rw [pairs_take l q u27 u32 hu27 hu32']; simp [byteL]]
            refine L.yl (Y.as rfl) ?_
            refine L.nil ?_
            refine InBlo.n ?_
            refine Then.n ?_
            refine C.reg ?_
            refine L.yl (Y.mv rfl) ?_
            first | refine L.yl (Y.add rfl rfl (by omega)) ?_ | refine L.yl (Y.addW rfl rfl) ?_
            refine L.yl (Y.as rfl) ?_
            refine L.nil ?_
            exact ⟨(q + 1, _, _, _), ⟨rfl, rfl, congrArg some (by simp; omega), trivial⟩, rfl, (by first | exact inferInstance | (dsimp only; exact inferInstance)), ⟨by omega, rfl, fun i c hi hic => by
              rcases Nat.lt_or_ge i (2 * q) with h | h
              · exact hI3 i c h hic
              · rcases Nat.lt_or_ge i (2 * q + 1) with h' | h'
                · have : i = 2 * q := by omega
                  subst this; have := hu27.symm.trans hic; injection this with this; subst this; omega
                · have : i = 2 * q + 1 := by omega
                  subst this; have := hu32'.symm.trans hic; injection this with this; subst this; omega⟩, (by first | omega | (dsimp only; omega))⟩
        ·
          refine C.exit ?_
          refine Then.x ?_
          refine Then.x ?_
          refine InBlo.x ?_
          refine Then.n ?_
          refine C.regS ?_
          refine L.yl (Y.mv rfl) ?_
          refine L.yl (Y.as rfl) ?_
          refine L.yl (Y.as rfl) ?_
          refine L.nil ?_
          have hlen := pairs_length l
          have hq : q = (pairs l).length := by omega
          rw [List.take_of_length_le (Nat.le_of_eq hq.symm)]
          subst hq
          refine C.ret ?_
          refine FnPost.r2 Go.Proofs.Tryd.results24 rfl rfl ?_
          exact ⟨[own 5 1 a _ c (byteL (pairs l))], inferInstance, BytesR.yes (unhexL_good hc1 (by omega) (by omega) (fun i c hic => hI3 i c (by have := (List.getElem?_eq_some_iff.1 hic).1; omega) hic))⟩
end Go.Proofs.YtinbfghmnfldjaaDoor
namespace Go.Scr
open Go Go.Lib
def words : List (List UInt8) := [[119, 114, 105, 116, 101], [116, 105, 99, 107], [100, 97, 116, 97], [100, 114, 111, 112, 100, 97, 116, 97], [99, 111, 112, 121, 100, 97, 116, 97], [98, 97, 99, 107], [100, 114, 111, 112, 98, 97, 99, 107], [99, 111, 112, 121, 98, 97, 99, 107]]
def sender : List UInt8 := [115, 101, 110, 100, 101, 114]
def headL (l : List UInt8) : Option (List Int) :=
  if (splitc 32 l).length ≠ 9 ∨ (splitc 32 l)[0]? ≠ some sender then none else
  match ((splitc 32 l).drop 1).mapM num with
  | none => none
  | some ns => if ns.getD 0 0 < 0 ∨ 4294967295 < ns.getD 0 0 then none else some ns
def headV (ns : List Int) : Value := .agg #[.int .u32 (ns.getD 0 0), .int .i64 (ns.getD 1 0), .int .i64 (ns.getD 2 0), .int .i64 (ns.getD 3 0), .int .i64 (ns.getD 4 0), .int .i64 (ns.getD 5 0), .int .i64 (ns.getD 6 0), .int .i64 (ns.getD 7 0)]
theorem headL_bad {l : List UInt8} (h : (splitc 32 l).length ≠ 9 ∨ (splitc 32 l)[0]? ≠ some sender) : headL l = none := by
  unfold headL; rw [if_pos h]
theorem mapM_none {α β : Type} (f : α → Option β) : ∀ (l : List α) (i : Nat) (x : α), l[i]? = some x → f x = none → l.mapM f = none
  | [], i, x, h, _ => by simp at h
  | y :: r, 0, x, h, hf => by simp at h; subst h; simp [hf]
  | y :: r, i + 1, x, h, hf => by
    simp at h
    simp only [List.mapM_cons, mapM_none f r i x h hf]
    cases f y <;> rfl
theorem mapM_append {α β : Type} (f : α → Option β) : ∀ (a b : List α), (a ++ b).mapM f = (a.mapM f).bind fun x => (b.mapM f).map fun y => x ++ y
  | [], b => by simp
  | y :: r, b => by
    simp only [List.cons_append, List.mapM_cons, mapM_append f r b]
    cases f y <;> simp
    cases r.mapM f <;> simp
    cases b.mapM f <;> simp
theorem mapM_length {α β : Type} (f : α → Option β) : ∀ (a : List α) (b : List β), a.mapM f = some b → b.length = a.length
  | [], b, h => by simp at h; subst h; rfl
  | y :: r, b, h => by
    simp only [List.mapM_cons, Option.bind_eq_bind, Option.bind_eq_some_iff, Option.pure_def, Option.some.injEq] at h
    obtain ⟨v, hv, bs, hbs, rfl⟩ := h
    simp [mapM_length f r bs hbs]
theorem mapM_step {α β : Type} (f : α → Option β) (l : List α) (k : Nat) (x : α) (y : β) (ns : List β) (h : (l.take k).mapM f = some ns) (hx : l[k]? = some x) (hy : f x = some y) : (l.take (k + 1)).mapM f = some (ns ++ [y]) := by
  rw [List.take_add_one, hx, mapM_append, h]
  simp [hy]
theorem headL_num {l : List UInt8} (i : Nat) (x : List UInt8) (h1 : 1 ≤ i) (h : (splitc 32 l)[i]? = some x) (hx : num x = none) : headL l = none := by
  unfold headL
  split
  · rfl
  · rw [mapM_none num ((splitc 32 l).drop 1) (i - 1) x (by rw [List.getElem?_drop, show 1 + (i - 1) = i by omega]; exact h) hx]
theorem headL_end {l : List UInt8} {ns : List Int} (h9 : (splitc 32 l).length = 9) (hs : (splitc 32 l)[0]? = some sender) (h : (((splitc 32 l).drop 1).take 8).mapM num = some ns) :
    headL l = if ns.getD 0 0 < 0 ∨ 4294967295 < ns.getD 0 0 then none else some ns := by
  unfold headL
  rw [if_neg (by rw [h9, hs]; simp)]
  rw [List.take_of_length_le (by simp; omega)] at h
  rw [h]
theorem headV_eq {ns : List Int} {a0 a1 a2 a3 a4 a5 a6 a7 : Int} (h0 : ns[0]? = some a0) (h1 : ns[1]? = some a1) (h2 : ns[2]? = some a2) (h3 : ns[3]? = some a3) (h4 : ns[4]? = some a4) (h5 : ns[5]? = some a5) (h6 : ns[6]? = some a6) (h7 : ns[7]? = some a7) :
    headV ns = .agg #[.int .u32 a0, .int .i64 a1, .int .i64 a2, .int .i64 a3, .int .i64 a4, .int .i64 a5, .int .i64 a6, .int .i64 a7] := by
  simp [headV, List.getD, h0, h1, h2, h3, h4, h5, h6, h7]
theorem set_rep (ns : List Int) (k : Nat) (v : Int) (h : ns.length + k + 1 = 8) : (ns ++ List.replicate (8 - ns.length) 0).set ns.length v = (ns ++ [v]) ++ List.replicate (8 - (ns ++ [v]).length) 0 := by
  rw [show 8 - ns.length = k + 1 by omega, List.replicate_succ, List.set_append, if_neg (by omega), Nat.sub_self, List.set_cons_zero, List.append_assoc, List.length_append, List.length_singleton, show 8 - (ns.length + 1) = k by omega]
  rfl
def HeadR (l : List UInt8) : Value := .tuple #[headV ((headL l).getD []), .bool (decide (headL l ≠ none))]
/-- one line: kind, number, data -/
def tailL (k r : List UInt8) : Option (Int × Int × List UInt8) :=
  if k = words[0] then (unhexL r).map fun d => (0, 0, d) else if k ∈ words then (num r).map fun n => ((words.idxOf k : Nat), n, []) else none
def lineL (l : List UInt8) : Option (Int × Int × List UInt8) :=
  match splitc 32 l with
  | [k, r] => tailL k r
  | _ => none
theorem tailL_zero {k r : List UInt8} (h : k = [119, 114, 105, 116, 101]) : tailL k r = (unhexL r).map fun d => (0, 0, d) := by unfold tailL; rw [if_pos (show k = words[0] from h)]
theorem tailL_hit {k r : List UInt8} {i : Nat} (h1 : 1 ≤ i) (h8 : i < 8) (h : words[i]? = some k) : tailL k r = (num r).map fun n => ((i : Int), n, []) := by
  have key : ∀ j : Fin 8, 1 ≤ j.val → words[j.val]! ≠ words[0] ∧ words[j.val]! ∈ words ∧ words.idxOf words[j.val]! = j.val := by decide
  obtain ⟨k1, k2, k3⟩ := key ⟨i, h8⟩ h1
  have e : words[i]! = k := by rw [List.getElem!_eq_getElem?_getD, h]; rfl
  simp only [e] at k1 k2 k3
  unfold tailL
  rw [if_neg k1, if_pos k2, k3]
theorem tailL_none {k r : List UInt8} (h : ∀ j, j < 8 → words[j]? ≠ some k) : tailL k r = none := by
  have hn : k ∉ words := fun hm => by
    obtain ⟨j, hj⟩ := List.getElem?_of_mem hm
    exact h j (by have := (List.getElem?_eq_some_iff.1 hj).1; exact this) hj
  unfold tailL
  rw [if_neg (fun e => hn (by rw [e]; decide)), if_neg hn]
theorem lineL_two {l k r : List UInt8} (h : (splitc 32 l).length = 2) (hk : (splitc 32 l)[0]? = some k) (hr : (splitc 32 l)[1]? = some r) : lineL l = tailL k r := by
  unfold lineL
  match hs : splitc 32 l, h, hk, hr with
  | [a, b], _, hk, hr => simp at hk hr; subst hk hr; rfl
theorem lineL_not {l : List UInt8} (h : (splitc 32 l).length ≠ 2) : lineL l = none := by
  unfold lineL
  split
  · rename_i hs; rw [hs] at h; simp at h
  · rfl
def itemOf (x : Option (Int × Int × List UInt8)) : Int × Int × List UInt8 := x.getD (0, 0, [])
end Go.Scr
namespace Go.Scr
open Go Go.Lib Go.X
abbrev It := Int × Int × List UInt8
/-- an item with where its data lie -/
abbrev Zt := It × Option Addr × Nat
def zc (z : Zt) : List Value := [.int .i64 z.1.1, .int .i64 z.1.2.1, .slice z.2.1 z.1.2.2.length z.2.2]
@[reducible] def zcells (zs : List Zt) : List Value := zs.flatMap zc
@[reducible] def zch (z : Zt) : Ch := own 5 1 z.2.1 z.1.2.2.length z.2.2 (byteL z.1.2.2)
theorem zcells_append (a b : List Zt) : zcells (a ++ b) = zcells a ++ zcells b := by simp [zcells]
theorem zcells_length : ∀ zs : List Zt, (zcells zs).length = zs.length * 3
  | [] => rfl
  | z :: r => by
    have := zcells_length r
    simp only [zcells, List.flatMap_cons, List.length_append, List.length_cons, zc, List.length_nil] at this ⊢
    omega
theorem zcells_get (zs : List Zt) (k j : Nat) (z : Zt) (h : zs[k]? = some z) (hj : j < 3) : (zcells zs)[k * 3 + j]? = (zc z)[j]? := by
  induction zs generalizing k with
  | nil => simp at h
  | cons y r ih =>
    cases k with
    | zero =>
      simp at h; subst h
      simp only [zcells, List.flatMap_cons, Nat.zero_mul, Nat.zero_add]
      rw [List.getElem?_append_left (by simp [zc]; omega)]
    | succ k =>
      simp only [List.getElem?_cons_succ] at h
      simp only [zcells, List.flatMap_cons]
      rw [List.getElem?_append_right (by simp [zc]; omega)]
      have := ih k h
      rw [← this]
      congr 1
      simp [zc]; omega
def parseL (t : List UInt8) : List Int × List It × Int × Int :=
  if t.getLast? ≠ some 10 then ([], [], 0, 14) else
  let ls := splitc 10 (t.take (t.length - 1))
  if 4097 < ls.length then ([], [], 0, 9) else
  match headL (ls[0]?.getD []) with
  | none => ([], [], 1, 15)
  | some ns => match (ls.drop 1).mapM lineL with
    | none => ([], [], (ls.drop 1).findIdx (fun l => (lineL l).isNone) + 2, 15)
    | some xs => (ns, xs, 0, 0)
theorem parseL_last {t : List UInt8} (h : t.getLast? ≠ some 10) : parseL t = ([], [], 0, 14) := by unfold parseL; rw [if_pos h]
theorem parseL_long {t : List UInt8} {ls : List (List UInt8)} (h : t.getLast? = some 10) (hls : splitc 10 (t.take (t.length - 1)) = ls) (h2 : 4097 < ls.length) : parseL t = ([], [], 0, 9) := by
  unfold parseL; rw [if_neg (by simp [h])]; simp only [hls]; rw [if_pos h2]
theorem parseL_head {t k : List UInt8} {ls : List (List UInt8)} (h : t.getLast? = some 10) (hls : splitc 10 (t.take (t.length - 1)) = ls) (h2 : ls.length ≤ 4097) (hk : ls[0]? = some k) (hh : headL k = none) : parseL t = ([], [], 1, 15) := by
  unfold parseL; rw [if_neg (by simp [h])]; simp only [hls]; rw [if_neg (by omega), hk]; simp [hh]
theorem mapM_bad {l : List (List UInt8)} {k : Nat} {x : List UInt8} {xs : List It} (h : (l.take k).mapM lineL = some xs) (hx : l[k]? = some x) (hn : lineL x = none) : l.mapM lineL = none ∧ l.findIdx (fun l => (lineL l).isNone) = k := by
  refine ⟨mapM_none _ _ _ _ hx hn, ?_⟩
  have hlt := (List.getElem?_eq_some_iff.1 hx).1
  have hx' : l[k] = x := (List.getElem?_eq_some_iff.1 hx).2
  rw [List.findIdx_eq hlt]
  refine ⟨by rw [hx', hn]; rfl, fun j hj => ?_⟩
  cases hb : lineL l[j] with
  | some y => rfl
  | none =>
    have : (l.take k).mapM lineL = none := mapM_none _ _ j l[j] (by rw [List.getElem?_take, if_pos hj, List.getElem?_eq_getElem]) hb
    rw [this] at h; cases h
theorem parseL_line {t k x : List UInt8} {ls : List (List UInt8)} {ns : List Int} {i : Nat} {xs : List It} (h : t.getLast? = some 10) (hls : splitc 10 (t.take (t.length - 1)) = ls) (h2 : ls.length ≤ 4097) (hk : ls[0]? = some k) (hh : headL k = some ns)
    (hi : ((ls.drop 1).take i).mapM lineL = some xs) (hx : ls[i + 1]? = some x) (hn : lineL x = none) : parseL t = ([], [], ((i + 2 : Nat) : Int), 15) := by
  obtain ⟨h3, h4⟩ := mapM_bad hi (by rw [List.getElem?_drop, Nat.add_comm]; exact hx) hn
  unfold parseL; rw [if_neg (by simp [h])]; simp only [hls]; rw [if_neg (by omega), hk]; simp only [Option.getD_some, hh, h3, h4]; simp
theorem parseL_ok {t k : List UInt8} {ls : List (List UInt8)} {ns : List Int} {xs : List It} (h : t.getLast? = some 10) (hls : splitc 10 (t.take (t.length - 1)) = ls) (h2 : ls.length ≤ 4097) (hk : ls[0]? = some k) (hh : headL k = some ns)
    (hi : (ls.drop 1).mapM lineL = some xs) : parseL t = (ns, xs, 0, 0) := by
  unfold parseL; rw [if_neg (by simp [h])]; simp only [hls]; rw [if_neg (by omega), hk]; simp only [Option.getD_some, hh, hi]
@[reducible] def headCs (ns : List Int) : List Value := [.int .u32 (ns.getD 0 0), .int .i64 (ns.getD 1 0), .int .i64 (ns.getD 2 0), .int .i64 (ns.getD 3 0), .int .i64 (ns.getD 4 0), .int .i64 (ns.getD 5 0), .int .i64 (ns.getD 6 0), .int .i64 (ns.getD 7 0)]
theorem u8eqn (u : UInt8) (k : Nat) (hk : k < 256) : (u = UInt8.ofNat k) = (u.toNat = k) := by
  apply propext
  rw [← UInt8.toNat_inj]; simp [Nat.mod_eq_of_lt hk]
/-- what both sides' reading gives; EL the elements' type -/
def ParseR (EL : Nat) (t : List UInt8) (r : Value) (Γ : List Ch) : Prop := ∃ a c zs, r = .tuple #[headV (parseL t).1, .slice a zs.length c, .int .i64 (parseL t).2.2.1, .int .i64 (parseL t).2.2.2] ∧ zs.map (·.1) = (parseL t).2.1 ∧ Γ = [own EL 3 a zs.length c (zcells zs), big (zs.map zch)]
theorem ParseR.bad {EL : Nat} {t : List UInt8} {i j : Int} (h : parseL t = ([], [], i, j)) : ParseR EL t (.tuple #[headV [], .slice none 0 0, .int .i64 i, .int .i64 j]) [own EL 3 none 0 0 [], big []] := by
  refine ⟨none, 0, [], ?_, ?_, rfl⟩ <;> rw [h] <;> rfl
theorem ParseR.ok {EL : Nat} {t : List UInt8} {ns : List Int} {xs : List It} {zs : List Zt} {a : Option Addr} {c : Nat} (h : parseL t = (ns, xs, 0, 0)) (hz : zs.map (·.1) = xs) : ParseR EL t (.tuple #[headV ns, .slice a zs.length c, .int .i64 0, .int .i64 0]) [own EL 3 a zs.length c (zcells zs), big (zs.map zch)] := by
  refine ⟨a, c, zs, ?_, ?_, rfl⟩ <;> rw [h]; exact hz
end Go.Scr
namespace Go.Scr
open Go Go.Lib Go.X
/-- a text's lines, each with its end -/
def linesL (l : List UInt8) : List (List UInt8) := (splitc 10 l).dropLast.map (· ++ [10]) ++ (if (splitc 10 l).getLast? = some [] then [] else (splitc 10 l).getLast?.toList)
theorem linesL_nil : linesL [] = [] := rfl
theorem linesL_none {l : List UInt8} (h : (10 : UInt8) ∉ l) (hl : l ≠ []) : linesL l = [l] := by
  unfold linesL; rw [splitc_none 10 l h]; simp [hl]
theorem linesL_hit {a b : List UInt8} (h : (10 : UInt8) ∉ a) : linesL (a ++ 10 :: b) = (a ++ [10]) :: linesL b := by
  unfold linesL; rw [splitc_hit 10 a b h]
  obtain ⟨x, r, hx⟩ : ∃ x r, splitc 10 b = x :: r := by
    cases hb : splitc 10 b with
    | nil => exact absurd hb (splitc_ne 10 b)
    | cons x r => exact ⟨x, r, rfl⟩
  rw [hx]
  simp
theorem index_none {l : List UInt8} {c : UInt8} (h : ¬ 0 ≤ indexByte l c) : c ∉ l := by
  have h1 := indexByte_ge l c
  have h2 : indexByte l c = -1 := by omega
  intro hm
  obtain ⟨k, hk⟩ := List.getElem?_of_mem hm
  exact indexByte_none h2 k hk
theorem index_some {l : List UInt8} {c : UInt8} (h : 0 ≤ indexByte l c) : (indexByte l c).toNat < l.length ∧ l = l.take (indexByte l c).toNat ++ c :: l.drop ((indexByte l c).toNat + 1) ∧ c ∉ l.take (indexByte l c).toNat := by
  obtain ⟨h1, h2⟩ := indexByte_some (l := l) (c := c) (o := (indexByte l c).toNat) (by omega)
  obtain ⟨hlt, hu⟩ := List.getElem?_eq_some_iff.1 h1
  refine ⟨hlt, ?_, fun hm => ?_⟩
  · conv => lhs; rw [← List.take_append_drop (indexByte l c).toNat l, List.drop_eq_getElem_cons hlt, hu]
  · obtain ⟨k, hk⟩ := List.getElem?_of_mem hm
    rw [List.getElem?_take] at hk
    split at hk
    · exact h2 k (by assumption) hk
    · cases hk
theorem linesL_step {l : List UInt8} (h : 0 ≤ indexByte l 10) : linesL l = l.take ((indexByte l 10).toNat + 1) :: linesL (l.drop ((indexByte l 10).toNat + 1)) := by
  obtain ⟨h1, h2, h3⟩ := index_some h
  have h4 : l.take ((indexByte l 10).toNat + 1) = l.take (indexByte l 10).toNat ++ [10] := by
    rw [List.take_add_one]
    congr 1
    have := indexByte_some (l := l) (c := 10) (o := (indexByte l 10).toNat) (by omega)
    rw [this.1]; rfl
  rw [h4, ← linesL_hit h3]
  exact congrArg linesL h2
/-- a text that ends: its lines are its pieces, each with its end -/
theorem linesL_ends {t : List UInt8} (h : t.getLast? = some 10) : linesL t = (splitc 10 (t.take (t.length - 1))).map (· ++ [10]) := by
  have key : ∀ (n : Nat) (a : List UInt8), a.length = n → linesL (a ++ [10]) = (splitc 10 a).map (· ++ [10]) := by
    intro n
    induction n using Nat.strongRecOn with
    | _ n ih =>
      intro a ha
      by_cases hm : (10 : UInt8) ∈ a
      · have hi : 0 ≤ indexByte a 10 := by
          apply Decidable.byContradiction
          intro h; exact index_none h hm
        obtain ⟨h1, h2, h3⟩ := index_some hi
        have e : a ++ [10] = a.take (indexByte a 10).toNat ++ 10 :: (a.drop ((indexByte a 10).toNat + 1) ++ [10]) := by
          conv => lhs; rw [h2]
          simp
        rw [e, linesL_hit h3, ih _ (by simp; omega) _ rfl]
        conv => rhs; rw [h2, splitc_hit 10 _ _ h3]
        simp
      · rw [show a ++ [10] = a ++ 10 :: [] from rfl, linesL_hit hm, splitc_none 10 a hm]; rfl
  have e : t = t.take (t.length - 1) ++ [10] := by
    have ht : t ≠ [] := fun e => by rw [e] at h; simp at h
    have := List.dropLast_concat_getLast ht
    rw [List.getLast?_eq_some_getLast ht] at h
    rw [Option.some.inj h] at this
    rw [← List.dropLast_eq_take]; exact this.symm
  conv => lhs; rw [e]
  exact key _ _ rfl
/-- the next line of a text that ends -/
theorem lines_pre {t : List UInt8} {ps : List (List UInt8)} (h : t.getLast? = some 10) (hps : splitc 10 (t.take (t.length - 1)) = ps) {pre : List (List UInt8)} {x : List UInt8} (hx : (pre ++ [x]) <+: linesL t) :
    ∃ y, ps[pre.length]? = some y ∧ x = y ++ [10] ∧ pre.length < ps.length := by
  rw [linesL_ends h, hps] at hx
  obtain ⟨r, hr⟩ := hx
  have h1 : (ps.map (· ++ [10]))[pre.length]? = some x := by rw [← hr]; simp
  rw [List.getElem?_map, Option.map_eq_some_iff] at h1
  obtain ⟨y, hy, rfl⟩ := h1
  exact ⟨y, hy, rfl, (List.getElem?_eq_some_iff.1 hy).1⟩
theorem trim_line (y : List UInt8) : trimSuffix (y ++ [10]) [10] = y := by
  unfold trimSuffix hasSuffix
  rw [if_pos (by rw [List.isSuffixOf_iff_suffix]; exact ⟨y, rfl⟩)]
  simp
theorem hasSuffix_last (t : List UInt8) : hasSuffix t [10] = decide (t.getLast? = some 10) := by
  unfold hasSuffix
  rw [Bool.eq_iff_iff, List.isSuffixOf_iff_suffix, decide_eq_true_eq]
  constructor
  · rintro ⟨r, rfl⟩; simp
  · intro h
    have ht : t ≠ [] := fun e => by rw [e] at h; simp at h
    have := List.dropLast_concat_getLast ht
    rw [List.getLast?_eq_some_getLast ht] at h
    rw [Option.some.inj h] at this
    exact ⟨_, this⟩
theorem count_last {t : List UInt8} (h : t.getLast? = some 10) : (t.count 10 : Nat) = (splitc 10 (t.take (t.length - 1))).length := by
  rw [splitc_length]
  have e : t = t.take (t.length - 1) ++ [10] := by
    have ht : t ≠ [] := fun e => by rw [e] at h; simp at h
    have := List.dropLast_concat_getLast ht
    rw [List.getLast?_eq_some_getLast ht] at h
    rw [Option.some.inj h] at this
    rw [← List.dropLast_eq_take]; exact this.symm
  conv => lhs; rw [e]
  simp
end Go.Scr
namespace Go.Scr
open Go Go.Lib Go.X
theorem splitK_eq (c : UInt8) : ∀ (k : Nat) (l : List UInt8), k = l.count c → splitK [c] 0 k l = splitc c l
  | 0, l, h => by
    rw [splitc_none c l (fun hm => by have := List.count_pos_iff.2 hm; omega)]; rfl
  | k + 1, l, h => by
    have hm : c ∈ l := List.count_pos_iff.1 (by omega)
    have hi : 0 ≤ indexByte l c := Decidable.byContradiction fun h => index_none h hm
    obtain ⟨h1, h2, h3⟩ := index_some hi
    unfold splitK
    rw [index_one]
    rw [if_neg (by intro e; have := beq_iff_eq.1 e; omega)]
    have hc : (l.drop ((indexByte l c).toNat + 1)).count c = k := by
      have : l.count c = (l.take (indexByte l c).toNat ++ c :: l.drop ((indexByte l c).toNat + 1)).count c := by rw [← h2]
      rw [List.count_append, List.count_cons_self, List.count_eq_zero_of_not_mem h3] at this
      omega
    have := splitK_eq c k _ hc.symm
    simp only [List.length_singleton, Nat.add_zero]
    rw [this]
    conv => rhs; rw [h2, splitc_hit c _ _ h3]
theorem splitB_cells (c : UInt8) (l : List UInt8) : (splitB ⟨#[c]⟩ 0 (countB (S l) ⟨#[c]⟩) (S l)).map Value.string = strL (splitc c l) := by
  have h := splitB_data ⟨#[c]⟩ 0 (countB (S l) ⟨#[c]⟩) (S l)
  have h2 : splitK [c] 0 (countB (S l) ⟨#[c]⟩) l = splitc c l := splitK_eq c _ l (by show count l [c] = _; exact count_one c l)
  have h3 : (splitB ⟨#[c]⟩ 0 (countB (S l) ⟨#[c]⟩) (S l)).map (·.data.toList) = splitc c l := h.trans h2
  unfold strL
  rw [← h3, List.map_map]
  apply List.map_congr_left
  intro b _
  simp [S]
theorem digitVal_mem {l : List UInt8} {n : Nat} (h : decFrom 0 l = some n) (c : UInt8) (hc : c ∈ l) : 48 ≤ c.toNat ∧ c.toNat ≤ 57 := by
  obtain ⟨k, hk⟩ := List.getElem?_of_mem hc
  obtain ⟨d, hd⟩ := digit_of_decFrom _ _ _ h k c hk
  unfold digitVal at hd
  split at hd
  · assumption
  · cases hd
theorem num_space {r : List UInt8} (h : (32 : UInt8) ∈ r) : num r = none := num_none fun v hv e => by
  subst e
  obtain ⟨s, hs, h1, h2, h3, h4, h5⟩ := itoa_shape v hv
  by_cases hv0 : v < 0
  · rw [if_pos hv0] at hs; subst hs
    have h4 := h4 hv0
    cases hi : itoa v with
    | nil => rw [hi] at h; simp at h
    | cons a b =>
      rw [hi] at h h3 h4
      simp at h4; subst h4
      simp at h3 h
      have := digitVal_mem h3 32 h
      simp at this
  · rw [if_neg hv0] at hs; subst hs
    have := digitVal_mem h3 32 (by simpa using h)
    simp at this
theorem unhexL_space {r : List UInt8} (h : (32 : UInt8) ∈ r) : unhexL r = none := by
  obtain ⟨k, hk⟩ := List.getElem?_of_mem h
  refine unhexL_bad (fun e => ?_) hk (by decide)
  subst e; simp at h
theorem tailL_space {k r : List UInt8} (h : (32 : UInt8) ∈ r) : tailL k r = none := by
  unfold tailL
  split
  · rw [unhexL_space h]; rfl
  · split
    · rw [num_space h]; rfl
    · rfl
/-- a line by its first blank -/
theorem lineL_cut {l : List UInt8} : lineL l = if 0 ≤ indexByte l 32 then tailL (l.take (indexByte l 32).toNat) (l.drop ((indexByte l 32).toNat + 1)) else none := by
  split
  · rename_i hi
    obtain ⟨h1, h2, h3⟩ := index_some hi
    unfold lineL
    have : splitc 32 l = l.take (indexByte l 32).toNat :: splitc 32 (l.drop ((indexByte l 32).toNat + 1)) := by
      conv => lhs; rw [h2, splitc_hit 32 _ _ h3]
    rw [this]
    by_cases hm : (32 : UInt8) ∈ l.drop ((indexByte l 32).toNat + 1)
    · rw [tailL_space hm]
      have hl : 2 ≤ (splitc 32 (l.drop ((indexByte l 32).toNat + 1))).length := by
        rw [splitc_length]; have := List.count_pos_iff.2 hm; omega
      split
      · rename_i hs; injection hs with _ hs; rw [hs] at hl; simp at hl
      · rfl
    · rw [splitc_none 32 _ hm]
  · rename_i hi
    unfold lineL
    rw [splitc_none 32 l (index_none hi)]
theorem cut_one (l : List UInt8) (c : UInt8) : cut l [c] = if 0 ≤ indexByte l c then (l.take (indexByte l c).toNat, l.drop ((indexByte l c).toNat + 1), true) else (l, [], false) := by
  unfold cut; rw [index_one]; rfl
end Go.Scr
namespace Go.Proofs
open Go.Shelf
def Tryd.lays169_ren : Go.Shelf.Ren := ⟨fun | 169 => 32 | n => n, fun | 70 => 69 | 9 => 9 | 0 => 0 | 72 => 71 | 37 => 34 | 127 => 89 | 3 => 3 | 5 => 5 | n => n, fun | n => n⟩
theorem Tryd.lays169 : Go.Proofs.Lays.n169 Tryd.prog Tryd.lays169_ren := {
  mixed := by kernel_rfl
  f169 := Tryd.func32.trans (congrArg some (by kernel_rfl))
  t0 := Tryd.underlying0
  a0 := Tryd.isAgg0
  z0 := Tryd.sizeOf0
  v0 := Tryd.zeroValue0
  t3 := Tryd.underlying3
  a3 := Tryd.isAgg3
  z3 := Tryd.sizeOf3
  v3 := Tryd.zeroValue3
  t9 := Tryd.underlying9
  a9 := Tryd.isAgg9
  z9 := Tryd.sizeOf9
  v9 := Tryd.zeroValue9
  t37 := Tryd.underlying34
  a37 := Tryd.isAgg34
  z37 := Tryd.sizeOf34
  v37 := Tryd.zeroValue34
  t70 := Tryd.underlying69
  a70 := Tryd.isAgg69
  z70 := Tryd.sizeOf69
  v70 := Tryd.zeroValue69
  t72 := Tryd.underlying71
  a72 := Tryd.isAgg71
  z72 := Tryd.sizeOf71
  v72 := Tryd.zeroValue71
  t127 := Tryd.underlying89
  a127 := Tryd.isAgg89
  z127 := Tryd.sizeOf89
  v127 := Tryd.zeroValue89 }
theorem Tryd.Builder_Extra_169 : Builder.Extra Tryd.prog Tryd.lays169_ren := {
  sizeBuilder := by kernel_rfl
  liesBuilder := by kernel_rfl
  t5 := Tryd.underlying5
  a5 := Tryd.isAgg5
  z5 := Tryd.sizeOf5
  v5 := Tryd.zeroValue5
  infoByte := by kernel_rfl
  cellsByte := by kernel_rfl
  sizeByte := by kernel_rfl
  neB5 := by decide }
open Go.RowKit in
theorem Tryd.Builder_String_any (B b : Nat) (l : List UInt8) (w : World) (h : Lib.IsBuilder 71 5 B b (Lib.byteCells l) w) (hBw : B ≤ w.heap.size) :
    Calls Tryd.prog 32 #[.pointer (some ⟨b, 0, none⟩)] w fun e w' => e = .returned (.string ⟨l.toArray⟩) ∧ Below B w w' := Any.Builder_String_any Tryd.lays169 Tryd.Builder_Extra_169 B b l w h hBw
def Tryd.lays137_ren : Go.Shelf.Ren := ⟨fun | 137 => 38 | 217 => 50 | 266 => 60 | n => n, fun | 9 => 9 | 5 => 5 | 3 => 3 | n => n, fun | n => n⟩
theorem Tryd.lays137 : Go.Proofs.Lays.n137 Tryd.prog Tryd.lays137_ren := {
  mixed := by kernel_rfl
  f137 := Tryd.func38.trans (congrArg some (by kernel_rfl))
  f217 := Tryd.func50.trans (congrArg some (by kernel_rfl))
  f266 := Tryd.func60.trans (congrArg some (by kernel_rfl))
  t3 := Tryd.underlying3
  a3 := Tryd.isAgg3
  z3 := Tryd.sizeOf3
  v3 := Tryd.zeroValue3
  t5 := Tryd.underlying5
  a5 := Tryd.isAgg5
  z5 := Tryd.sizeOf5
  v5 := Tryd.zeroValue5
  t9 := Tryd.underlying9
  a9 := Tryd.isAgg9
  z9 := Tryd.sizeOf9
  v9 := Tryd.zeroValue9 }
open Go.RowKit in
theorem Tryd.strings_IndexByte (s : ByteArray) (c : Int) (w : World) :
    Calls Tryd.prog 38 #[.string s, .int .u8 c] w fun e w' => e = .returned (.int .i64 (Lib.indexByte s.data.toList c.toNat.toUInt8)) ∧ w' = w := Any.strings_IndexByte Tryd.lays137 s c w
def Tryd.lays283_ren : Go.Shelf.Ren := ⟨fun | 283 => 68 | n => n, fun | 3 => 3 | 9 => 9 | 4 => 4 | n => n, fun | n => n⟩
theorem Tryd.lays283 : Go.Proofs.Lays.n283 Tryd.prog Tryd.lays283_ren := {
  mixed := by kernel_rfl
  f283 := Tryd.func68.trans (congrArg some (by kernel_rfl))
  t3 := Tryd.underlying3
  a3 := Tryd.isAgg3
  z3 := Tryd.sizeOf3
  v3 := Tryd.zeroValue3
  t4 := Tryd.underlying4
  a4 := Tryd.isAgg4
  z4 := Tryd.sizeOf4
  v4 := Tryd.zeroValue4
  t9 := Tryd.underlying9
  a9 := Tryd.isAgg9
  z9 := Tryd.sizeOf9
  v9 := Tryd.zeroValue9 }
open Go.Lib in
theorem Tryd.internal_strconv_small (i : Nat) (h : i < 100) (w : World) :
    Calls Tryd.prog 68 #[.int .i64 i] w fun e w' => e = .returned (.string ⟨(Lib.decDigits i).toArray⟩) ∧ w' = w := Any.internal_strconv_small Tryd.lays283 i h w
def Tryd.laysM284_ren : Go.Shelf.Ren := ⟨fun | 284 => 69 | 129 => 78 | 317 => 77 | 318 => 79 | n => n, fun | 53 => 86 | 3 => 3 | 212 => 118 | 0 => 0 | 4 => 4 | 46 => 82 | 5 => 5 | 9 => 9 | n => n, fun | 17 => 4 | n => n⟩
theorem Tryd.laysM284 : Go.Proofs.LaysM.n284 Tryd.prog Tryd.laysM284_ren := {
  mixed := by kernel_rfl
  f129 := Tryd.func78.trans (congrArg some (by kernel_rfl))
  f284 := Tryd.func69.trans (congrArg some (by kernel_rfl))
  f317 := Tryd.func77.trans (congrArg some (by kernel_rfl))
  f318 := Tryd.func79.trans (congrArg some (by kernel_rfl))
  t0 := Tryd.underlying0
  a0 := Tryd.isAgg0
  z0 := Tryd.sizeOf0
  v0 := Tryd.zeroValue0
  t3 := Tryd.underlying3
  a3 := Tryd.isAgg3
  z3 := Tryd.sizeOf3
  v3 := Tryd.zeroValue3
  t4 := Tryd.underlying4
  a4 := Tryd.isAgg4
  z4 := Tryd.sizeOf4
  v4 := Tryd.zeroValue4
  t5 := Tryd.underlying5
  a5 := Tryd.isAgg5
  z5 := Tryd.sizeOf5
  v5 := Tryd.zeroValue5
  t9 := Tryd.underlying9
  a9 := Tryd.isAgg9
  z9 := Tryd.sizeOf9
  v9 := Tryd.zeroValue9
  t46 := Tryd.underlying82
  a46 := Tryd.isAgg82
  z46 := Tryd.sizeOf82
  v46 := Tryd.zeroValue82
  t53 := Tryd.underlying86
  a53 := Tryd.isAgg86
  z53 := Tryd.sizeOf86
  v53 := Tryd.zeroValue86
  t212 := Tryd.underlying118
  a212 := Tryd.isAgg118
  z212 := Tryd.sizeOf118
  v212 := Tryd.zeroValue118
  g17 := by kernel_rfl
  i0 := by kernel_rfl
  i3 := by kernel_rfl
  i4 := by kernel_rfl
  i5 := by kernel_rfl
  i9 := by kernel_rfl
  i46 := by kernel_rfl
  i53 := by kernel_rfl
  i212 := by kernel_rfl
  m17 := by kernel_rfl }
open Go.Lib in
theorem Tryd.internal_strconv_numDigits (u : Nat) (h1 : 1 ≤ u) (h2 : u < 18446744073709551616) (w : World) (htab : Lib.TabIs Tryd.prog w "internal/strconv.uint64pow10" .u64 Lib.pow10Tab) :
    Calls Tryd.prog 69 #[.int .u64 u] w fun e w' => e = .returned (.int .i64 (Lib.nDigits u)) ∧ w' = w := Any.internal_strconv_numDigits Tryd.laysM284 u h1 h2 w htab
def Tryd.lays285_ren : Go.Shelf.Ren := ⟨fun | 285 => 70 | n => n, fun | 37 => 34 | 53 => 86 | 3 => 3 | 4 => 4 | 51 => 23 | 9 => 9 | 5 => 5 | 0 => 0 | n => n, fun | n => n⟩
theorem Tryd.lays285 : Go.Proofs.Lays.n285 Tryd.prog Tryd.lays285_ren := {
  mixed := by kernel_rfl
  f285 := Tryd.func70.trans (congrArg some (by kernel_rfl))
  t0 := Tryd.underlying0
  a0 := Tryd.isAgg0
  z0 := Tryd.sizeOf0
  v0 := Tryd.zeroValue0
  t3 := Tryd.underlying3
  a3 := Tryd.isAgg3
  z3 := Tryd.sizeOf3
  v3 := Tryd.zeroValue3
  t4 := Tryd.underlying4
  a4 := Tryd.isAgg4
  z4 := Tryd.sizeOf4
  v4 := Tryd.zeroValue4
  t5 := Tryd.underlying5
  a5 := Tryd.isAgg5
  z5 := Tryd.sizeOf5
  v5 := Tryd.zeroValue5
  t9 := Tryd.underlying9
  a9 := Tryd.isAgg9
  z9 := Tryd.sizeOf9
  v9 := Tryd.zeroValue9
  t37 := Tryd.underlying34
  a37 := Tryd.isAgg34
  z37 := Tryd.sizeOf34
  v37 := Tryd.zeroValue34
  t51 := Tryd.underlying23
  a51 := Tryd.isAgg23
  z51 := Tryd.sizeOf23
  v51 := Tryd.zeroValue23
  t53 := Tryd.underlying86
  a53 := Tryd.isAgg86
  z53 := Tryd.sizeOf86
  v53 := Tryd.zeroValue86 }
open Go.RowKit Go.Sort Go.Lib in
theorem Tryd.internal_strconv_formatBase10 (blk off cap : Nat) (u : Nat) (d : Array UInt8) (w : World) (hH : Holds (fun (b : UInt8) => Value.int .u8 (b.toNat : Int)) w blk off d) (hu : u < 10 ^ d.size) (hu64 : u < 18446744073709551616) (hsz : d.size < 4611686018427387904) :
    Calls Tryd.prog 70 #[.slice (some ⟨blk, off, none⟩) d.size cap, .int .u64 u] w fun e w' =>
      e = .returned (.tuple #[]) ∧ ∃ (n v' : Nat) (dk : Array UInt8), w' = (putRow (fun (b : UInt8) => Value.int .u8 (b.toNat : Int)) w blk off dk).drewN n ∧ FmtInv d.size u 0 v' dk := Any.internal_strconv_formatBase10 Tryd.lays285 blk off cap u d w hH hu hu64 hsz
def Tryd.laysM171_ren : Go.Shelf.Ren := ⟨fun | 171 => 42 | 243 => 53 | 246 => 66 | 283 => 68 | 284 => 69 | 285 => 70 | 286 => 71 | 129 => 78 | 317 => 77 | 318 => 79 | 319 => 80 | 320 => 81 | 337 => 84 | 338 => 85 | n => n, fun | 3 => 3 | 9 => 9 | 2 => 2 | 4 => 4 | 171 => 104 | 0 => 0 | 53 => 86 | 37 => 34 | 5 => 5 | 173 => 107 | 212 => 118 | 51 => 23 | 20 => 20 | 213 => 119 | 46 => 82 | 232 => 131 | 233 => 132 | n => n, fun | 17 => 4 | 18 => 7 | 19 => 8 | n => n⟩
theorem Tryd.laysM171 : Go.Proofs.LaysM.n171 Tryd.prog Tryd.laysM171_ren := {
  mixed := by kernel_rfl
  f129 := Tryd.func78.trans (congrArg some (by kernel_rfl))
  f171 := Tryd.func42.trans (congrArg some (by kernel_rfl))
  f243 := Tryd.func53.trans (congrArg some (by kernel_rfl))
  f246 := Tryd.func66.trans (congrArg some (by kernel_rfl))
  f283 := Tryd.func68.trans (congrArg some (by kernel_rfl))
  f284 := Tryd.func69.trans (congrArg some (by kernel_rfl))
  f285 := Tryd.func70.trans (congrArg some (by kernel_rfl))
  f286 := Tryd.func71.trans (congrArg some (by kernel_rfl))
  f317 := Tryd.func77.trans (congrArg some (by kernel_rfl))
  f318 := Tryd.func79.trans (congrArg some (by kernel_rfl))
  f319 := Tryd.func80.trans (congrArg some (by kernel_rfl))
  f320 := Tryd.func81.trans (congrArg some (by kernel_rfl))
  f337 := Tryd.func84.trans (congrArg some (by kernel_rfl))
  f338 := Tryd.func85.trans (congrArg some (by kernel_rfl))
  t0 := Tryd.underlying0
  a0 := Tryd.isAgg0
  z0 := Tryd.sizeOf0
  v0 := Tryd.zeroValue0
  t2 := Tryd.underlying2
  a2 := Tryd.isAgg2
  z2 := Tryd.sizeOf2
  v2 := Tryd.zeroValue2
  t3 := Tryd.underlying3
  a3 := Tryd.isAgg3
  z3 := Tryd.sizeOf3
  v3 := Tryd.zeroValue3
  t4 := Tryd.underlying4
  a4 := Tryd.isAgg4
  z4 := Tryd.sizeOf4
  v4 := Tryd.zeroValue4
  t5 := Tryd.underlying5
  a5 := Tryd.isAgg5
  z5 := Tryd.sizeOf5
  v5 := Tryd.zeroValue5
  t9 := Tryd.underlying9
  a9 := Tryd.isAgg9
  z9 := Tryd.sizeOf9
  v9 := Tryd.zeroValue9
  t20 := Tryd.underlying20
  a20 := Tryd.isAgg20
  z20 := Tryd.sizeOf20
  v20 := Tryd.zeroValue20
  t37 := Tryd.underlying34
  a37 := Tryd.isAgg34
  z37 := Tryd.sizeOf34
  v37 := Tryd.zeroValue34
  t46 := Tryd.underlying82
  a46 := Tryd.isAgg82
  z46 := Tryd.sizeOf82
  v46 := Tryd.zeroValue82
  t51 := Tryd.underlying23
  a51 := Tryd.isAgg23
  z51 := Tryd.sizeOf23
  v51 := Tryd.zeroValue23
  t53 := Tryd.underlying86
  a53 := Tryd.isAgg86
  z53 := Tryd.sizeOf86
  v53 := Tryd.zeroValue86
  t171 := Tryd.underlying104
  a171 := Tryd.isAgg104
  z171 := Tryd.sizeOf104
  v171 := Tryd.zeroValue104
  t173 := Tryd.underlying107
  a173 := Tryd.isAgg107
  z173 := Tryd.sizeOf107
  v173 := Tryd.zeroValue107
  t212 := Tryd.underlying118
  a212 := Tryd.isAgg118
  z212 := Tryd.sizeOf118
  v212 := Tryd.zeroValue118
  t213 := Tryd.underlying119
  a213 := Tryd.isAgg119
  z213 := Tryd.sizeOf119
  t232 := Tryd.underlying131
  a232 := Tryd.isAgg131
  z232 := Tryd.sizeOf131
  v232 := Tryd.zeroValue131
  t233 := Tryd.underlying132
  a233 := Tryd.isAgg132
  z233 := Tryd.sizeOf132
  v233 := Tryd.zeroValue132
  g17 := by kernel_rfl
  g18 := by kernel_rfl
  g19 := by kernel_rfl
  i0 := by kernel_rfl
  i2 := by kernel_rfl
  i3 := by kernel_rfl
  i4 := by kernel_rfl
  i5 := by kernel_rfl
  i9 := by kernel_rfl
  i20 := by kernel_rfl
  i37 := by kernel_rfl
  i46 := by kernel_rfl
  i51 := by kernel_rfl
  i53 := by kernel_rfl
  i171 := by kernel_rfl
  i173 := by kernel_rfl
  i212 := by kernel_rfl
  i232 := by kernel_rfl
  i233 := by kernel_rfl
  m17 := by kernel_rfl
  m18 := by kernel_rfl
  m19 := by kernel_rfl }
open Go.RowKit Go.Sort Go.Lib in
theorem Tryd.strconv_Itoa (n : Int) (h0 : -9223372036854775808 ≤ n) (h1 : n ≤ 9223372036854775807) (w : World) (htab : Lib.TabIs Tryd.prog w "internal/strconv.uint64pow10" .u64 Lib.pow10Tab) :
    Calls Tryd.prog 42 #[.int .i64 n] w fun e w' => e = .returned (.string ⟨(Lib.itoa n).toArray⟩) ∧ ∃ k os, w' = grow (w.drewN k) os := Any.strconv_Itoa Tryd.laysM171 n h0 h1 w htab
def Tryd.laysC172_ren : Go.Shelf.Ren := ⟨fun | 172 => 41 | 244 => 51 | 245 => 52 | 247 => 61 | 279 => 62 | 280 => 63 | 281 => 64 | 282 => 65 | 287 => 73 | 316 => 74 | 171 => 42 | 205 => 75 | 321 => 82 | 322 => 83 | 243 => 53 | 246 => 66 | 283 => 68 | 284 => 69 | 285 => 70 | 286 => 71 | 129 => 78 | 317 => 77 | 318 => 79 | 319 => 80 | 320 => 81 | 337 => 84 | 338 => 85 | n => n, fun | 9 => 9 | 3 => 3 | 75 => 73 | 76 => 74 | 4 => 4 | 5 => 5 | 167 => 95 | 37 => 34 | 0 => 0 | 85 => 96 | 2 => 2 | 168 => 98 | 53 => 86 | 175 => 111 | 46 => 82 | 210 => 115 | 127 => 89 | 145 => 125 | 143 => 123 | 21 => 21 | 171 => 104 | 173 => 107 | 212 => 118 | 51 => 23 | 20 => 20 | 213 => 119 | 232 => 131 | 233 => 132 | 80 => 78 | n => n, fun | 15 => 2 | 16 => 3 | 17 => 4 | 18 => 7 | 19 => 8 | n => n⟩
theorem Tryd.laysC172 : Go.Proofs.LaysC.n172 Tryd.prog Tryd.laysC172_ren := {
  mixed := by kernel_rfl
  f129 := Tryd.func78.trans (congrArg some (by kernel_rfl))
  f171 := Tryd.func42.trans (congrArg some (by kernel_rfl))
  f172 := Tryd.func41.trans (congrArg some (by kernel_rfl))
  f205 := Tryd.func75.trans (congrArg some (by kernel_rfl))
  f243 := Tryd.func53.trans (congrArg some (by kernel_rfl))
  f244 := Tryd.func51.trans (congrArg some (by kernel_rfl))
  f245 := Tryd.func52.trans (congrArg some (by kernel_rfl))
  f246 := Tryd.func66.trans (congrArg some (by kernel_rfl))
  f247 := Tryd.func61.trans (congrArg some (by kernel_rfl))
  f279 := Tryd.func62.trans (congrArg some (by kernel_rfl))
  f280 := Tryd.func63.trans (congrArg some (by kernel_rfl))
  f281 := Tryd.func64.trans (congrArg some (by kernel_rfl))
  f282 := Tryd.func65.trans (congrArg some (by kernel_rfl))
  f283 := Tryd.func68.trans (congrArg some (by kernel_rfl))
  f284 := Tryd.func69.trans (congrArg some (by kernel_rfl))
  f285 := Tryd.func70.trans (congrArg some (by kernel_rfl))
  f286 := Tryd.func71.trans (congrArg some (by kernel_rfl))
  f287 := Tryd.func73.trans (congrArg some (by kernel_rfl))
  f316 := Tryd.func74.trans (congrArg some (by kernel_rfl))
  f317 := Tryd.func77.trans (congrArg some (by kernel_rfl))
  f318 := Tryd.func79.trans (congrArg some (by kernel_rfl))
  f319 := Tryd.func80.trans (congrArg some (by kernel_rfl))
  f320 := Tryd.func81.trans (congrArg some (by kernel_rfl))
  f321 := Tryd.func82.trans (congrArg some (by kernel_rfl))
  f322 := Tryd.func83.trans (congrArg some (by kernel_rfl))
  f337 := Tryd.func84.trans (congrArg some (by kernel_rfl))
  f338 := Tryd.func85.trans (congrArg some (by kernel_rfl))
  t0 := Tryd.underlying0
  a0 := Tryd.isAgg0
  z0 := Tryd.sizeOf0
  v0 := Tryd.zeroValue0
  t2 := Tryd.underlying2
  a2 := Tryd.isAgg2
  z2 := Tryd.sizeOf2
  v2 := Tryd.zeroValue2
  t3 := Tryd.underlying3
  a3 := Tryd.isAgg3
  z3 := Tryd.sizeOf3
  v3 := Tryd.zeroValue3
  t4 := Tryd.underlying4
  a4 := Tryd.isAgg4
  z4 := Tryd.sizeOf4
  v4 := Tryd.zeroValue4
  t5 := Tryd.underlying5
  a5 := Tryd.isAgg5
  z5 := Tryd.sizeOf5
  v5 := Tryd.zeroValue5
  t9 := Tryd.underlying9
  a9 := Tryd.isAgg9
  z9 := Tryd.sizeOf9
  v9 := Tryd.zeroValue9
  t20 := Tryd.underlying20
  a20 := Tryd.isAgg20
  z20 := Tryd.sizeOf20
  v20 := Tryd.zeroValue20
  t21 := Tryd.underlying21
  a21 := Tryd.isAgg21
  z21 := Tryd.sizeOf21
  v21 := Tryd.zeroValue21
  t37 := Tryd.underlying34
  a37 := Tryd.isAgg34
  z37 := Tryd.sizeOf34
  v37 := Tryd.zeroValue34
  t46 := Tryd.underlying82
  a46 := Tryd.isAgg82
  z46 := Tryd.sizeOf82
  v46 := Tryd.zeroValue82
  t51 := Tryd.underlying23
  a51 := Tryd.isAgg23
  z51 := Tryd.sizeOf23
  v51 := Tryd.zeroValue23
  t53 := Tryd.underlying86
  a53 := Tryd.isAgg86
  z53 := Tryd.sizeOf86
  v53 := Tryd.zeroValue86
  t75 := Tryd.underlying73
  a75 := Tryd.isAgg73
  z75 := Tryd.sizeOf73
  v75 := Tryd.zeroValue73
  t76 := Tryd.underlying74
  a76 := Tryd.isAgg74
  z76 := Tryd.sizeOf74
  v76 := Tryd.zeroValue74
  t85 := Tryd.underlying96
  a85 := Tryd.isAgg96
  z85 := Tryd.sizeOf96
  v85 := Tryd.zeroValue96
  t127 := Tryd.underlying89
  a127 := Tryd.isAgg89
  z127 := Tryd.sizeOf89
  v127 := Tryd.zeroValue89
  t143 := Tryd.underlying123
  a143 := Tryd.isAgg123
  z143 := Tryd.sizeOf123
  v143 := Tryd.zeroValue123
  t145 := Tryd.underlying125
  a145 := Tryd.isAgg125
  z145 := Tryd.sizeOf125
  v145 := Tryd.zeroValue125
  t167 := Tryd.underlying95
  a167 := Tryd.isAgg95
  z167 := Tryd.sizeOf95
  v167 := Tryd.zeroValue95
  t168 := Tryd.underlying98
  a168 := Tryd.isAgg98
  z168 := Tryd.sizeOf98
  v168 := Tryd.zeroValue98
  t171 := Tryd.underlying104
  a171 := Tryd.isAgg104
  z171 := Tryd.sizeOf104
  v171 := Tryd.zeroValue104
  t173 := Tryd.underlying107
  a173 := Tryd.isAgg107
  z173 := Tryd.sizeOf107
  v173 := Tryd.zeroValue107
  t175 := Tryd.underlying111
  a175 := Tryd.isAgg111
  z175 := Tryd.sizeOf111
  v175 := Tryd.zeroValue111
  t210 := Tryd.underlying115
  a210 := Tryd.isAgg115
  z210 := Tryd.sizeOf115
  v210 := Tryd.zeroValue115
  t212 := Tryd.underlying118
  a212 := Tryd.isAgg118
  z212 := Tryd.sizeOf118
  v212 := Tryd.zeroValue118
  t213 := Tryd.underlying119
  a213 := Tryd.isAgg119
  z213 := Tryd.sizeOf119
  t232 := Tryd.underlying131
  a232 := Tryd.isAgg131
  z232 := Tryd.sizeOf131
  v232 := Tryd.zeroValue131
  t233 := Tryd.underlying132
  a233 := Tryd.isAgg132
  z233 := Tryd.sizeOf132
  v233 := Tryd.zeroValue132
  g15 := by kernel_rfl
  g16 := by kernel_rfl
  g17 := by kernel_rfl
  g18 := by kernel_rfl
  g19 := by kernel_rfl
  t80 := Tryd.underlying78
  a80 := Tryd.isAgg78
  z80 := Tryd.sizeOf78
  v80 := Tryd.zeroValue78
  i0 := by kernel_rfl
  i2 := by kernel_rfl
  i3 := by kernel_rfl
  i4 := by kernel_rfl
  i5 := by kernel_rfl
  i9 := by kernel_rfl
  i20 := by kernel_rfl
  i21 := by kernel_rfl
  i37 := by kernel_rfl
  i46 := by kernel_rfl
  i51 := by kernel_rfl
  i53 := by kernel_rfl
  i75 := by kernel_rfl
  i76 := by kernel_rfl
  i80 := by kernel_rfl
  i85 := by kernel_rfl
  i127 := by kernel_rfl
  i143 := by kernel_rfl
  i145 := by kernel_rfl
  i167 := by kernel_rfl
  i168 := by kernel_rfl
  i171 := by kernel_rfl
  i173 := by kernel_rfl
  i175 := by kernel_rfl
  i210 := by kernel_rfl
  i212 := by kernel_rfl
  i232 := by kernel_rfl
  i233 := by kernel_rfl
  m15 := by kernel_rfl
  m16 := by kernel_rfl
  m17 := by kernel_rfl
  m18 := by kernel_rfl
  m19 := by kernel_rfl
  c0 := by kernel_rfl
  c2 := by kernel_rfl
  c3 := by kernel_rfl
  c4 := by kernel_rfl
  c5 := by kernel_rfl
  c9 := by kernel_rfl
  c20 := by kernel_rfl
  c21 := by kernel_rfl
  c37 := by kernel_rfl
  c46 := by kernel_rfl
  c51 := by kernel_rfl
  c53 := by kernel_rfl
  c75 := by kernel_rfl
  c76 := by kernel_rfl
  c80 := by kernel_rfl
  c85 := by kernel_rfl
  c127 := by kernel_rfl
  c143 := by kernel_rfl
  c145 := by kernel_rfl
  c167 := by kernel_rfl
  c168 := by kernel_rfl
  c171 := by kernel_rfl
  c173 := by kernel_rfl
  c175 := by kernel_rfl
  c210 := by kernel_rfl
  c212 := by kernel_rfl
  c213 := by kernel_rfl
  c232 := by kernel_rfl
  c233 := by kernel_rfl }
open Go.RowKit in
theorem Tryd.strconv_Atoi_ok (s : ByteArray) (hmax : s.size ≤ 9223372036854775806) (v : Int) (h : Lib.atoiAll s.data.toList = .ok v) (w : World) :
    Calls Tryd.prog 41 #[.string s] w fun e w' => e = .returned (.tuple #[.int .i64 v, .nilIface]) ∧ (w' = w ∨ ∃ t, w' = Lib.bytesWorld w 5 t) := Any.strconv_Atoi_ok Tryd.laysC172 s hmax v h w
open Go.RowKit in
theorem Tryd.strconv_Atoi_bad (s : ByteArray) (hlim : s.size ≤ 281474976710656) (h1 : ∀ v, Lib.atoiAll s.data.toList ≠ .ok v) (h2 : Lib.atoiAll s.data.toList ≠ .range) (ev : Value) (w : World) (hv : w.cell? ⟨2, 0, none⟩ = some ev) (hev : ev = .nilIface ∨ ∃ te pe, ev = .iface te pe) :
    Calls Tryd.prog 41 #[.string s] w fun e w' => ∃ N, e = .returned (.tuple #[.int .i64 (0), .iface 98 (.pointer (some ⟨N, 0, none⟩))]) ∧ w.heap.size ≤ N ∧ w'.heap[N]? = some (.cells #[.string ⟨#[65, 116, 111, 105]⟩, .string s, ev] 115 (0, 0)) ∧ Below w.heap.size w w' := by
  cases h : Lib.atoiAll s.data.toList with
  | ok v => exact absurd h (h1 v)
  | range => exact absurd h h2
  | _ => exact Any.strconv_Atoi_syntax Tryd.laysC172 s hlim h ev w hv hev
open Go.RowKit in
theorem Tryd.strconv_Atoi_range (s : ByteArray) (hlim : s.size ≤ 281474976710656) (h : Lib.atoiAll s.data.toList = .range) (ev : Value) (w : World) (hv : w.cell? ⟨3, 0, none⟩ = some ev) (hev : ev = .nilIface ∨ ∃ te pe, ev = .iface te pe) :
    Calls Tryd.prog 41 #[.string s] w fun e w' => ∃ N, e = .returned (.tuple #[.int .i64 (Lib.atoiSat s.data.toList), .iface 98 (.pointer (some ⟨N, 0, none⟩))]) ∧ w.heap.size ≤ N ∧ w'.heap[N]? = some (.cells #[.string ⟨#[65, 116, 111, 105]⟩, .string s, ev] 115 (0, 0)) ∧ Below w.heap.size w w' := Any.strconv_Atoi_range Tryd.laysC172 s hlim h ev w hv hev
def Tryd.lays145_ren : Go.Shelf.Ren := ⟨fun | 145 => 21 | 220 => 40 | 219 => 49 | 217 => 50 | 225 => 57 | 224 => 58 | 267 => 59 | 266 => 60 | 314 => 72 | n => n, fun | 9 => 9 | 4 => 4 | 59 => 57 | 3 => 3 | 5 => 5 | 46 => 82 | 146 => 109 | 51 => 23 | n => n, fun | 1 => 1 | n => n⟩
theorem Tryd.lays145 : Go.Proofs.Lays.n145 Tryd.prog Tryd.lays145_ren := {
  mixed := by kernel_rfl
  f145 := Tryd.func21.trans (congrArg some (by kernel_rfl))
  f217 := Tryd.func50.trans (congrArg some (by kernel_rfl))
  f219 := Tryd.func49.trans (congrArg some (by kernel_rfl))
  f220 := Tryd.func40.trans (congrArg some (by kernel_rfl))
  f224 := Tryd.func58.trans (congrArg some (by kernel_rfl))
  f225 := Tryd.func57.trans (congrArg some (by kernel_rfl))
  f266 := Tryd.func60.trans (congrArg some (by kernel_rfl))
  f267 := Tryd.func59.trans (congrArg some (by kernel_rfl))
  f314 := Tryd.func72.trans (congrArg some (by kernel_rfl))
  t3 := Tryd.underlying3
  a3 := Tryd.isAgg3
  z3 := Tryd.sizeOf3
  v3 := Tryd.zeroValue3
  t4 := Tryd.underlying4
  a4 := Tryd.isAgg4
  z4 := Tryd.sizeOf4
  v4 := Tryd.zeroValue4
  t5 := Tryd.underlying5
  a5 := Tryd.isAgg5
  z5 := Tryd.sizeOf5
  v5 := Tryd.zeroValue5
  t9 := Tryd.underlying9
  a9 := Tryd.isAgg9
  z9 := Tryd.sizeOf9
  v9 := Tryd.zeroValue9
  t46 := Tryd.underlying82
  a46 := Tryd.isAgg82
  z46 := Tryd.sizeOf82
  v46 := Tryd.zeroValue82
  t51 := Tryd.underlying23
  a51 := Tryd.isAgg23
  z51 := Tryd.sizeOf23
  v51 := Tryd.zeroValue23
  t59 := Tryd.underlying57
  a59 := Tryd.isAgg57
  z59 := Tryd.sizeOf57
  v59 := Tryd.zeroValue57
  t146 := Tryd.underlying109
  a146 := Tryd.isAgg109
  z146 := Tryd.sizeOf109
  v146 := Tryd.zeroValue109
  g1 := by kernel_rfl }
open Go.RowKit Go.Lib in
theorem Tryd.strings_Cut (s sep : ByteArray) (m : Int) (w : World) (hs : s.size < 4294967281) (hm : w.cell? ⟨1, 0, none⟩ = some (.int .i64 m)) :
    Calls Tryd.prog 21 #[.string s, .string sep] w fun e w' => e = .returned (.tuple #[.string ⟨(Lib.cut s.data.toList sep.data.toList).1.toArray⟩, .string ⟨(Lib.cut s.data.toList sep.data.toList).2.1.toArray⟩, .bool (Lib.cut s.data.toList sep.data.toList).2.2]) ∧ ∃ n, w' = w.drewN n := Any.strings_Cut Tryd.lays145 s sep m w hs hm
def Tryd.lays138_ren : Go.Shelf.Ren := ⟨fun | 138 => 17 | 195 => 34 | 218 => 35 | 143 => 36 | 219 => 49 | 217 => 50 | 225 => 57 | 224 => 58 | 267 => 59 | 266 => 60 | 314 => 72 | n => n, fun | 9 => 9 | 3 => 3 | 4 => 4 | 5 => 5 | 0 => 0 | 46 => 82 | 146 => 109 | 51 => 23 | n => n, fun | 1 => 1 | n => n⟩
theorem Tryd.lays138 : Go.Proofs.Lays.n138 Tryd.prog Tryd.lays138_ren := {
  mixed := by kernel_rfl
  f138 := Tryd.func17.trans (congrArg some (by kernel_rfl))
  f143 := Tryd.func36.trans (congrArg some (by kernel_rfl))
  f195 := Tryd.func34.trans (congrArg some (by kernel_rfl))
  f217 := Tryd.func50.trans (congrArg some (by kernel_rfl))
  f218 := Tryd.func35.trans (congrArg some (by kernel_rfl))
  f219 := Tryd.func49.trans (congrArg some (by kernel_rfl))
  f224 := Tryd.func58.trans (congrArg some (by kernel_rfl))
  f225 := Tryd.func57.trans (congrArg some (by kernel_rfl))
  f266 := Tryd.func60.trans (congrArg some (by kernel_rfl))
  f267 := Tryd.func59.trans (congrArg some (by kernel_rfl))
  f314 := Tryd.func72.trans (congrArg some (by kernel_rfl))
  t0 := Tryd.underlying0
  a0 := Tryd.isAgg0
  z0 := Tryd.sizeOf0
  v0 := Tryd.zeroValue0
  t3 := Tryd.underlying3
  a3 := Tryd.isAgg3
  z3 := Tryd.sizeOf3
  v3 := Tryd.zeroValue3
  t4 := Tryd.underlying4
  a4 := Tryd.isAgg4
  z4 := Tryd.sizeOf4
  v4 := Tryd.zeroValue4
  t5 := Tryd.underlying5
  a5 := Tryd.isAgg5
  z5 := Tryd.sizeOf5
  v5 := Tryd.zeroValue5
  t9 := Tryd.underlying9
  a9 := Tryd.isAgg9
  z9 := Tryd.sizeOf9
  v9 := Tryd.zeroValue9
  t46 := Tryd.underlying82
  a46 := Tryd.isAgg82
  z46 := Tryd.sizeOf82
  v46 := Tryd.zeroValue82
  t51 := Tryd.underlying23
  a51 := Tryd.isAgg23
  z51 := Tryd.sizeOf23
  v51 := Tryd.zeroValue23
  t146 := Tryd.underlying109
  a146 := Tryd.isAgg109
  z146 := Tryd.sizeOf109
  v146 := Tryd.zeroValue109
  g1 := by kernel_rfl }
open Go.RowKit Go.Lib in
theorem Tryd.strings_Count_one (s : ByteArray) (c : UInt8) (w : World) :
    Calls Tryd.prog 17 #[.string s, .string ⟨#[c]⟩] w fun e w' => e = .returned (.int .i64 (Lib.countByte s.data.toList c)) ∧ w' = w := Any.strings_Count_one Tryd.lays138 s c w
def Tryd.lays100_ren : Go.Shelf.Ren := ⟨fun | 100 => 16 | 207 => 33 | n => n, fun | 9 => 9 | 4 => 4 | 3 => 3 | n => n, fun | n => n⟩
theorem Tryd.lays100 : Go.Proofs.Lays.n100 Tryd.prog Tryd.lays100_ren := {
  mixed := by kernel_rfl
  f100 := Tryd.func16.trans (congrArg some (by kernel_rfl))
  f207 := Tryd.func33.trans (congrArg some (by kernel_rfl))
  t3 := Tryd.underlying3
  a3 := Tryd.isAgg3
  z3 := Tryd.sizeOf3
  v3 := Tryd.zeroValue3
  t4 := Tryd.underlying4
  a4 := Tryd.isAgg4
  z4 := Tryd.sizeOf4
  v4 := Tryd.zeroValue4
  t9 := Tryd.underlying9
  a9 := Tryd.isAgg9
  z9 := Tryd.sizeOf9
  v9 := Tryd.zeroValue9 }
open Go.RowKit Go.Lib in
theorem Tryd.strings_HasSuffix (s p : ByteArray) (w : World) (hs : s.size ≤ 9223372036854775807) :
    Calls Tryd.prog 16 #[.string s, .string p] w fun e w' => e = .returned (.bool (Lib.hasSuffix s.data.toList p.data.toList)) ∧ w' = w := Any.strings_HasSuffix Tryd.lays100 s p w hs
def Tryd.lays102_ren : Go.Shelf.Ren := ⟨fun | 102 => 19 | 209 => 39 | 207 => 33 | n => n, fun | 9 => 9 | 4 => 4 | 3 => 3 | n => n, fun | n => n⟩
theorem Tryd.lays102 : Go.Proofs.Lays.n102 Tryd.prog Tryd.lays102_ren := {
  mixed := by kernel_rfl
  f102 := Tryd.func19.trans (congrArg some (by kernel_rfl))
  f207 := Tryd.func33.trans (congrArg some (by kernel_rfl))
  f209 := Tryd.func39.trans (congrArg some (by kernel_rfl))
  t3 := Tryd.underlying3
  a3 := Tryd.isAgg3
  z3 := Tryd.sizeOf3
  v3 := Tryd.zeroValue3
  t4 := Tryd.underlying4
  a4 := Tryd.isAgg4
  z4 := Tryd.sizeOf4
  v4 := Tryd.zeroValue4
  t9 := Tryd.underlying9
  a9 := Tryd.isAgg9
  z9 := Tryd.sizeOf9
  v9 := Tryd.zeroValue9 }
open Go.RowKit Go.Lib in
theorem Tryd.strings_TrimSuffix (s p : ByteArray) (w : World) (hs : s.size ≤ 9223372036854775807) :
    Calls Tryd.prog 19 #[.string s, .string p] w fun e w' => e = .returned (.string ⟨(Lib.trimSuffix s.data.toList p.data.toList).toArray⟩) ∧ w' = w := Any.strings_TrimSuffix Tryd.lays102 s p w hs
def Tryd.lays146_ren : Go.Shelf.Ren := ⟨fun | 146 => 27 | 221 => 45 | 268 => 54 | 138 => 17 | 143 => 36 | 195 => 34 | 197 => 67 | 218 => 35 | 219 => 49 | 260 => 76 | 217 => 50 | 225 => 57 | 224 => 58 | 267 => 59 | 266 => 60 | 314 => 72 | n => n, fun | 9 => 9 | 31 => 55 | 3 => 3 | 4 => 4 | 0 => 0 | 105 => 102 | 21 => 21 | 5 => 5 | 46 => 82 | 119 => 126 | 139 => 129 | 138 => 128 | 146 => 109 | 51 => 23 | n => n, fun | 1 => 1 | 3 => 5 | 4 => 6 | n => n⟩
theorem Tryd.lays146 : Go.Proofs.Lays.n146 Tryd.prog Tryd.lays146_ren := {
  mixed := by kernel_rfl
  f138 := Tryd.func17.trans (congrArg some (by kernel_rfl))
  f143 := Tryd.func36.trans (congrArg some (by kernel_rfl))
  f146 := Tryd.func27.trans (congrArg some (by kernel_rfl))
  f195 := Tryd.func34.trans (congrArg some (by kernel_rfl))
  f197 := Tryd.func67.trans (congrArg some (by kernel_rfl))
  f217 := Tryd.func50.trans (congrArg some (by kernel_rfl))
  f218 := Tryd.func35.trans (congrArg some (by kernel_rfl))
  f219 := Tryd.func49.trans (congrArg some (by kernel_rfl))
  f221 := Tryd.func45.trans (congrArg some (by kernel_rfl))
  f224 := Tryd.func58.trans (congrArg some (by kernel_rfl))
  f225 := Tryd.func57.trans (congrArg some (by kernel_rfl))
  f260 := Tryd.func76.trans (congrArg some (by kernel_rfl))
  f266 := Tryd.func60.trans (congrArg some (by kernel_rfl))
  f267 := Tryd.func59.trans (congrArg some (by kernel_rfl))
  f268 := Tryd.func54.trans (congrArg some (by kernel_rfl))
  f314 := Tryd.func72.trans (congrArg some (by kernel_rfl))
  t0 := Tryd.underlying0
  a0 := Tryd.isAgg0
  z0 := Tryd.sizeOf0
  v0 := Tryd.zeroValue0
  t3 := Tryd.underlying3
  a3 := Tryd.isAgg3
  z3 := Tryd.sizeOf3
  v3 := Tryd.zeroValue3
  t4 := Tryd.underlying4
  a4 := Tryd.isAgg4
  z4 := Tryd.sizeOf4
  v4 := Tryd.zeroValue4
  t5 := Tryd.underlying5
  a5 := Tryd.isAgg5
  z5 := Tryd.sizeOf5
  v5 := Tryd.zeroValue5
  t9 := Tryd.underlying9
  a9 := Tryd.isAgg9
  z9 := Tryd.sizeOf9
  v9 := Tryd.zeroValue9
  t21 := Tryd.underlying21
  a21 := Tryd.isAgg21
  z21 := Tryd.sizeOf21
  v21 := Tryd.zeroValue21
  t31 := Tryd.underlying55
  a31 := Tryd.isAgg55
  z31 := Tryd.sizeOf55
  v31 := Tryd.zeroValue55
  t46 := Tryd.underlying82
  a46 := Tryd.isAgg82
  z46 := Tryd.sizeOf82
  v46 := Tryd.zeroValue82
  t51 := Tryd.underlying23
  a51 := Tryd.isAgg23
  z51 := Tryd.sizeOf23
  v51 := Tryd.zeroValue23
  t105 := Tryd.underlying102
  a105 := Tryd.isAgg102
  z105 := Tryd.sizeOf102
  v105 := Tryd.zeroValue102
  t119 := Tryd.underlying126
  a119 := Tryd.isAgg126
  z119 := Tryd.sizeOf126
  t138 := Tryd.underlying128
  a138 := Tryd.isAgg128
  z138 := Tryd.sizeOf128
  v138 := Tryd.zeroValue128
  t139 := Tryd.underlying129
  a139 := Tryd.isAgg129
  z139 := Tryd.sizeOf129
  v139 := Tryd.zeroValue129
  t146 := Tryd.underlying109
  a146 := Tryd.isAgg109
  z146 := Tryd.sizeOf109
  v146 := Tryd.zeroValue109
  g1 := by kernel_rfl
  g3 := by kernel_rfl
  g4 := by kernel_rfl }
open Go.RowKit Go.Lib in
theorem Tryd.strings_Split (s sep : ByteArray) (m : Int) (w : World) (hs : s.size < 4294967281) (hm : w.cell? ⟨1, 0, none⟩ = some (.int .i64 m)) (h1 : 1 ≤ sep.size) :
    Calls Tryd.prog 27 #[.string s, .string sep] w fun e w' =>
      e = .returned (.slice (some ⟨w.heap.size, 0, none⟩) (Lib.countB s sep + 1) (Lib.countB s sep + 1)) ∧ w' = w.alloc (.cells ((Lib.splitB sep 0 (Lib.countB s sep) s).map Value.string).toArray 9) := Any.strings_Split Tryd.lays146 (by kernel_rfl) s sep m w hs hm h1
end Go.Proofs
namespace Go.Proofs.YtinbfghmnfldjaaDoor
open Go Go.X Go.Shelf Go.Scr
/-- what the package's variables hold -/
structure G (w : World) : Prop where
  words : ∀ (i : Nat) u, words[i]? = some u → w.cell? ⟨0, i, none⟩ = some (.string (S u))
  maxl : ∃ m, w.cell? ⟨1, 0, none⟩ = some (.int .i64 m)
  syn : ∃ te pe, w.cell? ⟨2, 0, none⟩ = some (.iface te pe)
  rng : ∃ te pe, w.cell? ⟨3, 0, none⟩ = some (.iface te pe)
  low : 9 ≤ w.heap.size
  tab : Lib.TabIs Go.Proofs.Tryd.prog w "internal/strconv.uint64pow10" .u64 Lib.pow10Tab
theorem cell_keep {S : Nat → Prop} {w w' : World} {b o : Nat} {v : Value} (h : w.cell? ⟨b, o, none⟩ = some v) (k : Keep S w w') (hb : ¬ S b) : w'.cell? ⟨b, o, none⟩ = some v := by
  have hlt : b < w.heap.size := by
    unfold World.cell? at h
    dsimp only at h
    cases hh : w.heap[b]? with
    | none => rw [hh] at h; cases h
    | some x => exact (Array.getElem?_eq_some_iff.1 hh).1
  unfold World.cell? at h ⊢
  dsimp only at h ⊢
  rw [k.blk b hlt hb]; exact h
theorem tabNo : Go.Proofs.Tryd.prog.globalNamed "internal/strconv.uint64pow10" = some 4 := by kernel_rfl
theorem G.keep {S : Nat → Prop} {w w' : World} (h : G w) (k : Keep S w w') (hS : ∀ b, b < 9 → ¬ S b) : G w' := by
  refine ⟨fun i u hu => cell_keep (h.words i u hu) k (hS _ (by omega)), ?_, ?_, ?_, Nat.le_trans h.low k.size, ?_⟩
  · obtain ⟨m, hm⟩ := h.maxl; exact ⟨m, cell_keep hm k (hS _ (by omega))⟩
  · obtain ⟨m, p, hm⟩ := h.syn; exact ⟨m, p, cell_keep hm k (hS _ (by omega))⟩
  · obtain ⟨m, p, hm⟩ := h.rng; exact ⟨m, p, cell_keep hm k (hS _ (by omega))⟩
  · have h4 := h.tab
    unfold Lib.TabIs World.var? at h4 ⊢
    rw [tabNo] at h4 ⊢
    dsimp only [Option.bind_some] at h4 ⊢
    cases hh : w.heap[4]? with
    | none => rw [hh] at h4; cases h4
    | some x => rw [k.blk 4 (Array.getElem?_eq_some_iff.1 hh).1 (hS _ (by omega)), hh]; rw [hh] at h4; exact h4
theorem G.sep {w0 w : World} {Γ : List Ch} (h : G w0) (hs : Sep w0 (fps []) w Γ) : G w := h.keep hs.keep (fun _ _ ⟨c, hc, _⟩ => by simp at hc)
theorem G.sep2 {w0 w' w : World} {Γ Γ' : List Ch} (h : G w0) (hs : Sep w0 (fps []) w' Γ) (hs' : Sep w' (fps Γ) w Γ') : G w :=
  (h.sep hs).keep hs'.keep fun b hb hf => by
    obtain ⟨c, hc, _⟩ := hs.inn b hf (Nat.lt_of_lt_of_le hb h.low)
    simp at hc
theorem S_size' (l : List UInt8) : (S l).size = l.length := by simp [S, ByteArray.size]
theorem lib_IndexByte (l : List UInt8) (c : UInt8) (w : World) : Pur Go.Proofs.Tryd.prog 38 [.string (S l), .int .u8 c.toNat] (.int .i64 (Lib.indexByte l c)) w := by
  refine Calls.mono (Go.Proofs.Tryd.strings_IndexByte (S l) c.toNat w) ?_
  rintro e w' ⟨h1, rfl⟩
  refine ⟨?_, Keep.refl _ _⟩
  rw [h1]; simp [S]
theorem lib_HasSuffix (l p : List UInt8) (hl : l.length ≤ 4294967280) (w : World) : Pur Go.Proofs.Tryd.prog 16 [.string (S l), .string (S p)] (.bool (Lib.hasSuffix l p)) w := by
  refine Calls.mono (Go.Proofs.Tryd.strings_HasSuffix (S l) (S p) w (by rw [S_size']; omega)) ?_
  rintro e w' ⟨h1, rfl⟩
  exact ⟨h1, Keep.refl _ _⟩
theorem lib_TrimSuffix (l p : List UInt8) (hl : l.length ≤ 4294967280) (w : World) : Pur Go.Proofs.Tryd.prog 19 [.string (S l), .string (S p)] (.string (S (Lib.trimSuffix l p))) w := by
  refine Calls.mono (Go.Proofs.Tryd.strings_TrimSuffix (S l) (S p) w (by rw [S_size']; omega)) ?_
  rintro e w' ⟨h1, rfl⟩
  exact ⟨h1, Keep.refl _ _⟩
theorem lib_Count (l : List UInt8) (c : UInt8) (w : World) : Pur Go.Proofs.Tryd.prog 17 [.string (S l), .string (S [c])] (.int .i64 (l.count c : Nat)) w := by
  refine Calls.mono (Go.Proofs.Tryd.strings_Count_one (S l) c w) ?_
  rintro e w' ⟨h1, rfl⟩
  exact ⟨h1, Keep.refl _ _⟩
theorem lib_Cut (l : List UInt8) (c : UInt8) (hl : l.length ≤ 4294967280) (w : World) (hG : G w) : Pur Go.Proofs.Tryd.prog 21 [.string (S l), .string (S [c])] (.tuple #[.string (S (Lib.cut l [c]).1), .string (S (Lib.cut l [c]).2.1), .bool (Lib.cut l [c]).2.2]) w := by
  obtain ⟨m, hm⟩ := hG.maxl
  refine Calls.mono (Go.Proofs.Tryd.strings_Cut (S l) (S [c]) m w (by rw [S_size']; omega) hm) ?_
  rintro e w' ⟨h1, n, rfl⟩
  exact ⟨h1, ⟨rfl, rfl, rfl, Nat.le_refl _, fun _ _ _ => rfl⟩⟩
theorem lib_Itoa (n : Int) (hn : InR n) (w : World) (hG : G w) : Pur Go.Proofs.Tryd.prog 42 [.int .i64 n] (.string (S (Lib.itoa n))) w := by
  refine Calls.mono (Go.Proofs.Tryd.strconv_Itoa n hn.1 hn.2 w hG.tab) ?_
  rintro e w' ⟨h1, k, os, rfl⟩
  exact ⟨h1, Go.X.Below.keep (Lib.below_grow _ w (Nat.le_refl _) k os) _⟩
def AtoiR (l : List UInt8) (r : Value) (Γ : List Ch) : Prop := Γ = [] ∧ ∃ v e, r = .tuple #[.int .i64 v, e] ∧ ((e = .nilIface ∧ Lib.atoiAll l = .ok v) ∨ ((∃ t p, e = .iface t p) ∧ ∀ u, Lib.atoiAll l ≠ .ok u))
theorem sep_nil {w w' : World} (k : Keep (fun _ => False) w w') : Sep w (fps []) w' [] := ⟨k.mono fun _ _ h => h.elim, Holds.nil _, fun b ⟨c, hc, _⟩ => by simp at hc⟩
theorem lib_Atoi (l : List UInt8) (hl : l.length ≤ 4294967280) (w : World) (hG : G w) : Calls Go.Proofs.Tryd.prog 41 #[.string (S l)] w (Post w [] (RW (AtoiR l))) := by
  have hd : (S l).data.toList = l := rfl
  cases h : Lib.atoiAll l with
  | ok v =>
    refine Calls.mono (Go.Proofs.Tryd.strconv_Atoi_ok (S l) (by rw [S_size']; omega) v (by rw [hd]; exact h) w) ?_
    rintro e w' ⟨rfl, hw⟩
    refine ⟨_, [], rfl, ⟨[], inferInstance, rfl, v, .nilIface, rfl, .inl ⟨rfl, h⟩⟩, sep_nil ?_⟩
    rcases hw with rfl | ⟨t, rfl⟩
    · exact Keep.refl _ _
    · exact Go.X.Below.keep (Lib.bytesWorld_below w 5 t) _
  | range =>
    obtain ⟨te, pe, hv⟩ := hG.rng
    refine Calls.mono (Go.Proofs.Tryd.strconv_Atoi_range (S l) (by rw [S_size']; omega) (by rw [hd]; exact h) (.iface te pe) w hv (.inr ⟨te, pe, rfl⟩)) ?_
    rintro e w' ⟨N, rfl, _, _, hb⟩
    exact ⟨_, [], rfl, ⟨[], inferInstance, rfl, _, _, rfl, .inr ⟨⟨_, _, rfl⟩, fun u hu => by rw [h] at hu; cases hu⟩⟩, sep_nil (Go.X.Below.keep hb _)⟩
  | _ =>
    obtain ⟨te, pe, hv⟩ := hG.syn
    refine Calls.mono (Go.Proofs.Tryd.strconv_Atoi_bad (S l) (by rw [S_size']; omega) (fun v => by rw [hd, h]; simp) (by rw [hd, h]; simp) (.iface te pe) w hv (.inr ⟨te, pe, rfl⟩)) ?_
    rintro e w' ⟨N, rfl, _, _, hb⟩
    exact ⟨_, [], rfl, ⟨[], inferInstance, rfl, 0, _, rfl, .inr ⟨⟨_, _, rfl⟩, fun u hu => by rw [h] at hu; cases hu⟩⟩, sep_nil (Go.X.Below.keep hb _)⟩
def StrsR (ls : List (List UInt8)) (r : Value) (Γ : List Ch) : Prop := ∃ a c, r = .slice a ls.length c ∧ Γ = [own 9 1 a ls.length c (strL ls)]
theorem lib_Split (l : List UInt8) (c : UInt8) (hl : l.length ≤ 4294967280) (w : World) (hG : G w) : Calls Go.Proofs.Tryd.prog 27 #[.string (S l), .string (S [c])] w (Post w [] (RW (StrsR (splitc c l)))) := by
  obtain ⟨m, hm⟩ := hG.maxl
  refine Calls.mono (Go.Proofs.Tryd.strings_Split (S l) (S [c]) m w (by rw [S_size']; omega) hm (by rw [S_size']; simp)) ?_
  rintro e w' ⟨rfl, rfl⟩
  have hc : Lib.countB (S l) (S [c]) + 1 = (splitc c l).length := by
    rw [splitc_length]; congr 1; exact Lib.count_one c l
  have hcells := splitB_cells c l
  refine ⟨_, [own 9 1 (some ⟨w.heap.size, 0, none⟩) (splitc c l).length (splitc c l).length (strL (splitc c l))], rfl, ⟨_, .of (.refl _), _, _, by rw [hc], rfl⟩, ?_⟩
  rw [show (Lib.splitB (S [c]) 0 (Lib.countB (S l) (S [c])) (S l)).map Value.string = strL (splitc c l) from hcells]
  have := (Go.X.Sep.mk (w0 := w) (S0 := fps []) (w := w) (Γ := []) (Keep.refl _ _) (Holds.nil w) (fun b ⟨c, hc, _⟩ => by simp at hc)).newOwn (strL (splitc c l)) 9 1 (splitc c l).length (by simp [strL]) (by unfold maxLen; have := splitc_bound c l; omega)
  exact this
end Go.Proofs.YtinbfghmnfldjaaDoor
set_option maxHeartbeats 1000000
namespace Go.Proofs.YtinbfghmnfldjaaDoor
open Go Go.X Go.Shelf Go.Scr
theorem ref_Split (l : List UInt8) (c : UInt8) (hl : l.length ≤ 4294967280) (w : World) : Calls Go.Proofs.Tryd.prog 20 #[.string (S l), .int .u8 c.toNat] w (Post w [] (RW (StrsR (splitc c l)))) := by
  have hc := u8lt c
  refine spec_of Go.Proofs.Tryd.func20 rfl Go.Proofs.Tryd.ntmps20 rfl (Holds.nil w) ?_
  change C _ _ _ _ _ _ _ ⟨[(0, _), (1, _)], []⟩ _
  refine C.regS ?_
  refine L.yl (Y.as rfl) ?_
  refine L.nil ?_
  refine C.regS ?_
  refine L.yl (Y.as rfl) ?_
  refine L.nil ?_
  refine C.regS ?_
  refine L.yl (Y.as rfl) ?_
  refine L.nil ?_
  refine C.seq ?_
  refine C.regS ?_
  refine L.yl (Y.as rfl) ?_
  refine L.nil ?_
  refine C.block ?_
  refine C.nil0 9 1 ?_
  refine C.loop (σ := List (List UInt8) × Nat × Nat × Option Addr × Nat × Nat) (fun (ls, st, i, a, q, c') => [(0, .string (S l)), (1, .int .u8 c.toNat), (5, .slice a q c'), (6, .int .i64 st), (7, .int .i64 i)]) (fun (ls, st, i, a, q, c') => [own 9 1 a q c' (strL ls)]) (fun (ls, st, i, a, q, c') => Spl c l ls st i ∧ q = ls.length) (fun (ls, st, i, a, q, c') => l.length - i) ([], 0, 0, none, 0, 0) ?_ ?_ ?_ ?_
  · repeat (first | exact trivial | refine ⟨rfl, ?_⟩)
  · first | exact .of (.refl _) | exact inferInstance | (dsimp only; exact inferInstance)
  · exact ⟨Spl.start c l, rfl⟩
  · rintro ⟨ls, st, i, a, q, c'⟩ ⟨hI1, rfl⟩
    obtain ⟨hs1, hs2, hs3, hs4, hs5⟩ := id hI1
    try dsimp only
    refine C.seq ?_
    refine C.regS ?_
    refine L.yl (Y.mv rfl) ?_
    refine L.yl (Y.mv rfl) ?_
    refine L.yl (Y.lenS (tys := #[]) Go.Proofs.Tryd.underlying9 rfl) ?_
    refine L.yl (Y.lss rfl rfl) ?_
    refine L.nil ?_
    refine C.condP rfl (fun hc1 => ?_) (fun hc1 => ?_)
    ·
      refine C.skip ?_
      refine Then.n ?_
      refine C.seq ?_
      refine C.block ?_
      refine C.regS ?_
      refine L.yl (Y.mv rfl) ?_
      refine L.yl (Y.mv rfl) ?_
      refine L.sidx Go.Proofs.Tryd.underlying9 rfl rfl (by omega) (by omega) (fun u16 hu16 => ?_)
      have hb16 := u8lt u16
      refine L.yl (Y.mv rfl) ?_
      refine L.yl (Y.eqi rfl rfl) ?_
      refine L.nil ?_
      refine C.condP rfl (fun hc2 => ?_) (fun hc2 => ?_)
      ·
        have hu16' : l[i]? = some c := by rw [show c = u16 from UInt8.toNat_inj.1 (by omega)]; exact hu16
        refine C.regS ?_
        refine L.yl (Y.mv rfl) ?_
        refine L.yl (Y.mv rfl) ?_
        refine L.yl (Y.mv rfl) ?_
        refine L.yl (Y.mv rfl) ?_
        refine L.yl (Y.ss2 Go.Proofs.Tryd.underlying9 rfl rfl rfl (by omega)) ?_
        rw [show ((l.drop (st:Int).toNat).take ((i:Int).toNat - (st:Int).toNat)) = (l.drop st).take (i - st) from rfl]
        refine L.bs1 elt55 rfl rfl ?_; intro b24
        refine L.app elt55 rfl rfl (by rfl) (by simp [strL]) (by omega) (by omega) ?_; intro a25 c25
        rw [show strL ls ++ [Value.string (S ((l.drop st).take (i - st)))] = strL (ls ++ [(l.drop st).take (i - st)]) from by simp [strL]]
        refine L.yl (Y.as rfl) ?_
        refine L.nil ?_
        refine C.reg ?_
        refine L.yl (Y.mv rfl) ?_
        first | refine L.yl (Y.add rfl rfl (by omega)) ?_ | refine L.yl (Y.addW rfl rfl) ?_
        refine L.yl (Y.as rfl) ?_
        refine L.nil ?_
        refine InBlo.n ?_
        refine Then.n ?_
        refine C.reg ?_
        refine L.yl (Y.mv rfl) ?_
        first | refine L.yl (Y.add rfl rfl (by omega)) ?_ | refine L.yl (Y.addW rfl rfl) ?_
        refine L.yl (Y.as rfl) ?_
        refine L.nil ?_
        exact ⟨(ls ++ [(l.drop st).take (i - st)], i + 1, i + 1, _, _, _), ⟨rfl, rfl, rfl, congrArg some (by simp), congrArg some (by simp), trivial⟩, rfl, (by first | exact inferInstance | (dsimp only; exact inferInstance)), ⟨hI1.hit hu16', by simp⟩, (by first | omega | (dsimp only; omega))⟩
      ·
        refine C.skip ?_
        refine InBlo.n ?_
        refine Then.n ?_
        refine C.reg ?_
        refine L.yl (Y.mv rfl) ?_
        first | refine L.yl (Y.add rfl rfl (by omega)) ?_ | refine L.yl (Y.addW rfl rfl) ?_
        refine L.yl (Y.as rfl) ?_
        refine L.nil ?_
        exact ⟨(ls, st, i + 1, _, _, _), ⟨rfl, rfl, rfl, rfl, congrArg some (by simp), trivial⟩, rfl, (by first | exact inferInstance | (dsimp only; exact inferInstance)), ⟨hI1.miss hu16 (fun e => hc2 (by rw [e])), rfl⟩, (by first | omega | (dsimp only; omega))⟩
    ·
      refine C.exit ?_
      refine Then.x ?_
      refine Then.x ?_
      refine InBlo.x ?_
      refine Then.n ?_
      refine C.regS ?_
      refine L.yl (Y.mv rfl) ?_
      refine L.yl (Y.mv rfl) ?_
      refine L.yl (Y.mv rfl) ?_
      refine L.yl (Y.ss1 Go.Proofs.Tryd.underlying9 rfl rfl (by omega)) ?_
      rw [show (l.drop (st:Int).toNat) = l.drop st from rfl]
      refine L.bs1 elt55 rfl rfl ?_; intro b32
      refine L.app elt55 rfl rfl (by rfl) (by simp [strL]) (by omega) (by omega) ?_; intro a33 c33
      refine L.yl (Y.as rfl) ?_
      refine L.nil ?_
      refine C.ret ?_
      refine FnPost.r1 Go.Proofs.Tryd.results20 rfl ?_
      have hF := hI1.fin (by omega)
      have hL : (splitc c l).length = ls.length + 1 := by rw [hF]; simp
      exact ⟨[own 9 1 a33 (ls.length + 1) c33 (strL ls ++ [.string (S (l.drop st))])], inferInstance, a33, c33, by rw [hL], by rw [hL, hF]; simp [strL]⟩
end Go.Proofs.YtinbfghmnfldjaaDoor
set_option maxHeartbeats 1000000
namespace Go.Proofs.YtinbfghmnfldjaaDoor
open Go Go.X Go.Shelf Go.Scr
theorem ref_word (i : Nat) (hi : i < 8) (w : World) : Pur Go.Proofs.Tryd.prog 25 [.int .i64 i] (.string (S (words[i]?.getD []))) w := by
  refine pur_of Go.Proofs.Tryd.func25 rfl Go.Proofs.Tryd.ntmps25 rfl ?_
  change C _ _ _ _ _ _ _ ⟨[(0, _)], []⟩ _
  refine C.regS ?_
  refine L.yl (Y.as rfl) ?_
  refine L.nil ?_
  refine C.regS ?_
  refine L.bsl elt55 rfl rfl rfl (by decide) ?_; intro b3
  refine L.yl (Y.mv rfl) ?_
  refine L.yl (Y.ix slt55 rfl rfl rfl (by omega) (by omega)) ?_
  refine L.ldsF (fun l => Value.string (S l)) words sc9 rfl rfl (by simp [words]; omega) (fun u hu => ?_)
  refine L.yl (Y.as rfl) ?_
  refine L.nil ?_
  refine C.ret ?_
  refine FnPost.r1 Go.Proofs.Tryd.results25 rfl ?_
  rw [show words[i]? = some u by rw [← hu]; simp]; rfl
theorem ref_Same (a a' : Option Addr) (l m : List UInt8) (c c' : Nat) (hl : l.length ≤ 4294967280) (w : World) (h : Rs w a (byteL l)) (h' : Rs w a' (byteL m)) : Pur Go.Proofs.Tryd.prog 28 [.slice a l.length c, .slice a' m.length c'] (.bool (decide (l = m))) w := by
  haveI hrd : ∀ Γ, Rd w (fps []) Γ a (byteL l) := fun Γ => Rd.old0 h Γ
  haveI hrd' : ∀ Γ, Rd w (fps []) Γ a' (byteL m) := fun Γ => Rd.old0 h' Γ
  refine pur_of Go.Proofs.Tryd.func28 rfl Go.Proofs.Tryd.ntmps28 rfl ?_
  change C _ _ _ _ _ _ _ ⟨[(0, _), (1, _)], []⟩ _
  refine C.regS ?_
  refine L.yl (Y.as rfl) ?_
  refine L.nil ?_
  refine C.seq ?_
  refine C.regS ?_
  refine L.yl (Y.mv rfl) ?_
  refine L.yl (Y.len ⟨_, Go.Proofs.Tryd.underlying34⟩ rfl) ?_
  refine L.yl (Y.mv rfl) ?_
  refine L.yl (Y.len ⟨_, Go.Proofs.Tryd.underlying34⟩ rfl) ?_
  refine L.yl (Y.nei rfl rfl) ?_
  refine L.nil ?_
  refine C.condP rfl (fun hc1 => ?_) (fun hc1 => ?_)
  ·
    refine C.regS ?_
    refine L.yl (Y.as rfl) ?_
    refine L.nil ?_
    refine C.ret ?_
    refine Then.r ?_
    refine FnPost.r1 Go.Proofs.Tryd.results28 rfl ?_
    rw [decide_eq_false (fun h => hc1 (by rw [h]))]
  ·
    refine C.skip ?_
    refine Then.n ?_
    refine C.seq ?_
    refine C.regS ?_
    refine L.yl (Y.as rfl) ?_
    refine L.nil ?_
    refine C.block ?_
    refine C.loop (σ := Nat) (fun i => [(0, .slice a l.length c), (1, .slice a' m.length c'), (5, .int .i64 i)]) (fun i => []) (fun i => i ≤ l.length ∧ ∀ j, j < i → l[j]? = m[j]?) (fun i => l.length - i) 0 ?_ ?_ ?_ ?_
    · repeat (first | exact trivial | refine ⟨rfl, ?_⟩)
    · first | exact .of (.refl _) | exact inferInstance | (dsimp only; exact inferInstance)
    · exact ⟨by omega, fun j h => absurd h (by omega)⟩
    · rintro i ⟨hI1, hI2⟩
      try dsimp only
      refine C.seq ?_
      refine C.regS ?_
      refine L.yl (Y.mv rfl) ?_
      refine L.yl (Y.mv rfl) ?_
      refine L.yl (Y.len ⟨_, Go.Proofs.Tryd.underlying34⟩ rfl) ?_
      refine L.yl (Y.lss rfl rfl) ?_
      refine L.nil ?_
      refine C.condP rfl (fun hc2 => ?_) (fun hc2 => ?_)
      ·
        refine C.skip ?_
        refine Then.n ?_
        refine C.seq ?_
        refine C.block ?_
        obtain ⟨u20, hu20⟩ : ∃ u, l[i]? = some u := ⟨_, List.getElem?_eq_getElem (by omega)⟩
        obtain ⟨u24, hu24⟩ : ∃ u, m[i]? = some u := ⟨_, List.getElem?_eq_getElem (by omega)⟩
        have hb20 := u8lt u20
        have hb24 := u8lt u24
        refine C.drwS (.y 0 (.y 1 (.y 2 (.y 3 (.y 4 (.y 5 (.y 6 (.y 7 (.y 8 (.fin)))))))))) mixo (by kernel_rfl) ?_
        refine V.yl rfl (Y.mv rfl) ?_
        refine V.yl rfl (Y.mv rfl) ?_
        refine V.yl rfl (Y.ix slt34 rfl rfl (by simp [byteL]) (by omega) (by omega)) ?_
        refine V.yl rfl (Y.lds (v := .int .u8 u20.toNat) sc5 rfl (by simp [byteL, hu20])) ?_
        refine V.yl rfl (Y.mv rfl) ?_
        refine V.yl rfl (Y.mv rfl) ?_
        refine V.yl rfl (Y.ix slt34 rfl rfl (by simp [byteL]) (by omega) (by omega)) ?_
        refine V.yl rfl (Y.lds (v := .int .u8 u24.toNat) sc5 rfl (by simp [byteL, hu24])) ?_
        refine V.yl rfl (Y.nei rfl rfl) ?_
        refine V.fin ?_
        refine C.condP rfl (fun hc3 => ?_) (fun hc3 => ?_)
        ·
          refine C.regS ?_
          refine L.yl (Y.as rfl) ?_
          refine L.nil ?_
          refine C.ret ?_
          refine InBlo.r ?_
          refine Then.r ?_
          refine Then.r ?_
          refine InBlo.r ?_
          refine Then.r ?_
          refine FnPost.r1 Go.Proofs.Tryd.results28 rfl ?_
          rw [decide_eq_false]; intro h; subst h; rw [hu20] at hu24; injection hu24 with e; subst e; omega
        ·
          refine C.skip ?_
          refine InBlo.n ?_
          refine Then.n ?_
          refine C.reg ?_
          refine L.yl (Y.mv rfl) ?_
          first | refine L.yl (Y.add rfl rfl (by omega)) ?_ | refine L.yl (Y.addW rfl rfl) ?_
          refine L.yl (Y.as rfl) ?_
          refine L.nil ?_
          exact ⟨i + 1, (by repeat (first | exact trivial | refine ⟨rfl, ?_⟩ | refine ⟨congrArg some (by simp), ?_⟩ | refine ⟨congrArg some (by simp; omega), ?_⟩)), rfl, (by first | exact inferInstance | (dsimp only; exact inferInstance)), ⟨by omega, fun j hj => by
            rcases Nat.lt_or_ge j i with h | h
            · exact hI2 j h
            · rw [show j = i by omega, hu20, hu24, UInt8.toNat_inj.1 (show u20.toNat = u24.toNat by omega)]⟩, (by first | omega | (dsimp only; omega))⟩
      ·
        refine C.exit ?_
        refine Then.x ?_
        refine Then.x ?_
        refine InBlo.x ?_
        refine Then.n ?_
        refine C.regS ?_
        refine L.yl (Y.as rfl) ?_
        refine L.nil ?_
        refine C.ret ?_
        refine FnPost.r1 Go.Proofs.Tryd.results28 rfl ?_
        rw [decide_eq_true]; apply List.ext_getElem?; intro j; rcases Nat.lt_or_ge j i with h | h
        · exact hI2 j h
        · rw [List.getElem?_eq_none (by omega), List.getElem?_eq_none (by omega)]
theorem ref_word' {i : Nat} {u : List UInt8} (h : words[i]? = some u) (w : World) : Pur Go.Proofs.Tryd.prog 25 [.int .i64 i] (.string (S u)) w := by
  have := ref_word i (by have := (List.getElem?_eq_some_iff.1 h).1; exact this) w
  rwa [h] at this

end Go.Proofs.YtinbfghmnfldjaaDoor
set_option maxHeartbeats 1000000
namespace Go.Proofs.YtinbfghmnfldjaaDoor
open Go Go.X Go.Shelf Go.Scr
theorem ref_ParseHead (l : List UInt8) (hl : l.length ≤ 4294967280) (w : World) : Pur Go.Proofs.Tryd.prog 12 [.string (S l)] (HeadR l) w := by
  refine pur_of Go.Proofs.Tryd.func12 rfl Go.Proofs.Tryd.ntmps12 rfl ?_
  change C _ _ _ _ _ _ _ ⟨[(0, _)], []⟩ _
  refine C.regS ?_
  refine L.al (zs := [.int .u32 0, .int .i64 0, .int .i64 0, .int .i64 0, .int .i64 0, .int .i64 0, .int .i64 0, .int .i64 0]) zr25 rfl ?_; intro b2
  refine L.yl (Y.as rfl) ?_
  refine L.nil ?_
  refine C.regS ?_
  refine L.yl (Y.mv rfl) ?_
  refine L.callW (Γf := []) go20 rfl (.refl _) (fun w hw hf => ref_Split l 32 hl w) ?_
  rintro _ _ ⟨a10, c10, rfl, rfl⟩
  refine L.apc ?_
  refine L.yl (Y.as rfl) ?_
  refine L.nil ?_
  refine C.seq ?_
  refine C.test ((splitc 32 l).length ≠ 9 ∨ (splitc 32 l)[0]? ≠ some sender) ?_ (fun hc1 => ?_) (fun hc1 => ?_)
  ·
    refine L.yl (Y.mv rfl) ?_
    refine L.yl (Y.len ⟨_, Go.Proofs.Tryd.underlying55⟩ rfl) ?_
    refine L.yl (Y.nei rfl rfl) ?_
    refine L.yl (Y.mv rfl) ?_
    refine L.gsplit (i := 14) rfl (fun hg14 => ?_) (fun hg14 => ?_)
    ·
      refine L.gOff (t := 14) rfl rfl rfl ?_
      refine L.gOff (t := 14) rfl rfl rfl ?_
      refine L.gOff (t := 14) rfl rfl rfl ?_
      refine L.gOff (t := 14) rfl rfl rfl ?_
      refine L.yl (Y.pickT rfl rfl) ?_
      refine L.nil ?_
      exact ⟨_, rfl, by first | (rw [hu17, h9]; simp [sender]) | exact ⟨fun _ => by omega, fun _ => rfl⟩ | (rw [decide_eq_true_iff]; omega) | exact ⟨fun h => by cases h, fun h => by omega⟩ | (simp [*] <;> omega), (by repeat (first | exact Inc.refl _ | refine Inc.cons rfl ?_)), rfl, rfl⟩
    ·
      have h9 : (splitc 32 l).length = 9 := by omega
      obtain ⟨u17, hu17⟩ : ∃ u, (splitc 32 l)[0]? = some u := ⟨_, List.getElem?_eq_getElem (by omega)⟩
      refine L.gOn (t := 14) rfl rfl ?_
      refine L.yl (Y.mv rfl) ?_
      refine L.gOn (t := 14) rfl rfl ?_
      refine L.yl (Y.ix slt55 rfl rfl (by simp [strL]) (by omega) (by omega)) ?_
      refine L.gOn (t := 14) rfl rfl ?_
      refine L.yl (Y.lds (v := .string (S u17)) sc9 rfl (get_strL hu17 (by simp))) ?_
      refine L.gOn (t := 14) rfl rfl ?_
      refine L.yl (Y.nes rfl rfl) ?_
      refine L.yl (Y.pickF rfl rfl) ?_
      refine L.nil ?_
      exact ⟨_, rfl, by first | (rw [hu17, h9]; simp [sender]) | exact ⟨fun _ => by omega, fun _ => rfl⟩ | (rw [decide_eq_true_iff]; omega) | exact ⟨fun h => by cases h, fun h => by omega⟩ | (simp [*] <;> omega), (by repeat (first | exact Inc.refl _ | refine Inc.cons rfl ?_)), rfl, rfl⟩
  ·
    have hN := headL_bad hc1
    refine C.regS ?_
    refine L.yl (Y.bdL (cs := [_, _, _, _, _, _, _, _]) zr25 bd25 rfl rfl rfl) ?_
    refine L.sta (vs := [_, _, _, _, _, _, _, _]) ag25 rfl rfl rfl rfl rfl ?_
    refine L.yl (Y.as rfl) ?_
    refine L.nil ?_
    refine C.ret ?_
    refine Then.r ?_
    refine FnPost.rg (xs := [.cell 2 25, .tmp 3]) (congrArg Array.toList Go.Proofs.Tryd.results12) (ra_ag (us := [_, _, _, _, _, _, _, _]) rfl ag25 rfl (ra_tmp rfl ra_nil)) ?_
    unfold HeadR; rw [hN]; rfl
  ·
    have h9 : (splitc 32 l).length = 9 := by omega
    refine C.skip ?_
    refine Then.n ?_
    refine C.regS ?_
    refine L.yl (Y.as rfl) ?_
    refine L.nil ?_
    refine C.seq ?_
    refine C.regS ?_
    refine L.yl (Y.as rfl) ?_
    refine L.nil ?_
    refine C.block ?_
    refine C.nil0 3 1 ?_
    refine C.loop (σ := List Int × Nat × Option Addr × Nat × Nat) (fun (ns, k, a, q, c) => [(2, .pointer (some ⟨b2, 0, none⟩)), (4, .slice a10 (splitc 32 l).length c10), (5, .slice a q c), (6, .int .i64 (k + 1 : Nat))]) (fun (ns, k, a, q, c) => [own 3 1 a q c (intL ns), own 9 1 a10 (splitc 32 l).length c10 (strL (splitc 32 l)), blk b2 [.int .u32 0, .int .i64 0, .int .i64 0, .int .i64 0, .int .i64 0, .int .i64 0, .int .i64 0, .int .i64 0] 25]) (fun (ns, k, a, q, c) => k ≤ 8 ∧ q = k ∧ (((splitc 32 l).drop 1).take k).mapM num = some ns ∧ ns.length = k) (fun (ns, k, a, q, c) => 8 - k) ([], 0, none, 0, 0) ?_ ?_ ?_ ?_
    · repeat (first | exact trivial | refine ⟨rfl, ?_⟩)
    · first | exact .of (.refl _) | exact inferInstance | (dsimp only; exact inferInstance)
    · exact ⟨by omega, rfl, rfl, rfl⟩
    · rintro ⟨ns, k, a, q, c⟩ ⟨hI1, rfl, hI3, hI4⟩
      obtain ⟨u29, hu29⟩ : ∃ u, (splitc 32 l)[q + 1]? = some u ∨ 8 ≤ q := by
        rcases Nat.lt_or_ge q 8 with h | h
        · exact ⟨_, .inl (List.getElem?_eq_getElem (by omega))⟩
        · exact ⟨[], .inr h⟩
      try dsimp only
      refine C.seq ?_
      refine C.regS ?_
      refine L.yl (Y.mv rfl) ?_
      refine L.yl (Y.lss rfl rfl) ?_
      refine L.nil ?_
      refine C.condP rfl (fun hc2 => ?_) (fun hc2 => ?_)
      ·
        have hu29 : (splitc 32 l)[q + 1]? = some u29 := by rcases hu29 with h | h; exact h; omega
        refine C.skip ?_
        refine Then.n ?_
        refine C.seq ?_
        refine C.block ?_
        refine C.regS ?_
        refine L.yl (Y.mv rfl) ?_
        refine L.yl (Y.mv rfl) ?_
        refine L.yl (Y.ix slt55 rfl rfl (by simp [strL]) (by omega) (by omega)) ?_
        refine L.yl (Y.lds (v := .string (S u29)) sc9 rfl (get_strL hu29 (by simp))) ?_
        refine L.callW (Γf := []) go26 rfl (.refl _) (fun w hw hf => ref_Value' _ w) ?_
        rintro _ _ ⟨rfl, v30, rfl, hn30⟩
        refine L.apc ?_
        refine L.yl (Y.mv rfl) ?_
        refine L.yl (Y.extL rfl rfl) ?_
        refine L.yl (Y.extL rfl rfl) ?_
        refine L.yl (Y.as rfl) ?_
        refine L.yl (Y.as rfl) ?_
        refine L.nil ?_
        refine C.seq ?_
        refine C.regS ?_
        refine L.yl (Y.mv rfl) ?_
        first | refine L.yl (Y.notP rfl) ?_ | refine L.yl (Y.not rfl) ?_
        refine L.nil ?_
        refine C.condP rfl (fun hc3 => ?_) (fun hc3 => ?_)
        ·
          have hN := headL_num _ u29 (by omega) hu29 (hn30 hc3)
          refine C.regS ?_
          refine L.yl (Y.bdL (cs := [_, _, _, _, _, _, _, _]) zr25 bd25 rfl rfl rfl) ?_
          refine L.sta (vs := [_, _, _, _, _, _, _, _]) ag25 rfl rfl rfl rfl rfl ?_
          refine L.yl (Y.as rfl) ?_
          refine L.nil ?_
          refine C.ret ?_
          refine Then.r ?_
          refine InBlo.r ?_
          refine Then.r ?_
          refine Then.r ?_
          refine InBlo.r ?_
          refine Then.r ?_
          refine FnPost.rg (xs := [.cell 2 25, .tmp 3]) (congrArg Array.toList Go.Proofs.Tryd.results12) (ra_ag (us := [_, _, _, _, _, _, _, _]) rfl ag25 rfl (ra_tmp rfl ra_nil)) ?_
          unfold HeadR; rw [hN]; rfl
        ·
          refine C.skip ?_
          refine Then.n ?_
          refine C.reg ?_
          refine L.yl (Y.mv rfl) ?_
          refine L.yl (Y.mv rfl) ?_
          refine L.bs1 elt67 rfl rfl ?_; intro b38
          refine L.app elt67 rfl rfl (by rfl) (by simp [intL, hI4]) (by omega) (by omega) ?_; intro a39 c39
          rw [show intL ns ++ [Value.int .i64 v30] = intL (ns ++ [v30]) from by simp [intL]]
          refine L.yl (Y.as rfl) ?_
          refine L.nil ?_
          refine InBlo.n ?_
          refine Then.n ?_
          refine C.reg ?_
          refine L.yl (Y.mv rfl) ?_
          first | refine L.yl (Y.add rfl rfl (by omega)) ?_ | refine L.yl (Y.addW rfl rfl) ?_
          refine L.yl (Y.as rfl) ?_
          refine L.nil ?_
          exact ⟨(ns ++ [v30], q + 1, _, _, _), (by repeat (first | exact trivial | refine ⟨rfl, ?_⟩ | refine ⟨congrArg some (by simp), ?_⟩ | refine ⟨congrArg some (by simp; omega), ?_⟩)), rfl, (by first | exact inferInstance | (dsimp only; exact inferInstance)), ⟨(by first | omega | (dsimp only; omega)), rfl, mapM_step num _ q u29 v30 ns hI3 (by rw [List.getElem?_drop, Nat.add_comm]; exact hu29) (Decidable.not_not.1 hc3), by simp [hI4]⟩, (by first | omega | (dsimp only; omega))⟩
      ·
        refine C.exit ?_
        refine Then.x ?_
        refine Then.x ?_
        refine InBlo.x ?_
        refine Then.n ?_
        refine C.seq ?_
        have hq8 : ns.length = 8 := by omega
        have hE := headL_end h9 (Decidable.not_not.1 (fun h => hc1 (.inr h))) (ns := ns) (by rw [← hI3]; congr 2; omega)
        obtain ⟨u0, hu0'⟩ : ∃ u, ns[0]? = some u := ⟨_, List.getElem?_eq_getElem (by omega)⟩
        obtain ⟨u1, hu1'⟩ : ∃ u, ns[1]? = some u := ⟨_, List.getElem?_eq_getElem (by omega)⟩
        have hu1 := hu1'
        obtain ⟨u2, hu2'⟩ : ∃ u, ns[2]? = some u := ⟨_, List.getElem?_eq_getElem (by omega)⟩
        have hu2 := hu2'
        obtain ⟨u3, hu3'⟩ : ∃ u, ns[3]? = some u := ⟨_, List.getElem?_eq_getElem (by omega)⟩
        have hu3 := hu3'
        obtain ⟨u4, hu4'⟩ : ∃ u, ns[4]? = some u := ⟨_, List.getElem?_eq_getElem (by omega)⟩
        have hu4 := hu4'
        obtain ⟨u5, hu5'⟩ : ∃ u, ns[5]? = some u := ⟨_, List.getElem?_eq_getElem (by omega)⟩
        have hu5 := hu5'
        obtain ⟨u6, hu6'⟩ : ∃ u, ns[6]? = some u := ⟨_, List.getElem?_eq_getElem (by omega)⟩
        have hu6 := hu6'
        obtain ⟨u7, hu7'⟩ : ∃ u, ns[7]? = some u := ⟨_, List.getElem?_eq_getElem (by omega)⟩
        have hu7 := hu7'
        have hu0 : ns.getD 0 0 = u0 := by simp [List.getD, hu0']
        refine C.test (u0 < 0 ∨ 4294967295 < u0) ?_ (fun hc4 => ?_) (fun hc4 => ?_)
        ·
          refine L.yl (Y.mv rfl) ?_
          refine L.yl (Y.ix slt67 rfl rfl (by simp [intL]; omega) (by omega) (by omega)) ?_
          refine L.yl (Y.lds (v := .int .i64 u0) sc3 rfl (get_intL hu0' (by simp))) ?_
          refine L.yl (Y.lss rfl rfl) ?_
          refine L.yl (Y.mv rfl) ?_
          refine L.gsplit (i := 44) rfl (fun hg44 => ?_) (fun hg44 => ?_)
          ·
            refine L.gOff (t := 44) rfl rfl rfl ?_
            refine L.gOff (t := 44) rfl rfl rfl ?_
            refine L.gOff (t := 44) rfl rfl rfl ?_
            refine L.gOff (t := 44) rfl rfl rfl ?_
            refine L.yl (Y.pickT rfl rfl) ?_
            refine L.nil ?_
            exact ⟨_, rfl, by first | exact ⟨fun _ => by omega, fun _ => rfl⟩ | (rw [decide_eq_true_iff]; omega) | exact ⟨fun h => by cases h, fun h => by omega⟩ | (simp [*] <;> omega), (by repeat (first | exact Inc.refl _ | refine Inc.cons rfl ?_)), rfl, rfl⟩
          ·
            refine L.gOn (t := 44) rfl rfl ?_
            refine L.yl (Y.mv rfl) ?_
            refine L.gOn (t := 44) rfl rfl ?_
            refine L.yl (Y.ix slt67 rfl rfl (by simp [intL]; omega) (by omega) (by omega)) ?_
            refine L.gOn (t := 44) rfl rfl ?_
            refine L.yl (Y.lds (v := .int .i64 u0) sc3 rfl (get_intL hu0' (by simp))) ?_
            refine L.gOn (t := 44) rfl rfl ?_
            refine L.yl (Y.gtr rfl rfl) ?_
            refine L.yl (Y.pickF rfl rfl) ?_
            refine L.nil ?_
            exact ⟨_, rfl, by first | exact ⟨fun _ => by omega, fun _ => rfl⟩ | (rw [decide_eq_true_iff]; omega) | exact ⟨fun h => by cases h, fun h => by omega⟩ | (simp [*] <;> omega), (by repeat (first | exact Inc.refl _ | refine Inc.cons rfl ?_)), rfl, rfl⟩
        ·
          rw [hu0] at hE; rw [if_pos hc4] at hE
          refine C.regS ?_
          refine L.yl (Y.bdL (cs := [_, _, _, _, _, _, _, _]) zr25 bd25 rfl rfl rfl) ?_
          refine L.sta (vs := [_, _, _, _, _, _, _, _]) ag25 rfl rfl rfl rfl rfl ?_
          refine L.yl (Y.as rfl) ?_
          refine L.nil ?_
          refine C.ret ?_
          refine Then.r ?_
          refine FnPost.rg (xs := [.cell 2 25, .tmp 3]) (congrArg Array.toList Go.Proofs.Tryd.results12) (ra_ag (us := [_, _, _, _, _, _, _, _]) rfl ag25 rfl (ra_tmp rfl ra_nil)) ?_
          unfold HeadR; rw [hE]; rfl
        ·
          rw [hu0] at hE; rw [if_neg hc4] at hE
          refine C.skip ?_
          refine Then.n ?_
          refine C.drwBS [b2] (.y 0 (.y 1 (.y 2 (.y 3 (.y 4 (.y 5 (.y 6 (.y 7 (.y 8 (.y 9 (.y 10 (.y 11 (.y 12 (.y 13 (.y 14 (.y 15 (.y 16 (.y 17 (.y 18 (.y 19 (.y 20 (.y 21 (.y 22 (.y 23 (.y 24 (.y 25 (.h 26 (.y 27 (.fin))))))))))))))))))))))))))))) mixo (by kernel_rfl) ?_
          refine V.yl rfl (Y.mv rfl) ?_
          refine V.yl rfl (Y.ix slt67 rfl rfl (by simp [intL]; omega) (by omega) (by omega)) ?_
          refine V.yl rfl (Y.lds (v := .int .i64 u0) sc3 rfl (get_intL hu0' (by simp))) ?_
          refine V.yl rfl (Y.cvW Go.Proofs.Tryd.underlying23 ⟨_, Go.Proofs.Tryd.underlying3⟩ rfl) ?_
          refine V.yl rfl (Y.mv rfl) ?_
          refine V.yl rfl (Y.ix slt67 rfl rfl (by simp [intL]; omega) (by omega) (by omega)) ?_
          refine V.yl rfl (Y.lds (v := .int .i64 u1) sc3 rfl (get_intL hu1' (by simp))) ?_
          refine V.yl rfl (Y.mv rfl) ?_
          refine V.yl rfl (Y.ix slt67 rfl rfl (by simp [intL]; omega) (by omega) (by omega)) ?_
          refine V.yl rfl (Y.lds (v := .int .i64 u2) sc3 rfl (get_intL hu2' (by simp))) ?_
          refine V.yl rfl (Y.mv rfl) ?_
          refine V.yl rfl (Y.ix slt67 rfl rfl (by simp [intL]; omega) (by omega) (by omega)) ?_
          refine V.yl rfl (Y.lds (v := .int .i64 u3) sc3 rfl (get_intL hu3' (by simp))) ?_
          refine V.yl rfl (Y.mv rfl) ?_
          refine V.yl rfl (Y.ix slt67 rfl rfl (by simp [intL]; omega) (by omega) (by omega)) ?_
          refine V.yl rfl (Y.lds (v := .int .i64 u4) sc3 rfl (get_intL hu4' (by simp))) ?_
          refine V.yl rfl (Y.mv rfl) ?_
          refine V.yl rfl (Y.ix slt67 rfl rfl (by simp [intL]; omega) (by omega) (by omega)) ?_
          refine V.yl rfl (Y.lds (v := .int .i64 u5) sc3 rfl (get_intL hu5' (by simp))) ?_
          refine V.yl rfl (Y.mv rfl) ?_
          refine V.yl rfl (Y.ix slt67 rfl rfl (by simp [intL]; omega) (by omega) (by omega)) ?_
          refine V.yl rfl (Y.lds (v := .int .i64 u6) sc3 rfl (get_intL hu6' (by simp))) ?_
          refine V.yl rfl (Y.mv rfl) ?_
          refine V.yl rfl (Y.ix slt67 rfl rfl (by simp [intL]; omega) (by omega) (by omega)) ?_
          refine V.yl rfl (Y.lds (v := .int .i64 u7) sc3 rfl (get_intL hu7' (by simp))) ?_
          refine V.yl rfl (Y.bdL (cs := [_, _, _, _, _, _, _, _]) zr25 bd25 rfl rfl rfl) ?_
          refine V.hv rfl ?_
          refine L.apc ?_
          refine L.sta (vs := [_, _, _, _, _, _, _, _]) ag25 rfl rfl rfl rfl rfl ?_
          refine L.nil ?_
          refine V.on ?_
          refine V.yl rfl (Y.as rfl) ?_
          refine V.fin ?_
          refine C.ret ?_
          refine FnPost.rg (xs := [.cell 2 25, .tmp 3]) (congrArg Array.toList Go.Proofs.Tryd.results12) (ra_ag (us := [_, _, _, _, _, _, _, _]) rfl ag25 rfl (ra_tmp rfl ra_nil)) ?_
          unfold HeadR; rw [hE]; simp only [Option.getD_some]; rw [headV_eq hu0' hu1 hu2 hu3 hu4 hu5 hu6 hu7, show IntKind.u32.wrap u0 = u0 from by show u0 % 4294967296 = u0; omega]; rfl
end Go.Proofs.YtinbfghmnfldjaaDoor
set_option maxHeartbeats 1000000
namespace Go.Proofs.YtinbfghmnfldjaaDoor
open Go Go.X Go.Shelf Go.Scr
def LineR (x : Option (Int × Int × List UInt8)) (r : Value) (Γ : List Ch) : Prop := ∃ a c, r = .tuple #[.agg #[.int .i64 (itemOf x).1, .int .i64 (itemOf x).2.1, .slice a (itemOf x).2.2.length c], .bool (decide (x ≠ none))] ∧ Γ = [own 5 1 a (itemOf x).2.2.length c (byteL (itemOf x).2.2)]
theorem LineR.no {x : Option (Int × Int × List UInt8)} (h : x = none) : LineR x (.tuple #[.agg #[.int .i64 0, .int .i64 0, .slice none 0 0], .bool false]) [own 5 1 none 0 0 []] := by subst h; exact ⟨none, 0, rfl, rfl⟩
theorem LineR.yes {x : Option (Int × Int × List UInt8)} {k n : Int} {d : List UInt8} {a : Option Addr} {c : Nat} (h : x = some (k, n, d)) : LineR x (.tuple #[.agg #[.int .i64 k, .int .i64 n, .slice a d.length c], .bool true]) [own 5 1 a d.length c (byteL d)] := by subst h; exact ⟨a, c, rfl, rfl⟩
theorem ref_ParseLine (l : List UInt8) (hl : l.length ≤ 4294967280) (w : World) : Calls Go.Proofs.Tryd.prog 10 #[.string (S l)] w (Post w [] (RW (LineR (lineL l)))) := by
  have hsm := splitc_small 32 l
  refine spec_of Go.Proofs.Tryd.func10 rfl Go.Proofs.Tryd.ntmps10 rfl (Holds.nil w) ?_
  change C _ _ _ _ _ _ _ ⟨[(0, _)], []⟩ _
  refine C.regS ?_
  refine L.al (zs := [.int .i64 0, .int .i64 0, .slice none 0 0]) zr39 rfl ?_; intro b2
  refine L.yl (Y.as rfl) ?_
  refine L.nil ?_
  refine C.regS ?_
  refine L.yl (Y.mv rfl) ?_
  refine L.callW (Γf := []) go20 rfl (.refl _) (fun w hw hf => ref_Split l 32 hl w) ?_
  rintro _ _ ⟨a11, c11, rfl, rfl⟩
  refine L.apc ?_
  refine L.yl (Y.as rfl) ?_
  refine L.nil ?_
  refine C.seq ?_
  refine C.regS ?_
  refine L.yl (Y.mv rfl) ?_
  refine L.yl (Y.len ⟨_, Go.Proofs.Tryd.underlying55⟩ rfl) ?_
  refine L.yl (Y.nei rfl rfl) ?_
  refine L.nil ?_
  refine C.condP rfl (fun hc1 => ?_) (fun hc1 => ?_)
  ·
    have hN := lineL_not (l := l) (by omega)
    refine C.regS ?_
    refine L.yl (Y.bdL (cs := [_, _, _]) zr39 bd39 rfl rfl rfl) ?_
    refine L.sta (vs := [_, _, _]) ag39 rfl rfl rfl rfl rfl ?_
    refine L.yl (Y.as rfl) ?_
    refine L.nil ?_
    refine C.nil0 5 1 ?_
    refine C.ret ?_
    refine Then.r ?_
    refine FnPost.rg (xs := [.cell 2 39, .tmp 3]) (congrArg Array.toList Go.Proofs.Tryd.results10) (ra_ag (us := [_, _, _]) rfl ag39 rfl (ra_tmp rfl ra_nil)) ?_
    exact ⟨[own 5 1 none 0 0 []], inferInstance, LineR.no hN⟩
  ·
    have h2 : (splitc 32 l).length = 2 := by omega
    obtain ⟨k0, hk0⟩ : ∃ u, (splitc 32 l)[0]? = some u := ⟨_, List.getElem?_eq_getElem (by omega)⟩
    obtain ⟨r0, hr0⟩ : ∃ u, (splitc 32 l)[1]? = some u := ⟨_, List.getElem?_eq_getElem (by omega)⟩
    have hL := lineL_two h2 hk0 hr0
    refine C.skip ?_
    refine Then.n ?_
    refine C.seq ?_
    refine C.regS ?_
    refine L.yl (Y.mv rfl) ?_
    refine L.yl (Y.ix slt55 rfl rfl (by simp [strL]) (by omega) (by omega)) ?_
    refine L.yl (Y.lds (v := .string (S k0)) sc9 rfl (get_strL hk0 (by simp))) ?_
    refine L.yl (Y.eqs rfl rfl) ?_
    refine L.nil ?_
    refine C.condP rfl (fun hc2 => ?_) (fun hc2 => ?_)
    ·
      rw [tailL_zero hc2] at hL
      refine C.regS ?_
      refine L.yl (Y.mv rfl) ?_
      refine L.yl (Y.ix slt55 rfl rfl (by simp [strL]) (by omega) (by omega)) ?_
      refine L.yl (Y.lds (v := .string (S r0)) sc9 rfl (get_strL hr0 (by simp))) ?_
      refine L.callW (Γf := []) go24 rfl (.refl _) (fun w hw hf => ref_bytes _ (by have := hsm 1 r0 hr0; omega) w) ?_
      rintro _ _ ⟨a24, c24, bs24, rfl, rfl, hb24⟩
      refine L.apc ?_
      refine L.yl (Y.mv rfl) ?_
      refine L.yl (Y.extL rfl rfl) ?_
      refine L.yl (Y.extL rfl rfl) ?_
      refine L.yl (Y.as rfl) ?_
      refine L.yl (Y.as rfl) ?_
      refine L.nil ?_
      refine C.seq ?_
      refine C.regS ?_
      refine L.yl (Y.mv rfl) ?_
      first | refine L.yl (Y.notP rfl) ?_ | refine L.yl (Y.not rfl) ?_
      refine L.nil ?_
      refine C.condP rfl (fun hc3 => ?_) (fun hc3 => ?_)
      ·
        obtain ⟨hb, _⟩ := hb24 hc3
        rw [hb] at hL
        refine C.regS ?_
        refine L.yl (Y.bdL (cs := [_, _, _]) zr39 bd39 rfl rfl rfl) ?_
        refine L.sta (vs := [_, _, _]) ag39 rfl rfl rfl rfl rfl ?_
        refine L.yl (Y.as rfl) ?_
        refine L.nil ?_
        refine C.nil0 5 1 ?_
        refine C.ret ?_
        refine Then.r ?_
        refine Then.r ?_
        refine FnPost.rg (xs := [.cell 2 39, .tmp 3]) (congrArg Array.toList Go.Proofs.Tryd.results10) (ra_ag (us := [_, _, _]) rfl ag39 rfl (ra_tmp rfl ra_nil)) ?_
        exact ⟨[own 5 1 none 0 0 []], inferInstance, LineR.no hL⟩
      ·
        have hb := Decidable.not_not.1 hc3
        rw [hb] at hL
        refine C.skip ?_
        refine Then.n ?_
        refine C.regS ?_
        refine L.yl (Y.mv rfl) ?_
        refine L.yl (Y.bdL (cs := [_, _, _]) zr39 bd39 rfl rfl rfl) ?_
        refine L.sta (vs := [_, _, _]) ag39 rfl rfl rfl rfl rfl ?_
        refine L.yl (Y.as rfl) ?_
        refine L.nil ?_
        refine C.ret ?_
        refine Then.r ?_
        refine FnPost.rg (xs := [.cell 2 39, .tmp 3]) (congrArg Array.toList Go.Proofs.Tryd.results10) (ra_ag (us := [_, _, _]) rfl ag39 rfl (ra_tmp rfl ra_nil)) ?_
        exact ⟨[own 5 1 a24 bs24.length c24 (byteL bs24)], inferInstance, LineR.yes hL⟩
    ·
      have hne := hc2
      refine C.skip ?_
      refine Then.n ?_
      refine C.seq ?_
      refine C.regS ?_
      refine L.yl (Y.as rfl) ?_
      refine L.nil ?_
      refine C.block ?_
      refine C.loop (fun (i:Nat) => [(2, .pointer (some ⟨b2, 0, none⟩)), (4, .slice a11 (splitc 32 l).length c11), (7, .int .i64 i)]) (fun i => [own 9 1 a11 (splitc 32 l).length c11 (strL (splitc 32 l)), blk b2 [.int .i64 0, .int .i64 0, .slice none 0 0] 39]) (fun i => 1 ≤ i ∧ i ≤ 8 ∧ ∀ j, j < i → words[j]? ≠ some k0) (fun i => 8 - i) 1 ?_ ?_ ?_ ?_
      · repeat (first | exact trivial | refine ⟨rfl, ?_⟩)
      · first | exact .of (.refl _) | exact inferInstance | (dsimp only; exact inferInstance)
      · exact ⟨by omega, by omega, fun j hj => by rw [show j = 0 by omega]; intro h; exact hc2 (Option.some.inj h).symm⟩
      · rintro i ⟨hI1, hI2, hI3⟩
        try dsimp only
        refine C.seq ?_
        refine C.regS ?_
        refine L.yl (Y.mv rfl) ?_
        refine L.yl (Y.lss rfl rfl) ?_
        refine L.nil ?_
        refine C.condP rfl (fun hc4 => ?_) (fun hc4 => ?_)
        ·
          refine C.skip ?_
          refine Then.n ?_
          refine C.seq ?_
          refine C.block ?_
          obtain ⟨wi, hwi⟩ : ∃ u, words[i]? = some u := ⟨_, List.getElem?_eq_getElem (by simp [words]; omega)⟩
          refine C.drwS (.y 0 (.y 1 (.y 2 (.y 3 (.h 4 (.y 5 (.fin))))))) mixo (by kernel_rfl) ?_
          refine V.yl rfl (Y.mv rfl) ?_
          refine V.yl rfl (Y.ix slt55 rfl rfl (by simp [strL]) (by omega) (by omega)) ?_
          refine V.yl rfl (Y.lds (v := .string (S k0)) sc9 rfl (get_strL hk0 (by simp))) ?_
          refine V.yl rfl (Y.mv rfl) ?_
          refine V.hv rfl ?_
          refine L.apc ?_
          refine L.callP go25 rfl (fun w hw => ref_word' hwi w) ?_
          refine L.nil ?_
          refine V.on ?_
          refine V.yl rfl (Y.eqs rfl rfl) ?_
          refine V.fin ?_
          refine C.condP rfl (fun hc5 => ?_) (fun hc5 => ?_)
          ·
            subst hc5
            rw [tailL_hit hI1 (by omega) hwi] at hL
            refine C.regS ?_
            refine L.yl (Y.mv rfl) ?_
            refine L.yl (Y.ix slt55 rfl rfl (by simp [strL]) (by omega) (by omega)) ?_
            refine L.yl (Y.lds (v := .string (S r0)) sc9 rfl (get_strL hr0 (by simp))) ?_
            refine L.callW (Γf := []) go26 rfl (.refl _) (fun w hw hf => ref_Value' _ w) ?_
            rintro _ _ ⟨rfl, v46, rfl, hn46⟩
            refine L.apc ?_
            refine L.yl (Y.mv rfl) ?_
            refine L.yl (Y.extL rfl rfl) ?_
            refine L.yl (Y.extL rfl rfl) ?_
            refine L.yl (Y.as rfl) ?_
            refine L.yl (Y.as rfl) ?_
            refine L.nil ?_
            refine C.seq ?_
            refine C.regS ?_
            refine L.yl (Y.mv rfl) ?_
            first | refine L.yl (Y.notP rfl) ?_ | refine L.yl (Y.not rfl) ?_
            refine L.nil ?_
            refine C.condP rfl (fun hc6 => ?_) (fun hc6 => ?_)
            ·
              rw [hn46 hc6] at hL
              refine C.regS ?_
              refine L.yl (Y.bdL (cs := [_, _, _]) zr39 bd39 rfl rfl rfl) ?_
              refine L.sta (vs := [_, _, _]) ag39 rfl rfl rfl rfl rfl ?_
              refine L.yl (Y.as rfl) ?_
              refine L.nil ?_
              refine C.nil0 5 1 ?_
              refine C.ret ?_
              refine Then.r ?_
              refine InBlo.r ?_
              refine Then.r ?_
              refine Then.r ?_
              refine InBlo.r ?_
              refine Then.r ?_
              refine FnPost.rg (xs := [.cell 2 39, .tmp 3]) (congrArg Array.toList Go.Proofs.Tryd.results10) (ra_ag (us := [_, _, _]) rfl ag39 rfl (ra_tmp rfl ra_nil)) ?_
              exact ⟨[own 5 1 none 0 0 []], inferInstance, LineR.no hL⟩
            ·
              rw [Decidable.not_not.1 hc6] at hL
              refine C.skip ?_
              refine Then.n ?_
              refine C.regS ?_
              refine L.yl (Y.mv rfl) ?_
              refine L.yl (Y.mv rfl) ?_
              refine L.yl (Y.bdL (cs := [_, _, _]) zr39 bd39 rfl rfl rfl) ?_
              refine L.sta (vs := [_, _, _]) ag39 rfl rfl rfl rfl rfl ?_
              refine L.yl (Y.as rfl) ?_
              refine L.nil ?_
              refine C.nil0 5 1 ?_
              refine C.ret ?_
              refine InBlo.r ?_
              refine Then.r ?_
              refine Then.r ?_
              refine InBlo.r ?_
              refine Then.r ?_
              refine FnPost.rg (xs := [.cell 2 39, .tmp 3]) (congrArg Array.toList Go.Proofs.Tryd.results10) (ra_ag (us := [_, _, _]) rfl ag39 rfl (ra_tmp rfl ra_nil)) ?_
              exact ⟨[own 5 1 none 0 0 []], inferInstance, LineR.yes (d := []) hL⟩
          ·
            refine C.skip ?_
            refine InBlo.n ?_
            refine Then.n ?_
            refine C.reg ?_
            refine L.yl (Y.mv rfl) ?_
            first | refine L.yl (Y.add rfl rfl (by omega)) ?_ | refine L.yl (Y.addW rfl rfl) ?_
            refine L.yl (Y.as rfl) ?_
            refine L.nil ?_
            exact ⟨i + 1, (by repeat (first | exact trivial | refine ⟨rfl, ?_⟩ | refine ⟨congrArg some (by simp), ?_⟩ | refine ⟨congrArg some (by simp; omega), ?_⟩)), rfl, (by first | exact inferInstance | (dsimp only; exact inferInstance)), ⟨by omega, by omega, fun j hj => by
              rcases Nat.lt_or_ge j i with h | h
              · exact hI3 j h
              · rw [show j = i by omega, hwi]; exact fun e => hc5 (Option.some.inj e).symm⟩, by omega⟩
        ·
          refine C.exit ?_
          refine Then.x ?_
          refine Then.x ?_
          refine InBlo.x ?_
          refine Then.n ?_
          refine C.regS ?_
          refine L.yl (Y.bdL (cs := [_, _, _]) zr39 bd39 rfl rfl rfl) ?_
          refine L.sta (vs := [_, _, _]) ag39 rfl rfl rfl rfl rfl ?_
          refine L.yl (Y.as rfl) ?_
          refine L.nil ?_
          refine C.nil0 5 1 ?_
          refine C.ret ?_
          refine FnPost.rg (xs := [.cell 2 39, .tmp 3]) (congrArg Array.toList Go.Proofs.Tryd.results10) (ra_ag (us := [_, _, _]) rfl ag39 rfl (ra_tmp rfl ra_nil)) ?_
          exact ⟨[own 5 1 none 0 0 []], inferInstance, LineR.no (by rw [hL, tailL_none (fun j hj => hI3 j (by omega))])⟩
end Go.Proofs.YtinbfghmnfldjaaDoor
set_option maxHeartbeats 1000000
namespace Go.Proofs.YtinbfghmnfldjaaDoor
open Go Go.X Go.Shelf Go.Scr
theorem ref_Parse (t : List UInt8) (hl : t.length ≤ 4000000) (w : World) : Calls Go.Proofs.Tryd.prog 7 #[.string (S t)] w (Post w [] (RW (ParseR 39 t))) := by
  refine spec_of Go.Proofs.Tryd.func7 rfl Go.Proofs.Tryd.ntmps7 rfl (Holds.nil w) ?_
  change C _ _ _ _ _ _ _ ⟨[(0, _)], []⟩ _
  refine C.regS ?_
  refine L.al (zs := [.int .u32 0, .int .i64 0, .int .i64 0, .int .i64 0, .int .i64 0, .int .i64 0, .int .i64 0, .int .i64 0]) zr25 rfl ?_; intro b2
  refine L.yl (Y.as rfl) ?_
  refine L.yl (Y.as rfl) ?_
  refine L.yl (Y.as rfl) ?_
  refine L.nil ?_
  refine C.seq ?_
  have hsx := splitc_bound 10 (t.take (t.length - 1))
  rw [List.length_take] at hsx
  refine C.test (t.getLast? ≠ some 10) ?_ (fun hc1 => ?_) (fun hc1 => ?_)
  ·
    refine L.yl (Y.mv rfl) ?_
    refine L.yl (Y.lenS (tys := #[]) Go.Proofs.Tryd.underlying9 rfl) ?_
    refine L.yl (Y.eqi rfl rfl) ?_
    refine L.yl (Y.mv rfl) ?_
    refine L.gsplit (i := 16) rfl (fun hg16 => ?_) (fun hg16 => ?_)
    ·
      refine L.gOff (t := 16) rfl rfl rfl ?_
      refine L.gOff (t := 16) rfl rfl rfl ?_
      refine L.gOff (t := 16) rfl rfl rfl ?_
      refine L.gOff (t := 16) rfl rfl rfl ?_
      refine L.gOff (t := 16) rfl rfl rfl ?_
      refine L.gOff (t := 16) rfl rfl rfl ?_
      refine L.yl (Y.pickT rfl rfl) ?_
      refine L.nil ?_
      exact ⟨_, rfl, by first | (have : t = [] := List.length_eq_zero_iff.1 (by omega); subst this; simp) | (rw [List.getLast?_eq_getElem?, hu22, decide_eq_true_iff]; simp only [ne_eq, Option.some.injEq, ← UInt8.toNat_inj]; simp <;> omega) | exact ⟨fun _ => by omega, fun _ => rfl⟩ | (rw [decide_eq_true_iff]; omega) | exact ⟨fun h => by cases h, fun h => by omega⟩ | (simp [*] <;> omega), (by repeat (first | exact Inc.refl _ | refine Inc.cons rfl ?_)), rfl, rfl⟩
    ·
      obtain ⟨u22, hu22⟩ : ∃ u, t[t.length - 1]? = some u := ⟨_, List.getElem?_eq_getElem (by omega)⟩
      refine L.gOn (t := 16) rfl rfl ?_
      refine L.yl (Y.mv rfl) ?_
      refine L.gOn (t := 16) rfl rfl ?_
      refine L.yl (Y.mv rfl) ?_
      refine L.gOn (t := 16) rfl rfl ?_
      refine L.yl (Y.lenS (tys := #[]) Go.Proofs.Tryd.underlying9 rfl) ?_
      refine L.gOn (t := 16) rfl rfl ?_
      first | refine L.yl (Y.sub rfl rfl (by omega)) ?_ | refine L.yl (Y.subW rfl rfl) ?_
      refine L.gOn (t := 16) rfl rfl ?_
      refine L.yl (Y.sidx Go.Proofs.Tryd.underlying9 rfl rfl (by omega) (u := u22) (by rw [← hu22]; congr 1; omega)) ?_
      refine L.gOn (t := 16) rfl rfl ?_
      refine L.yl (Y.nei rfl rfl) ?_
      refine L.yl (Y.pickF rfl rfl) ?_
      refine L.nil ?_
      exact ⟨_, rfl, by first | (have : t = [] := List.length_eq_zero_iff.1 (by omega); subst this; simp) | (rw [List.getLast?_eq_getElem?, hu22, decide_eq_true_iff]; simp only [ne_eq, Option.some.injEq, ← UInt8.toNat_inj]; simp <;> omega) | exact ⟨fun _ => by omega, fun _ => rfl⟩ | (rw [decide_eq_true_iff]; omega) | exact ⟨fun h => by cases h, fun h => by omega⟩ | (simp [*] <;> omega), (by repeat (first | exact Inc.refl _ | refine Inc.cons rfl ?_)), rfl, rfl⟩
  ·
    
    refine C.regS ?_
    refine L.yl (Y.bdL (cs := [_, _, _, _, _, _, _, _]) zr25 bd25 rfl rfl rfl) ?_
    refine L.sta (vs := [_, _, _, _, _, _, _, _]) ag25 rfl rfl rfl rfl rfl ?_
    refine L.yl (Y.as rfl) ?_
    refine L.yl (Y.as rfl) ?_
    refine L.yl (Y.as rfl) ?_
    refine L.nil ?_
    refine C.nil0 39 3 ?_
    refine C.big0 ?_
    refine C.ret ?_
    refine Then.r ?_
    refine FnPost.rg (xs := [.cell 2 25, .tmp 3, .tmp 4, .tmp 5]) (congrArg Array.toList Go.Proofs.Tryd.results7) (ra_ag (us := [_, _, _, _, _, _, _, _]) rfl ag25 rfl (ra_tmp rfl (ra_tmp rfl (ra_tmp rfl ra_nil)))) ?_
    exact ⟨[own 39 3 none 0 0 [], big []], inferInstance, ParseR.bad (parseL_last hc1)⟩
  ·
    have hlast : t.getLast? = some 10 := Decidable.not_not.1 hc1
    have htl : t.length ≠ 0 := fun h => by rw [List.length_eq_zero_iff.1 h] at hlast; simp at hlast
    refine C.skip ?_
    refine Then.n ?_
    refine C.regS ?_
    refine L.yl (Y.mv rfl) ?_
    refine L.yl (Y.mv rfl) ?_
    refine L.yl (Y.lenS (tys := #[]) Go.Proofs.Tryd.underlying9 rfl) ?_
    first | refine L.yl (Y.sub rfl rfl (by omega)) ?_ | refine L.yl (Y.subW rfl rfl) ?_
    refine L.yl (Y.ssh Go.Proofs.Tryd.underlying9 rfl rfl (by omega)) ?_
    rw [show t.take (((t.length:Int) - 1).toNat) = t.take (t.length - 1) from by congr 1; omega]
    refine L.callW (Γf := []) go20 rfl (.refl _) (fun w hw hf => ref_Split _ 10 (by rw [List.length_take]; omega) w) ?_
    rintro _ _ ⟨a30, c30, rfl, rfl⟩
    refine L.apc ?_
    generalize hls : splitc 10 (t.take (t.length - 1)) = ls at *
    have hne : ls.length ≠ 0 := fun h => splitc_ne 10 _ (hls.trans (List.length_eq_zero_iff.1 h))
    refine L.yl (Y.as rfl) ?_
    refine L.nil ?_
    refine C.seq ?_
    refine C.regS ?_
    refine L.yl (Y.mv rfl) ?_
    refine L.yl (Y.len ⟨_, Go.Proofs.Tryd.underlying55⟩ rfl) ?_
    refine L.yl (Y.gtr rfl rfl) ?_
    refine L.nil ?_
    refine C.condP rfl (fun hc2 => ?_) (fun hc2 => ?_)
    ·
      refine C.regS ?_
      refine L.yl (Y.bdL (cs := [_, _, _, _, _, _, _, _]) zr25 bd25 rfl rfl rfl) ?_
      refine L.sta (vs := [_, _, _, _, _, _, _, _]) ag25 rfl rfl rfl rfl rfl ?_
      refine L.yl (Y.as rfl) ?_
      refine L.yl (Y.as rfl) ?_
      refine L.yl (Y.as rfl) ?_
      refine L.nil ?_
      refine C.nil0 39 3 ?_
      refine C.big0 ?_
      refine C.ret ?_
      refine Then.r ?_
      refine FnPost.rg (xs := [.cell 2 25, .tmp 3, .tmp 4, .tmp 5]) (congrArg Array.toList Go.Proofs.Tryd.results7) (ra_ag (us := [_, _, _, _, _, _, _, _]) rfl ag25 rfl (ra_tmp rfl (ra_tmp rfl (ra_tmp rfl ra_nil)))) ?_
      exact ⟨[own 39 3 none 0 0 [], big []], inferInstance, ParseR.bad (parseL_long hlast hls (by omega))⟩
    ·
      have hn4 : ls.length ≤ 4097 := by omega
      obtain ⟨k0, hk0⟩ : ∃ u, ls[0]? = some u := ⟨_, List.getElem?_eq_getElem (by omega)⟩
      have hkl := splitc_small 10 _ 0 k0 (by rw [hls]; exact hk0)
      rw [List.length_take] at hkl
      refine C.skip ?_
      refine Then.n ?_
      refine C.regS ?_
      refine L.yl (Y.mv rfl) ?_
      refine L.yl (Y.ix slt55 rfl rfl (by simp [strL]) (by omega) (by omega)) ?_
      refine L.yl (Y.lds (v := .string (S k0)) sc9 rfl (get_strL hk0 (by simp))) ?_
      refine L.callP go12 rfl (fun w hw => ref_ParseHead k0 (by omega) w) ?_
      refine L.yl (Y.mv rfl) ?_
      refine L.yl (Y.extL rfl rfl) ?_
      refine L.yl (Y.extL rfl rfl) ?_
      refine L.al (zs := [.int .u32 0, .int .i64 0, .int .i64 0, .int .i64 0, .int .i64 0, .int .i64 0, .int .i64 0, .int .i64 0]) zr25 rfl ?_; intro b7
      refine L.sta (vs := [_, _, _, _, _, _, _, _]) ag25 rfl rfl rfl rfl rfl ?_
      refine L.yl (Y.as rfl) ?_
      refine L.nil ?_
      refine C.seq ?_
      refine C.regS ?_
      refine L.yl (Y.mv rfl) ?_
      first | refine L.yl (Y.notP rfl) ?_ | refine L.yl (Y.not rfl) ?_
      refine L.nil ?_
      refine C.condP rfl (fun hc3 => ?_) (fun hc3 => ?_)
      ·
        have hh := Decidable.not_not.1 hc3
        refine C.regS ?_
        refine L.yl (Y.bdL (cs := [_, _, _, _, _, _, _, _]) zr25 bd25 rfl rfl rfl) ?_
        refine L.sta (vs := [_, _, _, _, _, _, _, _]) ag25 rfl rfl rfl rfl rfl ?_
        refine L.yl (Y.as rfl) ?_
        refine L.yl (Y.as rfl) ?_
        refine L.yl (Y.as rfl) ?_
        refine L.nil ?_
        refine C.nil0 39 3 ?_
        refine C.big0 ?_
        refine C.ret ?_
        refine Then.r ?_
        refine FnPost.rg (xs := [.cell 2 25, .tmp 3, .tmp 4, .tmp 5]) (congrArg Array.toList Go.Proofs.Tryd.results7) (ra_ag (us := [_, _, _, _, _, _, _, _]) rfl ag25 rfl (ra_tmp rfl (ra_tmp rfl (ra_tmp rfl ra_nil)))) ?_
        exact ⟨[own 39 3 none 0 0 [], big []], inferInstance, ParseR.bad (parseL_head hlast hls hn4 hk0 hh)⟩
      ·
        obtain ⟨ns, hh⟩ : ∃ ns, headL k0 = some ns := by
          cases h : headL k0 with
          | none => exact absurd h (Decidable.not_not.1 hc3)
          | some x => exact ⟨x, rfl⟩
        rw [hh]
        dsimp only [Option.getD_some]
        refine C.skip ?_
        refine Then.n ?_
        refine C.regS ?_
        refine L.yl (Y.as rfl) ?_
        refine L.nil ?_
        refine C.seq ?_
        refine C.regS ?_
        refine L.yl (Y.as rfl) ?_
        refine L.nil ?_
        refine C.block ?_
        refine C.nil0 39 3 ?_
        refine C.big0 ?_
        refine C.loop (σ := List Zt × Nat × Option Addr × Nat × Nat) (fun (zs, k, a, q, c) => [(2, .pointer (some ⟨b2, 0, none⟩)), (6, .slice a30 ls.length c30), (7, .pointer (some ⟨b7, 0, none⟩)), (9, .slice a q c), (10, .int .i64 (k + 1 : Nat))]) (fun (zs, k, a, q, c) => [big (zs.map zch), own 39 3 a q c (zcells zs), blk b7 (headCs ns) 25, own 9 1 a30 ls.length c30 (strL ls), blk b2 [.int .u32 0, .int .i64 0, .int .i64 0, .int .i64 0, .int .i64 0, .int .i64 0, .int .i64 0, .int .i64 0] 25]) (fun (zs, k, a, q, c) => k + 1 ≤ ls.length ∧ q = zs.length ∧ q = k ∧ ((ls.drop 1).take k).mapM lineL = some (zs.map (·.1))) (fun (zs, k, a, q, c) => ls.length - k) ([], 0, none, 0, 0) ?_ ?_ ?_ ?_
        · repeat (first | exact trivial | refine ⟨rfl, ?_⟩)
        · first | exact .of (.refl _) | exact inferInstance | (dsimp only; exact inferInstance)
        · exact ⟨by omega, rfl, rfl, rfl⟩
        · rintro ⟨zs, k, a, q, c⟩ ⟨hI1, hI2, hI3, hI4⟩
          try dsimp only
          refine C.seq ?_
          refine C.regS ?_
          refine L.yl (Y.mv rfl) ?_
          refine L.yl (Y.mv rfl) ?_
          refine L.yl (Y.len ⟨_, Go.Proofs.Tryd.underlying55⟩ rfl) ?_
          refine L.yl (Y.lss rfl rfl) ?_
          refine L.nil ?_
          refine C.condP rfl (fun hc4 => ?_) (fun hc4 => ?_)
          ·
            obtain ⟨x0, hx0⟩ : ∃ u, ls[k + 1]? = some u := ⟨_, List.getElem?_eq_getElem (by omega)⟩
            have hxl := splitc_small 10 _ _ x0 (by rw [hls]; exact hx0)
            rw [List.length_take] at hxl
            refine C.skip ?_
            refine Then.n ?_
            refine C.seq ?_
            refine C.block ?_
            refine C.regS ?_
            refine L.yl (Y.mv rfl) ?_
            refine L.yl (Y.mv rfl) ?_
            refine L.yl (Y.ix slt55 rfl rfl (by simp [strL]) (by omega) (by omega)) ?_
            refine L.yl (Y.lds (v := .string (S x0)) sc9 rfl (get_strL hx0 (by simp))) ?_
            refine L.callW (Γf := []) go10 rfl (.refl _) (fun w hw hf => ref_ParseLine _ (by omega) w) ?_
            rintro _ _ ⟨a56, c56, rfl, rfl⟩
            refine L.apc ?_
            refine L.yl (Y.mv rfl) ?_
            refine L.yl (Y.extL rfl rfl) ?_
            refine L.yl (Y.extL rfl rfl) ?_
            refine L.al (zs := [.int .i64 0, .int .i64 0, .slice none 0 0]) zr39 rfl ?_; intro b11
            refine L.sta (vs := [_, _, _]) ag39 rfl rfl rfl rfl rfl ?_
            refine L.yl (Y.as rfl) ?_
            refine L.nil ?_
            refine C.seq ?_
            refine C.regS ?_
            refine L.yl (Y.mv rfl) ?_
            first | refine L.yl (Y.notP rfl) ?_ | refine L.yl (Y.not rfl) ?_
            refine L.nil ?_
            refine C.condP rfl (fun hc5 => ?_) (fun hc5 => ?_)
            ·
              have hb := Decidable.not_not.1 hc5
              refine C.regS ?_
              refine L.yl (Y.bdL (cs := [_, _, _, _, _, _, _, _]) zr25 bd25 rfl rfl rfl) ?_
              refine L.yl (Y.mv rfl) ?_
              first | refine L.yl (Y.add rfl rfl (by omega)) ?_ | refine L.yl (Y.addW rfl rfl) ?_
              refine L.sta (vs := [_, _, _, _, _, _, _, _]) ag25 rfl rfl rfl rfl rfl ?_
              refine L.yl (Y.as rfl) ?_
              refine L.yl (Y.as rfl) ?_
              refine L.yl (Y.as rfl) ?_
              refine L.nil ?_
              refine C.nil0 39 3 ?_
              refine C.big0 ?_
              refine C.ret ?_
              refine Then.r ?_
              refine InBlo.r ?_
              refine Then.r ?_
              refine Then.r ?_
              refine InBlo.r ?_
              refine Then.r ?_
              refine FnPost.rg (xs := [.cell 2 25, .tmp 3, .tmp 4, .tmp 5]) (congrArg Array.toList Go.Proofs.Tryd.results7) (ra_ag (us := [_, _, _, _, _, _, _, _]) rfl ag25 rfl (ra_tmp rfl (ra_tmp rfl (ra_tmp rfl ra_nil)))) ?_
              exact ⟨[own 39 3 none 0 0 [], big []], inferInstance, ParseR.bad (parseL_line hlast hls hn4 hk0 hh hI4 hx0 hb)⟩
            ·
              have hy : lineL x0 = some (itemOf (lineL x0)) := by
                cases h : lineL x0 with
                | none => exact absurd h (Decidable.not_not.1 hc5)
                | some x => rfl
              refine C.skip ?_
              refine Then.n ?_
              refine C.reg ?_
              refine L.yl (Y.mv rfl) ?_
              refine L.yl (Y.lda (vs := [_, _, _]) ag39 rfl rfl) ?_
              refine L.bsA (vs := [_, _, _]) elt30 rfl rfl (by decide) ?_; intro b66
              refine L.app elt30 rfl rfl (by rfl) (by simp [zcells_length] <;> omega) (by omega) (by omega) ?_; intro a67 c67
              rw [show zcells zs ++ [Value.int .i64 (itemOf (lineL x0)).1, Value.int .i64 (itemOf (lineL x0)).2.1, Value.slice a56 (itemOf (lineL x0)).2.2.length c56] = zcells (zs ++ [((itemOf (lineL x0)), a56, c56)]) from by rw [zcells_append]; rfl]
              refine L.pack (zch ((itemOf (lineL x0)), a56, c56)) (zs.map zch) ?_
              refine L.yl (Y.as rfl) ?_
              refine L.nil ?_
              refine InBlo.n ?_
              refine Then.n ?_
              refine C.reg ?_
              refine L.yl (Y.mv rfl) ?_
              first | refine L.yl (Y.add rfl rfl (by omega)) ?_ | refine L.yl (Y.addW rfl rfl) ?_
              refine L.yl (Y.as rfl) ?_
              refine L.nil ?_
              exact ⟨(zs ++ [((itemOf (lineL x0)), a56, c56)], k + 1, _, _, _), (by repeat (first | exact trivial | refine ⟨rfl, ?_⟩ | refine ⟨congrArg some (by simp), ?_⟩ | refine ⟨congrArg some (by simp; omega), ?_⟩)), rfl, (by dsimp only; simp only [List.map_append, List.map_cons, List.map_nil]; exact inferInstance), ⟨(by first | omega | (dsimp only; omega)), (by dsimp only; simp; omega), (by first | omega | (dsimp only; omega)), (by simp only [List.map_append, List.map_cons, List.map_nil]; exact mapM_step lineL _ k x0 _ _ hI4 (by rw [List.getElem?_drop, Nat.add_comm]; exact hx0) hy)⟩, (by first | omega | (dsimp only; omega))⟩
          ·
            refine C.exit ?_
            refine Then.x ?_
            refine Then.x ?_
            refine InBlo.x ?_
            refine Then.n ?_
            refine C.regS ?_
            refine L.yl (Y.lda (vs := [_, _, _, _, _, _, _, _]) ag25 rfl rfl) ?_
            refine L.yl (Y.mv rfl) ?_
            refine L.sta (vs := [_, _, _, _, _, _, _, _]) ag25 rfl rfl rfl rfl rfl ?_
            refine L.yl (Y.as rfl) ?_
            refine L.yl (Y.as rfl) ?_
            refine L.yl (Y.as rfl) ?_
            refine L.nil ?_
            refine C.ret ?_
            refine FnPost.rg (xs := [.cell 2 25, .tmp 3, .tmp 4, .tmp 5]) (congrArg Array.toList Go.Proofs.Tryd.results7) (ra_ag (us := [_, _, _, _, _, _, _, _]) rfl ag25 rfl (ra_tmp rfl (ra_tmp rfl (ra_tmp rfl ra_nil)))) ?_
            subst hI2
            exact ⟨[own 39 3 a _ c (zcells zs), big (zs.map zch)], inferInstance, ParseR.ok (parseL_ok hlast hls hn4 hk0 hh (by rw [← hI4]; congr 1; rw [List.take_of_length_le]; simp; omega)) rfl⟩
end Go.Proofs.YtinbfghmnfldjaaDoor
set_option maxHeartbeats 1000000
namespace Go.Proofs.YtinbfghmnfldjaaDoor
open Go Go.X Go.Shelf Go.Scr
theorem lines_iter (l : List UInt8) (hl : l.length ≤ 4294967280) (bx : Nat) : IterOk Go.Proofs.Tryd.prog 37 #[.pointer (some ⟨bx, 0, none⟩)] (fun x => [.string (S x)]) (linesL l) [blk bx [.string (S l)] 9] (fun _ => True) := by
  intro σ τ G I Gx Ix s0 y w _ hI hw hy
  change Calls Go.Proofs.Tryd.prog 37 [y, .pointer (some ⟨bx, 0, none⟩)].toArray w _
  refine spec_of Go.Proofs.Tryd.func37 rfl Go.Proofs.Tryd.ntmps37 rfl hw ?_
  change C _ _ _ _ _ _ _ ⟨[(0, _), (1, _)], []⟩ _
  refine C.block ?_
  refine C.loop (σ := σ × List (List UInt8) × List UInt8) (fun (s, pre, r) => [(0, y), (1, .pointer (some ⟨bx, 0, none⟩))]) (fun (s, pre, r) => blk bx [.string (S r)] 9 :: G s) (fun (s, pre, r) => I pre s ∧ linesL l = pre ++ linesL r ∧ r.length ≤ l.length) (fun (s, pre, r) => r.length) (s0, [], l) ?_ ?_ ?_ ?_
  · repeat (first | exact trivial | refine ⟨rfl, ?_⟩)
  · first | exact .of (.refl _) | exact inferInstance | (dsimp only; exact inferInstance)
  · exact ⟨hI, rfl, Nat.le_refl _⟩
  · rintro ⟨s, pre, r⟩ ⟨hI1, hI2, hI3⟩
    try dsimp only
    refine C.seq ?_
    refine C.regS ?_
    refine L.yl (Y.ld sc9 rfl rfl) ?_
    refine L.yl (Y.lenS (tys := #[]) Go.Proofs.Tryd.underlying9 rfl) ?_
    refine L.yl (Y.gtr rfl rfl) ?_
    refine L.nil ?_
    refine C.condP rfl (fun hc1 => ?_) (fun hc1 => ?_)
    ·
      refine C.skip ?_
      refine Then.n ?_
      refine C.block ?_
      refine C.regS ?_
      refine L.yl (Y.as rfl) ?_
      refine L.nil ?_
      refine C.seq ?_
      refine C.regS ?_
      refine L.yl (Y.ld sc9 rfl rfl) ?_
      refine L.callP go38 rfl (fun w hw => lib_IndexByte r 10 w) ?_
      refine L.yl (Y.as rfl) ?_
      refine L.nil ?_
      refine C.regS ?_
      refine L.yl (Y.mv rfl) ?_
      refine L.yl (Y.geq rfl rfl) ?_
      refine L.nil ?_
      refine C.condP rfl (fun hc2 => ?_) (fun hc2 => ?_)
      ·
        have hst := linesL_step hc2
        have hil := (index_some hc2).1
        refine C.drw (.y 0 (.y 1 (.y 2 (.y 3 (.y 4 (.y 5 (.y 6 (.y 7 (.y 8 (.last 9)))))))))) mixo (by kernel_rfl) ?_
        refine V.yl rfl (Y.ld sc9 rfl rfl) ?_
        refine V.yl rfl (Y.mv rfl) ?_
        first | refine V.yl rfl (Y.add rfl rfl (by omega)) ?_ | refine V.yl rfl (Y.addW rfl rfl) ?_
        refine V.yl rfl (Y.ssh Go.Proofs.Tryd.underlying9 rfl rfl (by omega)) ?_
        rw [show (Lib.indexByte r 10 + 1).toNat = (Lib.indexByte r 10).toNat + 1 from by omega]
        refine V.yl rfl (Y.ld sc9 rfl rfl) ?_
        refine V.yl rfl (Y.mv rfl) ?_
        first | refine V.yl rfl (Y.add rfl rfl (by omega)) ?_ | refine V.yl rfl (Y.addW rfl rfl) ?_
        refine V.yl rfl (Y.ss1 Go.Proofs.Tryd.underlying9 rfl rfl (by omega)) ?_
        rw [show (Lib.indexByte r 10 + 1).toNat = (Lib.indexByte r 10).toNat + 1 from by omega]
        refine V.yl rfl (Y.as rfl) ?_
        refine V.ls rfl ?_
        refine L.apc ?_
        refine L.st sc9 rfl rfl rfl ?_
        refine L.nil ?_
        refine Then.n ?_
        refine C.regS ?_
        refine L.yl (Y.mv rfl) ?_
        refine L.yl (Y.mv rfl) ?_
        refine L.callV (fv := y) (Γf := G s) (Γr := [blk bx [.string (S (r.drop ((Lib.indexByte r 10).toNat + 1)))] 9]) rfl rfl (List.perm_append_comm (l₁ := [_])) (fun w' hw' _ => hy pre (r.take ((Lib.indexByte r 10).toNat + 1)) s w' hI1 ⟨linesL (r.drop ((Lib.indexByte r 10).toNat + 1)), by rw [hI2, hst]; simp [linesL_nil]⟩ (hw'.wk ⟨[_], List.perm_append_comm (l₁ := [_])⟩)) ?_
        rintro _ _ (⟨s', rfl, rfl, hI'⟩ | ⟨u, rfl, rfl, hI'⟩)
        ·
          first | refine L.yl (Y.notP rfl) ?_ | refine L.yl (Y.not rfl) ?_
          refine L.nil ?_
          refine C.condFf rfl ?_
          refine C.skip ?_
          refine InBlo.n ?_
          exact ⟨(s', pre ++ [r.take ((Lib.indexByte r 10).toNat + 1)], r.drop ((Lib.indexByte r 10).toNat + 1)), (by repeat (first | exact trivial | refine ⟨rfl, ?_⟩ | refine ⟨congrArg some (by simp), ?_⟩ | refine ⟨congrArg some (by simp; omega), ?_⟩)), rfl, .of (List.perm_append_comm (l₁ := G s')), ⟨hI', by rw [hI2, hst]; simp, by rw [List.length_drop]; omega⟩, by dsimp only; rw [List.length_drop]; omega⟩
        ·
          first | refine L.yl (Y.notP rfl) ?_ | refine L.yl (Y.not rfl) ?_
          refine L.nil ?_
          refine C.condTt rfl ?_
          refine C.ret ?_
          refine InBlo.r ?_
          refine Then.r ?_
          refine InBlo.r ?_
          refine FnPost.r0 Go.Proofs.Tryd.results37 ?_
          exact .inr ⟨_, u, ⟨[_], .refl _⟩, hI', ⟨linesL (r.drop ((Lib.indexByte r 10).toNat + 1)), by rw [hI2, hst]; simp⟩⟩
      ·
        have hst := linesL_none (index_none hc2) (fun e => by subst e; simp at hc1)
        refine C.reg ?_
        refine L.yl (Y.ld sc9 rfl rfl) ?_
        refine L.yl (Y.as rfl) ?_
        refine L.st sc9 rfl rfl rfl ?_
        refine L.nil ?_
        refine Then.n ?_
        refine C.regS ?_
        refine L.yl (Y.mv rfl) ?_
        refine L.yl (Y.mv rfl) ?_
        refine L.callV (fv := y) (Γf := G s) (Γr := [blk bx [.string (S ([]))] 9]) rfl rfl (List.perm_append_comm (l₁ := [_])) (fun w' hw' _ => hy pre (r) s w' hI1 ⟨linesL ([]), by rw [hI2, hst]; simp [linesL_nil]⟩ (hw'.wk ⟨[_], List.perm_append_comm (l₁ := [_])⟩)) ?_
        rintro _ _ (⟨s', rfl, rfl, hI'⟩ | ⟨u, rfl, rfl, hI'⟩)
        ·
          first | refine L.yl (Y.notP rfl) ?_ | refine L.yl (Y.not rfl) ?_
          refine L.nil ?_
          refine C.condFf rfl ?_
          refine C.skip ?_
          refine InBlo.n ?_
          exact ⟨(s', pre ++ [r], []), (by repeat (first | exact trivial | refine ⟨rfl, ?_⟩ | refine ⟨congrArg some (by simp), ?_⟩ | refine ⟨congrArg some (by simp; omega), ?_⟩)), rfl, .of (List.perm_append_comm (l₁ := G s')), ⟨hI', by rw [hI2, hst, linesL_nil]; simp, by simp⟩, by dsimp only; simp; omega⟩
        ·
          first | refine L.yl (Y.notP rfl) ?_ | refine L.yl (Y.not rfl) ?_
          refine L.nil ?_
          refine C.condTt rfl ?_
          refine C.ret ?_
          refine InBlo.r ?_
          refine Then.r ?_
          refine InBlo.r ?_
          refine FnPost.r0 Go.Proofs.Tryd.results37 ?_
          exact .inr ⟨_, u, ⟨[_], .refl _⟩, hI', ⟨[], by rw [hI2, hst]; simp⟩⟩
    ·
      refine C.exit ?_
      refine Then.x ?_
      refine Then.x ?_
      refine InBlo.x ?_
      refine FnPost.n0 Go.Proofs.Tryd.results37 ?_
      exact .inl ⟨s, ⟨[_], List.perm_append_comm (l₁ := [_])⟩, by rw [hI2, show r = [] from List.length_eq_zero_iff.1 (by omega), linesL_nil, List.append_nil]; exact hI1⟩
end Go.Proofs.YtinbfghmnfldjaaDoor
set_option maxHeartbeats 1000000
namespace Go.Proofs.YtinbfghmnfldjaaDoor
open Go Go.X Go.Shelf Go.Scr
theorem p_number (l : List UInt8) (hl : l.length ≤ 4294967280) (w : World) (hG : G w) : Calls Go.Proofs.Tryd.prog 23 #[.string (S l)] w (Post w [] (RW (NumR l))) := by
  refine spec_of Go.Proofs.Tryd.func23 rfl Go.Proofs.Tryd.ntmps23 rfl (Holds.nil w) ?_
  change C _ _ _ _ _ _ _ ⟨[(0, _)], []⟩ _
  refine C.regS ?_
  refine L.yl (Y.as rfl) ?_
  refine L.yl (Y.as rfl) ?_
  refine L.nil ?_
  refine C.regS ?_
  refine L.yl (Y.mv rfl) ?_
  refine L.callW (Γf := []) go41 rfl (.refl _) (fun w hw hf => lib_Atoi l hl w (hG.sep hw)) ?_
  rintro _ _ ⟨rfl, v8, e8, rfl, (⟨rfl, hv8⟩ | ⟨⟨tp, p, rfl⟩, hv8⟩)⟩
  ·
    refine L.apc ?_
    refine L.yl (Y.mv rfl) ?_
    refine L.yl (Y.extL rfl rfl) ?_
    refine L.yl (Y.extL rfl rfl) ?_
    refine L.yl (Y.as rfl) ?_
    refine L.yl (Y.as rfl) ?_
    refine L.nil ?_
    refine C.regS ?_
    refine L.yl (Y.mv rfl) ?_
    refine L.yl (Y.mv rfl) ?_
    first | refine L.yl (Y.eqfN ⟨_, Go.Proofs.Tryd.underlying73⟩ rfl) ?_ | refine L.yl (Y.eqfS ⟨_, Go.Proofs.Tryd.underlying73⟩ rfl) ?_
    refine L.yl (Y.mv rfl) ?_
    refine L.gOn (t := 14) rfl rfl ?_
    refine L.yl (Y.mv rfl) ?_
    refine L.gOn (t := 14) rfl rfl ?_
    refine L.callP go42 rfl (fun w hw => lib_Itoa v8 (Lib.atoiAll_bounds hv8) w (hG.sep hw)) ?_
    refine L.gOn (t := 14) rfl rfl ?_
    refine L.yl (Y.mv rfl) ?_
    refine L.gOn (t := 14) rfl rfl ?_
    refine L.yl (Y.eqs rfl rfl) ?_
    refine L.yl (Y.pickT rfl rfl) ?_
    refine L.yl (Y.as rfl) ?_
    refine L.yl (Y.as rfl) ?_
    refine L.nil ?_
    refine C.ret ?_
    refine FnPost.r2 Go.Proofs.Tryd.results23 rfl rfl ?_
    have hn : num l = if Lib.itoa v8 = l then some v8 else none := by unfold num; rw [hv8]
    refine ⟨[], inferInstance, rfl, v8, ?_, ?_⟩
    · by_cases he : Lib.itoa v8 = l <;> simp [hn, he]
    · intro h; by_cases he : Lib.itoa v8 = l
      · simp [hn, he] at h
      · simp [hn, he]
  ·
    refine L.apc ?_
    refine L.yl (Y.mv rfl) ?_
    refine L.yl (Y.extL rfl rfl) ?_
    refine L.yl (Y.extL rfl rfl) ?_
    refine L.yl (Y.as rfl) ?_
    refine L.yl (Y.as rfl) ?_
    refine L.nil ?_
    refine C.regS ?_
    refine L.yl (Y.mv rfl) ?_
    refine L.yl (Y.mv rfl) ?_
    first | refine L.yl (Y.eqfN ⟨_, Go.Proofs.Tryd.underlying73⟩ rfl) ?_ | refine L.yl (Y.eqfS ⟨_, Go.Proofs.Tryd.underlying73⟩ rfl) ?_
    refine L.yl (Y.mv rfl) ?_
    refine L.gOff (t := 14) rfl rfl rfl ?_
    refine L.gOff (t := 14) rfl rfl rfl ?_
    refine L.gOff (t := 14) rfl rfl rfl ?_
    refine L.gOff (t := 14) rfl rfl rfl ?_
    refine L.yl (Y.pickF rfl rfl) ?_
    refine L.yl (Y.as rfl) ?_
    refine L.yl (Y.as rfl) ?_
    refine L.nil ?_
    refine C.ret ?_
    refine FnPost.r2 Go.Proofs.Tryd.results23 rfl rfl ?_
    have hn : num l = none := by
      unfold num
      cases ha : Lib.atoiAll l with
      | ok u => exact absurd ha (hv8 u)
      | _ => rfl
    exact ⟨[], inferInstance, rfl, v8, by rw [hn]; rfl, fun _ => hn⟩
end Go.Proofs.YtinbfghmnfldjaaDoor
namespace Go.Scr
open Go Go.Lib Go.X
def hexdig : List UInt8 := [48, 49, 50, 51, 52, 53, 54, 55, 56, 57, 97, 98, 99, 100, 101, 102]
theorem index_hex (u : UInt8) : indexByte hexdig u = hexv u := by
  have key : ∀ n : Fin 256, indexByte hexdig (UInt8.ofNat n.val) = hexv (UInt8.ofNat n.val) := by decide +kernel
  have := key ⟨u.toNat, u.toNat_lt⟩
  simpa using this
theorem orNib (a b : Nat) (ha : a < 16) (hb : b < 16) : IntKind.u8.wrap ((BitVec.ofInt IntKind.u8.bits (IntKind.u8.wrap ((a : Int) * 2 ^ (min (4 : Int).toNat IntKind.u8.bits))) ||| BitVec.ofInt IntKind.u8.bits (IntKind.u8.wrap (b : Int))).toNat : Int) = ((16 * a + b : Nat) : Int) := by
  have key : ∀ a b : Fin 16, IntKind.u8.wrap ((BitVec.ofInt IntKind.u8.bits (IntKind.u8.wrap ((a.val : Int) * 2 ^ (min (4 : Int).toNat IntKind.u8.bits))) ||| BitVec.ofInt IntKind.u8.bits (IntKind.u8.wrap (b.val : Int))).toNat : Int) = ((16 * a.val + b.val : Nat) : Int) := by decide +kernel
  exact key ⟨a, ha⟩ ⟨b, hb⟩
/-- the bytes after j letters -/
def partHex (l : List UInt8) (j k : Nat) : UInt8 := if 2 * k + 1 < j then hex2 (l.getD (2 * k) 0) (l.getD (2 * k + 1) 0) else if 2 * k < j then UInt8.ofNat (hexv (l.getD (2 * k) 0)).toNat else 0
def partL (l : List UInt8) (j : Nat) : List UInt8 := (List.range (l.length / 2)).map (partHex l j)
theorem partL_length (l : List UInt8) (j : Nat) : (partL l j).length = l.length / 2 := by simp [partL]
theorem partL_zero (l : List UInt8) : partL l 0 = List.replicate (l.length / 2) 0 := by
  apply List.ext_getElem
  · simp [partL]
  · intro i h1 h2; simp [partL, partHex]
theorem partL_get (l : List UInt8) (j k : Nat) (h : k < l.length / 2) : (partL l j)[k]? = some (partHex l j k) := by simp [partL, h]
theorem partL_step (l : List UInt8) (j : Nat) (hj : j < l.length) (he : l.length % 2 = 0) : (partL l j).set (j / 2) (partHex l (j + 1) (j / 2)) = partL l (j + 1) := by
  apply List.ext_getElem?
  intro k
  rw [List.getElem?_set]
  by_cases hk : j / 2 = k
  · subst hk
    rw [if_pos rfl, if_pos (by rw [partL_length]; omega), partL_get _ _ _ (by omega)]
  · rw [if_neg hk]
    by_cases hlt : k < l.length / 2
    · rw [partL_get _ _ _ hlt, partL_get _ _ _ hlt]
      congr 1
      unfold partHex
      by_cases h1 : 2 * k + 1 < j
      · rw [if_pos h1, if_pos (by omega)]
      · rw [if_neg h1, if_neg (by omega), if_neg (by omega), if_neg (by omega)]
    · rw [List.getElem?_eq_none (by rw [partL_length]; omega), List.getElem?_eq_none (by rw [partL_length]; omega)]
theorem partL_end (l : List UInt8) (j : Nat) (hj : l.length ≤ j) (he : l.length % 2 = 0) : partL l j = pairs l := by
  apply List.ext_getElem?
  intro k
  by_cases hlt : k < l.length / 2
  · rw [partL_get _ _ _ hlt]
    have h1 : l[2 * k]? = some (l[2 * k]'(by omega)) := List.getElem?_eq_getElem (by omega)
    have h2 : l[2 * k + 1]? = some (l[2 * k + 1]'(by omega)) := List.getElem?_eq_getElem (by omega)
    rw [pairs_get l k _ _ h1 h2]
    unfold partHex
    rw [if_pos (by omega)]
    simp [List.getD, h1, h2]
  · rw [List.getElem?_eq_none (by rw [partL_length]; omega), List.getElem?_eq_none (by rw [pairs_length]; omega)]
/-- what a letter puts in -/
theorem part_or (l : List UInt8) (j : Nat) (u : UInt8) (hu : l[j]? = some u) (h0 : 0 ≤ hexv u) (hg : ∀ (i : Nat) (c : UInt8), i < j → l[i]? = some c → 0 ≤ hexv c) :
    IntKind.u8.wrap ((BitVec.ofInt IntKind.u8.bits (IntKind.u8.wrap (((partHex l j (j / 2)).toNat : Int) * 2 ^ (min (4 : Int).toNat IntKind.u8.bits))) ||| BitVec.ofInt IntKind.u8.bits (IntKind.u8.wrap (hexv u))).toNat : Int) = ((partHex l (j + 1) (j / 2)).toNat : Int) := by
  have hu16 := hexv_lt u
  have hb : hexv u = ((hexv u).toNat : Int) := by omega
  have hlt := (List.getElem?_eq_some_iff.1 hu).1
  by_cases hodd : j % 2 = 0
  · have e : 2 * (j / 2) = j := by omega
    have h1 : partHex l j (j / 2) = 0 := by unfold partHex; rw [if_neg (by omega), if_neg (by omega)]
    have h2 : partHex l (j + 1) (j / 2) = UInt8.ofNat (hexv u).toNat := by
      unfold partHex; rw [if_neg (by omega), if_pos (by omega), e]; simp [List.getD, hu]
    rw [h1, h2, hb]
    have := orNib 0 (hexv u).toNat (by omega) (by omega)
    simp only [Nat.mul_zero, Nat.zero_add] at this
    rw [show ((0 : UInt8).toNat : Int) = ((0 : Nat) : Int) from rfl, this]
    simp; omega
  · have e : 2 * (j / 2) + 1 = j := by omega
    obtain ⟨v, hv⟩ : ∃ v, l[2 * (j / 2)]? = some v := ⟨_, List.getElem?_eq_getElem (by omega)⟩
    have hv0 := hg _ v (by omega) hv
    have hv16 := hexv_lt v
    have h1 : partHex l j (j / 2) = UInt8.ofNat (hexv v).toNat := by
      unfold partHex; rw [if_neg (by omega), if_pos (by omega)]; simp [List.getD, hv]
    have h2 : partHex l (j + 1) (j / 2) = hex2 v u := by
      unfold partHex; rw [if_pos (by omega), e]; simp [List.getD, hv, hu]
    rw [h1, h2, hb]
    have h3 : ((UInt8.ofNat (hexv v).toNat).toNat : Int) = ((hexv v).toNat : Int) := by simp; omega
    rw [h3, orNib _ _ (by omega) (by omega)]
    unfold hex2
    simp only [UInt8.toNat_ofNat', Int.toNat_natCast]
    congr 1
    rw [Nat.mod_eq_of_lt (by omega)]
theorem hex_facts (u : UInt8) (c wd : Nat) (h : (u.toNat < 128 ∧ c = u.toNat ∧ wd = 1) ∨ (128 ≤ u.toNat ∧ 128 ≤ c)) :
    (u.toNat < 128 ∧ c = u.toNat ∧ wd = 1 ∧ indexByte hexdig (UInt8.ofNat c) = hexv u ∧ (0 ≤ hexv u → u.toNat ≤ 102)) ∨ (128 ≤ c ∧ hexv u = -1) := by
  rcases h with ⟨h1, h2, h3⟩ | ⟨h1, h2⟩
  · left
    subst h2
    refine ⟨h1, rfl, h3, by rw [index_hex]; simp, fun h => ?_⟩
    unfold hexv at h
    split at h
    · omega
    · split at h
      · omega
      · omega
  · right
    refine ⟨h2, ?_⟩
    unfold hexv
    rw [if_neg (by omega), if_neg (by omega)]
end Go.Scr
set_option maxHeartbeats 1000000
namespace Go.Proofs.YtinbfghmnfldjaaDoor
open Go Go.X Go.Shelf Go.Scr
theorem p_unhex (l : List UInt8) (hl : l.length ≤ 16777216) (w : World) : Calls Go.Proofs.Tryd.prog 22 #[.string (S l)] w (Post w [] (RW (BytesR l))) := by
  refine spec_of Go.Proofs.Tryd.func22 rfl Go.Proofs.Tryd.ntmps22 rfl (Holds.nil w) ?_
  change C _ _ _ _ _ _ _ ⟨[(0, _)], []⟩ _
  refine C.regS ?_
  refine L.yl (Y.as rfl) ?_
  refine L.yl (Y.as rfl) ?_
  refine L.nil ?_
  refine C.seq ?_
  refine C.regS ?_
  refine L.yl (Y.mv rfl) ?_
  refine L.yl (Y.eqs rfl rfl) ?_
  refine L.nil ?_
  refine C.condP rfl (fun hc1 => ?_) (fun hc1 => ?_)
  ·
    refine C.regS ?_
    refine L.yl (Y.as rfl) ?_
    refine L.yl (Y.as rfl) ?_
    refine L.nil ?_
    refine C.nil0 5 1 ?_
    refine C.ret ?_
    refine Then.r ?_
    refine FnPost.r2 Go.Proofs.Tryd.results22 rfl rfl ?_
    subst hc1; exact ⟨[own 5 1 none 0 0 []], inferInstance, BytesR.yes (bs := []) unhexL_dash⟩
  ·
    refine C.skip ?_
    refine Then.n ?_
    refine C.seq ?_
    refine C.test (l.length = 0 ∨ l.length % 2 ≠ 0) ?_ (fun hc2 => ?_) (fun hc2 => ?_)
    ·
      refine L.yl (Y.mv rfl) ?_
      refine L.yl (Y.lenS (tys := #[]) Go.Proofs.Tryd.underlying9 rfl) ?_
      refine L.yl (Y.eqi rfl rfl) ?_
      refine L.yl (Y.mv rfl) ?_
      refine L.gsplit (i := 13) rfl (fun hg13 => ?_) (fun hg13 => ?_)
      ·
        refine L.gOff (t := 13) rfl rfl rfl ?_
        refine L.gOff (t := 13) rfl rfl rfl ?_
        refine L.gOff (t := 13) rfl rfl rfl ?_
        refine L.gOff (t := 13) rfl rfl rfl ?_
        refine L.yl (Y.pickT rfl rfl) ?_
        refine L.nil ?_
        exact ⟨_, rfl, by first | exact ⟨fun _ => by omega, fun _ => rfl⟩ | (rw [decide_eq_true_iff]; omega) | exact ⟨fun h => by cases h, fun h => by omega⟩ | (simp [*] <;> omega), (by repeat (first | exact Inc.refl _ | refine Inc.cons rfl ?_)), rfl, rfl⟩
      ·
        refine L.gOn (t := 13) rfl rfl ?_
        refine L.yl (Y.mv rfl) ?_
        refine L.gOn (t := 13) rfl rfl ?_
        refine L.yl (Y.lenS (tys := #[]) Go.Proofs.Tryd.underlying9 rfl) ?_
        refine L.gOn (t := 13) rfl rfl ?_
        refine L.yl (Y.rem rfl rfl (by omega) (by omega)) ?_
        refine L.gOn (t := 13) rfl rfl ?_
        refine L.yl (Y.nei rfl rfl) ?_
        refine L.yl (Y.pickF rfl rfl) ?_
        refine L.nil ?_
        exact ⟨_, rfl, by first | exact ⟨fun _ => by omega, fun _ => rfl⟩ | (rw [decide_eq_true_iff]; omega) | exact ⟨fun h => by cases h, fun h => by omega⟩ | (simp [*] <;> omega), (by repeat (first | exact Inc.refl _ | refine Inc.cons rfl ?_)), rfl, rfl⟩
    ·
      refine C.regS ?_
      refine L.yl (Y.as rfl) ?_
      refine L.yl (Y.as rfl) ?_
      refine L.nil ?_
      refine C.nil0 5 1 ?_
      refine C.ret ?_
      refine Then.r ?_
      refine FnPost.r2 Go.Proofs.Tryd.results22 rfl rfl ?_
      exact ⟨[own 5 1 none 0 0 []], inferInstance, BytesR.no (unhexL_odd hc1 hc2)⟩
    ·
      refine C.skip ?_
      refine Then.n ?_
      refine C.regS ?_
      refine L.yl (Y.mv rfl) ?_
      refine L.yl (Y.lenS (tys := #[]) Go.Proofs.Tryd.underlying9 rfl) ?_
      refine L.yl (Y.quo rfl rfl (by omega) (by omega)) ?_
      rw [show ((l.length:Int)/2) = ((l.length/2 : Nat) : Int) from by omega]
      refine L.mks Go.Proofs.Tryd.underlying34 mk5 rfl rfl rfl (by omega) (by omega) ?_; intro b22
      refine L.yl (Y.as rfl) ?_
      refine L.nil ?_
      refine C.seq ?_
      refine C.regS ?_
      refine L.yl (Y.mv rfl) ?_
      refine L.rngS Go.Proofs.Tryd.underlying9 rfl ?_; intro b24
      refine L.nil ?_
      refine C.block ?_
      refine C.loop (σ := Nat) (fun j => [(0, .string (S l)), (4, .slice (some ⟨b22, 0, none⟩) (l.length / 2) (l.length / 2)), (24, .pointer (some ⟨b24, 0, none⟩))]) (fun j => [own 5 1 (some ⟨b22, 0, none⟩) (l.length / 2) (l.length / 2) (byteL (partL l j)), ob b24 (.stringIter (S l) j)]) (fun j => j ≤ l.length ∧ ∀ (i : Nat) (c : UInt8), i < j → l[i]? = some c → 0 ≤ hexv c) (fun j => l.length - j) 0 ?_ ?_ ?_ ?_
      · repeat (first | exact trivial | refine ⟨rfl, ?_⟩)
      · rw [partL_zero, show byteL (List.replicate (l.length / 2) 0) = List.replicate (l.length / 2) (Value.int .u8 0) from by simp [byteL]]; exact inferInstance
      · exact ⟨by omega, fun i c h => absurd h (by omega)⟩
      · rintro j ⟨hI1, hI2⟩
        have hcs : l.length % 2 = 0 := by omega
        try dsimp only
        refine C.regS ?_
        refine L.nxtS rfl (fun hlt u25 c wd hu25 hcc => ?_) (fun hge => ?_)
        ·
          have hf := hex_facts u25 c wd hcc
          refine L.yl (Y.extL rfl rfl) ?_
          refine L.nil ?_
          refine C.seq ?_
          refine C.condTt rfl ?_
          refine C.skip ?_
          refine Then.n ?_
          refine C.block ?_
          refine C.regS ?_
          refine L.yl (Y.extL rfl rfl) ?_
          refine L.yl (Y.extL rfl rfl) ?_
          refine L.yl (Y.as rfl) ?_
          refine L.yl (Y.as rfl) ?_
          refine L.nil ?_
          refine C.regS ?_
          refine L.yl (Y.mv rfl) ?_
          refine L.yl (Y.cvW Go.Proofs.Tryd.underlying5 ⟨_, Go.Proofs.Tryd.underlying21⟩ rfl) ?_
          rw [show IntKind.u8.wrap (c : Int) = ((UInt8.ofNat c).toNat : Int) from by show (c : Int) % 256 = _; simp]
          refine L.callP go38 rfl (fun w hw => lib_IndexByte hexdig (UInt8.ofNat c) w) ?_
          refine L.yl (Y.as rfl) ?_
          refine L.nil ?_
          refine C.seq ?_
          refine C.test (hexv u25 < 0) ?_ (fun hc4 => ?_) (fun hc4 => ?_)
          ·
            refine L.yl (Y.mv rfl) ?_
            refine L.yl (Y.lss rfl rfl) ?_
            refine L.yl (Y.mv rfl) ?_
            refine L.gsplit (i := 34) rfl (fun hg34 => ?_) (fun hg34 => ?_)
            ·
              refine L.gOff (t := 34) rfl rfl rfl ?_
              refine L.gOff (t := 34) rfl rfl rfl ?_
              refine L.yl (Y.pickT rfl rfl) ?_
              refine L.nil ?_
              exact ⟨_, rfl, by first | exact ⟨fun _ => by omega, fun _ => rfl⟩ | (rw [decide_eq_true_iff]; omega) | exact ⟨fun h => by cases h, fun h => by omega⟩ | (simp [*] <;> omega), (by repeat (first | exact Inc.refl _ | refine Inc.cons rfl ?_)), rfl, rfl⟩
            ·
              refine L.gOn (t := 34) rfl rfl ?_
              refine L.yl (Y.mv rfl) ?_
              refine L.gOn (t := 34) rfl rfl ?_
              refine L.yl (Y.gtr rfl rfl) ?_
              refine L.yl (Y.pickF rfl rfl) ?_
              refine L.nil ?_
              exact ⟨_, rfl, by first | exact ⟨fun _ => by omega, fun _ => rfl⟩ | (rw [decide_eq_true_iff]; omega) | exact ⟨fun h => by cases h, fun h => by omega⟩ | (simp [*] <;> omega), (by repeat (first | exact Inc.refl _ | refine Inc.cons rfl ?_)), rfl, rfl⟩
          ·
            have hN := unhexL_bad hc1 hu25 hc4
            refine C.regS ?_
            refine L.yl (Y.as rfl) ?_
            refine L.yl (Y.as rfl) ?_
            refine L.nil ?_
            refine C.nil0 5 1 ?_
            refine C.ret ?_
            refine Then.r ?_
            refine InBlo.r ?_
            refine Then.r ?_
            refine InBlo.r ?_
            refine Then.r ?_
            refine FnPost.r2 Go.Proofs.Tryd.results22 rfl rfl ?_
            exact ⟨[own 5 1 none 0 0 []], inferInstance, BytesR.no hN⟩
          ·
            have hf1 : u25.toNat < 128 ∧ c = u25.toNat ∧ wd = 1 ∧ Lib.indexByte hexdig (UInt8.ofNat c) = hexv u25 := by omega
            obtain ⟨hf2, hf3, hf4, hf5⟩ := hf1
            rw [hf5]
            subst hf4
            refine C.skip ?_
            refine Then.n ?_
            refine C.reg ?_
            refine L.yl (Y.mv rfl) ?_
            refine L.yl (Y.mv rfl) ?_
            refine L.yl (Y.quo rfl rfl (by omega) (by omega)) ?_
            refine L.yl (Y.mv rfl) ?_
            refine L.yl (Y.mv rfl) ?_
            refine L.yl (Y.quo rfl rfl (by omega) (by omega)) ?_
            refine L.yl (Y.ix slt34 rfl rfl (by rw [show (byteL (partL l j)).length = l.length / 2 from by simp [byteL, partL_length]]; omega) (by omega) (by omega)) ?_
            refine L.yl (Y.lds (v := .int .u8 (partHex l j (j / 2)).toNat) sc5 rfl (get_byteL (partL_get l j (j / 2) (by omega)) (by omega))) ?_
            refine L.yl (Y.shl rfl rfl (by omega)) ?_
            refine L.yl (Y.mv rfl) ?_
            refine L.yl (Y.cvW Go.Proofs.Tryd.underlying5 ⟨_, Go.Proofs.Tryd.underlying3⟩ rfl) ?_
            refine L.yl (Y.or rfl rfl) ?_
            rw [part_or l j u25 hu25 (by omega) hI2]
            refine L.yl (Y.ix slt34 rfl rfl (by rw [show (byteL (partL l j)).length = l.length / 2 from by simp [byteL, partL_length]]; omega) (by omega) (by omega)) ?_
            refine L.sts sc5 rfl rfl rfl (by simp [byteL, partL_length]; omega) ?_
            rw [show (byteL (partL l j)).set (((j:Int) / 2).toNat * 1) (Value.int .u8 (partHex l (j + 1) (j / 2)).toNat) = byteL (partL l (j + 1)) from by rw [show ((j:Int) / 2).toNat * 1 = j / 2 by omega, ← partL_step l j (by omega) hcs]; simp [byteL, List.map_set]]
            refine L.nil ?_
            refine InBlo.n ?_
            exact ⟨j + 1, (by repeat (first | exact trivial | refine ⟨rfl, ?_⟩ | refine ⟨congrArg some (by simp), ?_⟩ | refine ⟨congrArg some (by simp; omega), ?_⟩)), rfl, (by first | exact inferInstance | (dsimp only; exact inferInstance)), ⟨by omega, fun i c hi hic => by
              rcases Nat.lt_or_ge i j with h | h
              · exact hI2 i c h hic
              · have : i = j := by omega
                subst this; have := hu25.symm.trans hic; injection this with this; subst this; omega⟩, by omega⟩
        ·
          refine L.yl (Y.extL rfl rfl) ?_
          refine L.nil ?_
          refine C.seq ?_
          refine C.condFf rfl ?_
          refine C.exit ?_
          refine Then.x ?_
          refine Then.x ?_
          refine InBlo.x ?_
          refine Then.n ?_
          refine C.regS ?_
          refine L.yl (Y.mv rfl) ?_
          refine L.yl (Y.as rfl) ?_
          refine L.yl (Y.as rfl) ?_
          refine L.nil ?_
          rw [partL_end l j (by omega) hcs, show l.length / 2 = (pairs l).length from (pairs_length l).symm]
          refine C.ret ?_
          refine FnPost.r2 Go.Proofs.Tryd.results22 rfl rfl ?_
          exact ⟨[own 5 1 (some ⟨b22, 0, none⟩) _ _ (byteL (pairs l))], inferInstance, BytesR.yes (unhexL_good hc1 (by omega) (by omega) (fun i c hic => hI2 i c (by have := (List.getElem?_eq_some_iff.1 hic).1; omega) hic))⟩
end Go.Proofs.YtinbfghmnfldjaaDoor
set_option maxHeartbeats 1000000
namespace Go.Proofs.YtinbfghmnfldjaaDoor
open Go Go.X Go.Shelf Go.Scr
theorem p_ParseHead (l : List UInt8) (hl : l.length ≤ 4294967280) (w : World) (hG : G w) : Pur Go.Proofs.Tryd.prog 11 [.string (S l)] (HeadR l) w := by
  refine pur_of Go.Proofs.Tryd.func11 rfl Go.Proofs.Tryd.ntmps11 rfl ?_
  change C _ _ _ _ _ _ _ ⟨[(0, _)], []⟩ _
  refine C.regS ?_
  refine L.al (zs := [.int .u32 0, .int .i64 0, .int .i64 0, .int .i64 0, .int .i64 0, .int .i64 0, .int .i64 0, .int .i64 0]) zr25 rfl ?_; intro b2
  refine L.yl (Y.as rfl) ?_
  refine L.nil ?_
  refine C.regS ?_
  refine L.yl (Y.mv rfl) ?_
  refine L.callW (Γf := []) go27 rfl (.refl _) (fun w hw hf => lib_Split l 32 hl w (hG.sep hw)) ?_
  rintro _ _ ⟨a10, c10, rfl, rfl⟩
  refine L.apc ?_
  refine L.yl (Y.as rfl) ?_
  refine L.nil ?_
  refine C.seq ?_
  refine C.test ((splitc 32 l).length ≠ 9 ∨ (splitc 32 l)[0]? ≠ some sender) ?_ (fun hc1 => ?_) (fun hc1 => ?_)
  ·
    refine L.yl (Y.mv rfl) ?_
    refine L.yl (Y.len ⟨_, Go.Proofs.Tryd.underlying55⟩ rfl) ?_
    refine L.yl (Y.nei rfl rfl) ?_
    refine L.yl (Y.mv rfl) ?_
    refine L.gsplit (i := 14) rfl (fun hg14 => ?_) (fun hg14 => ?_)
    ·
      refine L.gOff (t := 14) rfl rfl rfl ?_
      refine L.gOff (t := 14) rfl rfl rfl ?_
      refine L.gOff (t := 14) rfl rfl rfl ?_
      refine L.gOff (t := 14) rfl rfl rfl ?_
      refine L.yl (Y.pickT rfl rfl) ?_
      refine L.nil ?_
      exact ⟨_, rfl, by first | (rw [hu17, h9]; simp [sender]) | exact ⟨fun _ => by omega, fun _ => rfl⟩ | (rw [decide_eq_true_iff]; omega) | exact ⟨fun h => by cases h, fun h => by omega⟩ | (simp [*] <;> omega), (by repeat (first | exact Inc.refl _ | refine Inc.cons rfl ?_)), rfl, rfl⟩
    ·
      have h9 : (splitc 32 l).length = 9 := by omega
      obtain ⟨u17, hu17⟩ : ∃ u, (splitc 32 l)[0]? = some u := ⟨_, List.getElem?_eq_getElem (by omega)⟩
      refine L.gOn (t := 14) rfl rfl ?_
      refine L.yl (Y.mv rfl) ?_
      refine L.gOn (t := 14) rfl rfl ?_
      refine L.yl (Y.ix slt55 rfl rfl (by simp [strL]) (by omega) (by omega)) ?_
      refine L.gOn (t := 14) rfl rfl ?_
      refine L.yl (Y.lds (v := .string (S u17)) sc9 rfl (get_strL hu17 (by simp))) ?_
      refine L.gOn (t := 14) rfl rfl ?_
      refine L.yl (Y.nes rfl rfl) ?_
      refine L.yl (Y.pickF rfl rfl) ?_
      refine L.nil ?_
      exact ⟨_, rfl, by first | (rw [hu17, h9]; simp [sender]) | exact ⟨fun _ => by omega, fun _ => rfl⟩ | (rw [decide_eq_true_iff]; omega) | exact ⟨fun h => by cases h, fun h => by omega⟩ | (simp [*] <;> omega), (by repeat (first | exact Inc.refl _ | refine Inc.cons rfl ?_)), rfl, rfl⟩
  ·
    have hN := headL_bad hc1
    refine C.regS ?_
    refine L.yl (Y.bdL (cs := [_, _, _, _, _, _, _, _]) zr25 bd25 rfl rfl rfl) ?_
    refine L.sta (vs := [_, _, _, _, _, _, _, _]) ag25 rfl rfl rfl rfl rfl ?_
    refine L.yl (Y.as rfl) ?_
    refine L.nil ?_
    refine C.ret ?_
    refine Then.r ?_
    refine FnPost.rg (xs := [.cell 2 25, .tmp 3]) (congrArg Array.toList Go.Proofs.Tryd.results11) (ra_ag (us := [_, _, _, _, _, _, _, _]) rfl ag25 rfl (ra_tmp rfl ra_nil)) ?_
    unfold HeadR; rw [hN]; rfl
  ·
    have h9 : (splitc 32 l).length = 9 := by omega
    refine C.skip ?_
    refine Then.n ?_
    refine C.regS ?_
    refine L.al (zs := [.int .i64 0, .int .i64 0, .int .i64 0, .int .i64 0, .int .i64 0, .int .i64 0, .int .i64 0, .int .i64 0]) zr66 rfl ?_; intro b5
    refine L.nil ?_
    refine C.seq ?_
    refine C.regS ?_
    refine L.yl (Y.mv rfl) ?_
    refine L.nil ?_
    refine C.block ?_
    refine C.loop (σ := List Int × Nat) (fun (ns, k) => [(2, .pointer (some ⟨b2, 0, none⟩)), (4, .slice a10 (splitc 32 l).length c10), (5, .pointer (some ⟨b5, 0, none⟩)), (21, .int .i64 k)]) (fun (ns, k) => [blk b5 (intL (ns ++ List.replicate (8 - ns.length) 0)) 66, own 9 1 a10 (splitc 32 l).length c10 (strL (splitc 32 l)), blk b2 [.int .u32 0, .int .i64 0, .int .i64 0, .int .i64 0, .int .i64 0, .int .i64 0, .int .i64 0, .int .i64 0] 25]) (fun (ns, k) => k ≤ 8 ∧ (((splitc 32 l).drop 1).take k).mapM num = some ns ∧ ns.length = k) (fun (ns, k) => 8 - k) ([], 0) ?_ ?_ ?_ ?_
    · repeat (first | exact trivial | refine ⟨rfl, ?_⟩)
    · first | exact .of (.refl _) | exact inferInstance | (dsimp only; exact inferInstance)
    · exact ⟨by omega, rfl, rfl⟩
    · rintro ⟨ns, k⟩ ⟨hI1, hI3, hI4⟩
      subst hI4
      obtain ⟨u29, hu29⟩ : ∃ u, (splitc 32 l)[ns.length + 1]? = some u ∨ 8 ≤ ns.length := by
        rcases Nat.lt_or_ge ns.length 8 with h | h
        · exact ⟨_, .inl (List.getElem?_eq_getElem (by omega))⟩
        · exact ⟨[], .inr h⟩
      try dsimp only
      refine C.regS ?_
      refine L.yl (Y.lss rfl rfl) ?_
      refine L.nil ?_
      refine C.seq ?_
      refine C.condP rfl (fun hc2 => ?_) (fun hc2 => ?_)
      ·
        have hu29 : (splitc 32 l)[ns.length + 1]? = some u29 := by rcases hu29 with h | h; exact h; omega
        refine C.skip ?_
        refine Then.n ?_
        refine C.seq ?_
        refine C.block ?_
        refine C.regS ?_
        refine L.yl (Y.mv rfl) ?_
        refine L.yl (Y.as rfl) ?_
        refine L.nil ?_
        refine C.regS ?_
        refine L.yl (Y.mv rfl) ?_
        refine L.yl (Y.mv rfl) ?_
        first | refine L.yl (Y.add rfl rfl (by omega)) ?_ | refine L.yl (Y.addW rfl rfl) ?_
        refine L.yl (Y.ix slt55 rfl rfl (by simp [strL]) (by omega) (by omega)) ?_
        refine L.yl (Y.lds (v := .string (S u29)) sc9 rfl (get_strL hu29 (by omega))) ?_
        refine L.callW (Γf := []) go23 rfl (.refl _) (fun w hw hf => p_number u29 (by have := splitc_small 32 l _ u29 hu29; omega) w (hG.sep hw)) ?_
        rintro _ _ ⟨rfl, v30, rfl, hn30⟩
        refine L.apc ?_
        refine L.yl (Y.mv rfl) ?_
        refine L.yl (Y.extL rfl rfl) ?_
        refine L.yl (Y.extL rfl rfl) ?_
        refine L.yl (Y.as rfl) ?_
        refine L.yl (Y.as rfl) ?_
        refine L.nil ?_
        refine C.seq ?_
        refine C.regS ?_
        refine L.yl (Y.mv rfl) ?_
        first | refine L.yl (Y.notP rfl) ?_ | refine L.yl (Y.not rfl) ?_
        refine L.nil ?_
        refine C.condP rfl (fun hc3 => ?_) (fun hc3 => ?_)
        ·
          have hN := headL_num _ u29 (by omega) hu29 (hn30 hc3)
          refine C.regS ?_
          refine L.yl (Y.bdL (cs := [_, _, _, _, _, _, _, _]) zr25 bd25 rfl rfl rfl) ?_
          refine L.sta (vs := [_, _, _, _, _, _, _, _]) ag25 rfl rfl rfl rfl rfl ?_
          refine L.yl (Y.as rfl) ?_
          refine L.nil ?_
          refine C.ret ?_
          refine Then.r ?_
          refine InBlo.r ?_
          refine Then.r ?_
          refine Then.r ?_
          refine InBlo.r ?_
          refine Then.r ?_
          refine FnPost.rg (xs := [.cell 2 25, .tmp 3]) (congrArg Array.toList Go.Proofs.Tryd.results11) (ra_ag (us := [_, _, _, _, _, _, _, _]) rfl ag25 rfl (ra_tmp rfl ra_nil)) ?_
          unfold HeadR; rw [hN]; rfl
        ·
          refine C.skip ?_
          refine Then.n ?_
          refine C.reg ?_
          refine L.yl (Y.mv rfl) ?_
          refine L.yl (Y.mv rfl) ?_
          refine L.yl (Y.ixa Go.Proofs.Tryd.underlying66 sc3 rfl rfl (by omega) (by omega)) ?_
          refine L.stg (c' := []) sc3 rfl rfl rfl (by simp [intL]; omega) ?_
          rw [show (intL (ns ++ List.replicate (8 - ns.length) 0)).set (0 + (ns.length : Int).toNat) (Value.int .i64 v30) = intL (ns ++ [v30] ++ List.replicate (8 - (ns ++ [v30]).length) 0) from by rw [← set_rep ns (7 - ns.length) v30 (by omega)]; simp only [intL, List.map_set]; congr 1; simp]
          refine L.nil ?_
          refine InBlo.n ?_
          refine Then.n ?_
          refine C.reg ?_
          first | refine L.yl (Y.add rfl rfl (by omega)) ?_ | refine L.yl (Y.addW rfl rfl) ?_
          refine L.yl (Y.mv rfl) ?_
          refine L.nil ?_
          exact ⟨(ns ++ [v30], ns.length + 1), (by repeat (first | exact trivial | refine ⟨rfl, ?_⟩ | refine ⟨congrArg some (by simp), ?_⟩ | refine ⟨congrArg some (by simp; omega), ?_⟩)), rfl, (by first | exact inferInstance | (dsimp only; exact inferInstance)), ⟨(by first | omega | (dsimp only; omega)), mapM_step num _ ns.length u29 v30 ns hI3 (by rw [List.getElem?_drop, Nat.add_comm]; exact hu29) (Decidable.not_not.1 hc3), by simp⟩, (by first | omega | (dsimp only; omega))⟩
      ·
        refine C.exit ?_
        refine Then.x ?_
        refine Then.x ?_
        refine InBlo.x ?_
        refine Then.n ?_
        refine C.seq ?_
        have hq8 : ns.length = 8 := by omega
        have hE := headL_end h9 (Decidable.not_not.1 (fun h => hc1 (.inr h))) (ns := ns) (by rw [← hI3]; congr 2; omega)
        rw [show ns ++ List.replicate (8 - ns.length) 0 = ns from by rw [hq8]; simp]
        obtain ⟨u0, hu0'⟩ : ∃ u, ns[0]? = some u := ⟨_, List.getElem?_eq_getElem (by omega)⟩
        obtain ⟨u1, hu1'⟩ : ∃ u, ns[1]? = some u := ⟨_, List.getElem?_eq_getElem (by omega)⟩
        have hu1 := hu1'
        obtain ⟨u2, hu2'⟩ : ∃ u, ns[2]? = some u := ⟨_, List.getElem?_eq_getElem (by omega)⟩
        have hu2 := hu2'
        obtain ⟨u3, hu3'⟩ : ∃ u, ns[3]? = some u := ⟨_, List.getElem?_eq_getElem (by omega)⟩
        have hu3 := hu3'
        obtain ⟨u4, hu4'⟩ : ∃ u, ns[4]? = some u := ⟨_, List.getElem?_eq_getElem (by omega)⟩
        have hu4 := hu4'
        obtain ⟨u5, hu5'⟩ : ∃ u, ns[5]? = some u := ⟨_, List.getElem?_eq_getElem (by omega)⟩
        have hu5 := hu5'
        obtain ⟨u6, hu6'⟩ : ∃ u, ns[6]? = some u := ⟨_, List.getElem?_eq_getElem (by omega)⟩
        have hu6 := hu6'
        obtain ⟨u7, hu7'⟩ : ∃ u, ns[7]? = some u := ⟨_, List.getElem?_eq_getElem (by omega)⟩
        have hu7 := hu7'
        have hu0 : ns.getD 0 0 = u0 := by simp [List.getD, hu0']
        refine C.test (u0 < 0 ∨ 4294967295 < u0) ?_ (fun hc4 => ?_) (fun hc4 => ?_)
        ·
          refine L.yl (Y.ixa Go.Proofs.Tryd.underlying66 sc3 rfl rfl (by omega) (by omega)) ?_
          refine L.yl (Y.ld (v := .int .i64 u0) sc3 rfl (get_intL hu0' (by simp))) ?_
          refine L.yl (Y.lss rfl rfl) ?_
          refine L.yl (Y.mv rfl) ?_
          refine L.gsplit (i := 43) rfl (fun hg43 => ?_) (fun hg43 => ?_)
          ·
            refine L.gOff (t := 43) rfl rfl rfl ?_
            refine L.gOff (t := 43) rfl rfl rfl ?_
            refine L.gOff (t := 43) rfl rfl rfl ?_
            refine L.yl (Y.pickT rfl rfl) ?_
            refine L.nil ?_
            exact ⟨_, rfl, by first | exact ⟨fun _ => by omega, fun _ => rfl⟩ | (rw [decide_eq_true_iff]; omega) | exact ⟨fun h => by cases h, fun h => by omega⟩ | (simp [*] <;> omega), (by repeat (first | exact Inc.refl _ | refine Inc.cons rfl ?_)), rfl, rfl⟩
          ·
            refine L.gOn (t := 43) rfl rfl ?_
            refine L.yl (Y.ixa Go.Proofs.Tryd.underlying66 sc3 rfl rfl (by omega) (by omega)) ?_
            refine L.gOn (t := 43) rfl rfl ?_
            refine L.yl (Y.ld (v := .int .i64 u0) sc3 rfl (get_intL hu0' (by simp))) ?_
            refine L.gOn (t := 43) rfl rfl ?_
            refine L.yl (Y.gtr rfl rfl) ?_
            refine L.yl (Y.pickF rfl rfl) ?_
            refine L.nil ?_
            exact ⟨_, rfl, by first | exact ⟨fun _ => by omega, fun _ => rfl⟩ | (rw [decide_eq_true_iff]; omega) | exact ⟨fun h => by cases h, fun h => by omega⟩ | (simp [*] <;> omega), (by repeat (first | exact Inc.refl _ | refine Inc.cons rfl ?_)), rfl, rfl⟩
        ·
          rw [hu0] at hE; rw [if_pos hc4] at hE
          refine C.regS ?_
          refine L.yl (Y.bdL (cs := [_, _, _, _, _, _, _, _]) zr25 bd25 rfl rfl rfl) ?_
          refine L.sta (vs := [_, _, _, _, _, _, _, _]) ag25 rfl rfl rfl rfl rfl ?_
          refine L.yl (Y.as rfl) ?_
          refine L.nil ?_
          refine C.ret ?_
          refine Then.r ?_
          refine FnPost.rg (xs := [.cell 2 25, .tmp 3]) (congrArg Array.toList Go.Proofs.Tryd.results11) (ra_ag (us := [_, _, _, _, _, _, _, _]) rfl ag25 rfl (ra_tmp rfl ra_nil)) ?_
          unfold HeadR; rw [hE]; rfl
        ·
          rw [hu0] at hE; rw [if_neg hc4] at hE
          refine C.skip ?_
          refine Then.n ?_
          refine C.regS ?_
          refine L.yl (Y.ixa Go.Proofs.Tryd.underlying66 sc3 rfl rfl (by omega) (by omega)) ?_
          refine L.yl (Y.ld (v := .int .i64 u0) sc3 rfl (get_intL hu0' (by simp))) ?_
          refine L.yl (Y.cvW Go.Proofs.Tryd.underlying23 ⟨_, Go.Proofs.Tryd.underlying3⟩ rfl) ?_
          refine L.yl (Y.ixa Go.Proofs.Tryd.underlying66 sc3 rfl rfl (by omega) (by omega)) ?_
          refine L.yl (Y.ld (v := .int .i64 u1) sc3 rfl (get_intL hu1' (by simp))) ?_
          refine L.yl (Y.ixa Go.Proofs.Tryd.underlying66 sc3 rfl rfl (by omega) (by omega)) ?_
          refine L.yl (Y.ld (v := .int .i64 u2) sc3 rfl (get_intL hu2' (by simp))) ?_
          refine L.yl (Y.ixa Go.Proofs.Tryd.underlying66 sc3 rfl rfl (by omega) (by omega)) ?_
          refine L.yl (Y.ld (v := .int .i64 u3) sc3 rfl (get_intL hu3' (by simp))) ?_
          refine L.yl (Y.ixa Go.Proofs.Tryd.underlying66 sc3 rfl rfl (by omega) (by omega)) ?_
          refine L.yl (Y.ld (v := .int .i64 u4) sc3 rfl (get_intL hu4' (by simp))) ?_
          refine L.yl (Y.ixa Go.Proofs.Tryd.underlying66 sc3 rfl rfl (by omega) (by omega)) ?_
          refine L.yl (Y.ld (v := .int .i64 u5) sc3 rfl (get_intL hu5' (by simp))) ?_
          refine L.yl (Y.ixa Go.Proofs.Tryd.underlying66 sc3 rfl rfl (by omega) (by omega)) ?_
          refine L.yl (Y.ld (v := .int .i64 u6) sc3 rfl (get_intL hu6' (by simp))) ?_
          refine L.yl (Y.ixa Go.Proofs.Tryd.underlying66 sc3 rfl rfl (by omega) (by omega)) ?_
          refine L.yl (Y.ld (v := .int .i64 u7) sc3 rfl (get_intL hu7' (by simp))) ?_
          refine L.yl (Y.bdL (cs := [_, _, _, _, _, _, _, _]) zr25 bd25 rfl rfl rfl) ?_
          refine L.sta (vs := [_, _, _, _, _, _, _, _]) ag25 rfl rfl rfl rfl rfl ?_
          refine L.yl (Y.as rfl) ?_
          refine L.nil ?_
          refine C.ret ?_
          refine FnPost.rg (xs := [.cell 2 25, .tmp 3]) (congrArg Array.toList Go.Proofs.Tryd.results11) (ra_ag (us := [_, _, _, _, _, _, _, _]) rfl ag25 rfl (ra_tmp rfl ra_nil)) ?_
          unfold HeadR; rw [hE]; simp only [Option.getD_some]; rw [headV_eq hu0' hu1 hu2 hu3 hu4 hu5 hu6 hu7, show IntKind.u32.wrap u0 = u0 from by show u0 % 4294967296 = u0; omega]; rfl
end Go.Proofs.YtinbfghmnfldjaaDoor
set_option maxHeartbeats 1000000
namespace Go.Proofs.YtinbfghmnfldjaaDoor
open Go Go.X Go.Shelf Go.Scr
theorem p_ParseLine (l : List UInt8) (hl : l.length ≤ 16777216) (w : World) (hG : G w) : Calls Go.Proofs.Tryd.prog 9 #[.string (S l)] w (Post w [] (RW (LineR (lineL l)))) := by
  refine spec_of Go.Proofs.Tryd.func9 rfl Go.Proofs.Tryd.ntmps9 rfl (Holds.nil w) ?_
  change C _ _ _ _ _ _ _ ⟨[(0, _)], []⟩ _
  refine C.regS ?_
  refine L.al (zs := [.int .i64 0, .int .i64 0, .slice none 0 0]) zr36 rfl ?_; intro b2
  refine L.yl (Y.as rfl) ?_
  refine L.nil ?_
  refine C.regS ?_
  refine L.yl (Y.mv rfl) ?_
  refine L.callP go21 rfl (fun w hw => lib_Cut l 32 (by omega) w (hG.sep hw)) ?_
  rw [cut_one]
  refine L.byc (0 ≤ Lib.indexByte l 32) (fun hi => ?_) (fun hi => ?_)
  ·
    rw [if_pos hi]
    have hL : lineL l = tailL (l.take (Lib.indexByte l 32).toNat) (l.drop ((Lib.indexByte l 32).toNat + 1)) := by rw [lineL_cut, if_pos hi]
    have hr0 : (l.drop ((Lib.indexByte l 32).toNat + 1)).length ≤ l.length := by rw [List.length_drop]; omega
    dsimp only
    generalize l.take (Lib.indexByte l 32).toNat = k0 at *
    generalize l.drop ((Lib.indexByte l 32).toNat + 1) = r0 at *
    refine L.yl (Y.mv rfl) ?_
    refine L.yl (Y.extL rfl rfl) ?_
    refine L.yl (Y.extL rfl rfl) ?_
    refine L.yl (Y.extL rfl rfl) ?_
    refine L.yl (Y.as rfl) ?_
    refine L.yl (Y.as rfl) ?_
    refine L.yl (Y.as rfl) ?_
    refine L.nil ?_
    refine C.seq ?_
    refine C.regS ?_
    refine L.yl (Y.mv rfl) ?_
    first | refine L.yl (Y.notP rfl) ?_ | refine L.yl (Y.not rfl) ?_
    refine L.nil ?_
    refine C.condFf rfl ?_
    refine C.skip ?_
    refine Then.n ?_
    refine C.seq ?_
    refine C.regS ?_
    refine L.yl (Y.ldag (a := ⟨0, 0, none⟩) (vs := strL words) ag59 rfl rfl (fun w hw j v hj => by
      have hj2 : j < words.length := by have := (List.getElem?_eq_some_iff.1 hj).1; simpa [strL] using this
      have h3 : words[j]? = some words[j] := List.getElem?_eq_getElem hj2
      have h4 : v = .string (S words[j]) := by have := get_strL (q' := j) h3 rfl; rw [this] at hj; exact (Option.some.inj hj).symm
      subst h4
      have := (hG.sep hw).words j _ h3
      rw [add_pl, Nat.zero_add]; exact this)) ?_
    refine L.yl (Y.mv rfl) ?_
    refine L.nil ?_
    refine C.block ?_
    refine C.loop (fun (i:Nat) => [(2, .pointer (some ⟨b2, 0, none⟩)), (4, .string (S k0)), (5, .string (S r0)), (22, .agg (strL words).toArray), (23, .int .i64 i)]) (fun i => [blk b2 [.int .i64 0, .int .i64 0, .slice none 0 0] 36]) (fun i => i ≤ 8 ∧ ∀ j, j < i → words[j]? ≠ some k0) (fun i => 8 - i) 0 ?_ ?_ ?_ ?_
    · repeat (first | exact trivial | refine ⟨rfl, ?_⟩)
    · first | exact .of (.refl _) | exact inferInstance | (dsimp only; exact inferInstance)
    · exact ⟨by omega, fun j hj => absurd hj (by omega)⟩
    · rintro i ⟨hI2, hI3⟩
      try dsimp only
      refine C.regS ?_
      refine L.yl (Y.lss rfl rfl) ?_
      refine L.nil ?_
      refine C.seq ?_
      refine C.condP rfl (fun hc2 => ?_) (fun hc2 => ?_)
      ·
        refine C.skip ?_
        refine Then.n ?_
        refine C.seq ?_
        refine C.block ?_
        refine C.regS ?_
        refine L.yl (Y.mv rfl) ?_
        refine L.aidxF (fun l => Value.string (S l)) words Go.Proofs.Tryd.underlying59 sc9 rfl rfl rfl (by omega) (by omega) (by simp [words]; omega) (fun u26 hu26 => ?_)
        have hu26 : words[i]? = some u26 := hu26
        refine L.yl (Y.as rfl) ?_
        refine L.yl (Y.as rfl) ?_
        refine L.nil ?_
        refine C.block ?_
        refine C.regS ?_
        refine L.yl (Y.mv rfl) ?_
        refine L.yl (Y.mv rfl) ?_
        refine L.yl (Y.nes rfl rfl) ?_
        refine L.yl (Y.as rfl) ?_
        refine L.nil ?_
        refine C.condP rfl (fun hc3 => ?_) (fun hc3 => ?_)
        ·
          refine C.skip ?_
          refine InBlo.n ?_
          refine InBlo.n ?_
          refine Then.n ?_
          refine C.reg ?_
          first | refine L.yl (Y.add rfl rfl (by omega)) ?_ | refine L.yl (Y.addW rfl rfl) ?_
          refine L.yl (Y.mv rfl) ?_
          refine L.nil ?_
          exact ⟨i + 1, (by repeat (first | exact trivial | refine ⟨rfl, ?_⟩ | refine ⟨congrArg some (by simp), ?_⟩ | refine ⟨congrArg some (by simp; omega), ?_⟩)), rfl, (by first | exact inferInstance | (dsimp only; exact inferInstance)), ⟨by omega, fun j hj => by
            rcases Nat.lt_or_ge j i with h | h
            · exact hI3 j h
            · rw [show j = i by omega, hu26]; exact fun e => hc3 (Option.some.inj e)⟩, by omega⟩
        ·
          have hek : u26 = k0 := Decidable.not_not.1 hc3
          subst hek
          refine C.regS ?_
          refine L.yl (Y.mv rfl) ?_
          refine L.yl (Y.eqi rfl rfl) ?_
          refine L.yl (Y.as rfl) ?_
          refine L.nil ?_
          refine C.condP rfl (fun hc4 => ?_) (fun hc4 => ?_)
          ·
            have hi0 : i = 0 := by omega
            subst hi0
            have hw0 : u26 = [119, 114, 105, 116, 101] := (Option.some.inj hu26).symm
            rw [tailL_zero hw0] at hL
            refine C.regS ?_
            refine L.yl (Y.mv rfl) ?_
            refine L.callW (Γf := []) go22 rfl (.refl _) (fun w hw hf => p_unhex r0 (by omega) w) ?_
            rintro _ _ ⟨a47, c47, bs47, rfl, rfl, hb47⟩
            refine L.apc ?_
            refine L.yl (Y.mv rfl) ?_
            refine L.yl (Y.extL rfl rfl) ?_
            refine L.yl (Y.extL rfl rfl) ?_
            refine L.yl (Y.as rfl) ?_
            refine L.yl (Y.as rfl) ?_
            refine L.nil ?_
            refine C.regS ?_
            refine L.yl (Y.mv rfl) ?_
            refine L.yl (Y.bdL (cs := [_, _, _]) zr36 bd36 rfl rfl rfl) ?_
            refine L.yl (Y.mv rfl) ?_
            refine L.sta (vs := [_, _, _]) ag36 rfl rfl rfl rfl rfl ?_
            refine L.yl (Y.as rfl) ?_
            refine L.nil ?_
            refine C.ret ?_
            refine InBlo.r ?_
            refine InBlo.r ?_
            refine Then.r ?_
            refine Then.r ?_
            refine InBlo.r ?_
            refine Then.r ?_
            refine FnPost.rg (xs := [.cell 2 36, .tmp 3]) (congrArg Array.toList Go.Proofs.Tryd.results9) (ra_ag (us := [_, _, _]) rfl ag36 rfl (ra_tmp rfl ra_nil)) ?_
            by_cases hy : unhexL r0 = some bs47
            · rw [hy] at hL
              rw [decide_eq_true hy]
              exact ⟨[own 5 1 a47 bs47.length c47 (byteL bs47)], inferInstance, LineR.yes hL⟩
            · obtain ⟨h1, h2, h3, h4⟩ := hb47 hy
              subst h2 h3 h4
              rw [h1] at hL
              rw [decide_eq_false hy]
              refine ⟨[own 5 1 none 0 0 []], ?_, LineR.no hL⟩
              show Wk [_, own 5 1 none 0 0 []] _
              exact inferInstance
          ·
            rw [tailL_hit (by omega) (by omega) hu26] at hL
            refine C.regS ?_
            refine L.yl (Y.mv rfl) ?_
            refine L.callW (Γf := []) go23 rfl (.refl _) (fun w hw hf => p_number r0 (by omega) w (hG.sep hw)) ?_
            rintro _ _ ⟨rfl, v29, rfl, hn29⟩
            refine L.apc ?_
            refine L.yl (Y.mv rfl) ?_
            refine L.yl (Y.extL rfl rfl) ?_
            refine L.yl (Y.extL rfl rfl) ?_
            refine L.yl (Y.as rfl) ?_
            refine L.yl (Y.as rfl) ?_
            refine L.nil ?_
            refine C.seq ?_
            refine C.regS ?_
            refine L.yl (Y.mv rfl) ?_
            first | refine L.yl (Y.notP rfl) ?_ | refine L.yl (Y.not rfl) ?_
            refine L.nil ?_
            refine C.condP rfl (fun hc5 => ?_) (fun hc5 => ?_)
            ·
              rw [hn29 hc5] at hL
              refine C.regS ?_
              refine L.yl (Y.bdL (cs := [_, _, _]) zr36 bd36 rfl rfl rfl) ?_
              refine L.sta (vs := [_, _, _]) ag36 rfl rfl rfl rfl rfl ?_
              refine L.yl (Y.as rfl) ?_
              refine L.nil ?_
              refine C.nil0 5 1 ?_
              refine C.ret ?_
              refine Then.r ?_
              refine InBlo.r ?_
              refine InBlo.r ?_
              refine Then.r ?_
              refine Then.r ?_
              refine InBlo.r ?_
              refine Then.r ?_
              refine FnPost.rg (xs := [.cell 2 36, .tmp 3]) (congrArg Array.toList Go.Proofs.Tryd.results9) (ra_ag (us := [_, _, _]) rfl ag36 rfl (ra_tmp rfl ra_nil)) ?_
              exact ⟨[own 5 1 none 0 0 []], inferInstance, LineR.no hL⟩
            ·
              rw [Decidable.not_not.1 hc5] at hL
              refine C.skip ?_
              refine Then.n ?_
              refine C.regS ?_
              refine L.yl (Y.mv rfl) ?_
              refine L.yl (Y.mv rfl) ?_
              refine L.yl (Y.bdL (cs := [_, _, _]) zr36 bd36 rfl rfl rfl) ?_
              refine L.sta (vs := [_, _, _]) ag36 rfl rfl rfl rfl rfl ?_
              refine L.yl (Y.as rfl) ?_
              refine L.nil ?_
              refine C.nil0 5 1 ?_
              refine C.ret ?_
              refine InBlo.r ?_
              refine InBlo.r ?_
              refine Then.r ?_
              refine Then.r ?_
              refine InBlo.r ?_
              refine Then.r ?_
              refine FnPost.rg (xs := [.cell 2 36, .tmp 3]) (congrArg Array.toList Go.Proofs.Tryd.results9) (ra_ag (us := [_, _, _]) rfl ag36 rfl (ra_tmp rfl ra_nil)) ?_
              exact ⟨[own 5 1 none 0 0 []], inferInstance, LineR.yes (d := []) hL⟩
      ·
        refine C.exit ?_
        refine Then.x ?_
        refine Then.x ?_
        refine InBlo.x ?_
        refine Then.n ?_
        refine C.regS ?_
        refine L.yl (Y.bdL (cs := [_, _, _]) zr36 bd36 rfl rfl rfl) ?_
        refine L.sta (vs := [_, _, _]) ag36 rfl rfl rfl rfl rfl ?_
        refine L.yl (Y.as rfl) ?_
        refine L.nil ?_
        refine C.nil0 5 1 ?_
        refine C.ret ?_
        refine FnPost.rg (xs := [.cell 2 36, .tmp 3]) (congrArg Array.toList Go.Proofs.Tryd.results9) (ra_ag (us := [_, _, _]) rfl ag36 rfl (ra_tmp rfl ra_nil)) ?_
        exact ⟨[own 5 1 none 0 0 []], inferInstance, LineR.no (by rw [hL, tailL_none (fun j hj => hI3 j (by omega))])⟩
  ·
    rw [if_neg hi]
    have hN : lineL l = none := by rw [lineL_cut, if_neg hi]
    dsimp only
    refine L.yl (Y.mv rfl) ?_
    refine L.yl (Y.extL rfl rfl) ?_
    refine L.yl (Y.extL rfl rfl) ?_
    refine L.yl (Y.extL rfl rfl) ?_
    refine L.yl (Y.as rfl) ?_
    refine L.yl (Y.as rfl) ?_
    refine L.yl (Y.as rfl) ?_
    refine L.nil ?_
    refine C.seq ?_
    refine C.regS ?_
    refine L.yl (Y.mv rfl) ?_
    first | refine L.yl (Y.notP rfl) ?_ | refine L.yl (Y.not rfl) ?_
    refine L.nil ?_
    refine C.condTt rfl ?_
    refine C.regS ?_
    refine L.yl (Y.bdL (cs := [_, _, _]) zr36 bd36 rfl rfl rfl) ?_
    refine L.sta (vs := [_, _, _]) ag36 rfl rfl rfl rfl rfl ?_
    refine L.yl (Y.as rfl) ?_
    refine L.nil ?_
    refine C.nil0 5 1 ?_
    refine C.ret ?_
    refine Then.r ?_
    refine FnPost.rg (xs := [.cell 2 36, .tmp 3]) (congrArg Array.toList Go.Proofs.Tryd.results9) (ra_ag (us := [_, _, _]) rfl ag36 rfl (ra_tmp rfl ra_nil)) ?_
    exact ⟨[own 5 1 none 0 0 []], inferInstance, LineR.no hN⟩
end Go.Proofs.YtinbfghmnfldjaaDoor
set_option maxHeartbeats 1000000
namespace Go.Proofs.YtinbfghmnfldjaaDoor
open Go Go.X Go.Shelf Go.Scr
theorem p_Lines (l : List UInt8) (w : World) : Calls Go.Proofs.Tryd.prog 18 #[.string (S l)] w (Post w [] (RW fun r Γ => ∃ bx, r = .func (.func 37) #[] #[.pointer (some ⟨bx, 0, none⟩)] ∧ Γ = [blk bx [.string (S l)] 9])) := by
  refine spec_of Go.Proofs.Tryd.func18 rfl Go.Proofs.Tryd.ntmps18 rfl (Holds.nil w) ?_
  change C _ _ _ _ _ _ _ ⟨[(0, _)], []⟩ _
  refine C.regS ?_
  refine L.bx rfl rfl ?_; intro b1
  refine L.yl (Y.as rfl) ?_
  refine L.nil ?_
  refine C.regS ?_
  refine L.yl (Y.mkf (cv := #[_]) rfl) ?_
  refine L.yl (Y.as rfl) ?_
  refine L.nil ?_
  refine C.ret ?_
  refine FnPost.r1 Go.Proofs.Tryd.results18 rfl ?_
  exact ⟨[blk b1 [.string (S l)] 9], inferInstance, b1, rfl, rfl⟩
theorem p_Parse (t : List UInt8) (hl : t.length ≤ 4000000) (w : World) (hG : G w) : Calls Go.Proofs.Tryd.prog 6 #[.string (S t)] w (Post w [] (RW (ParseR 36 t))) := by
  refine spec_of Go.Proofs.Tryd.func6 rfl Go.Proofs.Tryd.ntmps6 rfl (Holds.nil w) ?_
  change C _ _ _ _ _ _ _ ⟨[(0, _)], []⟩ _
  refine C.regS ?_
  refine L.al (zs := [.int .u32 0, .int .i64 0, .int .i64 0, .int .i64 0, .int .i64 0, .int .i64 0, .int .i64 0, .int .i64 0]) zr25 rfl ?_; intro b2
  refine L.al (zs := [.slice none 0 0]) zr26 rfl ?_; intro b3
  refine L.al (zs := [.int .i64 0]) zr3 rfl ?_; intro b4
  refine L.al (zs := [.int .i64 0]) zr27 rfl ?_; intro b5
  refine L.nil ?_
  refine C.seq ?_
  refine C.regS ?_
  refine L.yl (Y.mv rfl) ?_
  refine L.callP go16 rfl (fun w hw => lib_HasSuffix t [10] (by omega) w) ?_
  rw [hasSuffix_last]
  first | refine L.yl (Y.notP rfl) ?_ | refine L.yl (Y.not rfl) ?_
  refine L.nil ?_
  refine C.condP rfl (fun hc1 => ?_) (fun hc1 => ?_)
  ·
    refine C.regS ?_
    refine L.yl (Y.bdL (cs := [_, _, _, _, _, _, _, _]) zr25 bd25 rfl rfl rfl) ?_
    refine L.sta (vs := [_, _, _, _, _, _, _, _]) ag25 rfl rfl rfl rfl rfl ?_
    refine L.st sc26 rfl rfl rfl ?_
    refine L.st sc3 rfl rfl rfl ?_
    refine L.st sc27 rfl rfl rfl ?_
    refine L.nil ?_
    refine C.nil0 36 3 ?_
    refine C.big0 ?_
    refine C.ret ?_
    refine Then.r ?_
    refine FnPost.rg (xs := [.cell 2 25, .cell 3 26, .cell 4 3, .cell 5 27]) (congrArg Array.toList Go.Proofs.Tryd.results6) (ra_ag (us := [_, _, _, _, _, _, _, _]) rfl ag25 rfl (ra_sc rfl sc26 rfl (ra_sc rfl sc3 rfl (ra_sc rfl sc27 rfl ra_nil)))) ?_
    exact ⟨[own 36 3 none 0 0 [], big []], inferInstance, ParseR.bad (parseL_last hc1)⟩
  ·
    refine C.skip ?_
    refine Then.n ?_
    refine C.seq ?_
    refine C.regS ?_
    refine L.yl (Y.mv rfl) ?_
    refine L.callP go17 rfl (fun w hw => lib_Count t 10 w) ?_
    have hlast := Decidable.not_not.1 hc1
    obtain ⟨ps, hps⟩ : ∃ ps, splitc 10 (t.take (t.length - 1)) = ps := ⟨_, rfl⟩
    rw [count_last hlast, hps]
    have hpl := splitc_bound 10 (t.take (t.length - 1))
    rw [List.length_take, hps] at hpl
    first | refine L.yl (Y.sub rfl rfl (by omega)) ?_ | refine L.yl (Y.subW rfl rfl) ?_
    refine L.yl (Y.gtr rfl rfl) ?_
    refine L.nil ?_
    refine C.condP rfl (fun hc2 => ?_) (fun hc2 => ?_)
    ·
      refine C.regS ?_
      refine L.yl (Y.bdL (cs := [_, _, _, _, _, _, _, _]) zr25 bd25 rfl rfl rfl) ?_
      refine L.sta (vs := [_, _, _, _, _, _, _, _]) ag25 rfl rfl rfl rfl rfl ?_
      refine L.st sc26 rfl rfl rfl ?_
      refine L.st sc3 rfl rfl rfl ?_
      refine L.st sc27 rfl rfl rfl ?_
      refine L.nil ?_
      refine C.nil0 36 3 ?_
      refine C.big0 ?_
      refine C.ret ?_
      refine Then.r ?_
      refine FnPost.rg (xs := [.cell 2 25, .cell 3 26, .cell 4 3, .cell 5 27]) (congrArg Array.toList Go.Proofs.Tryd.results6) (ra_ag (us := [_, _, _, _, _, _, _, _]) rfl ag25 rfl (ra_sc rfl sc26 rfl (ra_sc rfl sc3 rfl (ra_sc rfl sc27 rfl ra_nil)))) ?_
      exact ⟨[own 36 3 none 0 0 [], big []], inferInstance, ParseR.bad (parseL_long hlast hps (by omega))⟩
    ·
      refine C.skip ?_
      refine Then.n ?_
      refine C.regS ?_
      refine L.al (zs := [.int .u32 0, .int .i64 0, .int .i64 0, .int .i64 0, .int .i64 0, .int .i64 0, .int .i64 0, .int .i64 0]) zr25 rfl ?_; intro b6
      refine L.nil ?_
      refine C.regS ?_
      refine L.al (zs := [.slice none 0 0]) zr26 rfl ?_; intro b7
      refine L.nil ?_
      refine C.regS ?_
      refine L.al (zs := [.int .i64 0]) zr3 rfl ?_; intro b8
      refine L.st sc3 rfl rfl rfl ?_
      refine L.nil ?_
      refine C.seq ?_
      refine C.regS ?_
      refine L.yl (Y.mv rfl) ?_
      refine L.callW (Γf := []) go18 rfl (.refl _) (fun w hw hf => p_Lines t w) ?_
      rintro _ _ ⟨bx, rfl, rfl⟩
      refine L.apc ?_
      refine L.nil ?_
      refine C.block ?_
      refine C.nil0 36 3 ?_
      refine C.big0 ?_
      refine C.rf (C0 := fun _ => True) (fun x => Value.string (S x)) (fun _ : Int => Code.ret) (fun (s : Nat × List Int × List Zt × Option Addr × Nat × Nat) => match s with | (k, ns, zs, a, q, c) => [blk b8 [.int .i64 k] 3, blk b7 [.slice a q c] 26, own 36 3 a q c (zcells zs), big (zs.map zch), blk b6 (headCs ns) 25, blk b2 [.int .u32 0, .int .i64 0, .int .i64 0, .int .i64 0, .int .i64 0, .int .i64 0, .int .i64 0, .int .i64 0] 25, blk b3 [.slice none 0 0] 26, blk b4 [.int .i64 0] 3, blk b5 [.int .i64 0] 27]) (fun pre s => match s with | (k, ns, zs, a, q, c) => k = pre.length ∧ q = zs.length ∧ (k = 0 → zs = []) ∧ (0 < k → ∃ k0, ps[0]? = some k0 ∧ headL k0 = some ns ∧ ((ps.drop 1).take (k - 1)).mapM lineL = some (zs.map (·.1)))) (fun (u : Int) => [blk b2 [.int .u32 0, .int .i64 0, .int .i64 0, .int .i64 0, .int .i64 0, .int .i64 0, .int .i64 0, .int .i64 0] 25, blk b3 [.slice none 0 0] 26, blk b4 [.int .i64 u] 3, blk b5 [.int .i64 15] 27, own 36 3 none 0 0 [], big []]) (fun _ u => parseL t = ([], [], u, 15)) (0, [], [], none, 0, 0) rfl go37 (lines_iter t (by omega) bx) (fun _ _ => ⟨trivial, fun _ => trivial⟩) (by show Wk _ [blk bx [.string (S t)] 9, blk b8 [.int .i64 0] 3, blk b7 [.slice none 0 0] 26, own 36 3 none 0 0 [], big [], blk b6 [.int .u32 0, .int .i64 0, .int .i64 0, .int .i64 0, .int .i64 0, .int .i64 0, .int .i64 0, .int .i64 0] 25, blk b2 [.int .u32 0, .int .i64 0, .int .i64 0, .int .i64 0, .int .i64 0, .int .i64 0, .int .i64 0, .int .i64 0] 25, blk b3 [.slice none 0 0] 26, blk b4 [.int .i64 0] 3, blk b5 [.int .i64 0] 27]; exact inferInstance) ⟨rfl, rfl, fun _ => rfl, fun h => absurd h (by omega)⟩ ?_ ?_ ?_
      · rintro w' l r pre x ⟨k, ns, zs, a, q, c⟩ hs hr ⟨hI1, hI2, hI3, hI4⟩ hp
        obtain ⟨y, hy, rfl, hlt⟩ := lines_pre hlast hps hp
        have hyl := splitc_small 10 _ _ y (by rw [hps]; exact hy)
        rw [List.length_take] at hyl
        subst hI1
        have hn4 : ps.length ≤ 4097 := by omega
        dsimp only
        refine C.reg ?_
        refine L.yl (Y.as rfl) ?_
        refine L.nil ?_
        refine ⟨rfl, rfl, ?_⟩
        refine C.block ?_
        refine C.regS ?_
        refine L.yl (Y.ld sc3 rfl rfl) ?_
        first | refine L.yl (Y.add rfl rfl (by omega)) ?_ | refine L.yl (Y.addW rfl rfl) ?_
        rw [show ((pre.length:Int) + 1) = ((pre.length + 1 : Nat):Int) from rfl]
        refine L.st sc3 rfl rfl rfl ?_
        refine L.nil ?_
        refine C.regS ?_
        refine L.yl (Y.mv rfl) ?_
        refine L.callP go19 rfl (fun w hw => lib_TrimSuffix (y ++ [10]) [10] (by simp; omega) w) ?_
        rw [trim_line]
        refine L.yl (Y.as rfl) ?_
        refine L.nil ?_
        refine C.regS ?_
        refine L.yl (Y.as rfl) ?_
        refine L.nil ?_
        refine C.seq ?_
        refine C.regS ?_
        refine L.yl (Y.ld sc3 rfl rfl) ?_
        refine L.yl (Y.eqi rfl rfl) ?_
        refine L.nil ?_
        refine C.condP rfl (fun hc3 => ?_) (fun hc3 => ?_)
        ·
          have hp0 : pre.length = 0 := by omega
          refine C.reg ?_
          refine L.yl (Y.mv rfl) ?_
          refine L.callP go11 rfl (fun w hw => p_ParseHead y (by omega) w (hG.sep2 hs hw)) ?_
          refine L.yl (Y.mv rfl) ?_
          refine L.yl (Y.extL rfl rfl) ?_
          refine L.yl (Y.extL rfl rfl) ?_
          refine L.sta (vs := [_, _, _, _, _, _, _, _]) ag25 rfl rfl rfl rfl rfl ?_
          refine L.yl (Y.as rfl) ?_
          refine L.nil ?_
          refine Then.n ?_
          refine C.regS ?_
          refine L.yl (Y.mv rfl) ?_
          first | refine L.yl (Y.notP rfl) ?_ | refine L.yl (Y.not rfl) ?_
          refine L.nil ?_
          refine C.condP rfl (fun hc4 => ?_) (fun hc4 => ?_)
          ·
            refine C.drwBS [b2, b3, b4] (.y 0 (.y 1 (.h 2 (.h 3 (.h 4 (.last 5)))))) mixo (by kernel_rfl) ?_
            refine V.yl rfl (Y.bdL (cs := [_, _, _, _, _, _, _, _]) zr25 bd25 rfl rfl rfl) ?_
            refine V.yl rfl (Y.ld sc3 rfl rfl) ?_
            refine V.hv rfl ?_
            refine L.apc ?_
            refine L.sta (vs := [_, _, _, _, _, _, _, _]) ag25 rfl rfl rfl rfl rfl ?_
            refine L.nil ?_
            refine V.on ?_
            refine V.hv rfl ?_
            refine L.apc ?_
            refine L.st sc26 rfl rfl rfl ?_
            refine L.nil ?_
            refine V.on ?_
            refine V.hv rfl ?_
            refine L.apc ?_
            refine L.st sc3 rfl rfl rfl ?_
            refine L.nil ?_
            refine V.on ?_
            refine V.ls rfl ?_
            refine L.apc ?_
            refine L.st sc27 rfl rfl rfl ?_
            refine L.nil ?_
            refine C.nil0 36 3 ?_
            refine C.big0 ?_
            refine C.ret ?_
            refine InBlo.r ?_
            exact ⟨((pre.length + 1 : Nat) : Int), rfl, (by dsimp only; exact inferInstance), (by have := parseL_head hlast hps hn4 (by rw [← hy, hp0]) (Decidable.not_not.1 hc4); rw [this, hp0]; rfl)⟩
          ·
            refine C.skip ?_
            refine InBlo.n ?_
            obtain ⟨ns1, hns⟩ : ∃ ns, headL y = some ns := by
              cases h : headL y with
              | none => exact absurd h (Decidable.not_not.1 hc4)
              | some x => exact ⟨x, rfl⟩
            have hzs := hI3 hp0
            subst hzs
            simp only [hns, Option.getD_some]
            exact ⟨(pre.length + 1, ns1, [], a, q, c), (by dsimp only; exact inferInstance), ⟨by simp, hI2, fun _ => rfl, fun _ => ⟨y, by rw [← hy, hp0], hns, by rw [hp0]; rfl⟩⟩⟩
        ·
          have hp0 : pre.length ≠ 0 := by omega
          obtain ⟨k0, hk0, hh0, hm0⟩ := hI4 (by omega)
          have hzl := mapM_length lineL _ _ hm0
          simp only [List.length_map, List.length_take, List.length_drop] at hzl
          refine C.regS ?_
          refine L.al (zs := [.int .i64 0, .int .i64 0, .slice none 0 0]) zr36 rfl ?_; intro b11
          refine L.nil ?_
          refine C.regS ?_
          refine L.yl (Y.mv rfl) ?_
          refine L.callW (Γf := []) go9 rfl (.refl _) (fun w hw hf => p_ParseLine y (by omega) w (hG.sep2 hs hw)) ?_
          rintro _ _ ⟨a37, c37, rfl, rfl⟩
          refine L.apc ?_
          refine L.yl (Y.mv rfl) ?_
          refine L.yl (Y.extL rfl rfl) ?_
          refine L.yl (Y.extL rfl rfl) ?_
          refine L.sta (vs := [_, _, _]) ag36 rfl rfl rfl rfl rfl ?_
          refine L.yl (Y.as rfl) ?_
          refine L.nil ?_
          refine C.reg ?_
          refine L.yl (Y.ld sc26 rfl rfl) ?_
          refine L.yl (Y.lda (vs := [_, _, _]) ag36 rfl rfl) ?_
          refine L.bsA (vs := [_, _, _]) elt26 rfl rfl (by decide) ?_; intro b42
          refine L.app elt26 rfl rfl (by rfl) (by simp [zcells_length] <;> omega) (by omega) (by omega) ?_; intro a43 c43
          rw [show zcells zs ++ [Value.int .i64 (itemOf (lineL y)).1, Value.int .i64 (itemOf (lineL y)).2.1, Value.slice a37 (itemOf (lineL y)).2.2.length c37] = zcells (zs ++ [((itemOf (lineL y)), a37, c37)]) from by rw [zcells_append]; rfl]
          refine L.pack (zch ((itemOf (lineL y)), a37, c37)) (zs.map zch) ?_
          refine L.st sc26 rfl rfl rfl ?_
          refine L.nil ?_
          refine Then.n ?_
          refine C.regS ?_
          refine L.yl (Y.mv rfl) ?_
          first | refine L.yl (Y.notP rfl) ?_ | refine L.yl (Y.not rfl) ?_
          refine L.nil ?_
          refine C.condP rfl (fun hc5 => ?_) (fun hc5 => ?_)
          ·
            refine C.drwBS [b2, b3, b4] (.y 0 (.y 1 (.h 2 (.h 3 (.h 4 (.last 5)))))) mixo (by kernel_rfl) ?_
            refine V.yl rfl (Y.bdL (cs := [_, _, _, _, _, _, _, _]) zr25 bd25 rfl rfl rfl) ?_
            refine V.yl rfl (Y.ld sc3 rfl rfl) ?_
            refine V.hv rfl ?_
            refine L.apc ?_
            refine L.sta (vs := [_, _, _, _, _, _, _, _]) ag25 rfl rfl rfl rfl rfl ?_
            refine L.nil ?_
            refine V.on ?_
            refine V.hv rfl ?_
            refine L.apc ?_
            refine L.st sc26 rfl rfl rfl ?_
            refine L.nil ?_
            refine V.on ?_
            refine V.hv rfl ?_
            refine L.apc ?_
            refine L.st sc3 rfl rfl rfl ?_
            refine L.nil ?_
            refine V.on ?_
            refine V.ls rfl ?_
            refine L.apc ?_
            refine L.st sc27 rfl rfl rfl ?_
            refine L.nil ?_
            refine C.nil0 36 3 ?_
            refine C.big0 ?_
            refine C.ret ?_
            refine InBlo.r ?_
            exact ⟨((pre.length + 1 : Nat) : Int), rfl, (by dsimp only; exact inferInstance), (by have := parseL_line hlast hps hn4 hk0 hh0 hm0 (x := y) (by rw [← hy]; congr 1; omega) (Decidable.not_not.1 hc5); rw [this]; congr 3; omega)⟩
          ·
            refine C.skip ?_
            refine InBlo.n ?_
            have hyk : lineL y = some (itemOf (lineL y)) := by
              cases h : lineL y with
              | none => exact absurd h (Decidable.not_not.1 hc5)
              | some x => rfl
            subst hI2
            exact ⟨(pre.length + 1, ns, zs ++ [(itemOf (lineL y), a37, c37)], a43, zs.length + 1, c43), (by dsimp only; simp only [List.map_append, List.map_cons, List.map_nil, List.length_append, List.length_singleton]; exact inferInstance), ⟨by simp, by simp, fun h => by omega, fun _ => ⟨k0, hk0, hh0, by
              have h1 := mapM_step lineL (ps.drop 1) (pre.length - 1) y _ _ hm0 (by rw [List.getElem?_drop, ← hy]; congr 1; omega) hyk
              rw [show pre.length + 1 - 1 = pre.length - 1 + 1 by omega, h1]; simp⟩⟩⟩
      · rintro D ⟨k, ns, zs, a, q, c⟩ ⟨hI1, hI2, hI3, hI4⟩
        have hkl : (linesL t).length = ps.length := by rw [linesL_ends hlast, hps, List.length_map]
        have hne : ps.length ≠ 0 := fun h => splitc_ne 10 _ (hps.trans (List.length_eq_zero_iff.1 h))
        obtain ⟨k0, hk0, hh0, hm0⟩ := hI4 (by omega)
        have hm : (ps.drop 1).mapM lineL = some (zs.map (·.1)) := by
          rw [← hm0, List.take_of_length_le (by simp; omega)]
        subst hI2
        try dsimp only
        refine InBlo.n ?_
        refine Then.n ?_
        refine C.drwBS [b2, b3, b4] (.y 0 (.y 1 (.h 2 (.h 3 (.h 4 (.last 5)))))) mixo (by kernel_rfl) ?_
        refine V.yl rfl (Y.lda (vs := [_, _, _, _, _, _, _, _]) ag25 rfl rfl) ?_
        refine V.yl rfl (Y.ld sc26 rfl rfl) ?_
        refine V.hv rfl ?_
        refine L.apc ?_
        refine L.sta (vs := [_, _, _, _, _, _, _, _]) ag25 rfl rfl rfl rfl rfl ?_
        refine L.nil ?_
        refine V.on ?_
        refine V.hv rfl ?_
        refine L.apc ?_
        refine L.st sc26 rfl rfl rfl ?_
        refine L.nil ?_
        refine V.on ?_
        refine V.hv rfl ?_
        refine L.apc ?_
        refine L.st sc3 rfl rfl rfl ?_
        refine L.nil ?_
        refine V.on ?_
        refine V.ls rfl ?_
        refine L.apc ?_
        refine L.st sc27 rfl rfl rfl ?_
        refine L.nil ?_
        refine C.nil0 36 3 ?_
        refine C.big0 ?_
        refine C.ret ?_
        refine FnPost.rgM (xs := [.cell 2 25, .cell 3 26, .cell 4 3, .cell 5 27]) (congrArg Array.toList Go.Proofs.Tryd.results6) (ra_ag (us := [_, _, _, _, _, _, _, _]) rfl ag25 rfl (ra_sc rfl sc26 rfl (ra_sc rfl sc3 rfl (ra_sc rfl sc27 rfl ra_nil)))) ?_
        exact ⟨[own 36 3 a _ c (zcells zs), big (zs.map zch)], inferInstance, ParseR.ok (parseL_ok hlast hps (by omega) hk0 hh0 hm) rfl⟩
      · rintro D pre u hIx hp
        refine C.ret ?_
        refine InBlo.r ?_
        refine Then.r ?_
        refine FnPost.rgM (xs := [.cell 2 25, .cell 3 26, .cell 4 3, .cell 5 27]) (congrArg Array.toList Go.Proofs.Tryd.results6) (ra_ag (us := [_, _, _, _, _, _, _, _]) rfl ag25 rfl (ra_sc rfl sc26 rfl (ra_sc rfl sc3 rfl (ra_sc rfl sc27 rfl ra_nil)))) ?_
        exact ⟨[own 36 3 none 0 0 [], big []], inferInstance, ParseR.bad hIx⟩
end Go.Proofs.YtinbfghmnfldjaaDoor
set_option maxHeartbeats 200000
namespace Go.Proofs.YtinbfghmnfldjaaDoor
open Go Go.X Go.Shelf Go.Scr
theorem fmt_digits {n u v : Nat} {dk : Array UInt8} (h : Lib.FmtInv n u 0 v dk) (hn : n = Lib.nDigits u) : dk.toList = Lib.decDigits u := by
  rw [Lib.decDigits_eq, ← hn]
  apply List.ext_getElem
  · simp [h.size]
  · intro i h1 h2
    have hi : i < n := by simpa using h2
    have := h.done i (Nat.zero_le _) hi
    rw [getElem!_pos dk i (by rw [h.size]; exact hi)] at this
    simpa using this
theorem fb10_cells (n u : Nat) (dk : Array UInt8) (hdl : dk.toList = Lib.decDigits u) (hds : dk.size = n) (hn24 : n ≤ 24) :
    Sort.putCells (fun (b : UInt8) => Value.int .u8 (b.toNat : Int)) 0 dk (byteL (List.replicate 24 0)).toArray = (byteL (Lib.decDigits u ++ List.replicate (24 - n) 0)).toArray := by
  have hlen : (Lib.decDigits u).length = n := by rw [← hdl]; simpa using hds
  apply Array.ext_getElem?
  intro k
  simp only [Sort.putCells, Array.getElem?_mapIdx, List.getElem?_toArray, Nat.zero_le, true_and, Nat.zero_add, hds, Nat.sub_zero]
  by_cases hk : k < n
  · rw [get_byteL (u := 0) (q := k) (by rw [List.getElem?_replicate, if_pos (by omega)]) rfl]
    simp only [Option.map_some, if_pos hk]
    have h1 : (Lib.decDigits u)[k]? = some dk[k]! := by
      rw [← hdl, getElem!_pos dk k (by omega), Array.getElem?_toList, Array.getElem?_eq_getElem (by omega)]
    rw [get_byteL (u := dk[k]!) (q := k) (by rw [List.getElem?_append_left (by omega)]; exact h1) rfl]
  · by_cases hk2 : k < 24
    · rw [get_byteL (u := 0) (q := k) (by rw [List.getElem?_replicate, if_pos (by omega)]) rfl]
      simp only [Option.map_some, if_neg hk]
      rw [get_byteL (u := 0) (q := k) (by rw [List.getElem?_append_right (by omega), List.getElem?_replicate, if_pos (by omega)]) rfl]
    · rw [List.getElem?_eq_none (by simp [byteL]; omega), List.getElem?_eq_none (by simp [byteL, hlen]; omega)]
      rfl
theorem p_fb10 (b n u : Nat) (cs cs' : List Value) (hcs : cs = byteL (List.replicate 24 0)) (hcs' : cs' = byteL (Lib.decDigits u ++ List.replicate (24 - n) 0)) (hn : n = Lib.nDigits u) (hn24 : n ≤ 24) (hu : u < 18446744073709551616) (w : World) (hw : X.Holds w [blk b cs 104]) :
    Calls Go.Proofs.Tryd.prog 70 #[.slice (some ⟨b, 0, none⟩) n 24, .int .u64 u] w (Post w [blk b cs 104] (fun r Γ => r = .tuple #[] ∧ Γ = [blk b cs' 104])) := by
  have hb : w.heap[b]? = some (.cells cs.toArray 104 (0, 0)) := hw.on (blk b cs 104) (List.mem_singleton.2 rfl)
  have hd : (Array.replicate n (0 : UInt8)).size = n := Array.size_replicate
  have hH : Sort.Holds (fun (b : UInt8) => Value.int .u8 (b.toNat : Int)) w b 0 (Array.replicate n (0 : UInt8)) := fun j hj => by
    rw [hd] at hj
    rw [Nat.zero_add]
    refine ⟨?_, frozen_of hb j⟩
    rw [cell_of hb, hcs, get_byteL (u := 0) (q := j) (by rw [List.getElem?_replicate, if_pos (by omega)]) rfl, getElem!_pos _ _ (by rw [hd]; exact hj), Array.getElem_replicate]
  have := Go.Proofs.Tryd.internal_strconv_formatBase10 b 0 24 u (Array.replicate n (0 : UInt8)) w hH (by rw [hd, hn]; exact Lib.lt_pow_nDigits u) hu (by rw [hd]; omega)
  rw [hd] at this
  refine Calls.mono this ?_
  rintro e w' ⟨rfl, q, v', dk, hw', hf⟩
  have hcc := fb10_cells n u dk (fmt_digits hf hn) hf.size hn24
  rw [← hcs, ← hcs'] at hcc
  have hheap : w'.heap = w.heap.modify b (Sort.onCells (Sort.putCells (fun (b : UInt8) => Value.int .u8 (b.toNat : Int)) 0 dk)) := by rw [hw']; rfl
  have hk1 : w'.os = w.os := by rw [hw']; rfl
  have hk2 : w'.tape = w.tape := by rw [hw']; rfl
  have hk3 : w'.output = w.output := by rw [hw']; rfl
  clear hw'
  refine ⟨_, [blk b cs' 104], rfl, ⟨rfl, rfl⟩, ⟨hk1, hk2, hk3, by rw [hheap, Array.size_modify]; exact Nat.le_refl _, fun k hk hf => ?_⟩, ⟨fun c hc => ?_, by simp⟩, fun k ⟨c, hc, hk⟩ _ => ?_⟩
  · rw [hheap, Array.getElem?_modify, if_neg (fun e => hf ⟨blk b cs 104, List.mem_singleton.2 rfl, e.symm⟩)]
  · rw [List.mem_singleton.1 hc]
    show w'.heap[b]? = some (.cells cs'.toArray 104 (0, 0))
    rw [hheap, Array.getElem?_modify, if_pos rfl, hb, ← hcc]
    rfl
  · rw [List.mem_singleton.1 hc] at hk
    exact ⟨blk b cs 104, List.mem_singleton.2 rfl, hk⟩
end Go.Proofs.YtinbfghmnfldjaaDoor
set_option maxHeartbeats 1000000
namespace Go.Proofs.YtinbfghmnfldjaaDoor
open Go Go.X Go.Shelf Go.Scr
theorem lib_small (i : Nat) (h : i < 100) (w : World) : Pur Go.Proofs.Tryd.prog 68 [.int .i64 i] (.string (S (Lib.decDigits i))) w := by
  refine Calls.mono (Go.Proofs.Tryd.internal_strconv_small i h w) ?_
  rintro e w' ⟨h1, rfl⟩
  exact ⟨h1, Keep.refl _ _⟩
theorem lib_numDigits (u : Nat) (h1 : 1 ≤ u) (h2 : u < 18446744073709551616) (w : World) (hG : G w) : Pur Go.Proofs.Tryd.prog 69 [.int .u64 u] (.int .i64 (Lib.nDigits u)) w := by
  refine Calls.mono (Go.Proofs.Tryd.internal_strconv_numDigits u h1 h2 w hG.tab) ?_
  rintro e w' ⟨h1, rfl⟩
  exact ⟨h1, Keep.refl _ _⟩

theorem p_FormatUint0 (u : Nat) (hu : u < 18446744073709551616) (w : World) (hG : G w) : Pur Go.Proofs.Tryd.prog 56 [.int .u64 u, .int .i64 10] (.string (S (Lib.decDigits u))) w := by
  refine pur_of Go.Proofs.Tryd.func56 rfl Go.Proofs.Tryd.ntmps56 rfl ?_
  change C _ _ _ _ _ _ _ ⟨[(0, _), (1, _)], []⟩ _
  refine C.regS ?_
  refine L.yl (Y.as rfl) ?_
  refine L.nil ?_
  refine C.seq ?_
  refine C.regS ?_
  refine L.yl (Y.mv rfl) ?_
  refine L.yl (Y.eqi rfl rfl) ?_
  refine L.nil ?_
  refine C.condT rfl (rfl) ?_
  refine C.seq ?_
  refine C.regS ?_
  refine L.yl (Y.mv rfl) ?_
  refine L.yl (Y.lss rfl rfl) ?_
  refine L.nil ?_
  refine C.condP rfl (fun hc2 => ?_) (fun hc2 => ?_)
  ·
    refine C.regS ?_
    refine L.yl (Y.mv rfl) ?_
    first | refine L.yl (Y.cvI Go.Proofs.Tryd.underlying3 ⟨_, Go.Proofs.Tryd.underlying86⟩ rfl (by omega)) ?_ | refine L.yl (Y.cvW Go.Proofs.Tryd.underlying3 ⟨_, Go.Proofs.Tryd.underlying86⟩ rfl) ?_
    refine L.callP go68 rfl (fun w hw => lib_small u (by omega) w) ?_
    refine L.yl (Y.as rfl) ?_
    refine L.nil ?_
    refine C.ret ?_
    refine Then.r ?_
    refine Then.r ?_
    refine FnPost.r1 Go.Proofs.Tryd.results56 rfl ?_
    exact rfl
  ·
    refine C.skip ?_
    refine Then.n ?_
    refine C.regS ?_
    refine L.al (zs := [.int .u8 0, .int .u8 0, .int .u8 0, .int .u8 0, .int .u8 0, .int .u8 0, .int .u8 0, .int .u8 0, .int .u8 0, .int .u8 0, .int .u8 0, .int .u8 0, .int .u8 0, .int .u8 0, .int .u8 0, .int .u8 0, .int .u8 0, .int .u8 0, .int .u8 0, .int .u8 0, .int .u8 0, .int .u8 0, .int .u8 0, .int .u8 0]) zr104 rfl ?_; intro b5
    refine L.nil ?_
    refine C.regS ?_
    refine L.yl (Y.mv rfl) ?_
    refine L.callP go69 rfl (fun w hw => lib_numDigits u (by omega) (by omega) w (hG.sep hw)) ?_
    have hn20 := Lib.nDigits_le20 u hu
    refine L.yl (Y.as rfl) ?_
    refine L.nil ?_
    refine C.regS ?_
    refine L.yl (Y.mv rfl) ?_
    refine L.yl (Y.slah Go.Proofs.Tryd.underlying104 sc5 rfl rfl (by omega)) ?_
    rw [Int.toNat_natCast]
    refine L.yl (Y.mv rfl) ?_
    refine L.call (Γf := [blk b5 _ 104]) (Γr := []) (R := fun r Γ => r = .tuple #[] ∧ Γ = [blk b5 (byteL (Lib.decDigits u ++ List.replicate (24 - Lib.nDigits u) 0)) 104]) go70 rfl (.refl _) (fun w hw hf => p_fb10 b5 _ u _ _ rfl rfl rfl (by omega) hu w hf) ?_
    rintro _ _ ⟨rfl, rfl⟩
    refine L.apc ?_
    refine L.nil ?_
    refine C.regS ?_
    refine L.yl (Y.mv rfl) ?_
    refine L.yl (Y.slah Go.Proofs.Tryd.underlying104 sc5 rfl rfl (by omega)) ?_
    rw [Int.toNat_natCast]
    refine L.yl (Y.b2s (hr := Rd_blk (nn := Lib.nDigits u)) slt34 Go.Proofs.Tryd.underlying5 Go.Proofs.Tryd.underlying9 rfl (l := Lib.decDigits u) (by rw [byteL, List.map_append, List.take_left' (by rw [List.length_map, Lib.decDigits_length])]; rfl) (Lib.decDigits_length u)) ?_
    refine L.yl (Y.as rfl) ?_
    refine L.nil ?_
    refine C.ret ?_
    refine Then.r ?_
    refine FnPost.r1 Go.Proofs.Tryd.results56 rfl ?_
    exact rfl
theorem p_FormatUint (u : Nat) (hu : u < 18446744073709551616) (w : World) (hG : G w) : Pur Go.Proofs.Tryd.prog 47 [.int .u64 u, .int .i64 10] (.string (S (Lib.decDigits u))) w := by
  refine pur_of Go.Proofs.Tryd.func47 rfl Go.Proofs.Tryd.ntmps47 rfl ?_
  change C _ _ _ _ _ _ _ ⟨[(0, _), (1, _)], []⟩ _
  refine C.regS ?_
  refine L.yl (Y.as rfl) ?_
  refine L.nil ?_
  refine C.regS ?_
  refine L.yl (Y.mv rfl) ?_
  refine L.yl (Y.mv rfl) ?_
  refine L.callP go56 rfl (fun w hw => p_FormatUint0 u hu w (hG.sep hw)) ?_
  refine L.yl (Y.as rfl) ?_
  refine L.nil ?_
  refine C.ret ?_
  refine FnPost.r1 Go.Proofs.Tryd.results47 rfl ?_
  exact rfl
end Go.Proofs.YtinbfghmnfldjaaDoor
namespace Go.Scr
open Go Go.Lib Go.X
def hd (n : Nat) : UInt8 := hexdig.getD n 0
@[reducible] def hx2 (u : UInt8) : List UInt8 := [hd (u.toNat / 16), hd (u.toNat % 16)]
def hexL (d : List UInt8) : List UInt8 := if d = [] then [45] else d.flatMap hx2
theorem hex_hi (u : UInt8) : hexdig[((u.toNat : Int).fdiv (2 ^ (min (4 : Int).toNat IntKind.u8.bits))).toNat]? = some (hd (u.toNat / 16)) := by
  have key : ∀ n : Fin 256, hexdig[((n.val : Int).fdiv (2 ^ (min (4 : Int).toNat IntKind.u8.bits))).toNat]? = some (hd (n.val / 16)) := by decide +kernel
  exact key ⟨u.toNat, u.toNat_lt⟩
theorem hex_lo (u : UInt8) : hexdig[(IntKind.u8.wrap ((BitVec.ofInt IntKind.u8.bits (u.toNat : Int) &&& BitVec.ofInt IntKind.u8.bits 15).toNat : Int)).toNat]? = some (hd (u.toNat % 16)) := by
  have key : ∀ n : Fin 256, hexdig[(IntKind.u8.wrap ((BitVec.ofInt IntKind.u8.bits (n.val : Int) &&& BitVec.ofInt IntKind.u8.bits 15).toNat : Int)).toNat]? = some (hd (n.val % 16)) := by decide +kernel
  exact key ⟨u.toNat, u.toNat_lt⟩
theorem hex_pos (u : UInt8) : 0 ≤ (u.toNat : Int).fdiv (2 ^ (min (4 : Int).toNat IntKind.u8.bits)) ∧ 0 ≤ IntKind.u8.wrap ((BitVec.ofInt IntKind.u8.bits (u.toNat : Int) &&& BitVec.ofInt IntKind.u8.bits 15).toNat : Int) := by
  have key : ∀ n : Fin 256, 0 ≤ (n.val : Int).fdiv (2 ^ (min (4 : Int).toNat IntKind.u8.bits)) ∧ 0 ≤ IntKind.u8.wrap ((BitVec.ofInt IntKind.u8.bits (n.val : Int) &&& BitVec.ofInt IntKind.u8.bits 15).toNat : Int) := by decide +kernel
  exact key ⟨u.toNat, u.toNat_lt⟩
theorem hexs_length (d : List UInt8) : (d.flatMap hx2).length = 2 * d.length := by
  induction d with
  | nil => rfl
  | cons u r ih => simp only [List.flatMap_cons, List.length_append, ih, List.length_cons]; simp; omega
theorem hexs_take (d : List UInt8) (i : Nat) (u : UInt8) (h : d[i]? = some u) : (d.take (i + 1)).flatMap hx2 = (d.take i).flatMap hx2 ++ hx2 u := by
  rw [List.take_add_one, h]; simp
theorem hexL_length (d : List UInt8) : (hexL d).length ≤ 2 * d.length + 1 := by
  unfold hexL; split
  · simp
  · rw [hexs_length]; omega
end Go.Scr
