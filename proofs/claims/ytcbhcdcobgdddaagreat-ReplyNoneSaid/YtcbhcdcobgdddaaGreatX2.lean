/- Lemmas for the claim: a calculus of steps over the given program, plain laws, and the contracts of its functions. -/
import Derived.Test.YtcbhcdcobgdddaaGreatProg
import Derived.Shelf.Abstract
import Derived.Test.YtcbhcdcobgdddaaGreatX1
set_option linter.unusedSimpArgs false
set_option linter.unusedVariables false
namespace Go.Rep
open Go Go.X
/-! spans, as pairs of numbers -/
abbrev Sp := Int × Int
@[reducible] def spCs (s : Sp) : List Value := [.int .i64 s.1, .int .i64 s.2]
@[reducible] def spV (s : Sp) : Value := .agg #[.int .i64 s.1, .int .i64 s.2]
def May (s : Sp) : Prop := 0 ≤ s.1 ∧ s.1 ≤ s.2 ∧ s.2 ≤ 4611686018427387904
instance (s : Sp) : Decidable (May s) := by unfold May; infer_instance
def ofS (s : Sp) : Sp := if May s ∧ s.1 ≠ s.2 then s else (0, 0)
def noneS (s : Sp) : Prop := ofS s = (0, 0)
instance (s : Sp) : Decidable (noneS s) := by unfold noneS; infer_instance
def lenS (s : Sp) : Int := (ofS s).2 - (ofS s).1
def meetS (s t : Sp) : Sp := ofS (max (ofS s).1 (ofS t).1, min (ofS s).2 (ofS t).2)
def fromS (s : Sp) (off : Int) : Sp := ofS (max (ofS s).1 off, (ofS s).2)
def hullStep (o s : Sp) : Sp := if noneS s then o else if noneS o then s else (min o.1 s.1, max o.2 s.2)
def hullS (l : List Sp) : Sp := l.foldl hullStep (0, 0)
theorem ofS_b (s : Sp) : 0 ≤ (ofS s).1 ∧ (ofS s).1 ≤ (ofS s).2 ∧ (ofS s).2 ≤ 4611686018427387904 := by
  unfold ofS
  split
  · rename_i h; exact h.1
  · simp
theorem ofS_neg {s : Sp} (h : ¬ (May s ∧ s.1 ≠ s.2)) : ofS s = (0, 0) := by unfold ofS; rw [if_neg h]
theorem ofS_pos {s : Sp} (h : May s ∧ s.1 ≠ s.2) : ofS s = s := by unfold ofS; rw [if_pos h]
@[reducible] def spL (l : List Sp) : List Value := l.flatMap spCs
theorem spL_append (a b : List Sp) : spL (a ++ b) = spL a ++ spL b := by simp [spL]
theorem spL_length : ∀ l : List Sp, (spL l).length = l.length * 2
  | [] => rfl
  | z :: r => by
    have := spL_length r
    simp only [spL, List.flatMap_cons, List.length_append, List.length_cons, spCs, List.length_nil] at this ⊢
    omega
theorem spL_get (l : List Sp) (k j : Nat) (z : Sp) (h : l[k]? = some z) (hj : j < 2) : (spL l)[k * 2 + j]? = (spCs z)[j]? := by
  induction l generalizing k with
  | nil => simp at h
  | cons y r ih =>
    cases k with
    | zero =>
      simp at h; subst h
      simp only [spL, List.flatMap_cons, Nat.zero_mul, Nat.zero_add]
      rw [List.getElem?_append_left (by simp [spCs]; omega)]
    | succ k =>
      simp only [List.getElem?_cons_succ] at h
      simp only [spL, List.flatMap_cons]
      rw [List.getElem?_append_right (by simp [spCs]; omega)]
      have := ih k h
      rw [← this]
      congr 1
      simp [spCs]; omega
/-! sequence numbers -/
def wrap32 (n : Int) : Int := IntKind.u32.wrap n
def distN (a b : Int) : Int := IntKind.i64.wrap (IntKind.i32.wrap (IntKind.u32.wrap (b - a)))
def fitsN (n : Int) : Prop := 0 ≤ n ∧ n ≤ 4611686018427387904
instance (n : Int) : Decidable (fitsN n) := by unfold fitsN; infer_instance
/-- the offset next to near, if there is one -/
def unwrapN (near s : Int) : Option Int := if fitsN near ∧ fitsN (near + distN (wrap32 near) s) then some (near + distN (wrap32 near) s) else none
theorem distN_b (a b : Int) : -2147483648 ≤ distN a b ∧ distN a b ≤ 2147483647 := by
  unfold distN
  simp only [IntKind.wrap]
  simp [IntKind.signed, IntKind.bits]
  omega
end Go.Rep
namespace Go.Rep
open Go Go.X
/-! numbers as bytes -/
def beN (l : List UInt8) : Nat := l.foldl (fun n c => n * 256 + c.toNat) 0
theorem beN_append (l : List UInt8) (c : UInt8) : beN (l ++ [c]) = beN l * 256 + c.toNat := by simp [beN]
theorem beN_acc : ∀ (l : List UInt8) (n : Nat), l.foldl (fun n c => n * 256 + c.toNat) n + 1 ≤ (n + 1) * 256 ^ l.length
  | [], n => by simp
  | c :: l, n => by
    have h1 := beN_acc l (n * 256 + c.toNat)
    have h2 := c.toNat_lt
    simp only [List.foldl_cons, List.length_cons, Nat.pow_succ]
    refine Nat.le_trans h1 ?_
    rw [Nat.mul_comm (256 ^ l.length) 256, ← Nat.mul_assoc]
    exact Nat.mul_le_mul_right _ (by omega)
theorem beN_lt (l : List UInt8) : beN l < 256 ^ l.length := by
  have := beN_acc l 0
  unfold beN; omega
def beB (n : Nat) : Nat → List UInt8
  | 0 => []
  | k + 1 => UInt8.ofNat (n / 256 ^ k) :: beB n k
theorem beB_length (n : Nat) : ∀ k, (beB n k).length = k
  | 0 => rfl
  | k + 1 => by simp [beB, beB_length n k]
theorem orLow (a b : Nat) (ha : a < 16777216) (hb : b < 256) : IntKind.u32.wrap ((BitVec.ofInt IntKind.u32.bits (IntKind.u32.wrap ((a : Int) * 2 ^ (min (8 : Int).toNat IntKind.u32.bits))) ||| BitVec.ofInt IntKind.u32.bits (b : Int)).toNat : Int) = ((a * 256 + b : Nat) : Int) := by
  have h1 : IntKind.u32.wrap ((a : Int) * 2 ^ (min (8 : Int).toNat IntKind.u32.bits)) = ((a * 256 : Nat) : Int) := by
    show ((a : Int) * 2 ^ 8) % 4294967296 = _
    omega
  rw [h1]
  have h2 : (BitVec.ofInt IntKind.u32.bits ((a * 256 : Nat) : Int) ||| BitVec.ofInt IntKind.u32.bits (b : Int)).toNat = a * 256 + b := by
    show (BitVec.ofInt 32 ((a * 256 : Nat) : Int) ||| BitVec.ofInt 32 (b : Int)).toNat = a * 256 + b
    rw [BitVec.ofInt_natCast, BitVec.ofInt_natCast, BitVec.toNat_or, BitVec.toNat_ofNat, BitVec.toNat_ofNat, Nat.mod_eq_of_lt (by omega), Nat.mod_eq_of_lt (by omega)]
    have := Nat.two_pow_add_eq_or_of_lt (i := 8) (b := b) hb a
    rw [show a * 256 = 2 ^ 8 * a by omega, this]
  rw [h2]
  show ((a * 256 + b : Nat) : Int) % 4294967296 = _
  omega
theorem shrByte (n k : Nat) (hn : n < 4294967296) (hk : k ≤ 3) : IntKind.u8.wrap ((n : Int).fdiv (2 ^ (min (8 * (k : Int)).toNat IntKind.u32.bits))) = ((UInt8.ofNat (n / 256 ^ k)).toNat : Int) := by
  have h1 : (8 * (k : Int)).toNat = 8 * k := by omega
  have h2 : min (8 * k) IntKind.u32.bits = 8 * k := by show min (8 * k) 32 = 8 * k; omega
  rw [h1, h2, Int.fdiv_eq_ediv_of_nonneg _ (Int.le_of_lt (Int.pow_pos (by omega)))]
  have h3 : (2 : Int) ^ (8 * k) = ((256 ^ k : Nat) : Int) := by rw [Int.natCast_pow, Int.pow_mul]; rfl
  rw [h3, ← Int.natCast_ediv]
  show (((n / 256 ^ k : Nat) : Int)) % 256 = _
  simp
theorem u32_u8 (u : UInt8) : IntKind.u32.wrap (u.toNat : Int) = (u.toNat : Int) := by
  have := u.toNat_lt
  show (u.toNat : Int) % 4294967296 = _
  omega
theorem u16_lt (n : Nat) (h : n < 65536) : IntKind.u16.wrap (n : Int) = (n : Int) := by
  show (n : Int) % 65536 = _
  omega
theorem u8_lt (n : Nat) (h : n < 256) : IntKind.u8.wrap (n : Int) = (n : Int) := by
  show (n : Int) % 256 = _
  omega
theorem u32_lt (n : Nat) (h : n < 4294967296) : IntKind.u32.wrap (n : Int) = (n : Int) := by
  show (n : Int) % 4294967296 = _
  omega
/-! what a reader hands out -/
def rdV (l : List UInt8) (i n : Nat) : Int := if i + n ≤ l.length then (beN ((l.drop i).take n) : Nat) else 0
def rdE (l : List UInt8) (i n : Nat) : Int := if i + n ≤ l.length then 0 else 5
def rdI (l : List UInt8) (i n : Nat) : Nat := if i + n ≤ l.length then i + n else i
theorem rdV_ok {l : List UInt8} {i n : Nat} (h : i + n ≤ l.length) : rdV l i n = (beN ((l.drop i).take n) : Nat) := if_pos h
theorem rdE_ok {l : List UInt8} {i n : Nat} (h : i + n ≤ l.length) : rdE l i n = 0 := if_pos h
theorem rdI_ok {l : List UInt8} {i n : Nat} (h : i + n ≤ l.length) : ((rdI l i n : Nat) : Int) = (i : Int) + n := by unfold rdI; rw [if_pos h]; omega
theorem rdV_no {l : List UInt8} {i n : Nat} (h : ¬ i + n ≤ l.length) : rdV l i n = 0 := if_neg h
theorem rdE_no {l : List UInt8} {i n : Nat} (h : ¬ i + n ≤ l.length) : rdE l i n = 5 := if_neg h
theorem rdI_no {l : List UInt8} {i n : Nat} (h : ¬ i + n ≤ l.length) : ((rdI l i n : Nat) : Int) = (i : Int) := by unfold rdI; rw [if_neg h]
theorem rdI_le {l : List UInt8} {i n : Nat} (h : i ≤ l.length) : rdI l i n ≤ l.length := by unfold rdI; split <;> omega
theorem rdV_lt (l : List UInt8) (i n : Nat) : 0 ≤ rdV l i n ∧ rdV l i n < ((256 ^ n : Nat) : Int) := by
  unfold rdV
  split
  · have h1 := beN_lt ((l.drop i).take n)
    have h2 : 256 ^ ((l.drop i).take n).length ≤ 256 ^ n := Nat.pow_le_pow_right (by omega) (by rw [List.length_take]; omega)
    omega
  · have : 0 < 256 ^ n := Nat.pow_pos (by omega)
    omega
theorem rdV_u8 (l : List UInt8) (i : Nat) : IntKind.u8.wrap (rdV l i 1) = rdV l i 1 := by
  have h := rdV_lt l i 1
  show rdV l i 1 % 256 = _
  omega
theorem rdV_u16 (l : List UInt8) (i : Nat) : IntKind.u16.wrap (rdV l i 2) = rdV l i 2 := by
  have h := rdV_lt l i 2
  show rdV l i 2 % 65536 = _
  omega
def tkB (l : List UInt8) (i n : Nat) : List UInt8 := if i + n ≤ l.length then (l.drop i).take n else []
theorem tkB_ok {l : List UInt8} {i n : Nat} (h : i + n ≤ l.length) : tkB l i n = (l.drop i).take n := if_pos h
theorem tkB_no {l : List UInt8} {i n : Nat} (h : ¬ i + n ≤ l.length) : tkB l i n = [] := if_neg h
theorem tkB_len {l : List UInt8} {i n : Nat} (h : i + n ≤ l.length) : (tkB l i n).length = n := by rw [tkB_ok h, List.length_take, List.length_drop]; omega
theorem byteL_take (l : List UInt8) (n : Nat) : (byteL l).take n = byteL (l.take n) := by simp [byteL]
theorem byteL_drop (l : List UInt8) (n : Nat) : (byteL l).drop n = byteL (l.drop n) := by simp [byteL]
theorem byteL_length (l : List UInt8) : (byteL l).length = l.length := by simp [byteL]
/-! the sum -/
def wordsB : List UInt8 → List Nat
  | a :: b :: r => (a.toNat * 256 + b.toNat) :: wordsB r
  | [a] => [a.toNat * 256]
  | [] => []
theorem wordsB_drop {b : List UInt8} {e : Nat} {x u : UInt8} (hx : b[e]? = some x) (hu : b[e + 1]? = some u) : wordsB (b.drop e) = (x.toNat * 256 + u.toNat) :: wordsB (b.drop (e + 2)) := by
  obtain ⟨h1, h2⟩ := List.getElem?_eq_some_iff.1 hx
  obtain ⟨h3, h4⟩ := List.getElem?_eq_some_iff.1 hu
  rw [List.drop_eq_getElem_cons h1, List.drop_eq_getElem_cons h3, h2, h4]
  rfl
theorem wordsB_last {b : List UInt8} {e : Nat} {x : UInt8} (hx : b[e]? = some x) (hl : b.length ≤ e + 1) : wordsB (b.drop e) = [x.toNat * 256] := by
  obtain ⟨h1, h2⟩ := List.getElem?_eq_some_iff.1 hx
  rw [List.drop_eq_getElem_cons h1, h2, List.drop_eq_nil_of_le hl]
  rfl
theorem wordsB_end {b : List UInt8} {e : Nat} (hl : b.length ≤ e) : wordsB (b.drop e) = [] := by rw [List.drop_eq_nil_of_le hl]; rfl
theorem wordsB_lt : ∀ (l : List UInt8), ∀ n ∈ wordsB l, n < 65536
  | a :: b :: r, n, h => by
    have := a.toNat_lt; have := b.toNat_lt
    rcases List.mem_cons.1 h with rfl | h
    · omega
    · exact wordsB_lt r n h
  | [a], n, h => by have := a.toNat_lt; simp [wordsB] at h; omega
  | [], n, h => by simp [wordsB] at h
theorem or16 (a b : Nat) (ha : a < 256) (hb : b < 256) : IntKind.u16.wrap ((BitVec.ofInt IntKind.u16.bits ((a * 256 : Nat) : Int) ||| BitVec.ofInt IntKind.u16.bits (IntKind.u16.wrap (b : Int))).toNat : Int) = ((a * 256 + b : Nat) : Int) := by
  rw [u16_lt b (by omega)]
  have h2 : (BitVec.ofInt IntKind.u16.bits ((a * 256 : Nat) : Int) ||| BitVec.ofInt IntKind.u16.bits (b : Int)).toNat = a * 256 + b := by
    show (BitVec.ofInt 16 ((a * 256 : Nat) : Int) ||| BitVec.ofInt 16 (b : Int)).toNat = a * 256 + b
    rw [BitVec.ofInt_natCast, BitVec.ofInt_natCast, BitVec.toNat_or, BitVec.toNat_ofNat, BitVec.toNat_ofNat, Nat.mod_eq_of_lt (by omega), Nat.mod_eq_of_lt (by omega)]
    have := Nat.two_pow_add_eq_or_of_lt (i := 8) (b := b) hb a
    rw [show a * 256 = 2 ^ 8 * a by omega, this]
  rw [h2, u16_lt _ (by omega)]
theorem shl16 (u : UInt8) : IntKind.u16.wrap (IntKind.u16.wrap (u.toNat : Int) * 2 ^ (min (8 : Int).toNat IntKind.u16.bits)) = ((u.toNat * 256 : Nat) : Int) := by
  have := u.toNat_lt
  rw [u16_lt _ (by omega)]
  show ((u.toNat : Int) * 2 ^ 8) % 65536 = _
  omega
def addN (a b : Nat) : Nat := ((a + b) % 65536 + (a + b) / 65536) % 65536
theorem addN_lt (a b : Nat) : addN a b < 65536 := Nat.mod_lt _ (by omega)
theorem add16 (a b : Nat) (ha : a < 65536) (hb : b < 65536) : IntKind.u16.wrap (IntKind.u32.wrap (IntKind.u32.wrap ((BitVec.ofInt IntKind.u32.bits (IntKind.u32.wrap (IntKind.u32.wrap (a : Int) + IntKind.u32.wrap (b : Int))) &&& BitVec.ofInt IntKind.u32.bits 65535).toNat : Int) + (IntKind.u32.wrap (IntKind.u32.wrap (a : Int) + IntKind.u32.wrap (b : Int))).fdiv (2 ^ (min (16 : Int).toNat IntKind.u32.bits)))) = ((addN a b : Nat) : Int) := by
  rw [u32_lt a (by omega), u32_lt b (by omega)]
  have h0 : IntKind.u32.wrap ((a : Int) + (b : Int)) = ((a + b : Nat) : Int) := by
    show ((a : Int) + (b : Int)) % 4294967296 = _
    omega
  rw [h0]
  have h2 : (BitVec.ofInt IntKind.u32.bits ((a + b : Nat) : Int) &&& BitVec.ofInt IntKind.u32.bits 65535).toNat = (a + b) % 65536 := by
    show (BitVec.ofInt 32 ((a + b : Nat) : Int) &&& BitVec.ofInt 32 ((65535 : Nat) : Int)).toNat = _
    rw [BitVec.ofInt_natCast, BitVec.ofInt_natCast, BitVec.toNat_and, BitVec.toNat_ofNat, BitVec.toNat_ofNat, Nat.mod_eq_of_lt (by omega), Nat.mod_eq_of_lt (by omega)]
    exact Nat.and_two_pow_sub_one_eq_mod (a + b) 16
  rw [h2, u32_lt _ (by omega)]
  have h3 : (((a + b : Nat) : Int)).fdiv (2 ^ (min (16 : Int).toNat IntKind.u32.bits)) = (((a + b) / 65536 : Nat) : Int) := by
    rw [Int.fdiv_eq_ediv_of_nonneg _ (by show (0 : Int) ≤ 2 ^ 16; omega)]
    show ((a + b : Nat) : Int) / 65536 = _
    omega
  rw [h3]
  have h4 : IntKind.u32.wrap ((((a + b) % 65536 : Nat) : Int) + (((a + b) / 65536 : Nat) : Int)) = (((a + b) % 65536 + (a + b) / 65536 : Nat) : Int) := by
    show _ % 4294967296 = _
    omega
  rw [h4]
  show _ % 65536 = _
  unfold addN
  omega
def sumN (l : List UInt8) : Nat := (wordsB l).foldl addN 0
theorem fold_lt : ∀ (l : List Nat) (a : Nat), a < 65536 → l.foldl addN a < 65536
  | [], a, h => h
  | x :: r, a, _ => fold_lt r _ (addN_lt a x)
theorem sumN_lt (l : List UInt8) : sumN l < 65536 := fold_lt _ _ (by omega)
/-! options -/
structure Opts where
  mss : Int
  permit : Bool
  ts : Bool
  val : Int
  ecr : Int
  has : Bool
  scale : Int
  blocks : List (Int × Int)
def Opts.zero : Opts := ⟨0, false, false, 0, 0, false, 0, []⟩
@[reducible] def bkCs (b : Int × Int) : List Value := [.int .u32 b.1, .int .u32 b.2]
@[reducible] def bkL (l : List (Int × Int)) : List Value := l.flatMap bkCs
theorem bkL_length : ∀ l : List (Int × Int), (bkL l).length = l.length * 2
  | [] => rfl
  | z :: r => by
    have := bkL_length r
    simp only [bkL, List.flatMap_cons, List.length_append, List.length_cons, bkCs, List.length_nil] at this ⊢
    omega
theorem bkL_append (a b : List (Int × Int)) : bkL (a ++ b) = bkL a ++ bkL b := by simp [bkL]
theorem bkL_get (l : List (Int × Int)) (k j : Nat) (z : Int × Int) (h : l[k]? = some z) (hj : j < 2) : (bkL l)[k * 2 + j]? = (bkCs z)[j]? := by
  induction l generalizing k with
  | nil => simp at h
  | cons y r ih =>
    cases k with
    | zero =>
      simp at h; subst h
      simp only [bkL, List.flatMap_cons, Nat.zero_mul, Nat.zero_add]
      rw [List.getElem?_append_left (by simp [bkCs]; omega)]
    | succ k =>
      simp only [List.getElem?_cons_succ] at h
      simp only [bkL, List.flatMap_cons]
      rw [List.getElem?_append_right (by simp [bkCs]; omega)]
      have := ih k h
      rw [← this]
      congr 1
      simp [bkCs]; omega
@[reducible] def optCs (o : Opts) (a : Option Addr) (c : Nat) : List Value := [.int .i64 o.mss, .bool o.permit, .bool o.ts, .int .u32 o.val, .int .u32 o.ecr, .bool o.has, .int .i64 o.scale, .slice a o.blocks.length c]
def bareN (o : Opts) : Nat := (if o.mss ≠ 0 then 4 else 0) + (if o.permit = true then 2 else 0) + (if o.ts = true then 10 else 0) + (if o.has = true then 3 else 0) + (if 0 < o.blocks.length then 2 + 8 * o.blocks.length else 0)
def sizeN (o : Opts) : Nat := if 4 < o.blocks.length then 0 else (bareN o + 3) / 4 * 4
def chkO (o : Opts) : Int :=
  if o.mss < 0 ∨ 65535 < o.mss ∨ o.scale < 0 ∨ 14 < o.scale then 3 else
  if (o.scale ≠ 0 ∧ o.has = false) ∨ ((o.val ≠ 0 ∨ o.ecr ≠ 0) ∧ o.ts = false) then 6 else
  if 4 < o.blocks.length ∨ 40 < sizeN o then 9 else 0
/-! options as bytes -/
structure OptT (o : Opts) : Prop where
  val : 0 ≤ o.val ∧ o.val < 4294967296
  ecr : 0 ≤ o.ecr ∧ o.ecr < 4294967296
  bks : ∀ b ∈ o.blocks, (0 ≤ b.1 ∧ b.1 < 4294967296) ∧ 0 ≤ b.2 ∧ b.2 < 4294967296
structure OptOk (o : Opts) : Prop where
  mss : 0 ≤ o.mss ∧ o.mss ≤ 65535
  scale : 0 ≤ o.scale ∧ o.scale ≤ 14
  len : o.blocks.length ≤ 4
  size : sizeN o ≤ 40
theorem chkO_ok {o : Opts} (h : chkO o = 0) : OptOk o := by
  unfold chkO at h
  split at h
  · omega
  · split at h
    · omega
    · split at h
      · omega
      · exact ⟨by omega, by omega, by omega, by omega⟩
def wp1 (o : Opts) : List UInt8 := if o.mss ≠ 0 then [2, 4] ++ beB o.mss.toNat 2 else []
def wp2 (o : Opts) : List UInt8 := if o.permit = true then [4, 2] else []
def wp3 (o : Opts) : List UInt8 := if o.ts = true then [8, 10] ++ beB o.val.toNat 4 ++ beB o.ecr.toNat 4 else []
def wp4 (o : Opts) : List UInt8 := if o.has = true then [3, 3, UInt8.ofNat o.scale.toNat] else []
def bkB (b : Int × Int) : List UInt8 := beB b.1.toNat 4 ++ beB b.2.toNat 4
def wp5 (o : Opts) : List UInt8 := (if 0 < o.blocks.length then [5, UInt8.ofNat (2 + 8 * o.blocks.length)] else []) ++ o.blocks.flatMap bkB
def wpk (o : Opts) : Nat → List UInt8
  | 0 => wp1 o
  | 1 => wp2 o
  | 2 => wp3 o
  | 3 => wp4 o
  | 4 => wp5 o
  | _ => []
def wpTo (o : Opts) : Nat → List UInt8
  | 0 => []
  | k + 1 => wpTo o k ++ wpk o k
def padL (l : List UInt8) : List UInt8 := l ++ List.replicate ((4 - l.length % 4) % 4) 0
def encO (o : Opts) : List UInt8 := padL (wpTo o 5)
theorem bkB_length (b : Int × Int) : (bkB b).length = 8 := by simp [bkB, beB_length]
theorem bkBs_length : ∀ l : List (Int × Int), (l.flatMap bkB).length = 8 * l.length
  | [] => rfl
  | b :: r => by simp only [List.flatMap_cons, List.length_append, bkB_length, bkBs_length r, List.length_cons]; omega
theorem wpTo_length (o : Opts) : (wpTo o 5).length = bareN o := by
  have e : wpTo o 5 = [] ++ wp1 o ++ wp2 o ++ wp3 o ++ wp4 o ++ wp5 o := rfl
  rw [e]
  simp only [List.length_append, List.length_nil, wp1, wp2, wp3, wp4, wp5, bareN, bkBs_length]
  split <;> split <;> split <;> split <;> split <;> simp [beB_length] <;> omega
theorem padL_length (l : List UInt8) : (padL l).length = (l.length + 3) / 4 * 4 := by
  simp only [padL, List.length_append, List.length_replicate]; omega
theorem encO_length {o : Opts} (h : OptOk o) : (encO o).length = sizeN o := by
  rw [encO, padL_length, wpTo_length]
  unfold sizeN
  rw [if_neg (by have := h.len; omega)]
theorem padL_stop {l : List UInt8} (h : l.length % 4 = 0) : padL l = l := by simp [padL, h]
theorem padL_step {l : List UInt8} (h : l.length % 4 ≠ 0) : padL (l ++ [0]) = padL l := by
  unfold padL
  rw [List.length_append, List.length_singleton, List.append_assoc]
  congr 1
  have h1 : (4 - l.length % 4) % 4 = (4 - (l.length + 1) % 4) % 4 + 1 := by omega
  rw [h1, List.replicate_succ]; rfl
theorem u16_of (n : Int) (h : 0 ≤ n ∧ n ≤ 65535) : IntKind.u16.wrap n = ((n.toNat : Nat) : Int) := by
  show n % 65536 = _
  omega
theorem u8_of (n : Int) (h : 0 ≤ n ∧ n ≤ 255) : IntKind.u8.wrap n = ((UInt8.ofNat n.toNat).toNat : Int) := by
  show n % 256 = _
  simp
  omega
theorem u32_of (n : Int) (h : 0 ≤ n ∧ n < 4294967296) : n = ((n.toNat : Nat) : Int) := by omega
def encR (o : Opts) : List UInt8 := if chkO o = 0 then encO o else []
theorem wpTo_mono (o : Opts) {k m : Nat} (h : k ≤ m) : (wpTo o k).length ≤ (wpTo o m).length := by
  induction m with
  | zero => obtain rfl : k = 0 := by omega
            exact Nat.le_refl _
  | succ m ih =>
    rcases Nat.lt_or_ge m k with h1 | h1
    · obtain rfl : k = m + 1 := by omega
      exact Nat.le_refl _
    · have := ih h1
      simp only [wpTo, List.length_append]
      omega
/-! options read -/
def okB (k n : Nat) : Prop := if k = 2 then n = 2 else if k = 3 then n = 1 else if k = 4 then n = 0 else if k = 8 then n = 8 else if k = 5 then n % 8 = 0 ∧ 1 ≤ n / 8 ∧ n / 8 ≤ 4 else True
instance (k n : Nat) : Decidable (okB k n) := by unfold okB; infer_instance
def blks (b : List UInt8) (n : Nat) : List (Int × Int) := (List.range n).map fun k => (rdV b (8 * k) 4, rdV b (8 * k + 4) 4)
theorem blks_length (b : List UInt8) (n : Nat) : (blks b n).length = n := by simp [blks]
theorem blks_succ (b : List UInt8) (n : Nat) : blks b (n + 1) = blks b n ++ [(rdV b (8 * n) 4, rdV b (8 * n + 4) 4)] := by simp [blks, List.range_succ]
def putO (o : Opts) (k : Nat) (b : List UInt8) : Opts :=
  if k = 2 then { o with mss := rdV b 0 2 } else if k = 3 then { o with has := true, scale := min (rdV b 0 1) 14 } else if k = 4 then { o with permit := true } else
  if k = 8 then { o with ts := true, val := rdV b 0 4, ecr := rdV b 4 4 } else if k = 5 then { o with blocks := blks b (b.length / 8) } else o
theorem rdI_okN {l : List UInt8} {i n : Nat} (h : i + n ≤ l.length) : rdI l i n = i + n := if_pos h
theorem rdE_iff (l : List UInt8) (i n : Nat) : rdE l i n = 0 ↔ i + n ≤ l.length := by
  unfold rdE; split <;> simp [*]
theorem rdV1 (l : List UInt8) (i : Nat) : 0 ≤ rdV l i 1 ∧ rdV l i 1 < 256 := by have := rdV_lt l i 1; simpa using this
theorem rdV2 (l : List UInt8) (i : Nat) : 0 ≤ rdV l i 2 ∧ rdV l i 2 < 65536 := by have := rdV_lt l i 2; simpa using this
theorem rdV4 (l : List UInt8) (i : Nat) : 0 ≤ rdV l i 4 ∧ rdV l i 4 < 4294967296 := by have := rdV_lt l i 4; simpa using this
def parseG (b : List UInt8) : Nat → Nat → Opts → Opts × Int
  | 0, _, o => (o, 0)
  | f + 1, i, o =>
    if b.length ≤ i then (o, 0) else
    if (b.getD i 0).toNat = 0 then (o, 0) else
    if (b.getD i 0).toNat = 1 then parseG b f (i + 1) o else
    if b.length ≤ i + 1 then (Opts.zero, 5) else
    if (b.getD (i + 1) 0).toNat < 2 then (Opts.zero, 6) else
    if b.length < i + (b.getD (i + 1) 0).toNat then (Opts.zero, 5) else
    if okB (b.getD i 0).toNat ((b.getD (i + 1) 0).toNat - 2) then parseG b f (i + (b.getD (i + 1) 0).toNat) (putO o (b.getD i 0).toNat ((b.drop (i + 2)).take ((b.getD (i + 1) 0).toNat - 2))) else (Opts.zero, 6)
def parseO (b : List UInt8) : Opts × Int := if 40 < b.length then (Opts.zero, 9) else parseG b (b.length + 1) 0 Opts.zero
theorem getD_of {b : List UInt8} {i : Nat} {u : UInt8} (h : b[i]? = some u) : b.getD i 0 = u := by simp [List.getD, h]
theorem rdV_one {b : List UInt8} {i : Nat} {u : UInt8} (h : b[i]? = some u) : rdV b i 1 = (u.toNat : Int) := by
  obtain ⟨h1, h2⟩ := List.getElem?_eq_some_iff.1 h
  rw [rdV_ok (by omega), List.drop_eq_getElem_cons h1, h2]
  simp [beN]
/-! segments -/
structure Seg where
  kind : Int
  num : Int
  opt : Opts
  body : List UInt8
@[reducible] def segCs (s : Seg) (oa : Option Addr) (oc : Nat) (ba : Option Addr) (bc : Nat) : List Value := [.int .i64 s.kind, .int .u32 s.num, .int .i64 s.opt.mss, .bool s.opt.permit, .bool s.opt.ts, .int .u32 s.opt.val, .int .u32 s.opt.ecr, .bool s.opt.has, .int .i64 s.opt.scale, .slice oa s.opt.blocks.length oc, .slice ba s.body.length bc]
def kindE (k : Int) : Int := if k ≠ 1 ∧ k ≠ 2 then 8 else 0
def formP (s : Seg) : Prop := (s.kind = 1 ∧ ¬ 0 < s.body.length) ∨ (s.kind ≠ 1 ∧ 0 < s.body.length) ∨ (s.kind = 1 ∧ 0 < s.opt.blocks.length)
instance (s : Seg) : Decidable (formP s) := by unfold formP; infer_instance
def ckk (s : Seg) : Nat → Int
  | 0 => kindE s.kind
  | 1 => chkO s.opt
  | 2 => if formP s then 6 else 0
  | 3 => if 2048 < s.body.length then 9 else 0
  | _ => 0
def chkS (s : Seg) : Int := if ckk s 0 ≠ 0 then ckk s 0 else if ckk s 1 ≠ 0 then ckk s 1 else if ckk s 2 ≠ 0 then ckk s 2 else ckk s 3
theorem chkS_at {s : Seg} {k : Nat} (hk : k < 4) (h : ∀ j, j < k → ckk s j = 0) (hn : ckk s k ≠ 0) : chkS s = ckk s k := by
  unfold chkS
  match k, hk with
  | 0, _ => rw [if_pos hn]
  | 1, _ => rw [if_neg (by simp [h 0 (by omega)]), if_pos hn]
  | 2, _ => rw [if_neg (by simp [h 0 (by omega)]), if_neg (by simp [h 1 (by omega)]), if_pos hn]
  | 3, _ => rw [if_neg (by simp [h 0 (by omega)]), if_neg (by simp [h 1 (by omega)]), if_neg (by simp [h 2 (by omega)])]
theorem chkS_zero {s : Seg} (h : ∀ j, j < 4 → ckk s j = 0) : chkS s = 0 := by
  unfold chkS
  rw [if_neg (by simp [h 0 (by omega)]), if_neg (by simp [h 1 (by omega)]), if_neg (by simp [h 2 (by omega)]), h 3 (by omega)]
theorem chkS_all {s : Seg} (h : chkS s = 0) : ∀ j, j < 4 → ckk s j = 0 := by
  unfold chkS at h
  split at h
  · rename_i h0; exact absurd h h0
  · rename_i h0
    split at h
    · rename_i h1; exact absurd h h1
    · rename_i h1
      split at h
      · rename_i h2; exact absurd h h2
      · rename_i h2
        intro j hj
        match j, hj with
        | 0, _ => exact Decidable.not_not.1 h0
        | 1, _ => exact Decidable.not_not.1 h1
        | 2, _ => exact Decidable.not_not.1 h2
        | 3, _ => exact h
theorem chkS_kind {s : Seg} (h : chkS s = 0) : s.kind = 1 ∨ s.kind = 2 := by
  have := chkS_all h 0 (by omega)
  simp only [ckk, kindE] at this
  split at this <;> omega
theorem chkS_opt {s : Seg} (h : chkS s = 0) : chkO s.opt = 0 := chkS_all h 1 (by omega)
theorem chkS_body {s : Seg} (h : chkS s = 0) : s.body.length ≤ 2048 := by
  have := chkS_all h 3 (by omega)
  simp only [ckk] at this
  split at this <;> omega
def headB (k : Int) (optn : Nat) (check : Nat) (num : Int) : List UInt8 := [UInt8.ofNat k.toNat, UInt8.ofNat (optn / 4)] ++ beB check 2 ++ beB num.toNat 4
def formB (s : Seg) (opt : List UInt8) (check : Nat) : List UInt8 := headB s.kind opt.length check s.num ++ opt ++ s.body
def encS (s : Seg) : List UInt8 := if chkS s = 0 then formB s (encO s.opt) (65535 - sumN (formB s (encO s.opt) 0)) else []
def Seg.zero : Seg := ⟨0, 0, Opts.zero, []⟩
/-- what bytes say, but for what is read of them -/
def decT (b : List UInt8) : Seg × Int :=
  let k := (b.getD 0 0).toNat
  let n := (b.getD 1 0).toNat * 4
  if b.length < 8 then (Seg.zero, 5) else
  if 2096 < b.length then (Seg.zero, 9) else
  if sumN b ≠ 65535 then (Seg.zero, 7) else
  if k ≠ 1 ∧ k ≠ 2 then (Seg.zero, 8) else
  if 40 < n then (Seg.zero, 6) else
  if b.length < 8 + n then (Seg.zero, 5) else
  let p := parseO ((b.drop 8).take n)
  if p.2 ≠ 0 then (Seg.zero, p.2) else
  let s : Seg := ⟨k, rdV b 4 4, p.1, b.drop (8 + n)⟩
  if chkS s ≠ 0 then (Seg.zero, chkS s) else (s, 0)
/-! the search, step by step -/
def srchF (p : Nat → Bool) : Nat → Nat → Nat → Nat
  | 0, i, _ => i
  | f + 1, i, j => if i < j then (if p ((i + j) / 2) = true then srchF p f i ((i + j) / 2) else srchF p f ((i + j) / 2 + 1) j) else i
theorem srchF_le (p : Nat → Bool) (n : Nat) : ∀ f i j, i ≤ j → j ≤ n → srchF p f i j ≤ n
  | 0, i, j, h1, h2 => by simp only [srchF]; omega
  | f + 1, i, j, h1, h2 => by
    simp only [srchF]
    split
    · split
      · exact srchF_le p n f _ _ (by omega) (by omega)
      · exact srchF_le p n f _ _ (by omega) (by omega)
    · omega
def firstI (l : List Sp) (q : Sp → Bool) : Nat := srchF (fun k => q (l.getD k (0, 0))) (l.length + 1) 0 l.length
theorem firstI_le (l : List Sp) (q : Sp → Bool) : firstI l q ≤ l.length := srchF_le _ _ _ _ _ (by omega) (by omega)
theorem shr1 (n : Nat) (h : n < 9223372036854775808) : IntKind.i64.wrap ((IntKind.u64.wrap (n : Int)).fdiv (2 ^ (min (1 : Int).toNat IntKind.u64.bits))) = ((n / 2 : Nat) : Int) := by
  have h1 : IntKind.u64.wrap (n : Int) = (n : Int) := by
    show (n : Int) % 18446744073709551616 = _
    omega
  rw [h1, Int.fdiv_eq_ediv_of_nonneg _ (by show (0 : Int) ≤ 2 ^ 1; omega)]
  have h2 : (n : Int) / (2 ^ (min (1 : Int).toNat IntKind.u64.bits)) = ((n / 2 : Nat) : Int) := by
    show (n : Int) / 2 = _
    omega
  rw [h2, wrap64_id (by omega)]
/-! what of runs is within a span -/
def twL (l : List Sp) (s : Sp) : List Sp := (l.drop (firstI l (fun x => decide (s.1 < x.2)))).takeWhile (fun x => decide (x.1 < s.2))
def meetL (l : List Sp) (s : Sp) : List Sp := (twL l s).map (fun x => meetS x s)
theorem tw_step {l : List Sp} {i : Nat} {x : Sp} (s : Sp) (h : l[i]? = some x) (hx : x.1 < s.2) : (l.drop i).takeWhile (fun x => decide (x.1 < s.2)) = x :: (l.drop (i + 1)).takeWhile (fun x => decide (x.1 < s.2)) := by
  obtain ⟨h1, h2⟩ := List.getElem?_eq_some_iff.1 h
  rw [List.drop_eq_getElem_cons h1, h2, List.takeWhile_cons, if_pos (by simpa using hx)]
theorem tw_stop {l : List Sp} {i : Nat} {x : Sp} (s : Sp) (h : l[i]? = some x) (hx : ¬ x.1 < s.2) : (l.drop i).takeWhile (fun x => decide (x.1 < s.2)) = [] := by
  obtain ⟨h1, h2⟩ := List.getElem?_eq_some_iff.1 h
  rw [List.drop_eq_getElem_cons h1, h2, List.takeWhile_cons, if_neg (by simpa using hx)]
theorem tw_end {l : List Sp} {i : Nat} (s : Sp) (h : l.length ≤ i) : (l.drop i).takeWhile (fun x => decide (x.1 < s.2)) = [] := by rw [List.drop_eq_nil_of_le h]; rfl
/-! what of a span is not in -/
def gp (a x : Int) : List Sp := if a < x then [(a, x)] else []
theorem gp_pos {a x : Int} (h : a < x) : gp a x = [(a, x)] := if_pos h
theorem gp_neg {a x : Int} (h : ¬ a < x) : gp a x = [] := if_neg h
def gapsP (at_ : Int) : List Sp → List Sp × Int
  | [] => ([], at_)
  | x :: r => (gp at_ x.1 ++ (gapsP x.2 r).1, (gapsP x.2 r).2)
theorem gapsP_snoc (x : Sp) : ∀ (l : List Sp) (a : Int), gapsP a (l ++ [x]) = ((gapsP a l).1 ++ gp (gapsP a l).2 x.1, x.2)
  | [], a => by simp only [List.nil_append, gapsP, List.append_nil]
  | y :: r, a => by simp only [List.cons_append, gapsP, gapsP_snoc x r, List.append_assoc]
theorem gapsP_pre {a : Int} {l m : List Sp} (h : l <+: m) : (gapsP a l).1 <+: (gapsP a m).1 := by
  obtain ⟨r, rfl⟩ := h
  induction l generalizing a with
  | nil => exact List.nil_prefix
  | cons y l ih =>
    simp only [List.cons_append, gapsP]
    exact (List.prefix_append_right_inj _).2 ih
def gapsL (l : List Sp) (s : Sp) : List Sp := if lenS s = 0 then [] else (gapsP s.1 (meetL l s)).1 ++ gp (gapsP s.1 (meetL l s)).2 s.2
theorem spL_drop : ∀ (l : List Sp) (i : Nat), (spL l).drop (i * 2) = spL (l.drop i)
  | l, 0 => by simp
  | [], i + 1 => by simp
  | x :: l, i + 1 => by
    have := spL_drop l i
    rw [show (i + 1) * 2 = i * 2 + 2 by omega]
    simp only [spL, List.flatMap_cons, List.drop_succ_cons] at this ⊢
    exact this
theorem spL_take : ∀ (l : List Sp) (i : Nat), (spL l).take (i * 2) = spL (l.take i)
  | l, 0 => by simp
  | [], i + 1 => by simp
  | x :: l, i + 1 => by
    have := spL_take l i
    rw [show (i + 1) * 2 = i * 2 + 2 by omega]
    simp only [spL, List.flatMap_cons, List.take_succ_cons] at this ⊢
    show _ :: _ :: List.take (i * 2) (l.flatMap spCs) = _
    rw [this]; rfl
theorem spL_cut (l : List Sp) (i k : Nat) : ((spL l).drop (i * 2)).take (k * 2) = spL ((l.drop i).take k) := by rw [spL_drop, spL_take]
end Go.Rep
namespace Go.Rep
open Go Go.X
def placeR (base : Int) (tn rn : Nat) (q : Int) (dn : Nat) : Sp × Int :=
  if dn = 0 then ((0, 0), 6) else if 2048 < dn then ((0, 0), 9) else
  match unwrapN tn (IntKind.u32.wrap (q - base)) with
  | none => ((0, 0), 11)
  | some a => if (tn : Int) + rn < a + dn then ((0, 0), 12) else ((a, a + dn), 0)
theorem placeR_0 {base : Int} {tn rn : Nat} {q : Int} {dn : Nat} (h : dn = 0) : placeR base tn rn q dn = ((0, 0), 6) := if_pos h
theorem placeR_9 {base : Int} {tn rn : Nat} {q : Int} {dn : Nat} (h0 : ¬ dn = 0) (h : 2048 < dn) : placeR base tn rn q dn = ((0, 0), 9) := by unfold placeR; rw [if_neg h0, if_pos h]
theorem placeR_11 {base : Int} {tn rn : Nat} {q : Int} {dn : Nat} (h0 : ¬ dn = 0) (h : ¬ 2048 < dn) (hu : unwrapN tn (IntKind.u32.wrap (q - base)) = none) : placeR base tn rn q dn = ((0, 0), 11) := by unfold placeR; rw [if_neg h0, if_neg h, hu]
theorem placeR_12 {base : Int} {tn rn : Nat} {q : Int} {dn : Nat} {a : Int} (h0 : ¬ dn = 0) (h : ¬ 2048 < dn) (hu : unwrapN tn (IntKind.u32.wrap (q - base)) = some a) (h2 : (tn : Int) + rn < a + dn) : placeR base tn rn q dn = ((0, 0), 12) := by unfold placeR; rw [if_neg h0, if_neg h, hu]; dsimp only; rw [if_pos h2]
theorem placeR_ok {base : Int} {tn rn : Nat} {q : Int} {dn : Nat} {a : Int} (h0 : ¬ dn = 0) (h : ¬ 2048 < dn) (hu : unwrapN tn (IntKind.u32.wrap (q - base)) = some a) (h2 : ¬ (tn : Int) + rn < a + dn) : placeR base tn rn q dn = ((a, a + dn), 0) := by unfold placeR; rw [if_neg h0, if_neg h, hu]; dsimp only; rw [if_neg h2]
theorem unwrapN_b {n q a : Int} (h : unwrapN n q = some a) : 0 ≤ a ∧ a ≤ 4611686018427387904 := by
  unfold unwrapN at h
  split at h
  · rename_i h1; injection h with h; subst h; exact h1.2
  · cases h
/-- what place gives, if nothing is wrong -/
theorem placeR_b {base : Int} {tn rn : Nat} {q : Int} {dn : Nat} (h : (placeR base tn rn q dn).2 = 0) : ∃ a : Int, placeR base tn rn q dn = ((a, a + dn), 0) ∧ 0 ≤ a ∧ a + dn ≤ tn + rn ∧ 0 < dn ∧ dn ≤ 2048 := by
  unfold placeR at h ⊢
  split at h
  · cases h
  · rename_i h0
    rw [if_neg h0]
    split at h
    · cases h
    · rename_i h1
      rw [if_neg h1]
      split at h
      · cases h
      · rename_i a ha
        try dsimp only at h ⊢
        split at h
        · cases h
        · rename_i h2
          rw [if_neg h2]
          exact ⟨a, rfl, (unwrapN_b ha).1, by omega, by omega, by omega⟩
def putR (ring d : List UInt8) (lo g : Int) : Nat → List UInt8
  | 0 => ring
  | k + 1 => let r := putR ring d lo g k; r.set ((g + k).toNat % r.length) (d.getD (g + k - lo).toNat 0)
theorem putR_len (ring d : List UInt8) (lo g : Int) : ∀ k, (putR ring d lo g k).length = ring.length
  | 0 => rfl
  | k + 1 => by simp only [putR, List.length_set]; exact putR_len ring d lo g k
def ringL (ring d : List UInt8) (lo : Int) (gs : List Sp) : List UInt8 := gs.foldl (fun r g => putR r d lo g.1 (g.2 - g.1).toNat) ring
theorem ringL_snoc (ring d : List UInt8) (lo : Int) (gs : List Sp) (g : Sp) : ringL ring d lo (gs ++ [g]) = putR (ringL ring d lo gs) d lo g.1 (g.2 - g.1).toNat := by simp [ringL]
theorem ringL_len (ring d : List UInt8) (lo : Int) (gs : List Sp) : (ringL ring d lo gs).length = ring.length := by
  unfold ringL
  induction gs generalizing ring with
  | nil => rfl
  | cons g gs ih => simp only [List.foldl_cons]; rw [ih]; exact putR_len _ _ _ _ _
def fillT (ring t : List UInt8) : Nat → List UInt8
  | 0 => t
  | k + 1 => let u := fillT ring t k; u ++ [ring.getD (u.length % ring.length) 0]
theorem fillT_len (ring t : List UInt8) : ∀ k, (fillT ring t k).length = t.length + k
  | 0 => rfl
  | k + 1 => by simp only [fillT, List.length_append, List.length_singleton]; rw [fillT_len ring t k]; omega
theorem lenS_of {s : Sp} (h0 : 0 ≤ s.1) (h1 : s.1 ≤ s.2) (h2 : s.2 ≤ 4611686018427387904) : lenS s = s.2 - s.1 := by
  unfold lenS
  by_cases he : s.1 = s.2
  · rw [ofS_neg (fun h => h.2 he)]; omega
  · rw [ofS_pos ⟨⟨h0, h1, h2⟩, he⟩]
/-- the place of the first -/
def idxI (l : List Sp) (q : Sp → Bool) : Int := match l.findIdx? q with
  | some i => (i : Int)
  | none => -1
theorem idxI_at {l : List Sp} {q : Sp → Bool} {i : Nat} {x : Sp} (hx : l[i]? = some x) (hq : q x = true) (hb : ∀ y ∈ l.take i, q y = false) : l.findIdx? q = some i := by
  obtain ⟨h1, h2⟩ := List.getElem?_eq_some_iff.1 hx
  rw [List.findIdx?_eq_some_iff_getElem]
  refine ⟨h1, by rw [h2]; exact hq, fun j hj => ?_⟩
  have := hb l[j] (List.mem_take_iff_getElem.2 ⟨j, by omega, rfl⟩)
  simp [this]
theorem idxI_no {l : List Sp} {q : Sp → Bool} (hb : ∀ y ∈ l, q y = false) : l.findIdx? q = none := by
  rw [List.findIdx?_eq_none_iff]; exact hb
theorem del_rows {l : List Sp} {i k : Nat} {cs Y : List Value} (hi : i < l.length) (hk : k = l.length - 1) :
    (((spL l).take (i * 2) ++ (spL l).drop ((i + 1) * 2) ++ Y).take (k * 2) ++ cs).take (k * 2) = spL (l.eraseIdx i) := by
  subst hk
  have h1 : (spL l).take (i * 2) ++ (spL l).drop ((i + 1) * 2) = spL (l.eraseIdx i) := by
    rw [spL_take, spL_drop, ← spL_append, List.eraseIdx_eq_take_drop_succ]
  have h2 : (spL (l.eraseIdx i)).length = (l.length - 1) * 2 := by rw [spL_length, List.length_eraseIdx_of_lt hi]
  rw [h1, ← h2, List.take_left, List.take_left]
def ordStep (l m : List Sp) (s : Sp) : List Sp × List Sp := match l.findIdx? (fun x => decide (0 < lenS (meetS x s))) with
  | some i => (l.eraseIdx i, m ++ [l.getD i (0, 0)])
  | none => (l, m)
def orderF (l0 : List Sp) (xs : List Sp) : List Sp × List Sp := xs.foldl (fun p x => ordStep p.1 p.2 x) (l0, [])
def orderR (l0 above : List Sp) (s : Sp) : List Sp := (orderF l0 (s :: above)).2 ++ (orderF l0 (s :: above)).1
theorem orderF_snoc (l0 xs : List Sp) (x : Sp) : orderF l0 (xs ++ [x]) = ordStep (orderF l0 xs).1 (orderF l0 xs).2 x := by simp [orderF]
theorem ordStep_len (l m : List Sp) (s : Sp) : (ordStep l m s).1.length + (ordStep l m s).2.length = l.length + m.length := by
  unfold ordStep
  split
  · rename_i i hi
    obtain ⟨h1, _⟩ := List.findIdx?_eq_some_iff_getElem.1 hi
    simp only [List.length_eraseIdx_of_lt h1, List.length_append, List.length_singleton]; omega
  · rfl
theorem orderF_len (l0 : List Sp) (xs : List Sp) : (orderF l0 xs).1.length + (orderF l0 xs).2.length = l0.length := by
  unfold orderF
  suffices h : ∀ (xs : List Sp) (p : List Sp × List Sp), (xs.foldl (fun p x => ordStep p.1 p.2 x) p).1.length + (xs.foldl (fun p x => ordStep p.1 p.2 x) p).2.length = p.1.length + p.2.length by
    simpa using h xs (l0, [])
  intro xs
  induction xs with
  | nil => intro p; rfl
  | cons x xs ih => intro p; rw [List.foldl_cons, ih]; exact ordStep_len _ _ _
def bkOf (isn : Int) (x : Sp) : Int × Int := (IntKind.u32.wrap (isn + wrap32 x.1), IntKind.u32.wrap (isn + wrap32 x.2))
def bkStep (isn : Int) (l : List (Int × Int)) (x : Sp) : List (Int × Int) := if 0 < lenS x ∧ l.length < 4 then l ++ [bkOf isn x] else l
theorem bkStep_yes {isn : Int} {l : List (Int × Int)} {x : Sp} (h : 0 < lenS x ∧ l.length < 4) : bkStep isn l x = l ++ [bkOf isn x] := if_pos h
theorem bkStep_no {isn : Int} {l : List (Int × Int)} {x : Sp} (h : ¬ (0 < lenS x ∧ l.length < 4)) : bkStep isn l x = l := if_neg h
def blocksR (isn : Int) (xs : List Sp) : List (Int × Int) := xs.foldl (bkStep isn) []
theorem blocksR_snoc (isn : Int) (xs : List Sp) (x : Sp) : blocksR isn (xs ++ [x]) = bkStep isn (blocksR isn xs) x := by simp [blocksR]
theorem bkStep_len {isn : Int} {l : List (Int × Int)} {x : Sp} (h : l.length ≤ 4) : (bkStep isn l x).length ≤ 4 := by
  unfold bkStep
  split
  · rw [List.length_append, List.length_singleton]; omega
  · exact h
theorem blocksR_len (isn : Int) (xs : List Sp) : (blocksR isn xs).length ≤ 4 := by
  unfold blocksR
  suffices h : ∀ (xs : List Sp) (l : List (Int × Int)), l.length ≤ 4 → (xs.foldl (bkStep isn) l).length ≤ 4 from h xs [] (by simp)
  intro xs
  induction xs with
  | nil => intro l h; exact h
  | cons x xs ih => intro l h; rw [List.foldl_cons]; exact ih _ (bkStep_len h)
theorem putR_step {ring d : List UInt8} {lo g : Int} {k m n : Nat} {u : UInt8} (hn : ring.length = n) (hm : g + k = m) (hu : d[((m : Int) - lo).toNat]? = some u) :
    (byteL (putR ring d lo g k)).set (((m : Int) % (n : Int)).toNat * 1) (Value.int .u8 (u.toNat : Int)) = byteL (putR ring d lo g (k + 1)) := by
  have h1 : ((m : Int) % (n : Int)).toNat * 1 = m % n := by rw [Nat.mul_one, ← Int.natCast_emod]; rfl
  have h2 : (g + (k : Int)).toNat = m := by omega
  have h3 : d.getD (g + (k : Int) - lo).toNat 0 = u := by rw [hm, List.getD_eq_getElem?_getD, hu]; rfl
  rw [h1]
  simp only [putR, h2, h3, putR_len, hn]
  simp [byteL, List.map_set]
theorem fillT_step {ring t : List UInt8} {k n : Nat} {u : UInt8} (hn : ring.length = n) (hu : ring[(fillT ring t k).length % n]? = some u) :
    byteL (fillT ring t k) ++ [Value.int .u8 (u.toNat : Int)] = byteL (fillT ring t (k + 1)) := by
  have h3 : ring.getD ((fillT ring t k).length % ring.length) 0 = u := by rw [hn, List.getD_eq_getElem?_getD, hu]; rfl
  simp only [fillT, h3]
  simp [byteL]
end Go.Rep
set_option maxHeartbeats 1000000
namespace Go.Proofs.YtcbhcdcobgdddaaGreat
open Go Go.X Go.Rep Go.Shelf
theorem ag35 : Ag Go.Proofs.Tryz.prog 35 2 := ⟨_, Go.Proofs.Tryz.underlying35, rfl, by kernel_rfl⟩
theorem bd35 : ∃ fs, Go.Proofs.Tryz.prog.underlying 35 = some (.struct fs) ∧ fs.toList.mapM (fun f => (Go.Proofs.Tryz.prog.info? f.type).map fun i => (f.offset, i.size)) = some [(0, 1), (1, 1)] := ⟨_, Go.Proofs.Tryz.underlying35, by kernel_rfl⟩
theorem fl35_0 : Fld Go.Proofs.Tryz.prog 35 0 0 := ⟨_, _, Go.Proofs.Tryz.underlying35, rfl, rfl, _, (by kernel_rfl : (Go.Proofs.Tryz.prog.info? 3).map (·.size) = some 1), by decide⟩
theorem fl35_1 : Fld Go.Proofs.Tryz.prog 35 1 1 := ⟨_, _, Go.Proofs.Tryz.underlying35, rfl, rfl, _, (by kernel_rfl : (Go.Proofs.Tryz.prog.info? 3).map (·.size) = some 1), by decide⟩
theorem go112 : Goes Go.Proofs.Tryz.prog 112 := enters_of Go.Proofs.Tryz.func112 (by kernel_rfl) rfl
theorem go135 : Goes Go.Proofs.Tryz.prog 135 := enters_of Go.Proofs.Tryz.func135 (by kernel_rfl) rfl
theorem go136 : Goes Go.Proofs.Tryz.prog 136 := enters_of Go.Proofs.Tryz.func136 (by kernel_rfl) rfl
theorem go141 : Goes Go.Proofs.Tryz.prog 141 := enters_of Go.Proofs.Tryz.func141 (by kernel_rfl) rfl
theorem go32 : Goes Go.Proofs.Tryz.prog 32 := enters_of Go.Proofs.Tryz.func32 (by kernel_rfl) rfl
theorem mixo : Go.Proofs.Tryz.prog.follows .mixedOrders = true := by kernel_rfl
theorem sc3 : Sc Go.Proofs.Tryz.prog 3 := ⟨_, Go.Proofs.Tryz.underlying3, rfl, by kernel_rfl⟩
theorem zr35 : Zr Go.Proofs.Tryz.prog 35 (.agg #[.int .i64 0, .int .i64 0]) := by unfold Zr; kernel_rfl
theorem intSp : IntSt Go.Proofs.Tryz.prog 35 2 := ⟨⟨_, Go.Proofs.Tryz.underlying35, by kernel_rfl, fun f hf => by
  simp at hf
  rcases hf with rfl | rfl
  all_goals exact ⟨by kernel_rfl, _, Go.Proofs.Tryz.underlying3⟩⟩, by kernel_rfl, by kernel_rfl⟩
theorem ints2 (a b c d : Int) : ∀ i, i < 2 → ∃ k x y, ([.int .i64 a, .int .i64 b] : List Value)[i]? = some (.int k x) ∧ ([.int .i64 c, .int .i64 d] : List Value)[i]? = some (.int k y) := fun i hi => by
  match i, hi with
  | 0, _ | 1, _ => exact ⟨_, _, _, rfl, rfl⟩
theorem span_May (a b : Int) (w : World) : Pur Go.Proofs.Tryz.prog 141 [.agg #[.int .i64 a, .int .i64 b]] (.bool (decide (May (a, b)))) w := by
  refine pur_of Go.Proofs.Tryz.func141 rfl Go.Proofs.Tryz.ntmps141 rfl ?_
  change C _ _ _ _ _ _ _ ⟨[(0, _)], []⟩ _
  refine C.regS ?_
  refine L.bxa rfl ?_; intro b1
  refine L.yl (Y.as rfl) ?_
  refine L.nil ?_
  refine C.regS ?_
  first | refine L.yl (Y.fa0 fl35_0 rfl) ?_ | refine L.yl (Y.fa fl35_0 rfl) ?_ | refine L.yl (Y.fas fl35_0 rfl (by simp; omega)) ?_
  refine L.yl (Y.ld sc3 rfl rfl) ?_
  refine L.yl (Y.geq rfl rfl) ?_
  refine L.yl (Y.mv rfl) ?_
  refine L.gsplit (i := 6) rfl (fun hg6 => ?_) (fun hg6 => ?_)
  ·
    refine L.gOn (t := 6) rfl rfl ?_
    first | refine L.yl (Y.fa0 fl35_0 rfl) ?_ | refine L.yl (Y.fa fl35_0 rfl) ?_ | refine L.yl (Y.fas fl35_0 rfl (by simp; omega)) ?_
    refine L.gOn (t := 6) rfl rfl ?_
    refine L.yl (Y.ld sc3 rfl rfl) ?_
    refine L.gOn (t := 6) rfl rfl ?_
    first | refine L.yl (Y.fa0 fl35_1 rfl) ?_ | refine L.yl (Y.fa fl35_1 rfl) ?_ | refine L.yl (Y.fas fl35_1 rfl (by simp; omega)) ?_
    refine L.gOn (t := 6) rfl rfl ?_
    refine L.yl (Y.ld sc3 rfl rfl) ?_
    refine L.gOn (t := 6) rfl rfl ?_
    refine L.yl (Y.leq rfl rfl) ?_
    refine L.yl (Y.pickT rfl rfl) ?_
    refine L.yl (Y.mv rfl) ?_
    refine L.gsplit (i := 13) rfl (fun hg13 => ?_) (fun hg13 => ?_)
    ·
      refine L.gOn (t := 13) rfl rfl ?_
      first | refine L.yl (Y.fa0 fl35_1 rfl) ?_ | refine L.yl (Y.fa fl35_1 rfl) ?_ | refine L.yl (Y.fas fl35_1 rfl (by simp; omega)) ?_
      refine L.gOn (t := 13) rfl rfl ?_
      refine L.yl (Y.ld sc3 rfl rfl) ?_
      refine L.gOn (t := 13) rfl rfl ?_
      refine L.yl (Y.leq rfl rfl) ?_
      refine L.yl (Y.pickT rfl rfl) ?_
      refine L.yl (Y.as rfl) ?_
      refine L.nil ?_
      refine C.ret ?_
      refine FnPost.r1 Go.Proofs.Tryz.results141 rfl ?_
      unfold May; simp [*] <;> omega
    ·
      refine L.gOff (t := 13) rfl rfl rfl ?_
      refine L.gOff (t := 13) rfl rfl rfl ?_
      refine L.gOff (t := 13) rfl rfl rfl ?_
      refine L.yl (Y.pickF rfl rfl) ?_
      refine L.yl (Y.as rfl) ?_
      refine L.nil ?_
      refine C.ret ?_
      refine FnPost.r1 Go.Proofs.Tryz.results141 rfl ?_
      unfold May; simp [*] <;> omega
  ·
    refine L.gOff (t := 6) rfl rfl rfl ?_
    refine L.gOff (t := 6) rfl rfl rfl ?_
    refine L.gOff (t := 6) rfl rfl rfl ?_
    refine L.gOff (t := 6) rfl rfl rfl ?_
    refine L.gOff (t := 6) rfl rfl rfl ?_
    refine L.yl (Y.pickF rfl rfl) ?_
    refine L.yl (Y.mv rfl) ?_
    refine L.gOff (t := 13) rfl rfl rfl ?_
    refine L.gOff (t := 13) rfl rfl rfl ?_
    refine L.gOff (t := 13) rfl rfl rfl ?_
    refine L.yl (Y.pickF rfl rfl) ?_
    refine L.yl (Y.as rfl) ?_
    refine L.nil ?_
    refine C.ret ?_
    refine FnPost.r1 Go.Proofs.Tryz.results141 rfl ?_
    unfold May; simp [*] <;> omega
theorem span_plain (a b : Int) (w : World) : Pur Go.Proofs.Tryz.prog 112 [.agg #[.int .i64 a, .int .i64 b]] (spV (ofS (a, b))) w := by
  refine pur_of Go.Proofs.Tryz.func112 rfl Go.Proofs.Tryz.ntmps112 rfl ?_
  change C _ _ _ _ _ _ _ ⟨[(0, _)], []⟩ _
  refine C.regS ?_
  refine L.bxa rfl ?_; intro b1
  refine L.al (zs := [.int .i64 0, .int .i64 0]) zr35 rfl ?_; intro b2
  refine L.nil ?_
  refine C.seq ?_
  refine C.test (¬ (May (a, b) ∧ a ≠ b)) ?_ (fun hc1 => ?_) (fun hc1 => ?_)
  ·
    refine L.yl (Y.lda (vs := [_, _]) ag35 rfl rfl) ?_
    refine L.callP go141 rfl (fun w hw => span_May _ _ w) ?_
    first | refine L.yl (Y.notP rfl) ?_ | refine L.yl (Y.not rfl) ?_
    refine L.yl (Y.mv rfl) ?_
    refine L.gsplit (i := 6) rfl (fun hg6 => ?_) (fun hg6 => ?_)
    ·
      refine L.gOff (t := 6) rfl rfl rfl ?_
      refine L.gOff (t := 6) rfl rfl rfl ?_
      refine L.gOff (t := 6) rfl rfl rfl ?_
      refine L.gOff (t := 6) rfl rfl rfl ?_
      refine L.gOff (t := 6) rfl rfl rfl ?_
      refine L.yl (Y.pickT rfl rfl) ?_
      refine L.nil ?_
      exact ⟨_, rfl, by first | (have hmm := Decidable.not_not.1 hg6; simp [*]; done) | simp [*] | (simp [*] <;> omega), (by repeat (first | exact Inc.refl _ | refine Inc.cons rfl ?_)), rfl, rfl⟩
    ·
      refine L.gOn (t := 6) rfl rfl ?_
      first | refine L.yl (Y.fa0 fl35_0 rfl) ?_ | refine L.yl (Y.fa fl35_0 rfl) ?_ | refine L.yl (Y.fas fl35_0 rfl (by simp; omega)) ?_
      refine L.gOn (t := 6) rfl rfl ?_
      refine L.yl (Y.ld sc3 rfl rfl) ?_
      refine L.gOn (t := 6) rfl rfl ?_
      first | refine L.yl (Y.fa0 fl35_1 rfl) ?_ | refine L.yl (Y.fa fl35_1 rfl) ?_ | refine L.yl (Y.fas fl35_1 rfl (by simp; omega)) ?_
      refine L.gOn (t := 6) rfl rfl ?_
      refine L.yl (Y.ld sc3 rfl rfl) ?_
      refine L.gOn (t := 6) rfl rfl ?_
      refine L.yl (Y.eqi rfl rfl) ?_
      refine L.yl (Y.pickF rfl rfl) ?_
      refine L.nil ?_
      exact ⟨_, rfl, by first | (have hmm := Decidable.not_not.1 hg6; simp [*]; done) | simp [*] | (simp [*] <;> omega), (by repeat (first | exact Inc.refl _ | refine Inc.cons rfl ?_)), rfl, rfl⟩
  ·
    refine C.regS ?_
    refine L.yl (Y.bdL (cs := [_, _]) zr35 bd35 rfl rfl rfl) ?_
    refine L.sta (vs := [_, _]) ag35 rfl rfl rfl rfl rfl ?_
    refine L.nil ?_
    refine C.ret ?_
    refine Then.r ?_
    refine FnPost.rg (xs := [.cell 2 35]) (congrArg Array.toList Go.Proofs.Tryz.results112) (ra_ag (us := [_, _]) rfl ag35 rfl ra_nil) ?_
    rw [ofS_neg hc1]; rfl
  ·
    refine C.skip ?_
    refine Then.n ?_
    refine C.regS ?_
    refine L.yl (Y.lda (vs := [_, _]) ag35 rfl rfl) ?_
    refine L.sta (vs := [_, _]) ag35 rfl rfl rfl rfl rfl ?_
    refine L.nil ?_
    refine C.ret ?_
    refine FnPost.rg (xs := [.cell 2 35]) (congrArg Array.toList Go.Proofs.Tryz.results112) (ra_ag (us := [_, _]) rfl ag35 rfl ra_nil) ?_
    rw [ofS_pos (Decidable.not_not.1 hc1)]; rfl
theorem span_none (a b : Int) (w : World) : Pur Go.Proofs.Tryz.prog 144 [.agg #[.int .i64 a, .int .i64 b]] (.bool (decide (noneS (a, b)))) w := by
  refine pur_of Go.Proofs.Tryz.func144 rfl Go.Proofs.Tryz.ntmps144 rfl ?_
  change C _ _ _ _ _ _ _ ⟨[(0, _)], []⟩ _
  refine C.regS ?_
  refine L.bxa rfl ?_; intro b1
  refine L.yl (Y.as rfl) ?_
  refine L.nil ?_
  refine C.regS ?_
  refine L.yl (Y.lda (vs := [_, _]) ag35 rfl rfl) ?_
  refine L.callP go112 rfl (fun w hw => span_plain _ _ w) ?_
  refine L.yl (Y.bdL (cs := [_, _]) zr35 bd35 rfl rfl rfl) ?_
  refine L.eqSt intSp rfl rfl rfl rfl (ints2 _ _ 0 0) (fun q hq => ?_)
  refine L.yl (Y.as rfl) ?_
  refine L.nil ?_
  refine C.ret ?_
  refine FnPost.r1 Go.Proofs.Tryz.results144 rfl ?_
  have hqq : q = decide (noneS (a, b)) := by
    rw [Bool.eq_iff_iff, hq]; unfold noneS; constructor
    · intro h; simp at h; simp [Prod.ext_iff, h]
    · intro h; have h := of_decide_eq_true h; simp [h]
  rw [hqq]
theorem span_Len (a b : Int) (w : World) : Pur Go.Proofs.Tryz.prog 70 [.agg #[.int .i64 a, .int .i64 b]] (.int .i64 (lenS (a, b))) w := by
  have hb := ofS_b (a, b)
  refine pur_of Go.Proofs.Tryz.func70 rfl Go.Proofs.Tryz.ntmps70 rfl ?_
  change C _ _ _ _ _ _ _ ⟨[(0, _)], []⟩ _
  refine C.regS ?_
  refine L.bxa rfl ?_; intro b1
  refine L.yl (Y.as rfl) ?_
  refine L.nil ?_
  refine C.regS ?_
  refine L.yl (Y.lda (vs := [_, _]) ag35 rfl rfl) ?_
  refine L.callP go112 rfl (fun w hw => span_plain _ _ w) ?_
  refine L.sta (vs := [_, _]) ag35 rfl rfl rfl rfl rfl ?_
  refine L.nil ?_
  refine C.regS ?_
  first | refine L.yl (Y.fa0 fl35_1 rfl) ?_ | refine L.yl (Y.fa fl35_1 rfl) ?_ | refine L.yl (Y.fas fl35_1 rfl (by simp; omega)) ?_
  refine L.yl (Y.ld sc3 rfl rfl) ?_
  first | refine L.yl (Y.fa0 fl35_0 rfl) ?_ | refine L.yl (Y.fa fl35_0 rfl) ?_ | refine L.yl (Y.fas fl35_0 rfl (by simp; omega)) ?_
  refine L.yl (Y.ld sc3 rfl rfl) ?_
  first | refine L.yl (Y.sub rfl rfl (by omega)) ?_ | refine L.yl (Y.subW rfl rfl) ?_
  refine L.yl (Y.as rfl) ?_
  refine L.nil ?_
  refine C.ret ?_
  refine FnPost.r1 Go.Proofs.Tryz.results70 rfl ?_
  exact rfl
theorem span_Meet (a b c d : Int) (w : World) : Pur Go.Proofs.Tryz.prog 78 [.agg #[.int .i64 a, .int .i64 b], .agg #[.int .i64 c, .int .i64 d]] (spV (meetS (a, b) (c, d))) w := by
  refine pur_of Go.Proofs.Tryz.func78 rfl Go.Proofs.Tryz.ntmps78 rfl ?_
  change C _ _ _ _ _ _ _ ⟨[(0, _), (1, _)], []⟩ _
  refine C.regS ?_
  refine L.bxa rfl ?_; intro b2
  refine L.bxa rfl ?_; intro b3
  refine L.al (zs := [.int .i64 0, .int .i64 0]) zr35 rfl ?_; intro b4
  refine L.nil ?_
  refine C.drwBS [b2] (.y 2 (.h 0 (.h 1 (.h 3 (.h 4 (.last 5)))))) mixo (by kernel_rfl) ?_
  refine V.yl rfl (Y.lda (vs := [_, _]) ag35 rfl rfl) ?_
  refine V.hv rfl ?_
  refine L.apc ?_
  refine L.yl (Y.lda (vs := [_, _]) ag35 rfl rfl) ?_
  refine L.nil ?_
  refine V.on ?_
  refine V.hv rfl ?_
  refine L.apc ?_
  refine L.callP go112 rfl (fun w hw => span_plain _ _ w) ?_
  refine L.nil ?_
  refine V.on ?_
  refine V.hv rfl ?_
  refine L.apc ?_
  refine L.callP go112 rfl (fun w hw => span_plain _ _ w) ?_
  refine L.nil ?_
  refine V.on ?_
  refine V.hv rfl ?_
  refine L.apc ?_
  refine L.sta (vs := [_, _]) ag35 rfl rfl rfl rfl rfl ?_
  refine L.nil ?_
  refine V.on ?_
  refine V.ls rfl ?_
  refine L.apc ?_
  refine L.sta (vs := [_, _]) ag35 rfl rfl rfl rfl rfl ?_
  refine L.nil ?_
  refine C.regS ?_
  first | refine L.yl (Y.fa0 fl35_0 rfl) ?_ | refine L.yl (Y.fa fl35_0 rfl) ?_ | refine L.yl (Y.fas fl35_0 rfl (by simp; omega)) ?_
  refine L.yl (Y.ld sc3 rfl rfl) ?_
  first | refine L.yl (Y.fa0 fl35_0 rfl) ?_ | refine L.yl (Y.fa fl35_0 rfl) ?_ | refine L.yl (Y.fas fl35_0 rfl (by simp; omega)) ?_
  refine L.yl (Y.ld sc3 rfl rfl) ?_
  refine L.yl (Y.max2 rfl rfl) ?_
  first | refine L.yl (Y.fa0 fl35_1 rfl) ?_ | refine L.yl (Y.fa fl35_1 rfl) ?_ | refine L.yl (Y.fas fl35_1 rfl (by simp; omega)) ?_
  refine L.yl (Y.ld sc3 rfl rfl) ?_
  first | refine L.yl (Y.fa0 fl35_1 rfl) ?_ | refine L.yl (Y.fa fl35_1 rfl) ?_ | refine L.yl (Y.fas fl35_1 rfl (by simp; omega)) ?_
  refine L.yl (Y.ld sc3 rfl rfl) ?_
  refine L.yl (Y.min2 rfl rfl) ?_
  refine L.yl (Y.bdL (cs := [_, _]) zr35 bd35 rfl rfl rfl) ?_
  refine L.callP go112 rfl (fun w hw => span_plain _ _ w) ?_
  refine L.sta (vs := [_, _]) ag35 rfl rfl rfl rfl rfl ?_
  refine L.nil ?_
  refine C.ret ?_
  refine FnPost.rg (xs := [.cell 4 35]) (congrArg Array.toList Go.Proofs.Tryz.results78) (ra_ag (us := [_, _]) rfl ag35 rfl ra_nil) ?_
  rfl
theorem span_From (a b c : Int) (w : World) : Pur Go.Proofs.Tryz.prog 138 [.agg #[.int .i64 a, .int .i64 b], .int .i64 c] (spV (fromS (a, b) c)) w := by
  refine pur_of Go.Proofs.Tryz.func138 rfl Go.Proofs.Tryz.ntmps138 rfl ?_
  change C _ _ _ _ _ _ _ ⟨[(0, _), (1, _)], []⟩ _
  refine C.regS ?_
  refine L.bxa rfl ?_; intro b2
  refine L.al (zs := [.int .i64 0, .int .i64 0]) zr35 rfl ?_; intro b4
  refine L.nil ?_
  refine C.regS ?_
  refine L.yl (Y.lda (vs := [_, _]) ag35 rfl rfl) ?_
  refine L.callP go112 rfl (fun w hw => span_plain _ _ w) ?_
  refine L.sta (vs := [_, _]) ag35 rfl rfl rfl rfl rfl ?_
  refine L.nil ?_
  refine C.regS ?_
  first | refine L.yl (Y.fa0 fl35_0 rfl) ?_ | refine L.yl (Y.fa fl35_0 rfl) ?_ | refine L.yl (Y.fas fl35_0 rfl (by simp; omega)) ?_
  refine L.yl (Y.ld sc3 rfl rfl) ?_
  refine L.yl (Y.mv rfl) ?_
  refine L.yl (Y.max2 rfl rfl) ?_
  first | refine L.yl (Y.fa0 fl35_1 rfl) ?_ | refine L.yl (Y.fa fl35_1 rfl) ?_ | refine L.yl (Y.fas fl35_1 rfl (by simp; omega)) ?_
  refine L.yl (Y.ld sc3 rfl rfl) ?_
  refine L.yl (Y.bdL (cs := [_, _]) zr35 bd35 rfl rfl rfl) ?_
  refine L.callP go112 rfl (fun w hw => span_plain _ _ w) ?_
  refine L.sta (vs := [_, _]) ag35 rfl rfl rfl rfl rfl ?_
  refine L.nil ?_
  refine C.ret ?_
  refine FnPost.rg (xs := [.cell 4 35]) (congrArg Array.toList Go.Proofs.Tryz.results138) (ra_ag (us := [_, _]) rfl ag35 rfl ra_nil) ?_
  rfl
theorem seq_Wrap (n : Int) (w : World) : Pur Go.Proofs.Tryz.prog 32 [.int .i64 n] (.int .u32 (wrap32 n)) w := by
  refine pur_of Go.Proofs.Tryz.func32 rfl Go.Proofs.Tryz.ntmps32 rfl ?_
  change C _ _ _ _ _ _ _ ⟨[(0, _)], []⟩ _
  refine C.regS ?_
  refine L.yl (Y.as rfl) ?_
  refine L.nil ?_
  refine C.regS ?_
  refine L.yl (Y.mv rfl) ?_
  refine L.yl (Y.cvW Go.Proofs.Tryz.underlying22 ⟨_, Go.Proofs.Tryz.underlying3⟩ rfl) ?_
  refine L.yl (Y.as rfl) ?_
  refine L.nil ?_
  refine C.ret ?_
  refine FnPost.r1 Go.Proofs.Tryz.results32 rfl ?_
  exact rfl
theorem seq_fits (n : Int) (w : World) : Pur Go.Proofs.Tryz.prog 135 [.int .i64 n] (.bool (decide (fitsN n))) w := by
  refine pur_of Go.Proofs.Tryz.func135 rfl Go.Proofs.Tryz.ntmps135 rfl ?_
  change C _ _ _ _ _ _ _ ⟨[(0, _)], []⟩ _
  refine C.regS ?_
  refine L.yl (Y.as rfl) ?_
  refine L.nil ?_
  refine C.regS ?_
  refine L.yl (Y.mv rfl) ?_
  refine L.yl (Y.geq rfl rfl) ?_
  refine L.yl (Y.mv rfl) ?_
  refine L.gsplit (i := 5) rfl (fun hg5 => ?_) (fun hg5 => ?_)
  ·
    refine L.gOn (t := 5) rfl rfl ?_
    refine L.yl (Y.mv rfl) ?_
    refine L.gOn (t := 5) rfl rfl ?_
    refine L.yl (Y.leq rfl rfl) ?_
    refine L.yl (Y.pickT rfl rfl) ?_
    refine L.yl (Y.as rfl) ?_
    refine L.nil ?_
    refine C.ret ?_
    refine FnPost.r1 Go.Proofs.Tryz.results135 rfl ?_
    unfold fitsN; simp [*] <;> omega
  ·
    refine L.gOff (t := 5) rfl rfl rfl ?_
    refine L.gOff (t := 5) rfl rfl rfl ?_
    refine L.yl (Y.pickF rfl rfl) ?_
    refine L.yl (Y.as rfl) ?_
    refine L.nil ?_
    refine C.ret ?_
    refine FnPost.r1 Go.Proofs.Tryz.results135 rfl ?_
    unfold fitsN; simp [*] <;> omega
theorem seq_Dist (a b : Int) (w : World) : Pur Go.Proofs.Tryz.prog 136 [.int .u32 a, .int .u32 b] (.int .i64 (distN a b)) w := by
  refine pur_of Go.Proofs.Tryz.func136 rfl Go.Proofs.Tryz.ntmps136 rfl ?_
  change C _ _ _ _ _ _ _ ⟨[(0, _), (1, _)], []⟩ _
  refine C.regS ?_
  refine L.yl (Y.as rfl) ?_
  refine L.nil ?_
  refine C.regS ?_
  refine L.yl (Y.mv rfl) ?_
  refine L.yl (Y.mv rfl) ?_
  refine L.yl (Y.subW rfl rfl) ?_
  refine L.yl (Y.cvW Go.Proofs.Tryz.underlying21 ⟨_, Go.Proofs.Tryz.underlying22⟩ rfl) ?_
  refine L.yl (Y.cvW Go.Proofs.Tryz.underlying3 ⟨_, Go.Proofs.Tryz.underlying21⟩ rfl) ?_
  refine L.yl (Y.as rfl) ?_
  refine L.nil ?_
  refine C.ret ?_
  refine FnPost.r1 Go.Proofs.Tryz.results136 rfl ?_
  exact rfl
theorem seq_Unwrap (n q : Int) (w : World) : Pur Go.Proofs.Tryz.prog 108 [.int .i64 n, .int .u32 q] (.tuple #[.int .i64 ((unwrapN n q).getD 0), .bool (decide (unwrapN n q ≠ none))]) w := by
  refine pur_of Go.Proofs.Tryz.func108 rfl Go.Proofs.Tryz.ntmps108 rfl ?_
  change C _ _ _ _ _ _ _ ⟨[(0, _), (1, _)], []⟩ _
  refine C.regS ?_
  refine L.yl (Y.as rfl) ?_
  refine L.yl (Y.as rfl) ?_
  refine L.nil ?_
  refine C.seq ?_
  refine C.regS ?_
  refine L.yl (Y.mv rfl) ?_
  refine L.callP go135 rfl (fun w hw => seq_fits _ w) ?_
  first | refine L.yl (Y.notP rfl) ?_ | refine L.yl (Y.not rfl) ?_
  refine L.nil ?_
  refine C.condP rfl (fun hc1 => ?_) (fun hc1 => ?_)
  ·
    refine C.regS ?_
    refine L.yl (Y.as rfl) ?_
    refine L.yl (Y.as rfl) ?_
    refine L.nil ?_
    refine C.ret ?_
    refine Then.r ?_
    refine FnPost.r2 Go.Proofs.Tryz.results108 rfl rfl ?_
    have : unwrapN n q = none := if_neg (fun h => hc1 h.1)
    rw [this]; rfl
  ·
    have hd := distN_b (wrap32 n) q
    replace hc1 : fitsN n := Decidable.not_not.1 hc1
    have hfx : 0 ≤ n ∧ n ≤ 4611686018427387904 := hc1
    refine C.skip ?_
    refine Then.n ?_
    refine C.regS ?_
    refine L.yl (Y.mv rfl) ?_
    refine L.yl (Y.mv rfl) ?_
    refine L.callP go32 rfl (fun w hw => seq_Wrap _ w) ?_
    refine L.yl (Y.mv rfl) ?_
    refine L.callP go136 rfl (fun w hw => seq_Dist _ _ w) ?_
    first | refine L.yl (Y.add rfl rfl (by omega)) ?_ | refine L.yl (Y.addW rfl rfl) ?_
    refine L.yl (Y.as rfl) ?_
    refine L.nil ?_
    refine C.seq ?_
    refine C.regS ?_
    refine L.yl (Y.mv rfl) ?_
    refine L.callP go135 rfl (fun w hw => seq_fits _ w) ?_
    first | refine L.yl (Y.notP rfl) ?_ | refine L.yl (Y.not rfl) ?_
    refine L.nil ?_
    refine C.condP rfl (fun hc2 => ?_) (fun hc2 => ?_)
    ·
      refine C.regS ?_
      refine L.yl (Y.as rfl) ?_
      refine L.yl (Y.as rfl) ?_
      refine L.nil ?_
      refine C.ret ?_
      refine Then.r ?_
      refine FnPost.r2 Go.Proofs.Tryz.results108 rfl rfl ?_
      have : unwrapN n q = none := if_neg (fun h => hc2 h.2)
      rw [this]; rfl
    ·
      refine C.skip ?_
      refine Then.n ?_
      refine C.regS ?_
      refine L.yl (Y.mv rfl) ?_
      refine L.yl (Y.as rfl) ?_
      refine L.yl (Y.as rfl) ?_
      refine L.nil ?_
      refine C.ret ?_
      refine FnPost.r2 Go.Proofs.Tryz.results108 rfl rfl ?_
      have : unwrapN n q = some (n + distN (wrap32 n) q) := if_pos ⟨hc1, Decidable.not_not.1 hc2⟩
      rw [this]; rfl
end Go.Proofs.YtcbhcdcobgdddaaGreat
set_option maxHeartbeats 1000000
namespace Go.Proofs.YtcbhcdcobgdddaaGreat
open Go Go.X Go.Rep Go.Shelf
theorem bd149 : ∃ fs, Go.Proofs.Tryz.prog.underlying 149 = some (.struct fs) ∧ fs.toList.mapM (fun f => (Go.Proofs.Tryz.prog.info? f.type).map fun i => (f.offset, i.size)) = some [(0, 1), (1, 1)] := ⟨_, Go.Proofs.Tryz.underlying149, by kernel_rfl⟩
theorem elt31 : ElT Go.Proofs.Tryz.prog 31 5 1 1 := ElT.of (z := .int .u8 0) Go.Proofs.Tryz.underlying31 (by kernel_rfl) rfl (by decide)
theorem fl149_0 : Fld Go.Proofs.Tryz.prog 149 0 0 := ⟨_, _, Go.Proofs.Tryz.underlying149, rfl, rfl, _, (by kernel_rfl : (Go.Proofs.Tryz.prog.info? 31).map (·.size) = some 1), by decide⟩
theorem fl149_1 : Fld Go.Proofs.Tryz.prog 149 1 1 := ⟨_, _, Go.Proofs.Tryz.underlying149, rfl, rfl, _, (by kernel_rfl : (Go.Proofs.Tryz.prog.info? 3).map (·.size) = some 1), by decide⟩
theorem go100 : Goes Go.Proofs.Tryz.prog 100 := enters_of Go.Proofs.Tryz.func100 (by kernel_rfl) rfl
theorem go99 : Goes Go.Proofs.Tryz.prog 99 := enters_of Go.Proofs.Tryz.func99 (by kernel_rfl) rfl
theorem sc31 : Sc Go.Proofs.Tryz.prog 31 := ⟨_, Go.Proofs.Tryz.underlying31, rfl, by kernel_rfl⟩
theorem sc5 : Sc Go.Proofs.Tryz.prog 5 := ⟨_, Go.Proofs.Tryz.underlying5, rfl, by kernel_rfl⟩
theorem slt31 : SlT Go.Proofs.Tryz.prog 31 5 1 := ⟨Go.Proofs.Tryz.underlying31, by kernel_rfl, by decide⟩
theorem zr149 : Zr Go.Proofs.Tryz.prog 149 (.agg #[.slice none 0 0, .int .i64 0]) := by unfold Zr; kernel_rfl
theorem oc_NewReader (a : Option Addr) (l : List UInt8) (c : Nat) (hl : l.length ≤ 140737488355328) (w : World) (h : Rs w a (byteL l)) : Calls Go.Proofs.Tryz.prog 58 #[.slice a l.length c] w (Post w [] (fun r Γ => ∃ p a c, r = .pointer (some ⟨p, 0, none⟩) ∧ Γ = [blk p [.slice a l.length c, .int .i64 (0)] 149, own 5 1 a l.length c (byteL l)])) := by
  haveI hrd : ∀ Γ, Rd w (fps []) Γ a (byteL l) := fun Γ => Rd.old0 h Γ
  refine spec_of Go.Proofs.Tryz.func58 rfl Go.Proofs.Tryz.ntmps58 rfl (Holds.nil w) ?_
  change C _ _ _ _ _ _ _ ⟨[(0, _)], []⟩ _
  refine C.regS ?_
  refine L.yl (Y.as rfl) ?_
  refine L.nil ?_
  refine C.regS ?_
  refine L.bsl elt31 rfl rfl rfl (by decide) ?_; intro b3
  refine L.yl (Y.mv rfl) ?_
  refine L.app elt31 rfl rfl (by rfl) (by first | (simp; done) | (simp [byteL]; done)) (by omega) (by omega) ?_; intro a5 c5
  refine L.yl (Y.bdL (cs := [_, _]) zr149 bd149 rfl rfl rfl) ?_
  refine L.bxa rfl ?_; intro b7
  refine L.yl (Y.as rfl) ?_
  refine L.nil ?_
  refine C.ret ?_
  refine FnPost.r1 Go.Proofs.Tryz.results58 rfl ?_
  exact ⟨b7, a5, c5, rfl, by simp [cellsL]⟩
theorem oc_next (p : Nat) (a : Option Addr) (c : Nat) (l : List UInt8) (i : Nat) (n : Nat) (hi : i + n ≤ l.length) (w : World) (hw : X.Holds w [blk p [.slice a l.length c, .int .i64 (i)] 149, own 5 1 a l.length c (byteL l)]) : Calls Go.Proofs.Tryz.prog 100 #[.pointer (some ⟨p, 0, none⟩), .int .i64 n] w (Post w [blk p [.slice a l.length c, .int .i64 (i)] 149, own 5 1 a l.length c (byteL l)] (fun r Γ => r = .tuple #[.slice (cutA a (i * 1) (c - i)) n (c - i), .int .i64 0] ∧ Γ = [blk p [.slice a l.length c, .int .i64 ((i : Int) + n)] 149, own 5 1 a l.length c (byteL l)])) := by
  have hcc := ownB_le (hw.on (own 5 1 a l.length c (byteL l)) (by simp))
  refine spec_of Go.Proofs.Tryz.func100 rfl Go.Proofs.Tryz.ntmps100 rfl hw ?_
  change C _ _ _ _ _ _ _ ⟨[(0, _), (1, _)], []⟩ _
  refine C.regS ?_
  refine L.yl (Y.as rfl) ?_
  refine L.yl (Y.as rfl) ?_
  refine L.nil ?_
  refine C.seq ?_
  refine C.block ?_
  refine C.regS ?_
  refine L.yl (Y.mv rfl) ?_
  first | refine L.yl (Y.eqpS ⟨_, Go.Proofs.Tryz.underlying114⟩ rfl) ?_ | refine L.yl (Y.eqpN ⟨_, Go.Proofs.Tryz.underlying114⟩ rfl) ?_
  refine L.yl (Y.as rfl) ?_
  refine L.nil ?_
  refine C.condFf rfl ?_
  refine C.regS ?_
  refine L.yl (Y.mv rfl) ?_
  refine L.yl (Y.lss rfl rfl) ?_
  refine L.yl (Y.as rfl) ?_
  refine L.nil ?_
  refine C.condF rfl (by omega) ?_
  refine C.drwS (.y 0 (.y 1 (.y 2 (.y 3 (.y 4 (.y 5 (.y 6 (.y 7 (.y 8 (.y 9 (.y 10 (.y 11 (.y 12 (.fin)))))))))))))) mixo (by kernel_rfl) ?_
  refine V.yl rfl (Y.mv rfl) ?_
  refine V.yl rfl (Y.mv rfl) ?_
  refine V.yl rfl (Y.nck rfl) ?_
  first | refine V.yl rfl (Y.fa0 fl149_0 rfl) ?_ | refine V.yl rfl (Y.fa fl149_0 rfl) ?_ | refine V.yl rfl (Y.fas fl149_0 rfl (by simp; omega)) ?_
  refine V.yl rfl (Y.ld sc31 rfl rfl) ?_
  refine V.yl rfl (Y.len ⟨_, Go.Proofs.Tryz.underlying31⟩ rfl) ?_
  refine V.yl rfl (Y.mv rfl) ?_
  refine V.yl rfl (Y.nck rfl) ?_
  first | refine V.yl rfl (Y.fa0 fl149_1 rfl) ?_ | refine V.yl rfl (Y.fa fl149_1 rfl) ?_ | refine V.yl rfl (Y.fas fl149_1 rfl (by simp; omega)) ?_
  refine V.yl rfl (Y.ld sc3 rfl rfl) ?_
  first | refine V.yl rfl (Y.sub rfl rfl (by omega)) ?_ | refine V.yl rfl (Y.subW rfl rfl) ?_
  refine V.yl rfl (Y.gtr rfl rfl) ?_
  refine V.yl rfl (Y.as rfl) ?_
  refine V.fin ?_
  refine C.condF rfl (by omega) ?_
  refine C.skip ?_
  refine InBlo.n ?_
  refine Then.n ?_
  refine C.regS ?_
  refine L.yl (Y.mv rfl) ?_
  refine L.yl (Y.nck rfl) ?_
  first | refine L.yl (Y.fa0 fl149_1 rfl) ?_ | refine L.yl (Y.fa fl149_1 rfl) ?_ | refine L.yl (Y.fas fl149_1 rfl (by simp; omega)) ?_
  refine L.yl (Y.ld sc3 rfl rfl) ?_
  refine L.yl (Y.mv rfl) ?_
  first | refine L.yl (Y.add rfl rfl (by omega)) ?_ | refine L.yl (Y.addW rfl rfl) ?_
  refine L.yl (Y.nck rfl) ?_
  first | refine L.yl (Y.fa0 fl149_1 rfl) ?_ | refine L.yl (Y.fa fl149_1 rfl) ?_ | refine L.yl (Y.fas fl149_1 rfl (by simp; omega)) ?_
  refine L.st sc3 rfl rfl rfl ?_
  refine L.nil ?_
  refine C.drwS (.y 0 (.y 1 (.y 2 (.y 3 (.y 4 (.y 5 (.y 6 (.y 7 (.y 8 (.y 9 (.y 10 (.y 11 (.y 12 (.y 13 (.y 14 (.y 15 (.y 16 (.fin)))))))))))))))))) mixo (by kernel_rfl) ?_
  refine V.yl rfl (Y.mv rfl) ?_
  refine V.yl rfl (Y.nck rfl) ?_
  first | refine V.yl rfl (Y.fa0 fl149_0 rfl) ?_ | refine V.yl rfl (Y.fa fl149_0 rfl) ?_ | refine V.yl rfl (Y.fas fl149_0 rfl (by simp; omega)) ?_
  refine V.yl rfl (Y.ld sc31 rfl rfl) ?_
  refine V.yl rfl (Y.mv rfl) ?_
  refine V.yl rfl (Y.nck rfl) ?_
  first | refine V.yl rfl (Y.fa0 fl149_1 rfl) ?_ | refine V.yl rfl (Y.fa fl149_1 rfl) ?_ | refine V.yl rfl (Y.fas fl149_1 rfl (by simp; omega)) ?_
  refine V.yl rfl (Y.ld sc3 rfl rfl) ?_
  refine V.yl rfl (Y.mv rfl) ?_
  first | refine V.yl rfl (Y.sub rfl rfl (by omega)) ?_ | refine V.yl rfl (Y.subW rfl rfl) ?_
  refine V.yl rfl (Y.mv rfl) ?_
  refine V.yl rfl (Y.nck rfl) ?_
  first | refine V.yl rfl (Y.fa0 fl149_1 rfl) ?_ | refine V.yl rfl (Y.fa fl149_1 rfl) ?_ | refine V.yl rfl (Y.fas fl149_1 rfl (by simp; omega)) ?_
  refine V.yl rfl (Y.ld sc3 rfl rfl) ?_
  refine V.yl rfl (Y.sl2 slt31 rfl rfl rfl (by omega)) ?_
  refine V.yl rfl (Y.as rfl) ?_
  refine V.yl rfl (Y.as rfl) ?_
  refine V.fin ?_
  refine C.ret ?_
  refine FnPost.r2 Go.Proofs.Tryz.results100 rfl rfl ?_
  rw [show ((i : Int) + n - n).toNat = i by omega, show ((i : Int) + n).toNat - i = n by omega]; exact ⟨rfl, rfl⟩
theorem oc_nextN (p : Nat) (a : Option Addr) (c : Nat) (l : List UInt8) (i : Nat) (n : Nat) (hi : l.length < i + n) (hil : i ≤ l.length) (hn : n ≤ 4294967296) (w : World) (hw : X.Holds w [blk p [.slice a l.length c, .int .i64 (i)] 149, own 5 1 a l.length c (byteL l)]) : Calls Go.Proofs.Tryz.prog 100 #[.pointer (some ⟨p, 0, none⟩), .int .i64 n] w (Post w [blk p [.slice a l.length c, .int .i64 (i)] 149, own 5 1 a l.length c (byteL l)] (fun r Γ => r = .tuple #[.slice none 0 0, .int .i64 5] ∧ Γ = [blk p [.slice a l.length c, .int .i64 (i)] 149, own 5 1 a l.length c (byteL l)])) := by
  have hcc := ownB_le (hw.on (own 5 1 a l.length c (byteL l)) (by simp))
  refine spec_of Go.Proofs.Tryz.func100 rfl Go.Proofs.Tryz.ntmps100 rfl hw ?_
  change C _ _ _ _ _ _ _ ⟨[(0, _), (1, _)], []⟩ _
  refine C.regS ?_
  refine L.yl (Y.as rfl) ?_
  refine L.yl (Y.as rfl) ?_
  refine L.nil ?_
  refine C.seq ?_
  refine C.block ?_
  refine C.regS ?_
  refine L.yl (Y.mv rfl) ?_
  first | refine L.yl (Y.eqpS ⟨_, Go.Proofs.Tryz.underlying114⟩ rfl) ?_ | refine L.yl (Y.eqpN ⟨_, Go.Proofs.Tryz.underlying114⟩ rfl) ?_
  refine L.yl (Y.as rfl) ?_
  refine L.nil ?_
  refine C.condFf rfl ?_
  refine C.regS ?_
  refine L.yl (Y.mv rfl) ?_
  refine L.yl (Y.lss rfl rfl) ?_
  refine L.yl (Y.as rfl) ?_
  refine L.nil ?_
  refine C.condF rfl (by omega) ?_
  refine C.drwS (.y 0 (.y 1 (.y 2 (.y 3 (.y 4 (.y 5 (.y 6 (.y 7 (.y 8 (.y 9 (.y 10 (.y 11 (.y 12 (.fin)))))))))))))) mixo (by kernel_rfl) ?_
  refine V.yl rfl (Y.mv rfl) ?_
  refine V.yl rfl (Y.mv rfl) ?_
  refine V.yl rfl (Y.nck rfl) ?_
  first | refine V.yl rfl (Y.fa0 fl149_0 rfl) ?_ | refine V.yl rfl (Y.fa fl149_0 rfl) ?_ | refine V.yl rfl (Y.fas fl149_0 rfl (by simp; omega)) ?_
  refine V.yl rfl (Y.ld sc31 rfl rfl) ?_
  refine V.yl rfl (Y.len ⟨_, Go.Proofs.Tryz.underlying31⟩ rfl) ?_
  refine V.yl rfl (Y.mv rfl) ?_
  refine V.yl rfl (Y.nck rfl) ?_
  first | refine V.yl rfl (Y.fa0 fl149_1 rfl) ?_ | refine V.yl rfl (Y.fa fl149_1 rfl) ?_ | refine V.yl rfl (Y.fas fl149_1 rfl (by simp; omega)) ?_
  refine V.yl rfl (Y.ld sc3 rfl rfl) ?_
  first | refine V.yl rfl (Y.sub rfl rfl (by omega)) ?_ | refine V.yl rfl (Y.subW rfl rfl) ?_
  refine V.yl rfl (Y.gtr rfl rfl) ?_
  refine V.yl rfl (Y.as rfl) ?_
  refine V.fin ?_
  refine C.condT rfl (by omega) ?_
  refine C.regS ?_
  refine L.yl (Y.as rfl) ?_
  refine L.yl (Y.as rfl) ?_
  refine L.nil ?_
  refine C.ret ?_
  refine InBlo.r ?_
  refine Then.r ?_
  refine FnPost.r2 Go.Proofs.Tryz.results100 rfl rfl ?_
  exact ⟨rfl, rfl⟩
theorem oc_number (p : Nat) (a : Option Addr) (c : Nat) (l : List UInt8) (i : Nat) (n : Nat) (hi : i + n ≤ l.length) (hn : n ≤ 4) (w : World) (hw : X.Holds w [blk p [.slice a l.length c, .int .i64 (i)] 149, own 5 1 a l.length c (byteL l)]) : Calls Go.Proofs.Tryz.prog 99 #[.pointer (some ⟨p, 0, none⟩), .int .i64 n] w (Post w [blk p [.slice a l.length c, .int .i64 (i)] 149, own 5 1 a l.length c (byteL l)] (fun r Γ => r = .tuple #[.int .u32 (beN ((l.drop i).take n)), .int .i64 0] ∧ Γ = [blk p [.slice a l.length c, .int .i64 ((i : Int) + n)] 149, own 5 1 a l.length c (byteL l)])) := by
  have hcc := ownB_le (hw.on (own 5 1 a l.length c (byteL l)) (by simp))
  refine spec_of Go.Proofs.Tryz.func99 rfl Go.Proofs.Tryz.ntmps99 rfl hw ?_
  change C _ _ _ _ _ _ _ ⟨[(0, _), (1, _)], []⟩ _
  refine C.regS ?_
  refine L.yl (Y.as rfl) ?_
  refine L.yl (Y.as rfl) ?_
  refine L.nil ?_
  refine C.regS ?_
  refine L.yl (Y.mv rfl) ?_
  refine L.yl (Y.mv rfl) ?_
  refine L.callF (Γf := [blk p [.slice a l.length c, .int .i64 (i)] 149, own 5 1 a l.length c (byteL l)]) go100 rfl (fun w hw hf => oc_next p a c l i n hi w hf) ?_
  rintro _ _ ⟨rfl, rfl⟩
  refine L.apc ?_
  refine L.yl (Y.mv rfl) ?_
  refine L.yl (Y.extL rfl rfl) ?_
  refine L.yl (Y.extL rfl rfl) ?_
  refine L.yl (Y.as rfl) ?_
  refine L.yl (Y.as rfl) ?_
  refine L.nil ?_
  refine C.regS ?_
  refine L.yl (Y.as rfl) ?_
  refine L.nil ?_
  refine C.seq ?_
  refine C.regS ?_
  refine L.yl (Y.mv rfl) ?_
  refine L.yl (Y.len ⟨_, Go.Proofs.Tryz.underlying31⟩ rfl) ?_
  refine L.yl (Y.mv rfl) ?_
  refine L.nil ?_
  refine C.block ?_
  refine C.loop (fun (k:Nat) => [(7, .int .i64 0), (8, .int .u32 (beN ((l.drop i).take k))), (17, .slice (cutA a (i * 1) (c - i)) n (c - i)), (18, .int .i64 n), (19, .int .i64 k)]) (fun k => [blk p [.slice a l.length c, .int .i64 ((i : Int) + n)] 149, own 5 1 a l.length c (byteL l)]) (fun k => k ≤ n) (fun k => n - k) 0 ?_ ?_ ?_ ?_
  · repeat (first | exact trivial | refine ⟨rfl, ?_⟩)
  · first | exact .of (.refl _) | exact inferInstance | (dsimp only; exact inferInstance)
  · exact Nat.zero_le _
  · rintro k hI
    try dsimp only
    refine C.regS ?_
    refine L.yl (Y.lss rfl rfl) ?_
    refine L.nil ?_
    refine C.seq ?_
    refine C.condP rfl (fun hc1 => ?_) (fun hc1 => ?_)
    ·
      obtain ⟨u0, hu0⟩ : ∃ u, l[i + k]? = some u := ⟨_, List.getElem?_eq_getElem (by omega)⟩
      have hnx : beN ((l.drop i).take (k + 1)) = beN ((l.drop i).take k) * 256 + u0.toNat := by rw [List.take_add_one, List.getElem?_drop, hu0]; exact beN_append _ _
      refine C.skip ?_
      refine Then.n ?_
      refine C.seq ?_
      refine C.block ?_
      refine C.regS ?_
      refine L.yl (Y.ixL slt31 rfl rfl (by rw [List.length_drop]; simp [byteL]; omega) (by omega) (by omega)) ?_
      first | refine L.yl (Y.ld sc5 rfl rfl) ?_ | refine L.yl (Y.lds sc5 rfl (by rw [List.getElem?_drop]; exact get_byteL hu0 (by simp))) ?_
      refine L.yl (Y.as rfl) ?_
      refine L.nil ?_
      refine C.reg ?_
      refine L.yl (Y.mv rfl) ?_
      refine L.yl (Y.shl rfl rfl (by omega)) ?_
      refine L.yl (Y.mv rfl) ?_
      refine L.yl (Y.cvW Go.Proofs.Tryz.underlying22 ⟨_, Go.Proofs.Tryz.underlying5⟩ rfl) ?_
      refine L.yl (Y.or rfl rfl) ?_
      refine L.yl (Y.as rfl) ?_
      refine L.nil ?_
      refine InBlo.n ?_
      refine Then.n ?_
      refine C.reg ?_
      first | refine L.yl (Y.add rfl rfl (by omega)) ?_ | refine L.yl (Y.addW rfl rfl) ?_
      refine L.yl (Y.mv rfl) ?_
      refine L.nil ?_
      have hlt : beN ((l.drop i).take k) < 16777216 := by
        have h1 := beN_lt ((l.drop i).take k)
        have h2 : ((l.drop i).take k).length = k := by rw [List.length_take, List.length_drop]; omega
        rw [h2] at h1
        exact Nat.lt_of_lt_of_le h1 (Nat.pow_le_pow_right (by omega) (show k ≤ 3 by omega))
      exact ⟨k + 1, (by repeat (first | exact trivial | refine ⟨rfl, ?_⟩ | refine ⟨congrArg some (congrArg (Value.int .u32) (by rw [hnx, ← orLow _ _ hlt u0.toNat_lt, u32_u8])), ?_⟩ | refine ⟨congrArg some (by simp), ?_⟩ | refine ⟨congrArg some (by simp; omega), ?_⟩)), rfl, (by first | exact inferInstance | (dsimp only; exact inferInstance)), by omega, (by first | omega | (dsimp only; omega))⟩
    ·
      refine C.exit ?_
      refine Then.x ?_
      refine Then.x ?_
      refine InBlo.x ?_
      refine Then.n ?_
      refine C.regS ?_
      refine L.yl (Y.mv rfl) ?_
      refine L.yl (Y.mv rfl) ?_
      refine L.yl (Y.as rfl) ?_
      refine L.yl (Y.as rfl) ?_
      refine L.nil ?_
      refine C.ret ?_
      refine FnPost.r2 Go.Proofs.Tryz.results99 rfl rfl ?_
      rw [show k = n by omega]; exact ⟨rfl, rfl⟩
theorem oc_numberN (p : Nat) (a : Option Addr) (c : Nat) (l : List UInt8) (i : Nat) (n : Nat) (hi : l.length < i + n) (hil : i ≤ l.length) (hn : n ≤ 4) (w : World) (hw : X.Holds w [blk p [.slice a l.length c, .int .i64 (i)] 149, own 5 1 a l.length c (byteL l)]) : Calls Go.Proofs.Tryz.prog 99 #[.pointer (some ⟨p, 0, none⟩), .int .i64 n] w (Post w [blk p [.slice a l.length c, .int .i64 (i)] 149, own 5 1 a l.length c (byteL l)] (fun r Γ => r = .tuple #[.int .u32 0, .int .i64 5] ∧ Γ = [blk p [.slice a l.length c, .int .i64 (i)] 149, own 5 1 a l.length c (byteL l)])) := by
  have hcc := ownB_le (hw.on (own 5 1 a l.length c (byteL l)) (by simp))
  refine spec_of Go.Proofs.Tryz.func99 rfl Go.Proofs.Tryz.ntmps99 rfl hw ?_
  change C _ _ _ _ _ _ _ ⟨[(0, _), (1, _)], []⟩ _
  refine C.regS ?_
  refine L.yl (Y.as rfl) ?_
  refine L.yl (Y.as rfl) ?_
  refine L.nil ?_
  refine C.regS ?_
  refine L.yl (Y.mv rfl) ?_
  refine L.yl (Y.mv rfl) ?_
  refine L.callF (Γf := [blk p [.slice a l.length c, .int .i64 (i)] 149, own 5 1 a l.length c (byteL l)]) go100 rfl (fun w hw hf => oc_nextN p a c l i n hi hil (by omega) w hf) ?_
  rintro _ _ ⟨rfl, rfl⟩
  refine L.apc ?_
  refine L.yl (Y.mv rfl) ?_
  refine L.yl (Y.extL rfl rfl) ?_
  refine L.yl (Y.extL rfl rfl) ?_
  refine L.yl (Y.as rfl) ?_
  refine L.yl (Y.as rfl) ?_
  refine L.nil ?_
  refine C.regS ?_
  refine L.yl (Y.as rfl) ?_
  refine L.nil ?_
  refine C.seq ?_
  refine C.regS ?_
  refine L.yl (Y.mv rfl) ?_
  refine L.yl (Y.len ⟨_, Go.Proofs.Tryz.underlying31⟩ rfl) ?_
  refine L.yl (Y.mv rfl) ?_
  refine L.nil ?_
  refine C.block ?_
  refine C.loop (fun (_:Unit) => [(7, .int .i64 5), (8, .int .u32 0), (18, .int .i64 ((0 : Nat) : Int)), (19, .int .i64 0)]) (fun k => [blk p [.slice a l.length c, .int .i64 (i)] 149, own 5 1 a l.length c (byteL l)]) (fun k => True) (fun k => 0) () ?_ ?_ ?_ ?_
  · repeat (first | exact trivial | refine ⟨rfl, ?_⟩)
  · first | exact .of (.refl _) | exact inferInstance | (dsimp only; exact inferInstance)
  · trivial
  · rintro k hI
    try dsimp only
    refine C.regS ?_
    refine L.yl (Y.lss rfl rfl) ?_
    refine L.nil ?_
    refine C.seq ?_
    refine C.condF rfl (by omega) ?_
    refine C.exit ?_
    refine Then.x ?_
    refine Then.x ?_
    refine InBlo.x ?_
    refine Then.n ?_
    refine C.regS ?_
    refine L.yl (Y.mv rfl) ?_
    refine L.yl (Y.mv rfl) ?_
    refine L.yl (Y.as rfl) ?_
    refine L.yl (Y.as rfl) ?_
    refine L.nil ?_
    refine C.ret ?_
    refine FnPost.r2 Go.Proofs.Tryz.results99 rfl rfl ?_
    exact ⟨rfl, rfl⟩
theorem oc_num (p : Nat) (a : Option Addr) (c : Nat) (l : List UInt8) (i : Nat) (n : Nat) (hil : i ≤ l.length) (hn : n ≤ 4) (w : World) (hw : X.Holds w [blk p [.slice a l.length c, .int .i64 (i)] 149, own 5 1 a l.length c (byteL l)]) : Calls Go.Proofs.Tryz.prog 99 #[.pointer (some ⟨p, 0, none⟩), .int .i64 n] w (Post w [blk p [.slice a l.length c, .int .i64 (i)] 149, own 5 1 a l.length c (byteL l)] (fun r Γ => r = .tuple #[.int .u32 (rdV l i n), .int .i64 (rdE l i n)] ∧ Γ = [blk p [.slice a l.length c, .int .i64 ((rdI l i n : Nat))] 149, own 5 1 a l.length c (byteL l)])) := by
  by_cases h : i + n ≤ l.length
  · have := oc_number p a c l i n h hn w hw
    rw [rdV_ok h, rdE_ok h, rdI_ok h]; exact this
  · have := oc_numberN p a c l i n (by omega) hil hn w hw
    rw [rdV_no h, rdE_no h, rdI_no h]; exact this
theorem oc_One (p : Nat) (a : Option Addr) (c : Nat) (l : List UInt8) (i : Nat) (hil : i ≤ l.length) (w : World) (hw : X.Holds w [blk p [.slice a l.length c, .int .i64 (i)] 149, own 5 1 a l.length c (byteL l)]) : Calls Go.Proofs.Tryz.prog 59 #[.pointer (some ⟨p, 0, none⟩)] w (Post w [blk p [.slice a l.length c, .int .i64 (i)] 149, own 5 1 a l.length c (byteL l)] (fun r Γ => r = .tuple #[.int .u8 (rdV l i 1), .int .i64 (rdE l i 1)] ∧ Γ = [blk p [.slice a l.length c, .int .i64 ((rdI l i 1 : Nat))] 149, own 5 1 a l.length c (byteL l)])) := by
  refine spec_of Go.Proofs.Tryz.func59 rfl Go.Proofs.Tryz.ntmps59 rfl hw ?_
  change C _ _ _ _ _ _ _ ⟨[(0, _)], []⟩ _
  refine C.regS ?_
  refine L.yl (Y.as rfl) ?_
  refine L.yl (Y.as rfl) ?_
  refine L.nil ?_
  refine C.regS ?_
  refine L.yl (Y.mv rfl) ?_
  refine L.callF (Γf := [blk p [.slice a l.length c, .int .i64 (i)] 149, own 5 1 a l.length c (byteL l)]) go99 rfl (fun w hw hf => oc_num p a c l i 1 hil (by omega) w hf) ?_
  rintro _ _ ⟨rfl, rfl⟩
  refine L.apc ?_
  refine L.yl (Y.mv rfl) ?_
  refine L.yl (Y.extL rfl rfl) ?_
  refine L.yl (Y.extL rfl rfl) ?_
  refine L.yl (Y.as rfl) ?_
  refine L.yl (Y.as rfl) ?_
  refine L.nil ?_
  refine C.regS ?_
  refine L.yl (Y.mv rfl) ?_
  refine L.yl (Y.cvW Go.Proofs.Tryz.underlying5 ⟨_, Go.Proofs.Tryz.underlying22⟩ rfl) ?_
  refine L.yl (Y.mv rfl) ?_
  refine L.yl (Y.as rfl) ?_
  refine L.yl (Y.as rfl) ?_
  refine L.nil ?_
  refine C.ret ?_
  refine FnPost.r2 Go.Proofs.Tryz.results59 rfl rfl ?_
  exact ⟨by simp only [rdV_u8], rfl⟩
theorem oc_Two (p : Nat) (a : Option Addr) (c : Nat) (l : List UInt8) (i : Nat) (hil : i ≤ l.length) (w : World) (hw : X.Holds w [blk p [.slice a l.length c, .int .i64 (i)] 149, own 5 1 a l.length c (byteL l)]) : Calls Go.Proofs.Tryz.prog 61 #[.pointer (some ⟨p, 0, none⟩)] w (Post w [blk p [.slice a l.length c, .int .i64 (i)] 149, own 5 1 a l.length c (byteL l)] (fun r Γ => r = .tuple #[.int .u16 (rdV l i 2), .int .i64 (rdE l i 2)] ∧ Γ = [blk p [.slice a l.length c, .int .i64 ((rdI l i 2 : Nat))] 149, own 5 1 a l.length c (byteL l)])) := by
  refine spec_of Go.Proofs.Tryz.func61 rfl Go.Proofs.Tryz.ntmps61 rfl hw ?_
  change C _ _ _ _ _ _ _ ⟨[(0, _)], []⟩ _
  refine C.regS ?_
  refine L.yl (Y.as rfl) ?_
  refine L.yl (Y.as rfl) ?_
  refine L.nil ?_
  refine C.regS ?_
  refine L.yl (Y.mv rfl) ?_
  refine L.callF (Γf := [blk p [.slice a l.length c, .int .i64 (i)] 149, own 5 1 a l.length c (byteL l)]) go99 rfl (fun w hw hf => oc_num p a c l i 2 hil (by omega) w hf) ?_
  rintro _ _ ⟨rfl, rfl⟩
  refine L.apc ?_
  refine L.yl (Y.mv rfl) ?_
  refine L.yl (Y.extL rfl rfl) ?_
  refine L.yl (Y.extL rfl rfl) ?_
  refine L.yl (Y.as rfl) ?_
  refine L.yl (Y.as rfl) ?_
  refine L.nil ?_
  refine C.regS ?_
  refine L.yl (Y.mv rfl) ?_
  refine L.yl (Y.cvW Go.Proofs.Tryz.underlying118 ⟨_, Go.Proofs.Tryz.underlying22⟩ rfl) ?_
  refine L.yl (Y.mv rfl) ?_
  refine L.yl (Y.as rfl) ?_
  refine L.yl (Y.as rfl) ?_
  refine L.nil ?_
  refine C.ret ?_
  refine FnPost.r2 Go.Proofs.Tryz.results61 rfl rfl ?_
  exact ⟨by simp only [rdV_u16], rfl⟩
theorem oc_Four (p : Nat) (a : Option Addr) (c : Nat) (l : List UInt8) (i : Nat) (hil : i ≤ l.length) (w : World) (hw : X.Holds w [blk p [.slice a l.length c, .int .i64 (i)] 149, own 5 1 a l.length c (byteL l)]) : Calls Go.Proofs.Tryz.prog 62 #[.pointer (some ⟨p, 0, none⟩)] w (Post w [blk p [.slice a l.length c, .int .i64 (i)] 149, own 5 1 a l.length c (byteL l)] (fun r Γ => r = .tuple #[.int .u32 (rdV l i 4), .int .i64 (rdE l i 4)] ∧ Γ = [blk p [.slice a l.length c, .int .i64 ((rdI l i 4 : Nat))] 149, own 5 1 a l.length c (byteL l)])) := by
  refine spec_of Go.Proofs.Tryz.func62 rfl Go.Proofs.Tryz.ntmps62 rfl hw ?_
  change C _ _ _ _ _ _ _ ⟨[(0, _)], []⟩ _
  refine C.regS ?_
  refine L.yl (Y.as rfl) ?_
  refine L.yl (Y.as rfl) ?_
  refine L.nil ?_
  refine C.regS ?_
  refine L.yl (Y.mv rfl) ?_
  refine L.callF (Γf := [blk p [.slice a l.length c, .int .i64 (i)] 149, own 5 1 a l.length c (byteL l)]) go99 rfl (fun w hw hf => oc_num p a c l i 4 hil (by omega) w hf) ?_
  rintro _ _ ⟨rfl, rfl⟩
  refine L.apc ?_
  refine L.yl (Y.extL rfl rfl) ?_
  refine L.yl (Y.extL rfl rfl) ?_
  refine L.yl (Y.as rfl) ?_
  refine L.yl (Y.as rfl) ?_
  refine L.nil ?_
  refine C.ret ?_
  refine FnPost.r2 Go.Proofs.Tryz.results62 rfl rfl ?_
  exact ⟨rfl, rfl⟩
theorem oc_TakeY (p : Nat) (a : Option Addr) (c : Nat) (l : List UInt8) (i : Nat) (n : Nat) (hi : i + n ≤ l.length) (hl : l.length ≤ 4294967296) (w : World) (hw : X.Holds w [blk p [.slice a l.length c, .int .i64 (i)] 149, own 5 1 a l.length c (byteL l)]) : Calls Go.Proofs.Tryz.prog 63 #[.pointer (some ⟨p, 0, none⟩), .int .i64 n] w (Post w [blk p [.slice a l.length c, .int .i64 (i)] 149, own 5 1 a l.length c (byteL l)] (fun r Γ => ∃ a1 c1, r = .tuple #[.slice a1 n c1, .int .i64 0] ∧ Γ = [own 5 1 a1 n c1 (byteL ((l.drop i).take n)), blk p [.slice a l.length c, .int .i64 ((i : Int) + n)] 149, own 5 1 a l.length c (byteL l)])) := by
  have hcc := ownB_le (hw.on (own 5 1 a l.length c (byteL l)) (by simp))
  refine spec_of Go.Proofs.Tryz.func63 rfl Go.Proofs.Tryz.ntmps63 rfl hw ?_
  change C _ _ _ _ _ _ _ ⟨[(0, _), (1, _)], []⟩ _
  refine C.regS ?_
  refine L.yl (Y.as rfl) ?_
  refine L.yl (Y.as rfl) ?_
  refine L.nil ?_
  refine C.regS ?_
  refine L.yl (Y.mv rfl) ?_
  refine L.yl (Y.mv rfl) ?_
  refine L.callF (Γf := [blk p [.slice a l.length c, .int .i64 (i)] 149, own 5 1 a l.length c (byteL l)]) go100 rfl (fun w hw hf => oc_next p a c l i n hi w hf) ?_
  rintro _ _ ⟨rfl, rfl⟩
  refine L.apc ?_
  refine L.yl (Y.mv rfl) ?_
  refine L.yl (Y.extL rfl rfl) ?_
  refine L.yl (Y.extL rfl rfl) ?_
  refine L.yl (Y.as rfl) ?_
  refine L.yl (Y.as rfl) ?_
  refine L.nil ?_
  refine C.regS ?_
  refine L.yl (Y.mv rfl) ?_
  refine L.nil0 5 1 _ ?_
  refine L.appT elt31 rfl rfl rfl (by rw [List.length_drop, byteL_length]; omega) (by omega) (by omega) ?_; intro a15 c15
  refine L.yl (Y.mv rfl) ?_
  refine L.yl (Y.as rfl) ?_
  refine L.yl (Y.as rfl) ?_
  refine L.nil ?_
  refine C.ret ?_
  refine FnPost.r2 Go.Proofs.Tryz.results63 rfl rfl ?_
  refine ⟨a15, c15, by rw [Nat.zero_add], ?_⟩
  rw [byteL_drop, byteL_take, Nat.zero_add, Nat.mul_one, Nat.mul_one, List.nil_append]
theorem oc_TakeN (p : Nat) (a : Option Addr) (c : Nat) (l : List UInt8) (i : Nat) (n : Nat) (hi : l.length < i + n) (hil : i ≤ l.length) (hn : n ≤ 4294967296) (w : World) (hw : X.Holds w [blk p [.slice a l.length c, .int .i64 (i)] 149, own 5 1 a l.length c (byteL l)]) : Calls Go.Proofs.Tryz.prog 63 #[.pointer (some ⟨p, 0, none⟩), .int .i64 n] w (Post w [blk p [.slice a l.length c, .int .i64 (i)] 149, own 5 1 a l.length c (byteL l)] (fun r Γ => ∃ a1 c1, r = .tuple #[.slice a1 0 c1, .int .i64 5] ∧ Γ = [own 5 1 a1 0 c1 (byteL []), blk p [.slice a l.length c, .int .i64 (i)] 149, own 5 1 a l.length c (byteL l)])) := by
  have hcc := ownB_le (hw.on (own 5 1 a l.length c (byteL l)) (by simp))
  refine spec_of Go.Proofs.Tryz.func63 rfl Go.Proofs.Tryz.ntmps63 rfl hw ?_
  change C _ _ _ _ _ _ _ ⟨[(0, _), (1, _)], []⟩ _
  refine C.regS ?_
  refine L.yl (Y.as rfl) ?_
  refine L.yl (Y.as rfl) ?_
  refine L.nil ?_
  refine C.regS ?_
  refine L.yl (Y.mv rfl) ?_
  refine L.yl (Y.mv rfl) ?_
  refine L.callF (Γf := [blk p [.slice a l.length c, .int .i64 (i)] 149, own 5 1 a l.length c (byteL l)]) go100 rfl (fun w hw hf => oc_nextN p a c l i n hi hil hn w hf) ?_
  rintro _ _ ⟨rfl, rfl⟩
  refine L.apc ?_
  refine L.yl (Y.mv rfl) ?_
  refine L.yl (Y.extL rfl rfl) ?_
  refine L.yl (Y.extL rfl rfl) ?_
  refine L.yl (Y.as rfl) ?_
  refine L.yl (Y.as rfl) ?_
  refine L.nil ?_
  refine C.regS ?_
  refine L.yl (Y.mv rfl) ?_
  refine L.nil0 5 1 _ ?_
  refine L.app (news := []) elt31 rfl rfl rfl rfl (by omega) (by omega) ?_; intro a15 c15
  refine L.yl (Y.mv rfl) ?_
  refine L.yl (Y.as rfl) ?_
  refine L.yl (Y.as rfl) ?_
  refine L.nil ?_
  refine C.ret ?_
  refine FnPost.r2 Go.Proofs.Tryz.results63 rfl rfl ?_
  exact ⟨a15, c15, rfl, rfl⟩
theorem oc_Take (p : Nat) (a : Option Addr) (c : Nat) (l : List UInt8) (i : Nat) (n : Nat) (hil : i ≤ l.length) (hl : l.length ≤ 4294967296) (hn : n ≤ 4294967296) (w : World) (hw : X.Holds w [blk p [.slice a l.length c, .int .i64 (i)] 149, own 5 1 a l.length c (byteL l)]) : Calls Go.Proofs.Tryz.prog 63 #[.pointer (some ⟨p, 0, none⟩), .int .i64 n] w (Post w [blk p [.slice a l.length c, .int .i64 (i)] 149, own 5 1 a l.length c (byteL l)] (fun r Γ => ∃ a1 c1, r = .tuple #[.slice a1 (tkB l i n).length c1, .int .i64 (rdE l i n)] ∧ Γ = [own 5 1 a1 (tkB l i n).length c1 (byteL (tkB l i n)), blk p [.slice a l.length c, .int .i64 ((rdI l i n : Nat))] 149, own 5 1 a l.length c (byteL l)])) := by
  by_cases h : i + n ≤ l.length
  · have := oc_TakeY p a c l i n h hl w hw
    rw [rdE_ok h, rdI_ok h, tkB_len h, tkB_ok h]; exact this
  · have := oc_TakeN p a c l i n (by omega) hil hn w hw
    rw [rdE_no h, rdI_no h, tkB_no h]; exact this
theorem oc_Left (p : Nat) (a : Option Addr) (c : Nat) (l : List UInt8) (i : Nat) (hil : i ≤ l.length) (w : World) (hw : X.Holds w [blk p [.slice a l.length c, .int .i64 (i)] 149, own 5 1 a l.length c (byteL l)]) : Calls Go.Proofs.Tryz.prog 101 #[.pointer (some ⟨p, 0, none⟩)] w (Post w [blk p [.slice a l.length c, .int .i64 (i)] 149, own 5 1 a l.length c (byteL l)] (fun r Γ => r = .int .i64 ((l.length - i : Nat) : Int) ∧ Γ = [blk p [.slice a l.length c, .int .i64 (i)] 149, own 5 1 a l.length c (byteL l)])) := by
  have hcc := ownB_le (hw.on (own 5 1 a l.length c (byteL l)) (by simp))
  refine spec_of Go.Proofs.Tryz.func101 rfl Go.Proofs.Tryz.ntmps101 rfl hw ?_
  change C _ _ _ _ _ _ _ ⟨[(0, _)], []⟩ _
  refine C.regS ?_
  refine L.yl (Y.as rfl) ?_
  refine L.nil ?_
  refine C.seq ?_
  refine C.regS ?_
  refine L.yl (Y.mv rfl) ?_
  first | refine L.yl (Y.eqpS ⟨_, Go.Proofs.Tryz.underlying114⟩ rfl) ?_ | refine L.yl (Y.eqpN ⟨_, Go.Proofs.Tryz.underlying114⟩ rfl) ?_
  refine L.nil ?_
  refine C.condFf rfl ?_
  refine C.skip ?_
  refine Then.n ?_
  refine C.drwS (.y 0 (.y 1 (.y 2 (.y 3 (.y 4 (.y 5 (.y 6 (.y 7 (.y 8 (.y 9 (.y 10 (.fin)))))))))))) mixo (by kernel_rfl) ?_
  refine V.yl rfl (Y.mv rfl) ?_
  refine V.yl rfl (Y.nck rfl) ?_
  first | refine V.yl rfl (Y.fa0 fl149_0 rfl) ?_ | refine V.yl rfl (Y.fa fl149_0 rfl) ?_ | refine V.yl rfl (Y.fas fl149_0 rfl (by simp; omega)) ?_
  refine V.yl rfl (Y.ld sc31 rfl rfl) ?_
  refine V.yl rfl (Y.len ⟨_, Go.Proofs.Tryz.underlying31⟩ rfl) ?_
  refine V.yl rfl (Y.mv rfl) ?_
  refine V.yl rfl (Y.nck rfl) ?_
  first | refine V.yl rfl (Y.fa0 fl149_1 rfl) ?_ | refine V.yl rfl (Y.fa fl149_1 rfl) ?_ | refine V.yl rfl (Y.fas fl149_1 rfl (by simp; omega)) ?_
  refine V.yl rfl (Y.ld sc3 rfl rfl) ?_
  first | refine V.yl rfl (Y.sub rfl rfl (by omega)) ?_ | refine V.yl rfl (Y.subW rfl rfl) ?_
  refine V.yl rfl (Y.as rfl) ?_
  refine V.fin ?_
  refine C.ret ?_
  refine FnPost.r1 Go.Proofs.Tryz.results101 rfl ?_
  exact ⟨by congr 1; omega, rfl⟩
theorem oc_Rest (p : Nat) (a : Option Addr) (c : Nat) (l : List UInt8) (i : Nat) (hil : i ≤ l.length) (hl : l.length ≤ 4294967296) (w : World) (hw : X.Holds w [blk p [.slice a l.length c, .int .i64 (i)] 149, own 5 1 a l.length c (byteL l)]) : Calls Go.Proofs.Tryz.prog 65 #[.pointer (some ⟨p, 0, none⟩)] w (Post w [blk p [.slice a l.length c, .int .i64 (i)] 149, own 5 1 a l.length c (byteL l)] (fun r Γ => ∃ a1 c1, r = .slice a1 (l.drop i).length c1 ∧ Γ = [own 5 1 a1 (l.drop i).length c1 (byteL (l.drop i)), blk p [.slice a l.length c, .int .i64 (i)] 149, own 5 1 a l.length c (byteL l)])) := by
  have hcc := ownB_le (hw.on (own 5 1 a l.length c (byteL l)) (by simp))
  refine spec_of Go.Proofs.Tryz.func65 rfl Go.Proofs.Tryz.ntmps65 rfl hw ?_
  change C _ _ _ _ _ _ _ ⟨[(0, _)], []⟩ _
  refine C.regS ?_
  refine L.yl (Y.as rfl) ?_
  refine L.nil ?_
  refine C.seq ?_
  refine C.regS ?_
  refine L.yl (Y.mv rfl) ?_
  first | refine L.yl (Y.eqpS ⟨_, Go.Proofs.Tryz.underlying114⟩ rfl) ?_ | refine L.yl (Y.eqpN ⟨_, Go.Proofs.Tryz.underlying114⟩ rfl) ?_
  refine L.nil ?_
  refine C.condFf rfl ?_
  refine C.skip ?_
  refine Then.n ?_
  refine C.drwFS (Δ := []) (.y 0 (.y 1 (.y 2 (.y 3 (.y 4 (.y 5 (.y 6 (.y 7 (.y 8 (.h 9 (.y 10 (.fin)))))))))))) mixo (by kernel_rfl) ?_
  refine V.yl rfl (Y.mv rfl) ?_
  refine V.yl rfl (Y.nck rfl) ?_
  first | refine V.yl rfl (Y.fa0 fl149_0 rfl) ?_ | refine V.yl rfl (Y.fa fl149_0 rfl) ?_ | refine V.yl rfl (Y.fas fl149_0 rfl (by simp; omega)) ?_
  refine V.yl rfl (Y.ld sc31 rfl rfl) ?_
  refine V.yl rfl (Y.mv rfl) ?_
  refine V.yl rfl (Y.nck rfl) ?_
  first | refine V.yl rfl (Y.fa0 fl149_1 rfl) ?_ | refine V.yl rfl (Y.fa fl149_1 rfl) ?_ | refine V.yl rfl (Y.fas fl149_1 rfl (by simp; omega)) ?_
  refine V.yl rfl (Y.ld sc3 rfl rfl) ?_
  refine V.yl rfl (Y.sl1 slt31 rfl rfl (by omega) (by omega)) ?_
  refine V.hv rfl ?_
  refine L.apc ?_
  refine L.nil0 5 1 _ ?_
  refine L.appT elt31 rfl rfl rfl (by rw [List.length_drop, byteL_length]; omega) (by omega) (by omega) ?_; intro a14 c14
  refine L.nil ?_
  refine V.on ?_
  refine V.yl rfl (Y.as rfl) ?_
  refine V.fin ?_
  refine C.ret ?_
  refine FnPost.r1 Go.Proofs.Tryz.results65 rfl ?_
  refine ⟨a14, c14, by rw [List.length_drop, Nat.zero_add]; congr 1, ?_⟩
  rw [byteL_drop, byteL_take, List.length_drop, Nat.zero_add, Nat.mul_one, Nat.mul_one, List.nil_append, List.take_of_length_le (by rw [List.length_drop]; exact Nat.le_refl _)]; rfl
end Go.Proofs.YtcbhcdcobgdddaaGreat
set_option maxHeartbeats 1000000
namespace Go.Proofs.YtcbhcdcobgdddaaGreat
open Go Go.X Go.Rep Go.Shelf
theorem fl165_0 : Fld Go.Proofs.Tryz.prog 165 0 0 := ⟨_, _, Go.Proofs.Tryz.underlying165, rfl, rfl, _, (by kernel_rfl : (Go.Proofs.Tryz.prog.info? 31).map (·.size) = some 1), by decide⟩
theorem fl167_0 : Fld Go.Proofs.Tryz.prog 167 0 0 := ⟨_, _, Go.Proofs.Tryz.underlying167, rfl, rfl, _, (by kernel_rfl : (Go.Proofs.Tryz.prog.info? 165).map (·.size) = some 1), by decide⟩
theorem go125 : Goes Go.Proofs.Tryz.prog 125 := enters_of Go.Proofs.Tryz.func125 (by kernel_rfl) rfl
theorem go153 : Goes Go.Proofs.Tryz.prog 153 := enters_of Go.Proofs.Tryz.func153 (by kernel_rfl) rfl
theorem go154 : Goes Go.Proofs.Tryz.prog 154 := enters_of Go.Proofs.Tryz.func154 (by kernel_rfl) rfl
theorem oc_hLen (p : Nat) (a : Option Addr) (c : Nat) (l : List UInt8) (w : World) (hw : X.Holds w [blk p [.slice a l.length c] 167, own 5 1 a l.length c (byteL l)]) : Calls Go.Proofs.Tryz.prog 153 #[.pointer (some ⟨p, 0, none⟩)] w (Post w [blk p [.slice a l.length c] 167, own 5 1 a l.length c (byteL l)] (fun r Γ => r = .int .i64 l.length ∧ Γ = [blk p [.slice a l.length c] 167, own 5 1 a l.length c (byteL l)])) := by
  refine spec_of Go.Proofs.Tryz.func153 rfl Go.Proofs.Tryz.ntmps153 rfl hw ?_
  change C _ _ _ _ _ _ _ ⟨[(0, _)], []⟩ _
  refine C.regS ?_
  refine L.yl (Y.as rfl) ?_
  refine L.nil ?_
  refine C.seq ?_
  refine C.regS ?_
  refine L.yl (Y.mv rfl) ?_
  first | refine L.yl (Y.eqpS ⟨_, Go.Proofs.Tryz.underlying191⟩ rfl) ?_ | refine L.yl (Y.eqpN ⟨_, Go.Proofs.Tryz.underlying191⟩ rfl) ?_
  refine L.nil ?_
  refine C.condFf rfl ?_
  refine C.skip ?_
  refine Then.n ?_
  refine C.regS ?_
  refine L.yl (Y.mv rfl) ?_
  refine L.yl (Y.nck rfl) ?_
  first | refine L.yl (Y.fa0 fl165_0 rfl) ?_ | refine L.yl (Y.fa fl165_0 rfl) ?_ | refine L.yl (Y.fas fl165_0 rfl (by simp; omega)) ?_
  refine L.yl (Y.ld sc31 rfl rfl) ?_
  refine L.yl (Y.len ⟨_, Go.Proofs.Tryz.underlying31⟩ rfl) ?_
  refine L.yl (Y.as rfl) ?_
  refine L.nil ?_
  refine C.ret ?_
  refine FnPost.r1 Go.Proofs.Tryz.results153 rfl ?_
  exact ⟨rfl, rfl⟩
theorem oc_wLen (p : Nat) (a : Option Addr) (c : Nat) (l : List UInt8) (w : World) (hw : X.Holds w [blk p [.slice a l.length c] 167, own 5 1 a l.length c (byteL l)]) : Calls Go.Proofs.Tryz.prog 125 #[.pointer (some ⟨p, 0, none⟩)] w (Post w [blk p [.slice a l.length c] 167, own 5 1 a l.length c (byteL l)] (fun r Γ => r = .int .i64 l.length ∧ Γ = [blk p [.slice a l.length c] 167, own 5 1 a l.length c (byteL l)])) := by
  refine spec_of Go.Proofs.Tryz.func125 rfl Go.Proofs.Tryz.ntmps125 rfl hw ?_
  change C _ _ _ _ _ _ _ ⟨[(0, _)], []⟩ _
  refine C.regS ?_
  refine L.yl (Y.as rfl) ?_
  refine L.nil ?_
  refine C.seq ?_
  refine C.regS ?_
  refine L.yl (Y.mv rfl) ?_
  first | refine L.yl (Y.eqpS ⟨_, Go.Proofs.Tryz.underlying170⟩ rfl) ?_ | refine L.yl (Y.eqpN ⟨_, Go.Proofs.Tryz.underlying170⟩ rfl) ?_
  refine L.nil ?_
  refine C.condFf rfl ?_
  refine C.skip ?_
  refine Then.n ?_
  refine C.regS ?_
  refine L.yl (Y.mv rfl) ?_
  refine L.yl (Y.nck rfl) ?_
  first | refine L.yl (Y.fa0 fl167_0 rfl) ?_ | refine L.yl (Y.fa fl167_0 rfl) ?_ | refine L.yl (Y.fas fl167_0 rfl (by simp; omega)) ?_
  refine L.callF (Γf := [blk p [.slice a l.length c] 167, own 5 1 a l.length c (byteL l)]) go153 rfl (fun w hw hf => oc_hLen p a c l w hf) ?_
  rintro _ _ ⟨rfl, rfl⟩
  refine L.apc ?_
  refine L.yl (Y.as rfl) ?_
  refine L.nil ?_
  refine C.ret ?_
  refine FnPost.r1 Go.Proofs.Tryz.results125 rfl ?_
  exact ⟨rfl, rfl⟩
theorem oc_hnum (p : Nat) (a : Option Addr) (c : Nat) (l : List UInt8) (n k : Nat) (hn : n < 4294967296) (hk : k ≤ 4) (hl : l.length ≤ 4294967296) (w : World) (hw : X.Holds w [blk p [.slice a l.length c] 167, own 5 1 a l.length c (byteL l)]) : Calls Go.Proofs.Tryz.prog 154 #[.pointer (some ⟨p, 0, none⟩), .int .u32 n, .int .i64 k] w (Post w [blk p [.slice a l.length c] 167, own 5 1 a l.length c (byteL l)] (fun r Γ => r = .tuple #[] ∧ ∃ a c, Γ = [blk p [.slice a ((l ++ beB n k)).length c] 167, own 5 1 a ((l ++ beB n k)).length c (byteL ((l ++ beB n k)))])) := by
  refine spec_of Go.Proofs.Tryz.func154 rfl Go.Proofs.Tryz.ntmps154 rfl hw ?_
  change C _ _ _ _ _ _ _ ⟨[(0, _), (1, _), (2, _)], []⟩ _
  refine C.regS ?_
  refine L.yl (Y.mv rfl) ?_
  first | refine L.yl (Y.sub rfl rfl (by omega)) ?_ | refine L.yl (Y.subW rfl rfl) ?_
  refine L.yl (Y.as rfl) ?_
  refine L.nil ?_
  refine C.block ?_
  refine C.loop (σ := Nat × Option Addr × Nat × List UInt8) (fun (j, a, c, X) => [(0, .pointer (some ⟨p, 0, none⟩)), (1, .int .u32 n), (6, .int .i64 ((j : Int) - 1))]) (fun (j, a, c, X) => [blk p [.slice a X.length c] 167, own 5 1 a X.length c (byteL X)]) (fun (j, a, c, X) => j ≤ k ∧ l.length + (k - j) = X.length ∧ X ++ beB n j = l ++ beB n k) (fun (j, a, c, X) => j) (k, a, c, l) ?_ ?_ ?_ ?_
  · repeat (first | exact trivial | refine ⟨rfl, ?_⟩)
  · first | exact .of (.refl _) | exact inferInstance | (dsimp only; exact inferInstance)
  · exact ⟨Nat.le_refl _, by omega, rfl⟩
  · rintro ⟨j, a1, c1, X⟩ ⟨hI1, hI2, hI3⟩
    try dsimp only
    refine C.seq ?_
    refine C.regS ?_
    refine L.yl (Y.mv rfl) ?_
    refine L.yl (Y.geq rfl rfl) ?_
    refine L.nil ?_
    refine C.condP rfl (fun hc1 => ?_) (fun hc1 => ?_)
    ·
      have hj1 : 1 ≤ j := by omega
      refine C.skip ?_
      refine Then.n ?_
      refine C.seq ?_
      refine C.block ?_
      refine C.drwF (Δ := [blk p [.slice a1 X.length c1] 167, own 5 1 a1 X.length c1 (byteL X)]) (.y 0 (.y 1 (.y 2 (.y 3 (.y 5 (.y 6 (.y 7 (.y 8 (.y 9 (.b2 4 (.h 10 (.h 11 (.y 12 (.y 13 (.h 14 (.fin)))))) 10 (.h 4 (.h 11 (.y 12 (.y 13 (.h 14 (.fin)))))))))))))))) mixo (by kernel_rfl) ?_
      refine V.yl rfl (Y.mv rfl) ?_
      refine V.yl rfl (Y.mv rfl) ?_
      refine V.yl rfl (Y.nck rfl) ?_
      first | refine V.yl rfl (Y.fa0 fl165_0 rfl) ?_ | refine V.yl rfl (Y.fa fl165_0 rfl) ?_ | refine V.yl rfl (Y.fas fl165_0 rfl (by simp; omega)) ?_
      refine V.yl rfl (Y.mv rfl) ?_
      refine V.yl rfl (Y.mv rfl) ?_
      first | refine V.yl rfl (Y.mul rfl rfl (by omega)) ?_ | refine V.yl rfl (Y.mulW rfl rfl) ?_
      refine V.yl rfl (Y.shr rfl rfl (by omega)) ?_
      refine V.yl rfl (Y.cvW Go.Proofs.Tryz.underlying5 ⟨_, Go.Proofs.Tryz.underlying22⟩ rfl) ?_
      refine ⟨⟨_, rfl, ?_⟩, ⟨_, rfl, ?_⟩⟩
      ·
        refine L.apc ?_
        refine L.yl (Y.ld sc31 rfl rfl) ?_
        refine L.nil ?_
        refine V.on ?_
        refine V.hv rfl ?_
        refine L.apc ?_
        refine L.bs1 elt31 rfl rfl ?_; intro b23
        refine L.nil ?_
        refine V.on ?_
        refine V.hv rfl ?_
        refine L.apc ?_
        refine L.app elt31 rfl rfl (by rfl) (by first | (simp; done) | (simp [byteL]; done)) (by omega) (by omega) ?_; intro a24 c24
        refine L.nil ?_
        refine V.on ?_
        refine V.yl rfl (Y.nck rfl) ?_
        first | refine V.yl rfl (Y.fa0 fl165_0 rfl) ?_ | refine V.yl rfl (Y.fa fl165_0 rfl) ?_ | refine V.yl rfl (Y.fas fl165_0 rfl (by simp; omega)) ?_
        refine V.hv rfl ?_
        refine L.apc ?_
        refine L.st sc31 rfl rfl rfl ?_
        refine L.nil ?_
        refine V.on ?_
        refine V.fin ?_
        refine InBlo.n ?_
        refine Then.n ?_
        refine C.reg ?_
        refine L.yl (Y.mv rfl) ?_
        first | refine L.yl (Y.sub rfl rfl (by omega)) ?_ | refine L.yl (Y.subW rfl rfl) ?_
        refine L.yl (Y.as rfl) ?_
        refine L.nil ?_
        obtain ⟨j, rfl⟩ : ∃ j0, j = j0 + 1 := ⟨j - 1, by omega⟩
        have hsh : IntKind.u8.wrap ((n : Int).fdiv (2 ^ (min (8 * (((j + 1 : Nat) : Int) - 1)).toNat IntKind.u32.bits))) = ((UInt8.ofNat (n / 256 ^ j)).toNat : Int) := by
          rw [show (((j + 1 : Nat) : Int) - 1) = (j : Int) by omega]; exact shrByte n j hn (by omega)
        rw [hsh, show X.length + 1 = (X ++ [UInt8.ofNat (n / 256 ^ j)]).length by simp, show byteL X ++ [Value.int .u8 ((UInt8.ofNat (n / 256 ^ j)).toNat : Int)] = byteL (X ++ [UInt8.ofNat (n / 256 ^ j)]) by simp [byteL]]
        exact ⟨(j, a24, c24, X ++ [UInt8.ofNat (n / 256 ^ j)]), (by repeat (first | exact trivial | refine ⟨rfl, ?_⟩ | refine ⟨congrArg some (congrArg (Value.int .i64) (by omega)), ?_⟩ | refine ⟨congrArg some (by simp), ?_⟩ | refine ⟨congrArg some (by simp; omega), ?_⟩)), rfl, (by first | exact inferInstance | (dsimp only; exact inferInstance)), ⟨by omega, by simp; omega, by simp only [List.append_assoc]; exact hI3⟩, by simp⟩
      ·
        refine L.apc ?_
        refine L.bs1 elt31 rfl rfl ?_; intro b23
        refine L.nil ?_
        refine V.on ?_
        refine V.hv rfl ?_
        refine L.apc ?_
        refine L.yl (Y.ld sc31 rfl rfl) ?_
        refine L.nil ?_
        refine V.on ?_
        refine V.hv rfl ?_
        refine L.apc ?_
        refine L.app elt31 rfl rfl (by rfl) (by first | (simp; done) | (simp [byteL]; done)) (by omega) (by omega) ?_; intro a24 c24
        refine L.nil ?_
        refine V.on ?_
        refine V.yl rfl (Y.nck rfl) ?_
        first | refine V.yl rfl (Y.fa0 fl165_0 rfl) ?_ | refine V.yl rfl (Y.fa fl165_0 rfl) ?_ | refine V.yl rfl (Y.fas fl165_0 rfl (by simp; omega)) ?_
        refine V.hv rfl ?_
        refine L.apc ?_
        refine L.st sc31 rfl rfl rfl ?_
        refine L.nil ?_
        refine V.on ?_
        refine V.fin ?_
        refine InBlo.n ?_
        refine Then.n ?_
        refine C.reg ?_
        refine L.yl (Y.mv rfl) ?_
        first | refine L.yl (Y.sub rfl rfl (by omega)) ?_ | refine L.yl (Y.subW rfl rfl) ?_
        refine L.yl (Y.as rfl) ?_
        refine L.nil ?_
        obtain ⟨j, rfl⟩ : ∃ j0, j = j0 + 1 := ⟨j - 1, by omega⟩
        have hsh : IntKind.u8.wrap ((n : Int).fdiv (2 ^ (min (8 * (((j + 1 : Nat) : Int) - 1)).toNat IntKind.u32.bits))) = ((UInt8.ofNat (n / 256 ^ j)).toNat : Int) := by
          rw [show (((j + 1 : Nat) : Int) - 1) = (j : Int) by omega]; exact shrByte n j hn (by omega)
        rw [hsh, show X.length + 1 = (X ++ [UInt8.ofNat (n / 256 ^ j)]).length by simp, show byteL X ++ [Value.int .u8 ((UInt8.ofNat (n / 256 ^ j)).toNat : Int)] = byteL (X ++ [UInt8.ofNat (n / 256 ^ j)]) by simp [byteL]]
        exact ⟨(j, a24, c24, X ++ [UInt8.ofNat (n / 256 ^ j)]), (by repeat (first | exact trivial | refine ⟨rfl, ?_⟩ | refine ⟨congrArg some (congrArg (Value.int .i64) (by omega)), ?_⟩ | refine ⟨congrArg some (by simp), ?_⟩ | refine ⟨congrArg some (by simp; omega), ?_⟩)), rfl, (by first | exact inferInstance | (dsimp only; exact inferInstance)), ⟨by omega, by simp; omega, by simp only [List.append_assoc]; exact hI3⟩, by simp⟩
    ·
      refine C.exit ?_
      refine Then.x ?_
      refine Then.x ?_
      refine InBlo.x ?_
      refine FnPost.n0 Go.Proofs.Tryz.results154 ?_
      obtain rfl : j = 0 := by omega
      have hX : X = l ++ beB n k := by simpa [beB] using hI3
      subst hX
      exact ⟨rfl, a1, c1, rfl⟩
theorem oc_wOne (p : Nat) (a : Option Addr) (c : Nat) (l : List UInt8) (n : Nat) (hn : n < 256) (hl : l.length ≤ 4294967296) (w : World) (hw : X.Holds w [blk p [.slice a l.length c] 167, own 5 1 a l.length c (byteL l)]) : Calls Go.Proofs.Tryz.prog 126 #[.pointer (some ⟨p, 0, none⟩), .int .u8 n] w (Post w [blk p [.slice a l.length c] 167, own 5 1 a l.length c (byteL l)] (fun r Γ => r = .tuple #[] ∧ ∃ a c, Γ = [blk p [.slice a ((l ++ beB n 1)).length c] 167, own 5 1 a ((l ++ beB n 1)).length c (byteL ((l ++ beB n 1)))])) := by
  refine spec_of Go.Proofs.Tryz.func126 rfl Go.Proofs.Tryz.ntmps126 rfl hw ?_
  change C _ _ _ _ _ _ _ ⟨[(0, _), (1, _)], []⟩ _
  refine C.regS ?_
  refine L.yl (Y.mv rfl) ?_
  first | refine L.yl (Y.nepS ⟨_, Go.Proofs.Tryz.underlying170⟩ rfl) ?_ | refine L.yl (Y.nepN ⟨_, Go.Proofs.Tryz.underlying170⟩ rfl) ?_
  refine L.nil ?_
  refine C.condTt rfl ?_
  refine C.reg ?_
  refine L.yl (Y.mv rfl) ?_
  refine L.yl (Y.nck rfl) ?_
  first | refine L.yl (Y.fa0 fl167_0 rfl) ?_ | refine L.yl (Y.fa fl167_0 rfl) ?_ | refine L.yl (Y.fas fl167_0 rfl (by simp; omega)) ?_
  refine L.yl (Y.mv rfl) ?_
  refine L.yl (Y.cvW Go.Proofs.Tryz.underlying22 ⟨_, Go.Proofs.Tryz.underlying5⟩ rfl) ?_
  rw [u32_lt n (by omega)]
  refine L.callF (Γf := [blk p [.slice a l.length c] 167, own 5 1 a l.length c (byteL l)]) go154 rfl (fun w hw hf => oc_hnum p a c l n 1 (by omega) (by omega) hl w hf) ?_
  rintro _ _ ⟨rfl, a1, c1, rfl⟩
  refine L.apc ?_
  refine L.nil ?_
  refine FnPost.n0 Go.Proofs.Tryz.results126 ?_
  exact ⟨rfl, a1, c1, rfl⟩
theorem oc_wTwo (p : Nat) (a : Option Addr) (c : Nat) (l : List UInt8) (n : Nat) (hn : n < 65536) (hl : l.length ≤ 4294967296) (w : World) (hw : X.Holds w [blk p [.slice a l.length c] 167, own 5 1 a l.length c (byteL l)]) : Calls Go.Proofs.Tryz.prog 129 #[.pointer (some ⟨p, 0, none⟩), .int .u16 n] w (Post w [blk p [.slice a l.length c] 167, own 5 1 a l.length c (byteL l)] (fun r Γ => r = .tuple #[] ∧ ∃ a c, Γ = [blk p [.slice a ((l ++ beB n 2)).length c] 167, own 5 1 a ((l ++ beB n 2)).length c (byteL ((l ++ beB n 2)))])) := by
  refine spec_of Go.Proofs.Tryz.func129 rfl Go.Proofs.Tryz.ntmps129 rfl hw ?_
  change C _ _ _ _ _ _ _ ⟨[(0, _), (1, _)], []⟩ _
  refine C.regS ?_
  refine L.yl (Y.mv rfl) ?_
  first | refine L.yl (Y.nepS ⟨_, Go.Proofs.Tryz.underlying170⟩ rfl) ?_ | refine L.yl (Y.nepN ⟨_, Go.Proofs.Tryz.underlying170⟩ rfl) ?_
  refine L.nil ?_
  refine C.condTt rfl ?_
  refine C.reg ?_
  refine L.yl (Y.mv rfl) ?_
  refine L.yl (Y.nck rfl) ?_
  first | refine L.yl (Y.fa0 fl167_0 rfl) ?_ | refine L.yl (Y.fa fl167_0 rfl) ?_ | refine L.yl (Y.fas fl167_0 rfl (by simp; omega)) ?_
  refine L.yl (Y.mv rfl) ?_
  refine L.yl (Y.cvW Go.Proofs.Tryz.underlying22 ⟨_, Go.Proofs.Tryz.underlying118⟩ rfl) ?_
  rw [u32_lt n (by omega)]
  refine L.callF (Γf := [blk p [.slice a l.length c] 167, own 5 1 a l.length c (byteL l)]) go154 rfl (fun w hw hf => oc_hnum p a c l n 2 (by omega) (by omega) hl w hf) ?_
  rintro _ _ ⟨rfl, a1, c1, rfl⟩
  refine L.apc ?_
  refine L.nil ?_
  refine FnPost.n0 Go.Proofs.Tryz.results129 ?_
  exact ⟨rfl, a1, c1, rfl⟩
theorem oc_wFour (p : Nat) (a : Option Addr) (c : Nat) (l : List UInt8) (n : Nat) (hn : n < 4294967296) (hl : l.length ≤ 4294967296) (w : World) (hw : X.Holds w [blk p [.slice a l.length c] 167, own 5 1 a l.length c (byteL l)]) : Calls Go.Proofs.Tryz.prog 130 #[.pointer (some ⟨p, 0, none⟩), .int .u32 n] w (Post w [blk p [.slice a l.length c] 167, own 5 1 a l.length c (byteL l)] (fun r Γ => r = .tuple #[] ∧ ∃ a c, Γ = [blk p [.slice a ((l ++ beB n 4)).length c] 167, own 5 1 a ((l ++ beB n 4)).length c (byteL ((l ++ beB n 4)))])) := by
  refine spec_of Go.Proofs.Tryz.func130 rfl Go.Proofs.Tryz.ntmps130 rfl hw ?_
  change C _ _ _ _ _ _ _ ⟨[(0, _), (1, _)], []⟩ _
  refine C.regS ?_
  refine L.yl (Y.mv rfl) ?_
  first | refine L.yl (Y.nepS ⟨_, Go.Proofs.Tryz.underlying170⟩ rfl) ?_ | refine L.yl (Y.nepN ⟨_, Go.Proofs.Tryz.underlying170⟩ rfl) ?_
  refine L.nil ?_
  refine C.condTt rfl ?_
  refine C.reg ?_
  refine L.yl (Y.mv rfl) ?_
  refine L.yl (Y.nck rfl) ?_
  first | refine L.yl (Y.fa0 fl167_0 rfl) ?_ | refine L.yl (Y.fa fl167_0 rfl) ?_ | refine L.yl (Y.fas fl167_0 rfl (by simp; omega)) ?_
  refine L.yl (Y.mv rfl) ?_
  refine L.callF (Γf := [blk p [.slice a l.length c] 167, own 5 1 a l.length c (byteL l)]) go154 rfl (fun w hw hf => oc_hnum p a c l n 4 (by omega) (by omega) hl w hf) ?_
  rintro _ _ ⟨rfl, a1, c1, rfl⟩
  refine L.apc ?_
  refine L.nil ?_
  refine FnPost.n0 Go.Proofs.Tryz.results130 ?_
  exact ⟨rfl, a1, c1, rfl⟩
theorem oc_wAll (p : Nat) (a : Option Addr) (c : Nat) (l : List UInt8) (a2 : Option Addr) (l2 : List UInt8) (c2 : Nat) (hl : l.length + l2.length ≤ 140737488355328) (w : World) (hw : X.Holds w [blk p [.slice a l.length c] 167, own 5 1 a l.length c (byteL l)]) (h2 : ∀ w2, Keep (fps [blk p [.slice a l.length c] 167, own 5 1 a l.length c (byteL l)]) w w2 → Rs w2 a2 (byteL l2)) : Calls Go.Proofs.Tryz.prog 128 #[.pointer (some ⟨p, 0, none⟩), .slice a2 l2.length c2] w (Post w [blk p [.slice a l.length c] 167, own 5 1 a l.length c (byteL l)] (fun r Γ => r = .tuple #[] ∧ ∃ a c, Γ = [blk p [.slice a ((l ++ l2)).length c] 167, own 5 1 a ((l ++ l2)).length c (byteL ((l ++ l2)))])) := by
  haveI hrd : ∀ Γ, Rd w (fps [blk p [.slice a l.length c] 167, own 5 1 a l.length c (byteL l)]) Γ a2 (byteL l2) := fun Γ => ⟨fun w2 hw2 => h2 w2 hw2.keep⟩
  refine spec_of Go.Proofs.Tryz.func128 rfl Go.Proofs.Tryz.ntmps128 rfl hw ?_
  change C _ _ _ _ _ _ _ ⟨[(0, _), (1, _)], []⟩ _
  refine C.regS ?_
  refine L.yl (Y.mv rfl) ?_
  first | refine L.yl (Y.nepS ⟨_, Go.Proofs.Tryz.underlying170⟩ rfl) ?_ | refine L.yl (Y.nepN ⟨_, Go.Proofs.Tryz.underlying170⟩ rfl) ?_
  refine L.nil ?_
  refine C.condTt rfl ?_
  refine C.reg ?_
  refine L.yl (Y.mv rfl) ?_
  refine L.yl (Y.mv rfl) ?_
  refine L.yl (Y.nck rfl) ?_
  first | refine L.yl (Y.fa0 fl167_0 rfl) ?_ | refine L.yl (Y.fa fl167_0 rfl) ?_ | refine L.yl (Y.fas fl167_0 rfl (by simp; omega)) ?_
  first | refine L.yl (Y.fa0 fl165_0 rfl) ?_ | refine L.yl (Y.fa fl165_0 rfl) ?_ | refine L.yl (Y.fas fl165_0 rfl (by simp; omega)) ?_
  refine L.yl (Y.ld sc31 rfl rfl) ?_
  refine L.yl (Y.mv rfl) ?_
  refine L.app elt31 rfl rfl (by rfl) (by first | (simp; done) | (simp [byteL]; done)) (by omega) (by omega) ?_; intro a13 c13
  refine L.yl (Y.nck rfl) ?_
  first | refine L.yl (Y.fa0 fl167_0 rfl) ?_ | refine L.yl (Y.fa fl167_0 rfl) ?_ | refine L.yl (Y.fas fl167_0 rfl (by simp; omega)) ?_
  first | refine L.yl (Y.fa0 fl165_0 rfl) ?_ | refine L.yl (Y.fa fl165_0 rfl) ?_ | refine L.yl (Y.fas fl165_0 rfl (by simp; omega)) ?_
  refine L.st sc31 rfl rfl rfl ?_
  refine L.nil ?_
  refine FnPost.n0 Go.Proofs.Tryz.results128 ?_
  exact ⟨rfl, a13, c13, by simp [byteL]⟩
theorem oc_wBytes (p : Nat) (a : Option Addr) (c : Nat) (l : List UInt8) (hl : l.length ≤ 140737488355328) (w : World) (hw : X.Holds w [blk p [.slice a l.length c] 167, own 5 1 a l.length c (byteL l)]) : Calls Go.Proofs.Tryz.prog 127 #[.pointer (some ⟨p, 0, none⟩)] w (Post w [blk p [.slice a l.length c] 167, own 5 1 a l.length c (byteL l)] (fun r Γ => ∃ a1 c1, r = .slice a1 l.length c1 ∧ Γ = [own 5 1 a1 l.length c1 (byteL l), blk p [.slice a l.length c] 167, own 5 1 a l.length c (byteL l)])) := by
  refine spec_of Go.Proofs.Tryz.func127 rfl Go.Proofs.Tryz.ntmps127 rfl hw ?_
  change C _ _ _ _ _ _ _ ⟨[(0, _)], []⟩ _
  refine C.regS ?_
  refine L.yl (Y.as rfl) ?_
  refine L.nil ?_
  refine C.seq ?_
  refine C.regS ?_
  refine L.yl (Y.mv rfl) ?_
  refine L.callF (Γf := [blk p [.slice a l.length c] 167, own 5 1 a l.length c (byteL l)]) go125 rfl (fun w hw hf => oc_wLen p a c l w hf) ?_
  rintro _ _ ⟨rfl, rfl⟩
  refine L.apc ?_
  refine L.yl (Y.eqi rfl rfl) ?_
  refine L.nil ?_
  refine C.condP rfl (fun hc1 => ?_) (fun hc1 => ?_)
  ·
    refine C.nil0 5 1 ?_
    refine C.regS ?_
    refine L.yl (Y.as rfl) ?_
    refine L.nil ?_
    refine C.ret ?_
    refine Then.r ?_
    refine FnPost.r1 Go.Proofs.Tryz.results127 rfl ?_
    obtain rfl : l = [] := List.length_eq_zero_iff.1 (by omega)
    exact ⟨none, 0, rfl, rfl⟩
  ·
    refine C.skip ?_
    refine Then.n ?_
    refine C.regS ?_
    refine L.bsl elt31 rfl rfl rfl (by decide) ?_; intro b6
    refine L.yl (Y.mv rfl) ?_
    refine L.yl (Y.nck rfl) ?_
    first | refine L.yl (Y.fa0 fl167_0 rfl) ?_ | refine L.yl (Y.fa fl167_0 rfl) ?_ | refine L.yl (Y.fas fl167_0 rfl (by simp; omega)) ?_
    first | refine L.yl (Y.fa0 fl165_0 rfl) ?_ | refine L.yl (Y.fa fl165_0 rfl) ?_ | refine L.yl (Y.fas fl165_0 rfl (by simp; omega)) ?_
    refine L.yl (Y.ld sc31 rfl rfl) ?_
    refine L.app elt31 rfl rfl (by rfl) (by first | (simp; done) | (simp [byteL]; done)) (by omega) (by omega) ?_; intro a12 c12
    refine L.yl (Y.as rfl) ?_
    refine L.nil ?_
    refine C.ret ?_
    refine FnPost.r1 Go.Proofs.Tryz.results127 rfl ?_
    exact ⟨a12, c12, by rw [Nat.zero_add], by rw [Nat.zero_add]; rfl⟩
end Go.Proofs.YtcbhcdcobgdddaaGreat
set_option maxHeartbeats 1000000
namespace Go.Proofs.YtcbhcdcobgdddaaGreat
open Go Go.X Go.Rep Go.Shelf
theorem elt175 : ElT Go.Proofs.Tryz.prog 175 31 1 24 := ElT.of (z := .slice none 0 0) Go.Proofs.Tryz.underlying175 (by kernel_rfl) rfl (by decide)
theorem go132 : Goes Go.Proofs.Tryz.prog 132 := enters_of Go.Proofs.Tryz.func132 (by kernel_rfl) rfl
theorem go133 : Goes Go.Proofs.Tryz.prog 133 := enters_of Go.Proofs.Tryz.func133 (by kernel_rfl) rfl
theorem go156 : Goes Go.Proofs.Tryz.prog 156 := enters_of Go.Proofs.Tryz.func156 (by kernel_rfl) rfl
theorem go98 : Goes Go.Proofs.Tryz.prog 98 := enters_of Go.Proofs.Tryz.func98 (by kernel_rfl) rfl
theorem sc118 : Sc Go.Proofs.Tryz.prog 118 := ⟨_, Go.Proofs.Tryz.underlying118, rfl, by kernel_rfl⟩
theorem sc175 : Sc Go.Proofs.Tryz.prog 175 := ⟨_, Go.Proofs.Tryz.underlying175, rfl, by kernel_rfl⟩
theorem slt175 : SlT Go.Proofs.Tryz.prog 175 31 1 := ⟨Go.Proofs.Tryz.underlying175, by kernel_rfl, by decide⟩
theorem zr118 : Zr Go.Proofs.Tryz.prog 118 (.int .u16 0) := by unfold Zr; kernel_rfl
theorem sum_words (a : Option Addr) (q c : Nat) (w : World) : Calls Go.Proofs.Tryz.prog 132 #[.slice a q c] w (Post w [] (fun r Γ => ∃ px, r = .func (.func 156) #[] #[.pointer (some ⟨px, 0, none⟩)] ∧ Γ = [blk px [.slice a q c] 175])) := by
  refine spec_of Go.Proofs.Tryz.func132 rfl Go.Proofs.Tryz.ntmps132 rfl ((Holds.nil w)) ?_
  change C _ _ _ _ _ _ _ ⟨[(0, _)], []⟩ _
  refine C.regS ?_
  refine L.bx rfl rfl ?_; intro b1
  refine L.yl (Y.as rfl) ?_
  refine L.nil ?_
  refine C.regS ?_
  refine L.yl (Y.mkf (cv := #[_]) rfl) ?_
  refine L.yl (Y.as rfl) ?_
  refine L.nil ?_
  refine C.ret ?_
  refine FnPost.r1 Go.Proofs.Tryz.results132 rfl ?_
  exact ⟨b1, rfl, rfl⟩
theorem words_iter (w0 : World) (S0 : Nat → Prop) (a : Option Addr) (b : List UInt8) (c : Nat) (hbl : b.length ≤ 4294967296) (hr : ∀ Δ, Rd w0 S0 Δ a (byteL b)) (px : Nat) (al : Option Addr) (cl : Nat) : IterOkS w0 S0 Go.Proofs.Tryz.prog 156 #[.pointer (some ⟨px, 0, none⟩)] (fun x : Nat => [.int .u16 x]) (wordsB b) [blk px [.slice al 1 cl] 175, own 31 1 al 1 cl [.slice a b.length c]] [] := by
  intro σ τ G I Gx Ix s0 y w hy1 hW hI hy
  replace hW : X.Sep w0 S0 w (blk px [.slice al 1 cl] 175 :: own 31 1 al 1 cl [.slice a b.length c] :: G s0) := hW
  haveI hrd := fun Δ => hW.rd_via hr Δ
  change Calls Go.Proofs.Tryz.prog 156 [y, .pointer (some ⟨px, 0, none⟩)].toArray w (Post w (blk px [.slice al 1 cl] 175 :: own 31 1 al 1 cl [.slice a b.length c] :: G s0) _)
  refine spec_of Go.Proofs.Tryz.func156 rfl Go.Proofs.Tryz.ntmps156 rfl hW.holds ?_
  change C _ _ _ _ _ _ _ ⟨[(0, _), (1, _)], []⟩ _
  refine C.regS ?_
  refine L.yl (Y.as rfl) ?_
  refine L.yl (Y.as rfl) ?_
  refine L.nil ?_
  refine C.seq ?_
  refine C.regS ?_
  refine L.yl (Y.ld sc175 rfl rfl) ?_
  refine L.yl (Y.len ⟨_, Go.Proofs.Tryz.underlying175⟩ rfl) ?_
  refine L.yl (Y.mv rfl) ?_
  refine L.nil ?_
  refine C.block ?_
  refine C.loop (σ := Nat × σ × List Nat × Int × Bool) (fun (k, s, pre, hv, odd) => [(0, y), (3, .int .u16 hv), (4, .bool odd), (9, .slice al 1 cl), (10, .int .i64 ((1 : Nat) : Int)), (11, .int .i64 k)]) (fun (k, s, pre, hv, odd) => blk px [.slice al 1 cl] 175 :: own 31 1 al 1 cl [.slice a b.length c] :: G s) (fun (k, s, pre, hv, odd) => I pre s ∧ ((k = 0 ∧ pre = [] ∧ odd = false) ∨ (k = 1 ∧ ∃ e, (odd = true → e + 1 = b.length ∧ ∃ x, b[e]? = some x ∧ hv = ((x.toNat * 256 : Nat) : Int)) ∧ (odd = false → e = b.length) ∧ wordsB b = pre ++ wordsB (b.drop e)))) (fun (k, s, pre, hv, odd) => 1 - k) (0, s0, [], 0, false) ?_ ?_ ?_ ?_
  · repeat (first | exact trivial | refine ⟨rfl, ?_⟩)
  · first | exact .of (.refl _) | exact inferInstance | (dsimp only; exact inferInstance)
  · exact ⟨hI, .inl ⟨rfl, rfl, rfl⟩⟩
  · rintro ⟨k, s, pre, hv, odd⟩ ⟨hI1, hI2⟩
    try dsimp only
    refine C.regS ?_
    refine L.yl (Y.lss rfl rfl) ?_
    refine L.nil ?_
    refine C.seq ?_
    refine C.condP rfl (fun hc1 => ?_) (fun hc1 => ?_)
    ·
      obtain ⟨rfl, rfl, rfl⟩ : k = 0 ∧ pre = [] ∧ odd = false := by
        rcases hI2 with h | ⟨h, _⟩
        · exact h
        · omega
      clear hI2
      refine C.skip ?_
      refine Then.n ?_
      refine C.seq ?_
      refine C.block ?_
      refine C.regS ?_
      refine L.yl (Y.ix slt175 rfl rfl (by rfl) (by omega) (by omega)) ?_
      first | refine L.yl (Y.ld sc31 rfl rfl) ?_ | refine L.yl (Y.lds sc31 rfl (rfl)) ?_
      refine L.yl (Y.as rfl) ?_
      refine L.nil ?_
      refine C.regS ?_
      refine L.yl (Y.mv rfl) ?_
      refine L.yl (Y.len ⟨_, Go.Proofs.Tryz.underlying31⟩ rfl) ?_
      refine L.yl (Y.mv rfl) ?_
      refine L.nil ?_
      refine C.block ?_
      refine C.loop (σ := Nat × σ × List Nat × Int × Bool) (fun (j, s, pre, hv, odd) => [(0, y), (3, .int .u16 hv), (4, .bool odd), (9, .slice al 1 cl), (10, .int .i64 ((1 : Nat) : Int)), (11, .int .i64 ((0 : Nat) : Int)), (15, .slice a b.length c), (16, .int .i64 b.length), (17, .int .i64 j)]) (fun (j, s, pre, hv, odd) => blk px [.slice al 1 cl] 175 :: own 31 1 al 1 cl [.slice a b.length c] :: G s) (fun (j, s, pre, hv, odd) => I pre s ∧ j ≤ b.length ∧ ∃ e, wordsB b = pre ++ wordsB (b.drop e) ∧ (odd = true → e + 1 = j ∧ ∃ x, b[e]? = some x ∧ hv = ((x.toNat * 256 : Nat) : Int)) ∧ (odd = false → e = j)) (fun (j, s, pre, hv, odd) => b.length - j) (0, s, [], hv, false) ?_ ?_ ?_ ?_
      · repeat (first | exact trivial | refine ⟨rfl, ?_⟩)
      · first | exact .of (.refl _) | exact inferInstance | (dsimp only; exact inferInstance)
      · exact ⟨hI1, Nat.zero_le _, 0, by simp, fun h => (by cases h), fun _ => rfl⟩
      · rintro ⟨j, s, pre, hv, odd⟩ ⟨hI1, hJ2, e, hJ3, hJ4⟩
        try dsimp only
        refine C.regS ?_
        refine L.yl (Y.lss rfl rfl) ?_
        refine L.nil ?_
        refine C.seq ?_
        refine C.condP rfl (fun hc2 => ?_) (fun hc2 => ?_)
        ·
          obtain ⟨u0, hu0⟩ : ∃ u, b[j]? = some u := ⟨_, List.getElem?_eq_getElem (by omega)⟩
          refine C.skip ?_
          refine Then.n ?_
          refine C.seq ?_
          refine C.block ?_
          refine C.regS ?_
          refine L.yl (Y.ix slt31 rfl rfl (by first | (simp; done) | (simp [byteL]; done)) (by omega) (by omega)) ?_
          first | refine L.yl (Y.ld sc5 rfl rfl) ?_ | refine L.yl (Y.lds sc5 rfl (get_byteL hu0 (by simp))) ?_
          refine L.yl (Y.as rfl) ?_
          refine L.nil ?_
          refine C.seq ?_
          refine C.regS ?_
          refine L.yl (Y.mv rfl) ?_
          first | refine L.yl (Y.notP rfl) ?_ | refine L.yl (Y.not rfl) ?_
          refine L.nil ?_
          refine C.cond rfl (fun hc3 => ?_) (fun hc3 => ?_)
          ·
            refine C.regS ?_
            refine L.yl (Y.mv rfl) ?_
            refine L.yl (Y.cvW Go.Proofs.Tryz.underlying118 ⟨_, Go.Proofs.Tryz.underlying5⟩ rfl) ?_
            refine L.yl (Y.shl rfl rfl (by omega)) ?_
            rw [shl16 u0]
            refine L.yl (Y.as rfl) ?_
            refine L.yl (Y.as rfl) ?_
            refine L.nil ?_
            refine C.exit ?_
            refine Then.x ?_
            refine InBlo.x ?_
            refine Then.n ?_
            refine C.reg ?_
            first | refine L.yl (Y.add rfl rfl (by omega)) ?_ | refine L.yl (Y.addW rfl rfl) ?_
            refine L.yl (Y.mv rfl) ?_
            refine L.nil ?_
            obtain rfl : e = j := hJ4.2 (by simpa using hc3)
            exact ⟨(e + 1, s, pre, ((u0.toNat * 256 : Nat) : Int), true), (by repeat (first | exact trivial | refine ⟨rfl, ?_⟩ | refine ⟨congrArg some (by simp), ?_⟩ | refine ⟨congrArg some (by simp; omega), ?_⟩)), rfl, .of (.refl _), ⟨hI1, by omega, e, hJ3, fun _ => ⟨rfl, u0, hu0, rfl⟩, fun h => by cases h⟩, (by first | omega | (dsimp only; omega))⟩
          ·
            obtain ⟨hje, x0, hx0, rfl⟩ := hJ4.1 (by simpa using hc3)
            subst hje
            have hst := wordsB_drop hx0 hu0
            refine C.skip ?_
            refine Then.n ?_
            refine C.regS ?_
            refine L.yl (Y.as rfl) ?_
            refine L.nil ?_
            refine C.regS ?_
            refine L.yl (Y.mv rfl) ?_
            refine L.yl (Y.mv rfl) ?_
            refine L.yl (Y.mv rfl) ?_
            refine L.yl (Y.cvW Go.Proofs.Tryz.underlying118 ⟨_, Go.Proofs.Tryz.underlying5⟩ rfl) ?_
            refine L.yl (Y.or rfl rfl) ?_
            rw [or16 _ _ x0.toNat_lt u0.toNat_lt]
            refine L.callV (fv := y) (Γf := G s) (Γr := [_, _]) rfl rfl (List.perm_append_comm (l₁ := [_, _])) (fun w' hw' _ => hy pre (x0.toNat * 256 + u0.toNat) s w' hI1 (⟨wordsB (b.drop (e + 2)), by rw [hJ3, hst]; simp⟩) (hw'.wk ⟨[_, _], List.perm_append_comm (l₁ := [_, _])⟩)) ?_
            rintro _ _ (⟨s', rfl, rfl, hI'⟩ | ⟨u, rfl, rfl, hI'⟩)
            ·
              first | refine L.yl (Y.notP rfl) ?_ | refine L.yl (Y.not rfl) ?_
              refine L.nil ?_
              refine C.condFf rfl ?_
              refine C.skip ?_
              refine InBlo.n ?_
              refine Then.n ?_
              refine C.reg ?_
              first | refine L.yl (Y.add rfl rfl (by omega)) ?_ | refine L.yl (Y.addW rfl rfl) ?_
              refine L.yl (Y.mv rfl) ?_
              refine L.nil ?_
              exact ⟨(e + 2, s', pre ++ [x0.toNat * 256 + u0.toNat], ((x0.toNat * 256 : Nat) : Int), false), (by repeat (first | exact trivial | refine ⟨rfl, ?_⟩ | refine ⟨congrArg some (by simp), ?_⟩ | refine ⟨congrArg some (by simp; omega), ?_⟩)), rfl, .of (List.perm_append_comm (l₁ := G s')), ⟨hI', by omega, e + 2, by rw [hJ3, hst]; simp, fun h => (by cases h), fun _ => rfl⟩, (by first | omega | (dsimp only; omega))⟩
            ·
              first | refine L.yl (Y.notP rfl) ?_ | refine L.yl (Y.not rfl) ?_
              refine L.nil ?_
              refine C.condTt rfl ?_
              refine C.ret ?_
              refine InBlo.r ?_
              refine Then.r ?_
              refine Then.r ?_
              refine InBlo.r ?_
              refine InBlo.r ?_
              refine Then.r ?_
              refine Then.r ?_
              refine InBlo.r ?_
              refine Then.r ?_
              refine FnPost.r0 Go.Proofs.Tryz.results156 ?_
              exact .inr ⟨_, u, ⟨[_, _], .refl _⟩, hI', ⟨wordsB (b.drop (e + 2)), by rw [hJ3, hst]; simp⟩⟩
        ·
          refine C.exit ?_
          refine Then.x ?_
          refine Then.x ?_
          refine InBlo.x ?_
          refine InBlo.n ?_
          refine Then.n ?_
          refine C.reg ?_
          first | refine L.yl (Y.add rfl rfl (by omega)) ?_ | refine L.yl (Y.addW rfl rfl) ?_
          refine L.yl (Y.mv rfl) ?_
          refine L.nil ?_
          obtain ⟨h1, h2⟩ := hJ4
          exact ⟨(1, s, pre, hv, odd), (by repeat (first | exact trivial | refine ⟨rfl, ?_⟩ | refine ⟨congrArg some (by simp), ?_⟩ | refine ⟨congrArg some (by simp; omega), ?_⟩)), rfl, .of (.refl _), ⟨hI1, .inr ⟨rfl, e, fun ho => ⟨by have := h1 ho; omega, (h1 ho).2⟩, fun ho => by have := h2 ho; omega, hJ3⟩⟩, by simp⟩
    ·
      obtain ⟨e, hJ1, hJ2, hJ3⟩ : ∃ e, (odd = true → e + 1 = b.length ∧ ∃ x, b[e]? = some x ∧ hv = ((x.toNat * 256 : Nat) : Int)) ∧ (odd = false → e = b.length) ∧ wordsB b = pre ++ wordsB (b.drop e) := by
        rcases hI2 with ⟨h, _⟩ | ⟨_, h⟩
        · omega
        · exact h
      refine C.exit ?_
      refine Then.x ?_
      refine Then.x ?_
      refine InBlo.x ?_
      refine Then.n ?_
      refine C.regS ?_
      refine L.yl (Y.mv rfl) ?_
      refine L.nil ?_
      refine C.cond rfl (fun hc6 => ?_) (fun hc6 => ?_)
      ·
        obtain ⟨hje, x0, hx0, rfl⟩ := hJ1 (by simpa using hc6)
        have hst := wordsB_last hx0 (by omega)
        refine C.reg ?_
        refine L.yl (Y.mv rfl) ?_
        refine L.yl (Y.mv rfl) ?_
        refine L.callV (fv := y) (Γf := G s) (Γr := [_, _]) rfl rfl (List.perm_append_comm (l₁ := [_, _])) (fun w' hw' _ => hy pre (x0.toNat * 256) s w' hI1 (⟨[], by rw [hJ3, hst]; simp⟩) (hw'.wk ⟨[_, _], List.perm_append_comm (l₁ := [_, _])⟩)) ?_
        rintro _ _ (⟨s', rfl, rfl, hI'⟩ | ⟨u, rfl, rfl, hI'⟩)
        ·
          refine L.nil ?_
          refine FnPost.n0 Go.Proofs.Tryz.results156 ?_
          exact .inl ⟨_, ⟨[_, _], .refl _⟩, by rw [hJ3, hst]; exact hI'⟩
        ·
          refine L.nil ?_
          refine FnPost.n0 Go.Proofs.Tryz.results156 ?_
          exact .inr ⟨_, u, ⟨[_, _], .refl _⟩, hI', ⟨[], by rw [hJ3, hst]; simp⟩⟩
      ·
        refine C.skip ?_
        refine FnPost.n0 Go.Proofs.Tryz.results156 ?_
        exact .inl ⟨s, ⟨[_, _], List.perm_append_comm (l₁ := [_, _])⟩, by rw [hJ3, wordsB_end (by have := hJ2 (by simpa using hc6); omega), List.append_nil]; exact hI1⟩
theorem sum_Add (x y : Nat) (hx : x < 65536) (hy : y < 65536) (w : World) : Pur Go.Proofs.Tryz.prog 133 [.int .u16 x, .int .u16 y] (.int .u16 (addN x y)) w := by
  refine pur_of Go.Proofs.Tryz.func133 rfl Go.Proofs.Tryz.ntmps133 rfl ?_
  change C _ _ _ _ _ _ _ ⟨[(0, _), (1, _)], []⟩ _
  refine C.regS ?_
  refine L.yl (Y.as rfl) ?_
  refine L.nil ?_
  refine C.regS ?_
  refine L.yl (Y.mv rfl) ?_
  refine L.yl (Y.cvW Go.Proofs.Tryz.underlying22 ⟨_, Go.Proofs.Tryz.underlying118⟩ rfl) ?_
  refine L.yl (Y.mv rfl) ?_
  refine L.yl (Y.cvW Go.Proofs.Tryz.underlying22 ⟨_, Go.Proofs.Tryz.underlying118⟩ rfl) ?_
  refine L.yl (Y.addW rfl rfl) ?_
  refine L.yl (Y.as rfl) ?_
  refine L.nil ?_
  refine C.regS ?_
  refine L.yl (Y.mv rfl) ?_
  refine L.yl (Y.and rfl rfl) ?_
  refine L.yl (Y.mv rfl) ?_
  refine L.yl (Y.shr rfl rfl (by omega)) ?_
  refine L.yl (Y.addW rfl rfl) ?_
  refine L.yl (Y.cvW Go.Proofs.Tryz.underlying118 ⟨_, Go.Proofs.Tryz.underlying22⟩ rfl) ?_
  refine L.yl (Y.as rfl) ?_
  refine L.nil ?_
  refine C.ret ?_
  refine FnPost.r1 Go.Proofs.Tryz.results133 rfl ?_
  rw [add16 x y hx hy]
theorem sum_Of (a : Option Addr) (b : List UInt8) (c : Nat) (hbl : b.length ≤ 4294967296) (al : Option Addr) (cl : Nat) (w : World) (hw : X.Holds w [own 31 1 al 1 cl [.slice a b.length c]]) (h2 : ∀ w2, Keep (fps [own 31 1 al 1 cl [.slice a b.length c]]) w w2 → Rs w2 a (byteL b)) : Calls Go.Proofs.Tryz.prog 98 #[.slice al 1 cl] w (Post w [own 31 1 al 1 cl [.slice a b.length c]] (RW fun r Γ => r = .int .u16 (sumN b) ∧ Γ = [])) := by
  have hrd : ∀ Γ, Rd w (fps [own 31 1 al 1 cl [.slice a b.length c]]) Γ a (byteL b) := fun Γ => ⟨fun w2 hw2 => h2 w2 hw2.keep⟩
  refine spec_of Go.Proofs.Tryz.func98 rfl Go.Proofs.Tryz.ntmps98 rfl hw ?_
  change C _ _ _ _ _ _ _ ⟨[(0, _)], []⟩ _
  refine C.regS ?_
  refine L.yl (Y.as rfl) ?_
  refine L.nil ?_
  refine C.regS ?_
  refine L.al (zs := [.int .u16 0]) zr118 rfl ?_; intro b3
  refine L.st sc118 rfl rfl rfl ?_
  refine L.nil ?_
  refine C.seq ?_
  refine C.regS ?_
  refine L.yl (Y.mv rfl) ?_
  refine L.callF (Γf := []) go132 rfl (fun w hw hf => sum_words al 1 cl w) ?_
  rintro _ _ ⟨px, rfl, rfl⟩
  refine L.apc ?_
  refine L.nil ?_
  refine C.block ?_
  refine C.rfS (fun x : Nat => Value.int .u16 x) (fun _ : Unit => Code.ret) (fun s : Nat => [blk b3 [.int .u16 s] 118]) (fun pre s => s = pre.foldl addN 0) (fun _ => []) (fun _ _ => False) 0 rfl go156 (words_iter _ _ a b c hbl hrd px al cl) (by show Wk _ [blk px [.slice al 1 cl] 175, own 31 1 al 1 cl [.slice a b.length c], blk b3 [.int .u16 ((0 : Nat) : Int)] 118]; exact inferInstance) rfl ?_ ?_ ?_
  · rintro w' l r pre x k hs hr rfl hp
    have hx : x < 65536 := wordsB_lt b x (hp.subset (by simp))
    have hk : pre.foldl addN 0 < 65536 := fold_lt _ _ (by omega)
    try dsimp only
    refine C.reg ?_
    refine L.yl (Y.as rfl) ?_
    refine L.nil ?_
    refine ⟨rfl, _, Wk.pk, ?_⟩
    refine C.block ?_
    refine C.reg ?_
    refine L.yl (Y.ld sc118 rfl rfl) ?_
    refine L.yl (Y.mv rfl) ?_
    refine L.callP go133 rfl (fun w hw => sum_Add _ _ hk hx w) ?_
    refine L.st sc118 rfl rfl rfl ?_
    refine L.nil ?_
    refine InBlo.n ?_
    exact ⟨addN (pre.foldl addN 0) x, (by dsimp only; exact inferInstance), by simp⟩
  · rintro D k rfl
    try dsimp only [List.nil_append]
    refine InBlo.n ?_
    refine Then.n ?_
    refine C.regS ?_
    refine L.yl (Y.ld sc118 rfl rfl) ?_
    refine L.yl (Y.as rfl) ?_
    refine L.nil ?_
    refine C.ret ?_
    refine FnPost.rgM (xs := [.tmp 2]) (congrArg Array.toList Go.Proofs.Tryz.results98) (ra_tmp rfl ra_nil) ?_
    exact ⟨[], inferInstance, rfl, rfl⟩
  · rintro D pre u hIx hp; exact hIx.elim
theorem sum_Check (a : Option Addr) (b : List UInt8) (c : Nat) (hbl : b.length ≤ 4294967296) (al : Option Addr) (cl : Nat) (w : World) (hw : X.Holds w [own 31 1 al 1 cl [.slice a b.length c]]) (h2 : ∀ w2, Keep (fps [own 31 1 al 1 cl [.slice a b.length c]]) w w2 → Rs w2 a (byteL b)) : Calls Go.Proofs.Tryz.prog 83 #[.slice al 1 cl] w (Post w [own 31 1 al 1 cl [.slice a b.length c]] (RW fun r Γ => r = .int .u16 ((65535 - sumN b : Nat) : Int) ∧ Γ = [])) := by
  have hlt := sumN_lt b
  refine spec_of Go.Proofs.Tryz.func83 rfl Go.Proofs.Tryz.ntmps83 rfl hw ?_
  change C _ _ _ _ _ _ _ ⟨[(0, _)], []⟩ _
  refine C.regS ?_
  refine L.yl (Y.as rfl) ?_
  refine L.nil ?_
  refine C.regS ?_
  refine L.yl (Y.mv rfl) ?_
  refine L.callFW (Γf := [own 31 1 al 1 cl [.slice a b.length c]]) go98 rfl (fun w2 hw2 hf => sum_Of a b c hbl al cl w2 hf (fun w3 hk => h2 w3 (by simpa using hw2.keep.trans hk (fun i hi hlt => hw2.inn i (by simpa using hi) hlt)))) ?_
  rintro _ _ ⟨rfl, rfl⟩
  refine L.apc ?_
  refine L.yl (Y.cpl16 rfl (by omega)) ?_
  refine L.yl (Y.as rfl) ?_
  refine L.nil ?_
  refine C.ret ?_
  refine FnPost.r1 Go.Proofs.Tryz.results83 rfl ?_
  exact ⟨[], inferInstance, rfl, rfl⟩
theorem sum_Fine (a : Option Addr) (b : List UInt8) (c : Nat) (hbl : b.length ≤ 4294967296) (w : World) (h : Rs w a (byteL b)) : Pur Go.Proofs.Tryz.prog 57 [.slice a b.length c] (.bool (decide (sumN b = 65535))) w := by
  refine pur_of Go.Proofs.Tryz.func57 rfl Go.Proofs.Tryz.ntmps57 rfl ?_
  change C _ _ _ _ _ _ _ ⟨[(0, _)], []⟩ _
  refine C.regS ?_
  refine L.yl (Y.as rfl) ?_
  refine L.nil ?_
  refine C.regS ?_
  refine L.yl (Y.mv rfl) ?_
  refine L.bs1 elt175 rfl rfl ?_; intro b4
  refine L.callFW (Γf := [own 31 1 (some ⟨b4, 0, none⟩) 1 1 [.slice a b.length c]]) go98 rfl (fun w2 hw2 hf => sum_Of a b c hbl _ _ w2 hf (hw2.rk_old (Γf := [own 31 1 (some ⟨b4, 0, none⟩) 1 1 [.slice a b.length c]]) (Γr := _) inferInstance h (fun _ _ _ ⟨c, hc, _⟩ => by simp at hc))) ?_
  rintro _ _ ⟨rfl, rfl⟩
  refine L.apc ?_
  refine L.yl (Y.eqi rfl rfl) ?_
  refine L.yl (Y.as rfl) ?_
  refine L.nil ?_
  refine C.ret ?_
  refine FnPost.r1 Go.Proofs.Tryz.results57 rfl ?_
  congr 1; rw [Bool.eq_iff_iff, decide_eq_true_iff, decide_eq_true_iff]; omega
end Go.Proofs.YtcbhcdcobgdddaaGreat
set_option maxHeartbeats 1000000
namespace Go.Proofs.YtcbhcdcobgdddaaGreat
open Go Go.X Go.Rep Go.Shelf
theorem ag44 : Ag Go.Proofs.Tryz.prog 44 8 := ⟨_, Go.Proofs.Tryz.underlying44, rfl, by kernel_rfl⟩
theorem fl44_0 : Fld Go.Proofs.Tryz.prog 44 0 0 := ⟨_, _, Go.Proofs.Tryz.underlying44, rfl, rfl, _, (by kernel_rfl : (Go.Proofs.Tryz.prog.info? 3).map (·.size) = some 1), by decide⟩
theorem fl44_1 : Fld Go.Proofs.Tryz.prog 44 1 1 := ⟨_, _, Go.Proofs.Tryz.underlying44, rfl, rfl, _, (by kernel_rfl : (Go.Proofs.Tryz.prog.info? 4).map (·.size) = some 1), by decide⟩
theorem fl44_2 : Fld Go.Proofs.Tryz.prog 44 2 2 := ⟨_, _, Go.Proofs.Tryz.underlying44, rfl, rfl, _, (by kernel_rfl : (Go.Proofs.Tryz.prog.info? 4).map (·.size) = some 1), by decide⟩
theorem fl44_3 : Fld Go.Proofs.Tryz.prog 44 3 3 := ⟨_, _, Go.Proofs.Tryz.underlying44, rfl, rfl, _, (by kernel_rfl : (Go.Proofs.Tryz.prog.info? 22).map (·.size) = some 1), by decide⟩
theorem fl44_4 : Fld Go.Proofs.Tryz.prog 44 4 4 := ⟨_, _, Go.Proofs.Tryz.underlying44, rfl, rfl, _, (by kernel_rfl : (Go.Proofs.Tryz.prog.info? 22).map (·.size) = some 1), by decide⟩
theorem fl44_5 : Fld Go.Proofs.Tryz.prog 44 5 5 := ⟨_, _, Go.Proofs.Tryz.underlying44, rfl, rfl, _, (by kernel_rfl : (Go.Proofs.Tryz.prog.info? 4).map (·.size) = some 1), by decide⟩
theorem fl44_6 : Fld Go.Proofs.Tryz.prog 44 6 6 := ⟨_, _, Go.Proofs.Tryz.underlying44, rfl, rfl, _, (by kernel_rfl : (Go.Proofs.Tryz.prog.info? 3).map (·.size) = some 1), by decide⟩
theorem fl44_7 : Fld Go.Proofs.Tryz.prog 44 7 7 := ⟨_, _, Go.Proofs.Tryz.underlying44, rfl, rfl, _, (by kernel_rfl : (Go.Proofs.Tryz.prog.info? 42).map (·.size) = some 1), by decide⟩
theorem go134 : Goes Go.Proofs.Tryz.prog 134 := enters_of Go.Proofs.Tryz.func134 (by kernel_rfl) rfl
theorem go157 : Goes Go.Proofs.Tryz.prog 157 := enters_of Go.Proofs.Tryz.func157 (by kernel_rfl) rfl
theorem sc22 : Sc Go.Proofs.Tryz.prog 22 := ⟨_, Go.Proofs.Tryz.underlying22, rfl, by kernel_rfl⟩
theorem sc4 : Sc Go.Proofs.Tryz.prog 4 := ⟨_, Go.Proofs.Tryz.underlying4, rfl, by kernel_rfl⟩
theorem sc42 : Sc Go.Proofs.Tryz.prog 42 := ⟨_, Go.Proofs.Tryz.underlying42, rfl, by kernel_rfl⟩
theorem opt_bare (o : Opts) (a : Option Addr) (c : Nat) (hl : o.blocks.length ≤ 65536) (w : World) : Pur Go.Proofs.Tryz.prog 157 [.agg (optCs o a c).toArray] (.int .i64 (bareN o : Nat)) w := by
  refine pur_of Go.Proofs.Tryz.func157 rfl Go.Proofs.Tryz.ntmps157 rfl ?_
  change C _ _ _ _ _ _ _ ⟨[(0, _)], []⟩ _
  refine C.regS ?_
  refine L.bxa rfl ?_; intro b1
  refine L.yl (Y.as rfl) ?_
  refine L.nil ?_
  refine C.regS ?_
  refine L.yl (Y.as rfl) ?_
  refine L.nil ?_
  refine C.cut (fun (n : Nat) => [(1, .pointer (some ⟨b1, 0, none⟩)), (3, .int .i64 n)]) [] (fun _ => [blk b1 (optCs o a c) 44]) (fun n => n = (if o.mss ≠ 0 then 4 else 0) ∧ n ≤ 1000000) ?_ ?_
  ·
    refine C.regS ?_
    first | refine L.yl (Y.fa0 fl44_0 rfl) ?_ | refine L.yl (Y.fa fl44_0 rfl) ?_ | refine L.yl (Y.fas fl44_0 rfl (by simp; omega)) ?_
    refine L.yl (Y.ld sc3 rfl rfl) ?_
    refine L.yl (Y.nei rfl rfl) ?_
    refine L.nil ?_
    refine C.condP rfl (fun hc1 => ?_) (fun hc1 => ?_)
    ·
      refine C.reg ?_
      refine L.yl (Y.mv rfl) ?_
      first | refine L.yl (Y.add rfl rfl (by omega)) ?_ | refine L.yl (Y.addW rfl rfl) ?_
      refine L.yl (Y.as rfl) ?_
      refine L.nil ?_
      refine Then.n ?_
      exact ⟨0 + 4, (by repeat (first | exact trivial | refine ⟨rfl, ?_⟩ | refine ⟨congrArg some (congrArg (Value.int .i64) (by omega)), ?_⟩ | refine ⟨congrArg some (congrArg (Value.int .i64) (by omega)), ?_⟩)), rfl, (by first | exact inferInstance | (dsimp only; exact inferInstance)), by simp [*], by omega⟩
    ·
      refine C.skip ?_
      refine Then.n ?_
      exact ⟨0 + 0, (by repeat (first | exact trivial | refine ⟨rfl, ?_⟩ | refine ⟨congrArg some (congrArg (Value.int .i64) (by omega)), ?_⟩ | refine ⟨congrArg some (congrArg (Value.int .i64) (by omega)), ?_⟩)), rfl, (by first | exact inferInstance | (dsimp only; exact inferInstance)), by simp [*], by omega⟩
  · rintro n1 hn1
    have hb1 : n1 ≤ 100 := by rw [hn1.1]; (repeat' split) <;> omega
    refine C.cut (fun (n : Nat) => [(1, .pointer (some ⟨b1, 0, none⟩)), (3, .int .i64 n)]) [] (fun _ => [blk b1 (optCs o a c) 44]) (fun n => n = (if o.mss ≠ 0 then 4 else 0) + (if o.permit = true then 2 else 0) ∧ n ≤ 1000000) ?_ ?_
    ·
      refine C.regS ?_
      first | refine L.yl (Y.fa0 fl44_1 rfl) ?_ | refine L.yl (Y.fa fl44_1 rfl) ?_ | refine L.yl (Y.fas fl44_1 rfl (by simp; omega)) ?_
      refine L.yl (Y.ld sc4 rfl rfl) ?_
      refine L.nil ?_
      refine C.cond rfl (fun hc2 => ?_) (fun hc2 => ?_)
      ·
        refine C.reg ?_
        refine L.yl (Y.mv rfl) ?_
        first | refine L.yl (Y.add rfl rfl (by omega)) ?_ | refine L.yl (Y.addW rfl rfl) ?_
        refine L.yl (Y.as rfl) ?_
        refine L.nil ?_
        refine Then.n ?_
        exact ⟨n1 + 2, (by repeat (first | exact trivial | refine ⟨rfl, ?_⟩ | refine ⟨congrArg some (congrArg (Value.int .i64) (by omega)), ?_⟩ | refine ⟨congrArg some (congrArg (Value.int .i64) (by omega)), ?_⟩)), rfl, (by first | exact inferInstance | (dsimp only; exact inferInstance)), by simp [*], by have := hn1.2; have := hb1; omega⟩
      ·
        refine C.skip ?_
        refine Then.n ?_
        exact ⟨n1 + 0, (by repeat (first | exact trivial | refine ⟨rfl, ?_⟩ | refine ⟨congrArg some (congrArg (Value.int .i64) (by omega)), ?_⟩ | refine ⟨congrArg some (congrArg (Value.int .i64) (by omega)), ?_⟩)), rfl, (by first | exact inferInstance | (dsimp only; exact inferInstance)), by simp [*], by have := hn1.2; have := hb1; omega⟩
    · rintro n2 hn2
      have hb2 : n2 ≤ 100 := by rw [hn2.1]; (repeat' split) <;> omega
      refine C.cut (fun (n : Nat) => [(1, .pointer (some ⟨b1, 0, none⟩)), (3, .int .i64 n)]) [] (fun _ => [blk b1 (optCs o a c) 44]) (fun n => n = (if o.mss ≠ 0 then 4 else 0) + (if o.permit = true then 2 else 0) + (if o.ts = true then 10 else 0) ∧ n ≤ 1000000) ?_ ?_
      ·
        refine C.regS ?_
        first | refine L.yl (Y.fa0 fl44_2 rfl) ?_ | refine L.yl (Y.fa fl44_2 rfl) ?_ | refine L.yl (Y.fas fl44_2 rfl (by simp; omega)) ?_
        refine L.yl (Y.ld sc4 rfl rfl) ?_
        refine L.nil ?_
        refine C.cond rfl (fun hc3 => ?_) (fun hc3 => ?_)
        ·
          refine C.reg ?_
          refine L.yl (Y.mv rfl) ?_
          first | refine L.yl (Y.add rfl rfl (by omega)) ?_ | refine L.yl (Y.addW rfl rfl) ?_
          refine L.yl (Y.as rfl) ?_
          refine L.nil ?_
          refine Then.n ?_
          exact ⟨n2 + 10, (by repeat (first | exact trivial | refine ⟨rfl, ?_⟩ | refine ⟨congrArg some (congrArg (Value.int .i64) (by omega)), ?_⟩ | refine ⟨congrArg some (congrArg (Value.int .i64) (by omega)), ?_⟩)), rfl, (by first | exact inferInstance | (dsimp only; exact inferInstance)), by simp [*], by have := hn2.2; have := hb2; omega⟩
        ·
          refine C.skip ?_
          refine Then.n ?_
          exact ⟨n2 + 0, (by repeat (first | exact trivial | refine ⟨rfl, ?_⟩ | refine ⟨congrArg some (congrArg (Value.int .i64) (by omega)), ?_⟩ | refine ⟨congrArg some (congrArg (Value.int .i64) (by omega)), ?_⟩)), rfl, (by first | exact inferInstance | (dsimp only; exact inferInstance)), by simp [*], by have := hn2.2; have := hb2; omega⟩
      · rintro n3 hn3
        have hb3 : n3 ≤ 100 := by rw [hn3.1]; (repeat' split) <;> omega
        refine C.cut (fun (n : Nat) => [(1, .pointer (some ⟨b1, 0, none⟩)), (3, .int .i64 n)]) [] (fun _ => [blk b1 (optCs o a c) 44]) (fun n => n = (if o.mss ≠ 0 then 4 else 0) + (if o.permit = true then 2 else 0) + (if o.ts = true then 10 else 0) + (if o.has = true then 3 else 0) ∧ n ≤ 1000000) ?_ ?_
        ·
          refine C.regS ?_
          first | refine L.yl (Y.fa0 fl44_5 rfl) ?_ | refine L.yl (Y.fa fl44_5 rfl) ?_ | refine L.yl (Y.fas fl44_5 rfl (by simp; omega)) ?_
          refine L.yl (Y.ld sc4 rfl rfl) ?_
          refine L.nil ?_
          refine C.cond rfl (fun hc4 => ?_) (fun hc4 => ?_)
          ·
            refine C.reg ?_
            refine L.yl (Y.mv rfl) ?_
            first | refine L.yl (Y.add rfl rfl (by omega)) ?_ | refine L.yl (Y.addW rfl rfl) ?_
            refine L.yl (Y.as rfl) ?_
            refine L.nil ?_
            refine Then.n ?_
            exact ⟨n3 + 3, (by repeat (first | exact trivial | refine ⟨rfl, ?_⟩ | refine ⟨congrArg some (congrArg (Value.int .i64) (by omega)), ?_⟩ | refine ⟨congrArg some (congrArg (Value.int .i64) (by omega)), ?_⟩)), rfl, (by first | exact inferInstance | (dsimp only; exact inferInstance)), by simp [*], by have := hn3.2; have := hb3; omega⟩
          ·
            refine C.skip ?_
            refine Then.n ?_
            exact ⟨n3 + 0, (by repeat (first | exact trivial | refine ⟨rfl, ?_⟩ | refine ⟨congrArg some (congrArg (Value.int .i64) (by omega)), ?_⟩ | refine ⟨congrArg some (congrArg (Value.int .i64) (by omega)), ?_⟩)), rfl, (by first | exact inferInstance | (dsimp only; exact inferInstance)), by simp [*], by have := hn3.2; have := hb3; omega⟩
        · rintro n4 hn4
          have hb4 : n4 ≤ 100 := by rw [hn4.1]; (repeat' split) <;> omega
          refine C.cut (fun (n : Nat) => [(1, .pointer (some ⟨b1, 0, none⟩)), (3, .int .i64 n)]) [] (fun _ => [blk b1 (optCs o a c) 44]) (fun n => n = (if o.mss ≠ 0 then 4 else 0) + (if o.permit = true then 2 else 0) + (if o.ts = true then 10 else 0) + (if o.has = true then 3 else 0) + (if 0 < o.blocks.length then 2 + 8 * o.blocks.length else 0) ∧ n ≤ 1000000) ?_ ?_
          ·
            refine C.regS ?_
            first | refine L.yl (Y.fa0 fl44_7 rfl) ?_ | refine L.yl (Y.fa fl44_7 rfl) ?_ | refine L.yl (Y.fas fl44_7 rfl (by simp; omega)) ?_
            refine L.yl (Y.ld sc42 rfl rfl) ?_
            refine L.yl (Y.len ⟨_, Go.Proofs.Tryz.underlying42⟩ rfl) ?_
            refine L.yl (Y.gtr rfl rfl) ?_
            refine L.nil ?_
            refine C.condP rfl (fun hc5 => ?_) (fun hc5 => ?_)
            ·
              refine C.reg ?_
              refine L.yl (Y.mv rfl) ?_
              first | refine L.yl (Y.fa0 fl44_7 rfl) ?_ | refine L.yl (Y.fa fl44_7 rfl) ?_ | refine L.yl (Y.fas fl44_7 rfl (by simp; omega)) ?_
              refine L.yl (Y.ld sc42 rfl rfl) ?_
              refine L.yl (Y.len ⟨_, Go.Proofs.Tryz.underlying42⟩ rfl) ?_
              first | refine L.yl (Y.mul rfl rfl (by omega)) ?_ | refine L.yl (Y.mulW rfl rfl) ?_
              first | refine L.yl (Y.add rfl rfl (by omega)) ?_ | refine L.yl (Y.addW rfl rfl) ?_
              first | refine L.yl (Y.add rfl rfl (by omega)) ?_ | refine L.yl (Y.addW rfl rfl) ?_
              refine L.yl (Y.as rfl) ?_
              refine L.nil ?_
              refine Then.n ?_
              exact ⟨n4 + (2 + 8 * o.blocks.length), (by repeat (first | exact trivial | refine ⟨rfl, ?_⟩ | refine ⟨congrArg some (congrArg (Value.int .i64) (by omega)), ?_⟩ | refine ⟨congrArg some (congrArg (Value.int .i64) (by omega)), ?_⟩)), rfl, (by first | exact inferInstance | (dsimp only; exact inferInstance)), by rw [if_pos (show 0 < o.blocks.length by omega), hn4.1], by have := hn4.2; have := hb4; omega⟩
            ·
              refine C.skip ?_
              refine Then.n ?_
              exact ⟨n4 + 0, (by repeat (first | exact trivial | refine ⟨rfl, ?_⟩ | refine ⟨congrArg some (congrArg (Value.int .i64) (by omega)), ?_⟩ | refine ⟨congrArg some (congrArg (Value.int .i64) (by omega)), ?_⟩)), rfl, (by first | exact inferInstance | (dsimp only; exact inferInstance)), by rw [if_neg (show ¬ 0 < o.blocks.length by omega), hn4.1], by have := hn4.2; have := hb4; omega⟩
          · rintro n5 hn5
            have hb5 : n5 ≤ 1000000 := by rw [hn5.1]; (repeat' split) <;> omega
            refine C.regS ?_
            refine L.yl (Y.mv rfl) ?_
            refine L.yl (Y.as rfl) ?_
            refine L.nil ?_
            refine C.ret ?_
            refine FnPost.r1 Go.Proofs.Tryz.results157 rfl ?_
            rw [hn5.1]; rfl
theorem bareN_le (o : Opts) : bareN o ≤ 21 + 8 * o.blocks.length := by
  unfold bareN
  (repeat' split) <;> omega
theorem opt_Size (o : Opts) (a : Option Addr) (c : Nat) (hl : o.blocks.length ≤ 65536) (w : World) : Pur Go.Proofs.Tryz.prog 134 [.agg (optCs o a c).toArray] (.int .i64 (sizeN o : Nat)) w := by
  have hbn := bareN_le o
  refine pur_of Go.Proofs.Tryz.func134 rfl Go.Proofs.Tryz.ntmps134 rfl ?_
  change C _ _ _ _ _ _ _ ⟨[(0, _)], []⟩ _
  refine C.regS ?_
  refine L.bxa rfl ?_; intro b1
  refine L.yl (Y.as rfl) ?_
  refine L.nil ?_
  refine C.seq ?_
  refine C.regS ?_
  first | refine L.yl (Y.fa0 fl44_7 rfl) ?_ | refine L.yl (Y.fa fl44_7 rfl) ?_ | refine L.yl (Y.fas fl44_7 rfl (by simp; omega)) ?_
  refine L.yl (Y.ld sc42 rfl rfl) ?_
  refine L.yl (Y.len ⟨_, Go.Proofs.Tryz.underlying42⟩ rfl) ?_
  refine L.yl (Y.gtr rfl rfl) ?_
  refine L.nil ?_
  refine C.condP rfl (fun hc1 => ?_) (fun hc1 => ?_)
  ·
    refine C.regS ?_
    refine L.yl (Y.as rfl) ?_
    refine L.nil ?_
    refine C.ret ?_
    refine Then.r ?_
    refine FnPost.r1 Go.Proofs.Tryz.results134 rfl ?_
    unfold sizeN; rw [if_pos (by omega)]; rfl
  ·
    refine C.skip ?_
    refine Then.n ?_
    refine C.regS ?_
    refine L.yl (Y.lda (vs := [_, _, _, _, _, _, _, _]) ag44 rfl rfl) ?_
    refine L.callP go157 rfl (fun w hw => opt_bare o _ _ hl w) ?_
    first | refine L.yl (Y.add rfl rfl (by omega)) ?_ | refine L.yl (Y.addW rfl rfl) ?_
    refine L.yl (Y.quo rfl rfl (by omega) (by omega)) ?_
    first | refine L.yl (Y.mul rfl rfl (by omega)) ?_ | refine L.yl (Y.mulW rfl rfl) ?_
    refine L.yl (Y.as rfl) ?_
    refine L.nil ?_
    refine C.ret ?_
    refine FnPost.r1 Go.Proofs.Tryz.results134 rfl ?_
    unfold sizeN; rw [if_neg (by omega)]; first | rfl | (congr 1; omega)
theorem opt_Check (o : Opts) (a : Option Addr) (c : Nat) (hl : o.blocks.length ≤ 65536) (w : World) : Pur Go.Proofs.Tryz.prog 105 [.agg (optCs o a c).toArray] (.int .i64 (chkO o)) w := by
  refine pur_of Go.Proofs.Tryz.func105 rfl Go.Proofs.Tryz.ntmps105 rfl ?_
  change C _ _ _ _ _ _ _ ⟨[(0, _)], []⟩ _
  refine C.regS ?_
  refine L.bxa rfl ?_; intro b1
  refine L.yl (Y.as rfl) ?_
  refine L.nil ?_
  refine C.seq ?_
  refine C.block ?_
  refine C.test (o.mss < 0 ∨ 65535 < o.mss ∨ o.scale < 0 ∨ 14 < o.scale) ?_ (fun hc1 => ?_) (fun hc1 => ?_)
  ·
    first | refine L.yl (Y.fa0 fl44_0 rfl) ?_ | refine L.yl (Y.fa fl44_0 rfl) ?_ | refine L.yl (Y.fas fl44_0 rfl (by simp; omega)) ?_
    refine L.yl (Y.ld sc3 rfl rfl) ?_
    refine L.yl (Y.lss rfl rfl) ?_
    refine L.yl (Y.mv rfl) ?_
    first | refine L.gsplit (i := 7) rfl (fun hg7 => ?_) (fun hg7 => ?_) | refine L.gsplitB (i := 7) rfl (fun hg7 => ?_) (fun hg7 => ?_)
    ·
      refine L.gOff (t := 7) rfl rfl rfl ?_
      refine L.gOff (t := 7) rfl rfl rfl ?_
      refine L.gOff (t := 7) rfl rfl rfl ?_
      refine L.yl (Y.pickT rfl rfl) ?_
      refine L.yl (Y.mv rfl) ?_
      refine L.gOff (t := 12) rfl rfl rfl ?_
      refine L.gOff (t := 12) rfl rfl rfl ?_
      refine L.gOff (t := 12) rfl rfl rfl ?_
      refine L.yl (Y.pickT rfl rfl) ?_
      refine L.yl (Y.mv rfl) ?_
      refine L.gOff (t := 17) rfl rfl rfl ?_
      refine L.gOff (t := 17) rfl rfl rfl ?_
      refine L.gOff (t := 17) rfl rfl rfl ?_
      refine L.yl (Y.pickT rfl rfl) ?_
      refine L.yl (Y.as rfl) ?_
      refine L.nil ?_
      exact ⟨_, rfl, by first | (simp [*]; done) | (simp [*] <;> omega) | (simp_all; done) | (simp_all <;> omega), (by repeat (first | exact Inc.refl _ | refine Inc.cons rfl ?_)), rfl, rfl⟩
    ·
      refine L.gOn (t := 7) rfl rfl ?_
      first | refine L.yl (Y.fa0 fl44_0 rfl) ?_ | refine L.yl (Y.fa fl44_0 rfl) ?_ | refine L.yl (Y.fas fl44_0 rfl (by simp; omega)) ?_
      refine L.gOn (t := 7) rfl rfl ?_
      refine L.yl (Y.ld sc3 rfl rfl) ?_
      refine L.gOn (t := 7) rfl rfl ?_
      refine L.yl (Y.gtr rfl rfl) ?_
      refine L.yl (Y.pickF rfl rfl) ?_
      refine L.yl (Y.mv rfl) ?_
      first | refine L.gsplit (i := 12) rfl (fun hg12 => ?_) (fun hg12 => ?_) | refine L.gsplitB (i := 12) rfl (fun hg12 => ?_) (fun hg12 => ?_)
      ·
        refine L.gOff (t := 12) rfl rfl rfl ?_
        refine L.gOff (t := 12) rfl rfl rfl ?_
        refine L.gOff (t := 12) rfl rfl rfl ?_
        refine L.yl (Y.pickT rfl rfl) ?_
        refine L.yl (Y.mv rfl) ?_
        refine L.gOff (t := 17) rfl rfl rfl ?_
        refine L.gOff (t := 17) rfl rfl rfl ?_
        refine L.gOff (t := 17) rfl rfl rfl ?_
        refine L.yl (Y.pickT rfl rfl) ?_
        refine L.yl (Y.as rfl) ?_
        refine L.nil ?_
        exact ⟨_, rfl, by first | (simp [*]; done) | (simp [*] <;> omega) | (simp_all; done) | (simp_all <;> omega), (by repeat (first | exact Inc.refl _ | refine Inc.cons rfl ?_)), rfl, rfl⟩
      ·
        refine L.gOn (t := 12) rfl rfl ?_
        first | refine L.yl (Y.fa0 fl44_6 rfl) ?_ | refine L.yl (Y.fa fl44_6 rfl) ?_ | refine L.yl (Y.fas fl44_6 rfl (by simp; omega)) ?_
        refine L.gOn (t := 12) rfl rfl ?_
        refine L.yl (Y.ld sc3 rfl rfl) ?_
        refine L.gOn (t := 12) rfl rfl ?_
        refine L.yl (Y.lss rfl rfl) ?_
        refine L.yl (Y.pickF rfl rfl) ?_
        refine L.yl (Y.mv rfl) ?_
        first | refine L.gsplit (i := 17) rfl (fun hg17 => ?_) (fun hg17 => ?_) | refine L.gsplitB (i := 17) rfl (fun hg17 => ?_) (fun hg17 => ?_)
        ·
          refine L.gOff (t := 17) rfl rfl rfl ?_
          refine L.gOff (t := 17) rfl rfl rfl ?_
          refine L.gOff (t := 17) rfl rfl rfl ?_
          refine L.yl (Y.pickT rfl rfl) ?_
          refine L.yl (Y.as rfl) ?_
          refine L.nil ?_
          exact ⟨_, rfl, by first | (simp [*]; done) | (simp [*] <;> omega) | (simp_all; done) | (simp_all <;> omega), (by repeat (first | exact Inc.refl _ | refine Inc.cons rfl ?_)), rfl, rfl⟩
        ·
          refine L.gOn (t := 17) rfl rfl ?_
          first | refine L.yl (Y.fa0 fl44_6 rfl) ?_ | refine L.yl (Y.fa fl44_6 rfl) ?_ | refine L.yl (Y.fas fl44_6 rfl (by simp; omega)) ?_
          refine L.gOn (t := 17) rfl rfl ?_
          refine L.yl (Y.ld sc3 rfl rfl) ?_
          refine L.gOn (t := 17) rfl rfl ?_
          refine L.yl (Y.gtr rfl rfl) ?_
          refine L.yl (Y.pickF rfl rfl) ?_
          refine L.yl (Y.as rfl) ?_
          refine L.nil ?_
          exact ⟨_, rfl, by first | (simp [*]; done) | (simp [*] <;> omega) | (simp_all; done) | (simp_all <;> omega), (by repeat (first | exact Inc.refl _ | refine Inc.cons rfl ?_)), rfl, rfl⟩
  ·
    refine C.regS ?_
    refine L.yl (Y.as rfl) ?_
    refine L.nil ?_
    refine C.ret ?_
    refine InBlo.r ?_
    refine Then.r ?_
    refine FnPost.r1 Go.Proofs.Tryz.results105 rfl ?_
    unfold chkO; rw [if_pos hc1]
  ·
    refine C.test ((o.scale ≠ 0 ∧ o.has = false) ∨ ((o.val ≠ 0 ∨ o.ecr ≠ 0) ∧ o.ts = false)) ?_ (fun hc2 => ?_) (fun hc2 => ?_)
    ·
      first | refine L.yl (Y.fa0 fl44_6 rfl) ?_ | refine L.yl (Y.fa fl44_6 rfl) ?_ | refine L.yl (Y.fas fl44_6 rfl (by simp; omega)) ?_
      refine L.yl (Y.ld sc3 rfl rfl) ?_
      refine L.yl (Y.nei rfl rfl) ?_
      refine L.yl (Y.mv rfl) ?_
      first | refine L.gsplit (i := 26) rfl (fun hg26 => ?_) (fun hg26 => ?_) | refine L.gsplitB (i := 26) rfl (fun hg26 => ?_) (fun hg26 => ?_)
      ·
        refine L.gOn (t := 26) rfl rfl ?_
        first | refine L.yl (Y.fa0 fl44_5 rfl) ?_ | refine L.yl (Y.fa fl44_5 rfl) ?_ | refine L.yl (Y.fas fl44_5 rfl (by simp; omega)) ?_
        refine L.gOn (t := 26) rfl rfl ?_
        refine L.yl (Y.ld sc4 rfl rfl) ?_
        refine L.gOn (t := 26) rfl rfl ?_
        first | refine L.yl (Y.notP rfl) ?_ | refine L.yl (Y.not rfl) ?_
        refine L.yl (Y.pickT rfl rfl) ?_
        refine L.yl (Y.mv rfl) ?_
        first | refine L.gsplit (i := 31) rfl (fun hg31 => ?_) (fun hg31 => ?_) | refine L.gsplitB (i := 31) rfl (fun hg31 => ?_) (fun hg31 => ?_)
        ·
          refine L.gOff (t := 31) rfl rfl rfl ?_
          refine L.gOff (t := 31) rfl rfl rfl ?_
          refine L.gOff (t := 31) rfl rfl rfl ?_
          refine L.gOff (t := 31) rfl rfl rfl ?_
          refine L.gOffU (t := 35) rfl rfl ?_
          refine L.gOffU (t := 35) rfl rfl ?_
          refine L.gOffU (t := 35) rfl rfl ?_
          refine L.gOff (t := 31) rfl rfl rfl ?_
          refine L.gOff (t := 31) rfl rfl rfl ?_
          refine L.gOffU (t := 40) rfl rfl ?_
          refine L.gOffU (t := 40) rfl rfl ?_
          refine L.gOffU (t := 40) rfl rfl ?_
          refine L.gOff (t := 31) rfl rfl rfl ?_
          refine L.yl (Y.pickT rfl rfl) ?_
          refine L.yl (Y.as rfl) ?_
          refine L.nil ?_
          exact ⟨_, rfl, by first | (simp [*]; done) | (simp [*] <;> omega) | (simp_all; done) | (simp_all <;> omega), (by repeat (first | exact Inc.refl _ | refine Inc.cons rfl ?_)), rfl, rfl⟩
        ·
          refine L.gOn (t := 31) rfl rfl ?_
          first | refine L.yl (Y.fa0 fl44_3 rfl) ?_ | refine L.yl (Y.fa fl44_3 rfl) ?_ | refine L.yl (Y.fas fl44_3 rfl (by simp; omega)) ?_
          refine L.gOn (t := 31) rfl rfl ?_
          refine L.yl (Y.ld sc22 rfl rfl) ?_
          refine L.gOn (t := 31) rfl rfl ?_
          refine L.yl (Y.nei rfl rfl) ?_
          refine L.gOn (t := 31) rfl rfl ?_
          refine L.yl (Y.mv rfl) ?_
          first | refine L.gsplit (i := 35) rfl (fun hg35 => ?_) (fun hg35 => ?_) | refine L.gsplitB (i := 35) rfl (fun hg35 => ?_) (fun hg35 => ?_)
          ·
            refine L.gOff (t := 35) rfl rfl rfl ?_
            refine L.gOff (t := 35) rfl rfl rfl ?_
            refine L.gOff (t := 35) rfl rfl rfl ?_
            refine L.gOn (t := 31) rfl rfl ?_
            refine L.yl (Y.pickT rfl rfl) ?_
            refine L.gOn (t := 31) rfl rfl ?_
            refine L.yl (Y.mv rfl) ?_
            refine L.gOn (t := 40) rfl rfl ?_
            first | refine L.yl (Y.fa0 fl44_2 rfl) ?_ | refine L.yl (Y.fa fl44_2 rfl) ?_ | refine L.yl (Y.fas fl44_2 rfl (by simp; omega)) ?_
            refine L.gOn (t := 40) rfl rfl ?_
            refine L.yl (Y.ld sc4 rfl rfl) ?_
            refine L.gOn (t := 40) rfl rfl ?_
            first | refine L.yl (Y.notP rfl) ?_ | refine L.yl (Y.not rfl) ?_
            refine L.gOn (t := 31) rfl rfl ?_
            refine L.yl (Y.pickT rfl rfl) ?_
            refine L.yl (Y.pickF rfl rfl) ?_
            refine L.yl (Y.as rfl) ?_
            refine L.nil ?_
            exact ⟨_, rfl, by first | (simp [*]; done) | (simp [*] <;> omega) | (simp_all; done) | (simp_all <;> omega), (by repeat (first | exact Inc.refl _ | refine Inc.cons rfl ?_)), rfl, rfl⟩
          ·
            refine L.gOn (t := 35) rfl rfl ?_
            first | refine L.yl (Y.fa0 fl44_4 rfl) ?_ | refine L.yl (Y.fa fl44_4 rfl) ?_ | refine L.yl (Y.fas fl44_4 rfl (by simp; omega)) ?_
            refine L.gOn (t := 35) rfl rfl ?_
            refine L.yl (Y.ld sc22 rfl rfl) ?_
            refine L.gOn (t := 35) rfl rfl ?_
            refine L.yl (Y.nei rfl rfl) ?_
            refine L.gOn (t := 31) rfl rfl ?_
            refine L.yl (Y.pickF rfl rfl) ?_
            refine L.gOn (t := 31) rfl rfl ?_
            refine L.yl (Y.mv rfl) ?_
            first | refine L.gsplit (i := 40) rfl (fun hg40 => ?_) (fun hg40 => ?_) | refine L.gsplitB (i := 40) rfl (fun hg40 => ?_) (fun hg40 => ?_)
            ·
              refine L.gOn (t := 40) rfl rfl ?_
              first | refine L.yl (Y.fa0 fl44_2 rfl) ?_ | refine L.yl (Y.fa fl44_2 rfl) ?_ | refine L.yl (Y.fas fl44_2 rfl (by simp; omega)) ?_
              refine L.gOn (t := 40) rfl rfl ?_
              refine L.yl (Y.ld sc4 rfl rfl) ?_
              refine L.gOn (t := 40) rfl rfl ?_
              first | refine L.yl (Y.notP rfl) ?_ | refine L.yl (Y.not rfl) ?_
              refine L.gOn (t := 31) rfl rfl ?_
              refine L.yl (Y.pickT rfl rfl) ?_
              refine L.yl (Y.pickF rfl rfl) ?_
              refine L.yl (Y.as rfl) ?_
              refine L.nil ?_
              exact ⟨_, rfl, by first | (simp [*]; done) | (simp [*] <;> omega) | (simp_all; done) | (simp_all <;> omega), (by repeat (first | exact Inc.refl _ | refine Inc.cons rfl ?_)), rfl, rfl⟩
            ·
              refine L.gOff (t := 40) rfl rfl rfl ?_
              refine L.gOff (t := 40) rfl rfl rfl ?_
              refine L.gOff (t := 40) rfl rfl rfl ?_
              refine L.gOn (t := 31) rfl rfl ?_
              refine L.yl (Y.pickF rfl rfl) ?_
              refine L.yl (Y.pickF rfl rfl) ?_
              refine L.yl (Y.as rfl) ?_
              refine L.nil ?_
              exact ⟨_, rfl, by first | (simp [*]; done) | (simp [*] <;> omega) | (simp_all; done) | (simp_all <;> omega), (by repeat (first | exact Inc.refl _ | refine Inc.cons rfl ?_)), rfl, rfl⟩
      ·
        refine L.gOff (t := 26) rfl rfl rfl ?_
        refine L.gOff (t := 26) rfl rfl rfl ?_
        refine L.gOff (t := 26) rfl rfl rfl ?_
        refine L.yl (Y.pickF rfl rfl) ?_
        refine L.yl (Y.mv rfl) ?_
        refine L.gOn (t := 31) rfl rfl ?_
        first | refine L.yl (Y.fa0 fl44_3 rfl) ?_ | refine L.yl (Y.fa fl44_3 rfl) ?_ | refine L.yl (Y.fas fl44_3 rfl (by simp; omega)) ?_
        refine L.gOn (t := 31) rfl rfl ?_
        refine L.yl (Y.ld sc22 rfl rfl) ?_
        refine L.gOn (t := 31) rfl rfl ?_
        refine L.yl (Y.nei rfl rfl) ?_
        refine L.gOn (t := 31) rfl rfl ?_
        refine L.yl (Y.mv rfl) ?_
        first | refine L.gsplit (i := 35) rfl (fun hg35 => ?_) (fun hg35 => ?_) | refine L.gsplitB (i := 35) rfl (fun hg35 => ?_) (fun hg35 => ?_)
        ·
          refine L.gOff (t := 35) rfl rfl rfl ?_
          refine L.gOff (t := 35) rfl rfl rfl ?_
          refine L.gOff (t := 35) rfl rfl rfl ?_
          refine L.gOn (t := 31) rfl rfl ?_
          refine L.yl (Y.pickT rfl rfl) ?_
          refine L.gOn (t := 31) rfl rfl ?_
          refine L.yl (Y.mv rfl) ?_
          refine L.gOn (t := 40) rfl rfl ?_
          first | refine L.yl (Y.fa0 fl44_2 rfl) ?_ | refine L.yl (Y.fa fl44_2 rfl) ?_ | refine L.yl (Y.fas fl44_2 rfl (by simp; omega)) ?_
          refine L.gOn (t := 40) rfl rfl ?_
          refine L.yl (Y.ld sc4 rfl rfl) ?_
          refine L.gOn (t := 40) rfl rfl ?_
          first | refine L.yl (Y.notP rfl) ?_ | refine L.yl (Y.not rfl) ?_
          refine L.gOn (t := 31) rfl rfl ?_
          refine L.yl (Y.pickT rfl rfl) ?_
          refine L.yl (Y.pickF rfl rfl) ?_
          refine L.yl (Y.as rfl) ?_
          refine L.nil ?_
          exact ⟨_, rfl, by first | (simp [*]; done) | (simp [*] <;> omega) | (simp_all; done) | (simp_all <;> omega), (by repeat (first | exact Inc.refl _ | refine Inc.cons rfl ?_)), rfl, rfl⟩
        ·
          refine L.gOn (t := 35) rfl rfl ?_
          first | refine L.yl (Y.fa0 fl44_4 rfl) ?_ | refine L.yl (Y.fa fl44_4 rfl) ?_ | refine L.yl (Y.fas fl44_4 rfl (by simp; omega)) ?_
          refine L.gOn (t := 35) rfl rfl ?_
          refine L.yl (Y.ld sc22 rfl rfl) ?_
          refine L.gOn (t := 35) rfl rfl ?_
          refine L.yl (Y.nei rfl rfl) ?_
          refine L.gOn (t := 31) rfl rfl ?_
          refine L.yl (Y.pickF rfl rfl) ?_
          refine L.gOn (t := 31) rfl rfl ?_
          refine L.yl (Y.mv rfl) ?_
          first | refine L.gsplit (i := 40) rfl (fun hg40 => ?_) (fun hg40 => ?_) | refine L.gsplitB (i := 40) rfl (fun hg40 => ?_) (fun hg40 => ?_)
          ·
            refine L.gOn (t := 40) rfl rfl ?_
            first | refine L.yl (Y.fa0 fl44_2 rfl) ?_ | refine L.yl (Y.fa fl44_2 rfl) ?_ | refine L.yl (Y.fas fl44_2 rfl (by simp; omega)) ?_
            refine L.gOn (t := 40) rfl rfl ?_
            refine L.yl (Y.ld sc4 rfl rfl) ?_
            refine L.gOn (t := 40) rfl rfl ?_
            first | refine L.yl (Y.notP rfl) ?_ | refine L.yl (Y.not rfl) ?_
            refine L.gOn (t := 31) rfl rfl ?_
            refine L.yl (Y.pickT rfl rfl) ?_
            refine L.yl (Y.pickF rfl rfl) ?_
            refine L.yl (Y.as rfl) ?_
            refine L.nil ?_
            exact ⟨_, rfl, by first | (simp [*]; done) | (simp [*] <;> omega) | (simp_all; done) | (simp_all <;> omega), (by repeat (first | exact Inc.refl _ | refine Inc.cons rfl ?_)), rfl, rfl⟩
          ·
            refine L.gOff (t := 40) rfl rfl rfl ?_
            refine L.gOff (t := 40) rfl rfl rfl ?_
            refine L.gOff (t := 40) rfl rfl rfl ?_
            refine L.gOn (t := 31) rfl rfl ?_
            refine L.yl (Y.pickF rfl rfl) ?_
            refine L.yl (Y.pickF rfl rfl) ?_
            refine L.yl (Y.as rfl) ?_
            refine L.nil ?_
            exact ⟨_, rfl, by first | (simp [*]; done) | (simp [*] <;> omega) | (simp_all; done) | (simp_all <;> omega), (by repeat (first | exact Inc.refl _ | refine Inc.cons rfl ?_)), rfl, rfl⟩
    ·
      refine C.regS ?_
      refine L.yl (Y.as rfl) ?_
      refine L.nil ?_
      refine C.ret ?_
      refine InBlo.r ?_
      refine Then.r ?_
      refine FnPost.r1 Go.Proofs.Tryz.results105 rfl ?_
      unfold chkO; rw [if_neg hc1, if_pos hc2]
    ·
      refine C.test (4 < o.blocks.length ∨ 40 < sizeN o) ?_ (fun hc3 => ?_) (fun hc3 => ?_)
      ·
        first | refine L.yl (Y.fa0 fl44_7 rfl) ?_ | refine L.yl (Y.fa fl44_7 rfl) ?_ | refine L.yl (Y.fas fl44_7 rfl (by simp; omega)) ?_
        refine L.yl (Y.ld sc42 rfl rfl) ?_
        refine L.yl (Y.len ⟨_, Go.Proofs.Tryz.underlying42⟩ rfl) ?_
        refine L.yl (Y.gtr rfl rfl) ?_
        refine L.yl (Y.mv rfl) ?_
        first | refine L.gsplit (i := 51) rfl (fun hg51 => ?_) (fun hg51 => ?_) | refine L.gsplitB (i := 51) rfl (fun hg51 => ?_) (fun hg51 => ?_)
        ·
          refine L.gOff (t := 51) rfl rfl rfl ?_
          refine L.gOff (t := 51) rfl rfl rfl ?_
          refine L.gOff (t := 51) rfl rfl rfl ?_
          refine L.yl (Y.pickT rfl rfl) ?_
          refine L.yl (Y.as rfl) ?_
          refine L.nil ?_
          exact ⟨_, rfl, by first | (simp [*]; done) | (simp [*] <;> omega) | (simp_all; done) | (simp_all <;> omega), (by repeat (first | exact Inc.refl _ | refine Inc.cons rfl ?_)), rfl, rfl⟩
        ·
          refine L.gOn (t := 51) rfl rfl ?_
          refine L.yl (Y.lda (vs := [_, _, _, _, _, _, _, _]) ag44 rfl rfl) ?_
          refine L.gOn (t := 51) rfl rfl ?_
          refine L.callP go134 rfl (fun w hw => opt_Size o _ _ hl w) ?_
          refine L.gOn (t := 51) rfl rfl ?_
          refine L.yl (Y.gtr rfl rfl) ?_
          refine L.yl (Y.pickF rfl rfl) ?_
          refine L.yl (Y.as rfl) ?_
          refine L.nil ?_
          exact ⟨_, rfl, by first | (simp [*]; done) | (simp [*] <;> omega) | (simp_all; done) | (simp_all <;> omega), (by repeat (first | exact Inc.refl _ | refine Inc.cons rfl ?_)), rfl, rfl⟩
      ·
        refine C.regS ?_
        refine L.yl (Y.as rfl) ?_
        refine L.nil ?_
        refine C.ret ?_
        refine InBlo.r ?_
        refine Then.r ?_
        refine FnPost.r1 Go.Proofs.Tryz.results105 rfl ?_
        unfold chkO; rw [if_neg hc1, if_neg hc2, if_pos hc3]
      ·
        refine C.skip ?_
        refine InBlo.n ?_
        refine Then.n ?_
        refine C.regS ?_
        refine L.yl (Y.as rfl) ?_
        refine L.nil ?_
        refine C.ret ?_
        refine FnPost.r1 Go.Proofs.Tryz.results105 rfl ?_
        unfold chkO; rw [if_neg hc1, if_neg hc2, if_neg hc3]
end Go.Proofs.YtcbhcdcobgdddaaGreat
set_option maxHeartbeats 1000000
namespace Go.Proofs.YtcbhcdcobgdddaaGreat
open Go Go.X Go.Rep Go.Shelf
theorem ag51 : Ag Go.Proofs.Tryz.prog 51 2 := ⟨_, Go.Proofs.Tryz.underlying51, rfl, by kernel_rfl⟩
theorem fl51_0 : Fld Go.Proofs.Tryz.prog 51 0 0 := ⟨_, _, Go.Proofs.Tryz.underlying51, rfl, rfl, _, (by kernel_rfl : (Go.Proofs.Tryz.prog.info? 22).map (·.size) = some 1), by decide⟩
theorem fl51_1 : Fld Go.Proofs.Tryz.prog 51 1 1 := ⟨_, _, Go.Proofs.Tryz.underlying51, rfl, rfl, _, (by kernel_rfl : (Go.Proofs.Tryz.prog.info? 22).map (·.size) = some 1), by decide⟩
theorem go128 : Goes Go.Proofs.Tryz.prog 128 := enters_of Go.Proofs.Tryz.func128 (by kernel_rfl) rfl
theorem go129 : Goes Go.Proofs.Tryz.prog 129 := enters_of Go.Proofs.Tryz.func129 (by kernel_rfl) rfl
theorem go130 : Goes Go.Proofs.Tryz.prog 130 := enters_of Go.Proofs.Tryz.func130 (by kernel_rfl) rfl
theorem sc170 : Sc Go.Proofs.Tryz.prog 170 := ⟨_, Go.Proofs.Tryz.underlying170, rfl, by kernel_rfl⟩
theorem slt42 : SlT Go.Proofs.Tryz.prog 42 51 2 := ⟨Go.Proofs.Tryz.underlying42, by kernel_rfl, by decide⟩
theorem zr51 : Zr Go.Proofs.Tryz.prog 51 (.agg #[.int .u32 0, .int .u32 0]) := by unfold Zr; kernel_rfl
theorem opt_w1 (o : Opts) (a : Option Addr) (c : Nat) (bo bw p : Nat) (aw : Option Addr) (cw : Nat) (l : List UInt8) (hl : l.length ≤ 65536) (ho : OptOk o) (w : World) (hw : X.Holds w [blk bo (optCs o a c) 44, blk bw [.pointer (some ⟨p, 0, none⟩)] 170, blk p [.slice aw l.length cw] 167, own 5 1 aw l.length cw (byteL l)]) : Calls Go.Proofs.Tryz.prog 148 #[.pointer (some ⟨bo, 0, none⟩), .pointer (some ⟨bw, 0, none⟩)] w (Post w [blk bo (optCs o a c) 44, blk bw [.pointer (some ⟨p, 0, none⟩)] 170, blk p [.slice aw l.length cw] 167, own 5 1 aw l.length cw (byteL l)] (RW fun r Γ => r = .tuple #[] ∧ ∃ aw cw, Γ = [blk bo (optCs o a c) 44, blk bw [.pointer (some ⟨p, 0, none⟩)] 170, blk p [.slice aw ((l ++ wp1 o)).length cw] 167, own 5 1 aw ((l ++ wp1 o)).length cw (byteL ((l ++ wp1 o)))])) := by
  obtain ⟨hm1, hm2⟩ := ho.mss
  refine spec_of Go.Proofs.Tryz.func148 rfl Go.Proofs.Tryz.ntmps148 rfl hw ?_
  change C _ _ _ _ _ _ _ ⟨[(0, _), (1, _)], []⟩ _
  refine C.regS ?_
  first | refine L.yl (Y.fa0 fl44_0 rfl) ?_ | refine L.yl (Y.fa fl44_0 rfl) ?_ | refine L.yl (Y.fas fl44_0 rfl (by simp; omega)) ?_
  refine L.yl (Y.ld sc3 rfl rfl) ?_
  refine L.yl (Y.nei rfl rfl) ?_
  refine L.nil ?_
  refine C.condP rfl (fun hc1 => ?_) (fun hc1 => ?_)
  ·
    refine C.regS ?_
    refine L.yl (Y.ld sc170 rfl rfl) ?_
    refine L.bsl elt31 rfl rfl rfl (by decide) ?_; intro b6
    rw [show cellsL [Value.int .u8 2, Value.int .u8 4] = byteL [2, 4] from rfl]
    refine L.callF (Γf := [blk p [.slice aw l.length cw] 167, own 5 1 aw l.length cw (byteL l)]) go128 rfl (fun w2 hw2 hf => oc_wAll p aw cw (l) (some ⟨b6, 0, none⟩) [2, 4] 2 (by first | omega | (simp [beB_length]; omega)) w2 hf (by have := hw2.rk_own (Γf := [blk p [.slice aw l.length cw] 167, own 5 1 aw l.length cw (byteL l)]) (Γr := _) (a := some ⟨b6, 0, none⟩) (t := 5) (sz := 1) (n := 2) (c := 2) (xs := byteL [2, 4]) inferInstance inferInstance; exact this)) ?_
    rintro _ _ ⟨rfl, a7, c7, rfl⟩
    refine L.apc ?_
    refine L.nil ?_
    refine C.reg ?_
    refine L.yl (Y.ld sc170 rfl rfl) ?_
    first | refine L.yl (Y.fa0 fl44_0 rfl) ?_ | refine L.yl (Y.fa fl44_0 rfl) ?_ | refine L.yl (Y.fas fl44_0 rfl (by simp; omega)) ?_
    refine L.yl (Y.ld sc3 rfl rfl) ?_
    refine L.yl (Y.cvW Go.Proofs.Tryz.underlying118 ⟨_, Go.Proofs.Tryz.underlying3⟩ rfl) ?_
    rw [u16_of _ ⟨hm1, hm2⟩]
    refine L.callF (Γf := [blk p [.slice a7 (l ++ [2, 4]).length c7] 167, own 5 1 a7 (l ++ [2, 4]).length c7 (byteL (l ++ [2, 4]))]) go129 rfl (fun w2 hw2 hf => oc_wTwo p a7 c7 (l ++ [2, 4]) _ (by omega) (by first | omega | (simp [beB_length]; omega)) w2 hf) ?_
    rintro _ _ ⟨rfl, a12, c12, rfl⟩
    refine L.apc ?_
    refine L.nil ?_
    refine FnPost.n0 Go.Proofs.Tryz.results148 ?_
    refine ⟨[blk bo (optCs o a c) 44, blk bw [.pointer (some ⟨p, 0, none⟩)] 170, blk p [.slice a12 (l ++ [2, 4] ++ beB o.mss.toNat 2).length c12] 167, own 5 1 a12 (l ++ [2, 4] ++ beB o.mss.toNat 2).length c12 (byteL (l ++ [2, 4] ++ beB o.mss.toNat 2))], inferInstance, rfl, a12, c12, ?_⟩
    rw [show l ++ wp1 o = l ++ [2, 4] ++ beB o.mss.toNat 2 from by simp only [wp1, if_pos hc1, List.append_assoc]]
  ·
    refine C.skip ?_
    refine FnPost.n0 Go.Proofs.Tryz.results148 ?_
    refine ⟨[blk bo (optCs o a c) 44, blk bw [.pointer (some ⟨p, 0, none⟩)] 170, blk p [.slice aw l.length cw] 167, own 5 1 aw l.length cw (byteL l)], inferInstance, rfl, aw, cw, ?_⟩
    rw [show l ++ wp1 o = l from by simp only [wp1, if_neg hc1, List.append_nil]]
theorem opt_w2 (o : Opts) (a : Option Addr) (c : Nat) (bo bw p : Nat) (aw : Option Addr) (cw : Nat) (l : List UInt8) (hl : l.length ≤ 65536) (w : World) (hw : X.Holds w [blk bo (optCs o a c) 44, blk bw [.pointer (some ⟨p, 0, none⟩)] 170, blk p [.slice aw l.length cw] 167, own 5 1 aw l.length cw (byteL l)]) : Calls Go.Proofs.Tryz.prog 149 #[.pointer (some ⟨bo, 0, none⟩), .pointer (some ⟨bw, 0, none⟩)] w (Post w [blk bo (optCs o a c) 44, blk bw [.pointer (some ⟨p, 0, none⟩)] 170, blk p [.slice aw l.length cw] 167, own 5 1 aw l.length cw (byteL l)] (RW fun r Γ => r = .tuple #[] ∧ ∃ aw cw, Γ = [blk bo (optCs o a c) 44, blk bw [.pointer (some ⟨p, 0, none⟩)] 170, blk p [.slice aw ((l ++ wp2 o)).length cw] 167, own 5 1 aw ((l ++ wp2 o)).length cw (byteL ((l ++ wp2 o)))])) := by
  refine spec_of Go.Proofs.Tryz.func149 rfl Go.Proofs.Tryz.ntmps149 rfl hw ?_
  change C _ _ _ _ _ _ _ ⟨[(0, _), (1, _)], []⟩ _
  refine C.regS ?_
  first | refine L.yl (Y.fa0 fl44_1 rfl) ?_ | refine L.yl (Y.fa fl44_1 rfl) ?_ | refine L.yl (Y.fas fl44_1 rfl (by simp; omega)) ?_
  refine L.yl (Y.ld sc4 rfl rfl) ?_
  refine L.nil ?_
  refine C.cond rfl (fun hc1 => ?_) (fun hc1 => ?_)
  ·
    refine C.reg ?_
    refine L.yl (Y.ld sc170 rfl rfl) ?_
    refine L.bsl elt31 rfl rfl rfl (by decide) ?_; intro b5
    rw [show cellsL [Value.int .u8 4, Value.int .u8 2] = byteL [4, 2] from rfl]
    refine L.callF (Γf := [blk p [.slice aw l.length cw] 167, own 5 1 aw l.length cw (byteL l)]) go128 rfl (fun w2 hw2 hf => oc_wAll p aw cw (l) (some ⟨b5, 0, none⟩) [4, 2] 2 (by first | omega | (simp [beB_length]; omega)) w2 hf (by have := hw2.rk_own (Γf := [blk p [.slice aw l.length cw] 167, own 5 1 aw l.length cw (byteL l)]) (Γr := _) (a := some ⟨b5, 0, none⟩) (t := 5) (sz := 1) (n := 2) (c := 2) (xs := byteL [4, 2]) inferInstance inferInstance; exact this)) ?_
    rintro _ _ ⟨rfl, a7, c7, rfl⟩
    refine L.apc ?_
    refine L.nil ?_
    refine FnPost.n0 Go.Proofs.Tryz.results149 ?_
    refine ⟨[blk bo (optCs o a c) 44, blk bw [.pointer (some ⟨p, 0, none⟩)] 170, blk p [.slice a7 (l ++ [4, 2]).length c7] 167, own 5 1 a7 (l ++ [4, 2]).length c7 (byteL (l ++ [4, 2]))], inferInstance, rfl, a7, c7, ?_⟩
    rw [show l ++ wp2 o = l ++ [4, 2] from by simp only [wp2, if_pos hc1]]
  ·
    have hc1 : ¬ o.permit = true := by simp [hc1]
    refine C.skip ?_
    refine FnPost.n0 Go.Proofs.Tryz.results149 ?_
    refine ⟨[blk bo (optCs o a c) 44, blk bw [.pointer (some ⟨p, 0, none⟩)] 170, blk p [.slice aw l.length cw] 167, own 5 1 aw l.length cw (byteL l)], inferInstance, rfl, aw, cw, ?_⟩
    rw [show l ++ wp2 o = l from by simp only [wp2, if_neg hc1, List.append_nil]]
theorem opt_w3 (o : Opts) (a : Option Addr) (c : Nat) (bo bw p : Nat) (aw : Option Addr) (cw : Nat) (l : List UInt8) (hl : l.length ≤ 65536) (ht : OptT o) (w : World) (hw : X.Holds w [blk bo (optCs o a c) 44, blk bw [.pointer (some ⟨p, 0, none⟩)] 170, blk p [.slice aw l.length cw] 167, own 5 1 aw l.length cw (byteL l)]) : Calls Go.Proofs.Tryz.prog 150 #[.pointer (some ⟨bo, 0, none⟩), .pointer (some ⟨bw, 0, none⟩)] w (Post w [blk bo (optCs o a c) 44, blk bw [.pointer (some ⟨p, 0, none⟩)] 170, blk p [.slice aw l.length cw] 167, own 5 1 aw l.length cw (byteL l)] (RW fun r Γ => r = .tuple #[] ∧ ∃ aw cw, Γ = [blk bo (optCs o a c) 44, blk bw [.pointer (some ⟨p, 0, none⟩)] 170, blk p [.slice aw ((l ++ wp3 o)).length cw] 167, own 5 1 aw ((l ++ wp3 o)).length cw (byteL ((l ++ wp3 o)))])) := by
  have hv1 := ht.val
  have hv2 := ht.ecr
  refine spec_of Go.Proofs.Tryz.func150 rfl Go.Proofs.Tryz.ntmps150 rfl hw ?_
  change C _ _ _ _ _ _ _ ⟨[(0, _), (1, _)], []⟩ _
  refine C.regS ?_
  first | refine L.yl (Y.fa0 fl44_2 rfl) ?_ | refine L.yl (Y.fa fl44_2 rfl) ?_ | refine L.yl (Y.fas fl44_2 rfl (by simp; omega)) ?_
  refine L.yl (Y.ld sc4 rfl rfl) ?_
  refine L.nil ?_
  refine C.cond rfl (fun hc1 => ?_) (fun hc1 => ?_)
  ·
    refine C.regS ?_
    refine L.yl (Y.ld sc170 rfl rfl) ?_
    refine L.bsl elt31 rfl rfl rfl (by decide) ?_; intro b5
    rw [show cellsL [Value.int .u8 8, Value.int .u8 10] = byteL [8, 10] from rfl]
    refine L.callF (Γf := [blk p [.slice aw l.length cw] 167, own 5 1 aw l.length cw (byteL l)]) go128 rfl (fun w2 hw2 hf => oc_wAll p aw cw (l) (some ⟨b5, 0, none⟩) [8, 10] 2 (by first | omega | (simp [beB_length]; omega)) w2 hf (by have := hw2.rk_own (Γf := [blk p [.slice aw l.length cw] 167, own 5 1 aw l.length cw (byteL l)]) (Γr := _) (a := some ⟨b5, 0, none⟩) (t := 5) (sz := 1) (n := 2) (c := 2) (xs := byteL [8, 10]) inferInstance inferInstance; exact this)) ?_
    rintro _ _ ⟨rfl, a6, c6, rfl⟩
    refine L.apc ?_
    refine L.nil ?_
    refine C.regS ?_
    refine L.yl (Y.ld sc170 rfl rfl) ?_
    first | refine L.yl (Y.fa0 fl44_3 rfl) ?_ | refine L.yl (Y.fa fl44_3 rfl) ?_ | refine L.yl (Y.fas fl44_3 rfl (by simp; omega)) ?_
    refine L.yl (Y.ld sc22 rfl rfl) ?_
    rw [u32_of o.val hv1]
    refine L.callF (Γf := [blk p [.slice a6 (l ++ [8, 10]).length c6] 167, own 5 1 a6 (l ++ [8, 10]).length c6 (byteL (l ++ [8, 10]))]) go130 rfl (fun w2 hw2 hf => oc_wFour p a6 c6 (l ++ [8, 10]) _ (by omega) (by first | omega | (simp [beB_length]; omega)) w2 hf) ?_
    rintro _ _ ⟨rfl, a10, c10, rfl⟩
    refine L.apc ?_
    refine L.nil ?_
    refine C.reg ?_
    refine L.yl (Y.ld sc170 rfl rfl) ?_
    first | refine L.yl (Y.fa0 fl44_4 rfl) ?_ | refine L.yl (Y.fa fl44_4 rfl) ?_ | refine L.yl (Y.fas fl44_4 rfl (by simp; omega)) ?_
    refine L.yl (Y.ld sc22 rfl rfl) ?_
    rw [u32_of o.ecr hv2]
    refine L.callF (Γf := [blk p [.slice a10 (l ++ [8, 10] ++ beB o.val.toNat 4).length c10] 167, own 5 1 a10 (l ++ [8, 10] ++ beB o.val.toNat 4).length c10 (byteL (l ++ [8, 10] ++ beB o.val.toNat 4))]) go130 rfl (fun w2 hw2 hf => oc_wFour p a10 c10 (l ++ [8, 10] ++ beB o.val.toNat 4) _ (by omega) (by first | omega | (simp [beB_length]; omega)) w2 hf) ?_
    rintro _ _ ⟨rfl, a14, c14, rfl⟩
    refine L.apc ?_
    refine L.nil ?_
    refine FnPost.n0 Go.Proofs.Tryz.results150 ?_
    refine ⟨[blk bo (optCs o a c) 44, blk bw [.pointer (some ⟨p, 0, none⟩)] 170, blk p [.slice a14 (l ++ [8, 10] ++ beB o.val.toNat 4 ++ beB o.ecr.toNat 4).length c14] 167, own 5 1 a14 (l ++ [8, 10] ++ beB o.val.toNat 4 ++ beB o.ecr.toNat 4).length c14 (byteL (l ++ [8, 10] ++ beB o.val.toNat 4 ++ beB o.ecr.toNat 4))], inferInstance, rfl, a14, c14, ?_⟩
    rw [show l ++ wp3 o = l ++ [8, 10] ++ beB o.val.toNat 4 ++ beB o.ecr.toNat 4 from by simp only [wp3, if_pos hc1, List.append_assoc]]
  ·
    have hc1 : ¬ o.ts = true := by simp [hc1]
    refine C.skip ?_
    refine FnPost.n0 Go.Proofs.Tryz.results150 ?_
    refine ⟨[blk bo (optCs o a c) 44, blk bw [.pointer (some ⟨p, 0, none⟩)] 170, blk p [.slice aw l.length cw] 167, own 5 1 aw l.length cw (byteL l)], inferInstance, rfl, aw, cw, ?_⟩
    rw [show l ++ wp3 o = l from by simp only [wp3, if_neg hc1, List.append_nil]]
theorem opt_w4 (o : Opts) (a : Option Addr) (c : Nat) (bo bw p : Nat) (aw : Option Addr) (cw : Nat) (l : List UInt8) (hl : l.length ≤ 65536) (ho : OptOk o) (w : World) (hw : X.Holds w [blk bo (optCs o a c) 44, blk bw [.pointer (some ⟨p, 0, none⟩)] 170, blk p [.slice aw l.length cw] 167, own 5 1 aw l.length cw (byteL l)]) : Calls Go.Proofs.Tryz.prog 151 #[.pointer (some ⟨bo, 0, none⟩), .pointer (some ⟨bw, 0, none⟩)] w (Post w [blk bo (optCs o a c) 44, blk bw [.pointer (some ⟨p, 0, none⟩)] 170, blk p [.slice aw l.length cw] 167, own 5 1 aw l.length cw (byteL l)] (RW fun r Γ => r = .tuple #[] ∧ ∃ aw cw, Γ = [blk bo (optCs o a c) 44, blk bw [.pointer (some ⟨p, 0, none⟩)] 170, blk p [.slice aw ((l ++ wp4 o)).length cw] 167, own 5 1 aw ((l ++ wp4 o)).length cw (byteL ((l ++ wp4 o)))])) := by
  obtain ⟨hm1, hm2⟩ := ho.scale
  refine spec_of Go.Proofs.Tryz.func151 rfl Go.Proofs.Tryz.ntmps151 rfl hw ?_
  change C _ _ _ _ _ _ _ ⟨[(0, _), (1, _)], []⟩ _
  refine C.regS ?_
  first | refine L.yl (Y.fa0 fl44_5 rfl) ?_ | refine L.yl (Y.fa fl44_5 rfl) ?_ | refine L.yl (Y.fas fl44_5 rfl (by simp; omega)) ?_
  refine L.yl (Y.ld sc4 rfl rfl) ?_
  refine L.nil ?_
  refine C.cond rfl (fun hc1 => ?_) (fun hc1 => ?_)
  ·
    refine C.reg ?_
    refine L.yl (Y.ld sc170 rfl rfl) ?_
    first | refine L.yl (Y.fa0 fl44_6 rfl) ?_ | refine L.yl (Y.fa fl44_6 rfl) ?_ | refine L.yl (Y.fas fl44_6 rfl (by simp; omega)) ?_
    refine L.yl (Y.ld sc3 rfl rfl) ?_
    refine L.yl (Y.cvW Go.Proofs.Tryz.underlying5 ⟨_, Go.Proofs.Tryz.underlying3⟩ rfl) ?_
    refine L.bsl elt31 rfl rfl rfl (by decide) ?_; intro b8
    rw [u8_of o.scale ⟨hm1, by omega⟩, show cellsL [Value.int .u8 3, Value.int .u8 3, Value.int .u8 ((UInt8.ofNat o.scale.toNat).toNat : Int)] = byteL [3, 3, UInt8.ofNat o.scale.toNat] from rfl]
    refine L.callF (Γf := [blk p [.slice aw l.length cw] 167, own 5 1 aw l.length cw (byteL l)]) go128 rfl (fun w2 hw2 hf => oc_wAll p aw cw (l) (some ⟨b8, 0, none⟩) [3, 3, UInt8.ofNat o.scale.toNat] 3 (by first | omega | (simp [beB_length]; omega)) w2 hf (by have := hw2.rk_own (Γf := [blk p [.slice aw l.length cw] 167, own 5 1 aw l.length cw (byteL l)]) (Γr := _) (a := some ⟨b8, 0, none⟩) (t := 5) (sz := 1) (n := 3) (c := 3) (xs := byteL [3, 3, UInt8.ofNat o.scale.toNat]) inferInstance inferInstance; exact this)) ?_
    rintro _ _ ⟨rfl, a7, c7, rfl⟩
    refine L.apc ?_
    refine L.nil ?_
    refine FnPost.n0 Go.Proofs.Tryz.results151 ?_
    refine ⟨[blk bo (optCs o a c) 44, blk bw [.pointer (some ⟨p, 0, none⟩)] 170, blk p [.slice a7 (l ++ [3, 3, UInt8.ofNat o.scale.toNat]).length c7] 167, own 5 1 a7 (l ++ [3, 3, UInt8.ofNat o.scale.toNat]).length c7 (byteL (l ++ [3, 3, UInt8.ofNat o.scale.toNat]))], inferInstance, rfl, a7, c7, ?_⟩
    rw [show l ++ wp4 o = l ++ [3, 3, UInt8.ofNat o.scale.toNat] from by simp only [wp4, if_pos hc1]]
  ·
    have hc1 : ¬ o.has = true := by simp [hc1]
    refine C.skip ?_
    refine FnPost.n0 Go.Proofs.Tryz.results151 ?_
    refine ⟨[blk bo (optCs o a c) 44, blk bw [.pointer (some ⟨p, 0, none⟩)] 170, blk p [.slice aw l.length cw] 167, own 5 1 aw l.length cw (byteL l)], inferInstance, rfl, aw, cw, ?_⟩
    rw [show l ++ wp4 o = l from by simp only [wp4, if_neg hc1, List.append_nil]]
theorem lit5 (n : Nat) (h : n ≤ 65536) (h4 : n ≤ 4) : cellsL [Value.int .u8 5, Value.int .u8 (IntKind.u8.wrap (2 + 8 * (n : Int)))] = byteL [5, UInt8.ofNat (2 + 8 * n)] := by
  rw [u8_of (2 + 8 * (n : Int)) (by omega), show (2 + 8 * (n : Int)).toNat = 2 + 8 * n by omega]; rfl
theorem opt_w5 (o : Opts) (a : Option Addr) (c : Nat) (bo bw p : Nat) (aw : Option Addr) (cw : Nat) (l : List UInt8) (hl : l.length ≤ 65536) (ho : OptOk o) (ht : OptT o) (w : World) (hw : X.Holds w [blk bo (optCs o a c) 44, blk bw [.pointer (some ⟨p, 0, none⟩)] 170, blk p [.slice aw l.length cw] 167, own 5 1 aw l.length cw (byteL l)]) (h2 : ∀ w2, Keep (fps [blk bo (optCs o a c) 44, blk bw [.pointer (some ⟨p, 0, none⟩)] 170, blk p [.slice aw l.length cw] 167, own 5 1 aw l.length cw (byteL l)]) w w2 → Rs w2 a (bkL o.blocks)) : Calls Go.Proofs.Tryz.prog 152 #[.pointer (some ⟨bo, 0, none⟩), .pointer (some ⟨bw, 0, none⟩)] w (Post w [blk bo (optCs o a c) 44, blk bw [.pointer (some ⟨p, 0, none⟩)] 170, blk p [.slice aw l.length cw] 167, own 5 1 aw l.length cw (byteL l)] (RW fun r Γ => r = .tuple #[] ∧ ∃ aw cw, Γ = [blk bo (optCs o a c) 44, blk bw [.pointer (some ⟨p, 0, none⟩)] 170, blk p [.slice aw ((l ++ wp5 o)).length cw] 167, own 5 1 aw ((l ++ wp5 o)).length cw (byteL ((l ++ wp5 o)))])) := by
  have hlen := ho.len
  haveI hrd : ∀ Γ, Rd w (fps [blk bo (optCs o a c) 44, blk bw [.pointer (some ⟨p, 0, none⟩)] 170, blk p [.slice aw l.length cw] 167, own 5 1 aw l.length cw (byteL l)]) Γ a (bkL o.blocks) := fun Γ => ⟨fun w2 hw2 => h2 w2 hw2.keep⟩
  refine spec_of Go.Proofs.Tryz.func152 rfl Go.Proofs.Tryz.ntmps152 rfl hw ?_
  change C _ _ _ _ _ _ _ ⟨[(0, _), (1, _)], []⟩ _
  refine C.cut (fun (x : Option Addr × Nat) => [(0, .pointer (some ⟨bo, 0, none⟩)), (1, .pointer (some ⟨bw, 0, none⟩))]) [] (fun x => [blk bo (optCs o a c) 44, blk bw [.pointer (some ⟨p, 0, none⟩)] 170, blk p [.slice x.1 (l ++ (if 0 < o.blocks.length then [5, UInt8.ofNat (2 + 8 * o.blocks.length)] else [])).length x.2] 167, own 5 1 x.1 (l ++ (if 0 < o.blocks.length then [5, UInt8.ofNat (2 + 8 * o.blocks.length)] else [])).length x.2 (byteL (l ++ (if 0 < o.blocks.length then [5, UInt8.ofNat (2 + 8 * o.blocks.length)] else [])))]) (fun _ => True) ?_ ?_
  ·
    refine C.regS ?_
    first | refine L.yl (Y.fa0 fl44_7 rfl) ?_ | refine L.yl (Y.fa fl44_7 rfl) ?_ | refine L.yl (Y.fas fl44_7 rfl (by simp; omega)) ?_
    refine L.yl (Y.ld sc42 rfl rfl) ?_
    refine L.yl (Y.len ⟨_, Go.Proofs.Tryz.underlying42⟩ rfl) ?_
    refine L.yl (Y.gtr rfl rfl) ?_
    refine L.nil ?_
    refine C.condP rfl (fun hc1 => ?_) (fun hc1 => ?_)
    ·
      have hl0 : o.blocks.length ≤ 65536 := by omega
      refine C.reg ?_
      refine L.yl (Y.ld sc170 rfl rfl) ?_
      first | refine L.yl (Y.fa0 fl44_7 rfl) ?_ | refine L.yl (Y.fa fl44_7 rfl) ?_ | refine L.yl (Y.fas fl44_7 rfl (by simp; omega)) ?_
      refine L.yl (Y.ld sc42 rfl rfl) ?_
      refine L.yl (Y.len ⟨_, Go.Proofs.Tryz.underlying42⟩ rfl) ?_
      first | refine L.yl (Y.mul rfl rfl (by omega)) ?_ | refine L.yl (Y.mulW rfl rfl) ?_
      first | refine L.yl (Y.add rfl rfl (by omega)) ?_ | refine L.yl (Y.addW rfl rfl) ?_
      refine L.yl (Y.cvW Go.Proofs.Tryz.underlying5 ⟨_, Go.Proofs.Tryz.underlying3⟩ rfl) ?_
      refine L.bsl elt31 rfl rfl rfl (by decide) ?_; intro b15
      rw [lit5 _ hl0 hlen]
      refine L.callF (Γf := [blk p [.slice aw l.length cw] 167, own 5 1 aw l.length cw (byteL l)]) go128 rfl (fun w2 hw2 hf => oc_wAll p aw cw (l) (some ⟨b15, 0, none⟩) [5, UInt8.ofNat (2 + 8 * o.blocks.length)] 2 (by first | omega | (simp [beB_length]; omega)) w2 hf (by have := hw2.rk_own (Γf := [blk p [.slice aw l.length cw] 167, own 5 1 aw l.length cw (byteL l)]) (Γr := _) (a := some ⟨b15, 0, none⟩) (t := 5) (sz := 1) (n := 2) (c := 2) (xs := byteL [5, UInt8.ofNat (2 + 8 * o.blocks.length)]) inferInstance inferInstance; exact this)) ?_
      rintro _ _ ⟨rfl, a7, c7, rfl⟩
      refine L.apc ?_
      refine L.nil ?_
      refine Then.n ?_
      rw [if_pos (show 0 < o.blocks.length by omega)]
      exact ⟨(a7, c7), (by repeat (first | exact trivial | refine ⟨rfl, ?_⟩ | refine ⟨congrArg some (by simp), ?_⟩ | refine ⟨congrArg some (by simp; omega), ?_⟩)), rfl, (by dsimp only; exact inferInstance), trivial⟩
    ·
      refine C.skip ?_
      refine Then.n ?_
      rw [if_neg (show ¬ 0 < o.blocks.length by omega), List.append_nil]
      exact ⟨(aw, cw), (by repeat (first | exact trivial | refine ⟨rfl, ?_⟩ | refine ⟨congrArg some (by simp), ?_⟩ | refine ⟨congrArg some (by simp; omega), ?_⟩)), rfl, (by dsimp only; exact inferInstance), trivial⟩
  · rintro ⟨a1, c1⟩ -
    try dsimp only
    refine C.regS ?_
    first | refine L.yl (Y.fa0 fl44_7 rfl) ?_ | refine L.yl (Y.fa fl44_7 rfl) ?_ | refine L.yl (Y.fas fl44_7 rfl (by simp; omega)) ?_
    refine L.yl (Y.ld sc42 rfl rfl) ?_
    refine L.yl (Y.len ⟨_, Go.Proofs.Tryz.underlying42⟩ rfl) ?_
    refine L.yl (Y.mv rfl) ?_
    refine L.nil ?_
    refine C.block ?_
    refine C.loop (σ := Nat × Option Addr × Nat × List UInt8) (fun (i, a1, c1, X) => [(0, .pointer (some ⟨bo, 0, none⟩)), (1, .pointer (some ⟨bw, 0, none⟩)), (18, .slice a o.blocks.length c), (19, .int .i64 o.blocks.length), (20, .int .i64 i)]) (fun (i, a1, c1, X) => [blk bo (optCs o a c) 44, blk bw [.pointer (some ⟨p, 0, none⟩)] 170, blk p [.slice a1 X.length c1] 167, own 5 1 a1 X.length c1 (byteL X)]) (fun (i, a1, c1, X) => i ≤ o.blocks.length ∧ X = l ++ (if 0 < o.blocks.length then [5, UInt8.ofNat (2 + 8 * o.blocks.length)] else []) ++ (o.blocks.take i).flatMap bkB ∧ X.length ≤ l.length + 2 + 8 * i) (fun (i, a1, c1, X) => o.blocks.length - i) (0, a1, c1, l ++ (if 0 < o.blocks.length then [5, UInt8.ofNat (2 + 8 * o.blocks.length)] else [])) ?_ ?_ ?_ ?_
    · repeat (first | exact trivial | refine ⟨rfl, ?_⟩)
    · first | exact .of (.refl _) | exact inferInstance | (dsimp only; exact inferInstance)
    · exact ⟨Nat.zero_le _, by simp, by simp only [List.length_append]; split <;> simp⟩
    · rintro ⟨i, a1, c1, X⟩ ⟨hI1, hI2, hI3⟩
      try dsimp only
      refine C.regS ?_
      refine L.yl (Y.lss rfl rfl) ?_
      refine L.nil ?_
      refine C.seq ?_
      refine C.condP rfl (fun hc2 => ?_) (fun hc2 => ?_)
      ·
        obtain ⟨b0, hb0⟩ : ∃ u, o.blocks[i]? = some u := ⟨_, List.getElem?_eq_getElem (by omega)⟩
        obtain ⟨hb1, hb2⟩ := ht.bks b0 (List.mem_of_getElem? hb0)
        refine C.skip ?_
        refine Then.n ?_
        refine C.seq ?_
        refine C.block ?_
        refine C.regS ?_
        refine L.yl (Y.ix slt42 rfl rfl (by rw [bkL_length]) (by omega) (by omega)) ?_
        refine L.yl (Y.ldsa (vs := bkCs b0) ag51 rfl rfl (by decide) (fun j v hj => by rw [show ((i:Int).toNat * 2 + j) = i * 2 + j from rfl, bkL_get o.blocks i j _ hb0 (by have := (List.getElem?_eq_some_iff.1 hj).1; exact this)]; exact hj)) ?_
        refine L.al (zs := [.int .u32 0, .int .u32 0]) zr51 rfl ?_; intro b3
        refine L.sta (vs := [_, _]) ag51 rfl rfl rfl rfl rfl ?_
        refine L.nil ?_
        refine C.regS ?_
        refine L.yl (Y.ld sc170 rfl rfl) ?_
        first | refine L.yl (Y.fa0 fl51_0 rfl) ?_ | refine L.yl (Y.fa fl51_0 rfl) ?_ | refine L.yl (Y.fas fl51_0 rfl (by simp; omega)) ?_
        refine L.yl (Y.ld sc22 rfl rfl) ?_
        rw [u32_of b0.1 hb1]
        refine L.callF (Γf := [blk p [.slice a1 X.length c1] 167, own 5 1 a1 X.length c1 (byteL X)]) go130 rfl (fun w2 hw2 hf => oc_wFour p a1 c1 (X) _ (by omega) (by first | omega | (simp [beB_length]; omega)) w2 hf) ?_
        rintro _ _ ⟨rfl, a27, c27, rfl⟩
        refine L.apc ?_
        refine L.nil ?_
        refine C.reg ?_
        refine L.yl (Y.ld sc170 rfl rfl) ?_
        first | refine L.yl (Y.fa0 fl51_1 rfl) ?_ | refine L.yl (Y.fa fl51_1 rfl) ?_ | refine L.yl (Y.fas fl51_1 rfl (by simp; omega)) ?_
        refine L.yl (Y.ld sc22 rfl rfl) ?_
        rw [u32_of b0.2 hb2]
        refine L.callF (Γf := [blk p [.slice a27 (X ++ beB b0.1.toNat 4).length c27] 167, own 5 1 a27 (X ++ beB b0.1.toNat 4).length c27 (byteL (X ++ beB b0.1.toNat 4))]) go130 rfl (fun w2 hw2 hf => oc_wFour p a27 c27 (X ++ beB b0.1.toNat 4) _ (by omega) (by first | omega | (simp [beB_length]; omega)) w2 hf) ?_
        rintro _ _ ⟨rfl, a31, c31, rfl⟩
        refine L.apc ?_
        refine L.nil ?_
        refine InBlo.n ?_
        refine Then.n ?_
        refine C.reg ?_
        first | refine L.yl (Y.add rfl rfl (by omega)) ?_ | refine L.yl (Y.addW rfl rfl) ?_
        refine L.yl (Y.mv rfl) ?_
        refine L.nil ?_
        exact ⟨(i + 1, a31, c31, X ++ beB b0.1.toNat 4 ++ beB b0.2.toNat 4), (by repeat (first | exact trivial | refine ⟨rfl, ?_⟩ | refine ⟨congrArg some (by simp), ?_⟩ | refine ⟨congrArg some (by simp; omega), ?_⟩)), rfl, (by first | exact inferInstance | (dsimp only; exact inferInstance)), ⟨by omega, by rw [List.take_add_one, hb0]; simp [hI2, bkB], by simp [beB_length]; omega⟩, (by first | omega | (dsimp only; omega))⟩
      ·
        refine C.exit ?_
        refine Then.x ?_
        refine Then.x ?_
        refine InBlo.x ?_
        refine FnPost.n0 Go.Proofs.Tryz.results152 ?_
        refine ⟨[blk bo (optCs o a c) 44, blk bw [.pointer (some ⟨p, 0, none⟩)] 170, blk p [.slice a1 X.length c1] 167, own 5 1 a1 X.length c1 (byteL X)], inferInstance, rfl, a1, c1, ?_⟩
        obtain rfl : i = o.blocks.length := by omega
        rw [show l ++ wp5 o = X from by rw [hI2, List.take_of_length_le (by omega), wp5, List.append_assoc]]
end Go.Proofs.YtcbhcdcobgdddaaGreat
set_option maxHeartbeats 1000000
namespace Go.Proofs.YtcbhcdcobgdddaaGreat
open Go Go.X Go.Rep Go.Shelf
theorem ag168 : Ag Go.Proofs.Tryz.prog 168 5 := ⟨_, Go.Proofs.Tryz.underlying168, rfl, by kernel_rfl⟩
theorem go105 : Goes Go.Proofs.Tryz.prog 105 := enters_of Go.Proofs.Tryz.func105 (by kernel_rfl) rfl
theorem go124 : Goes Go.Proofs.Tryz.prog 124 := enters_of Go.Proofs.Tryz.func124 (by kernel_rfl) rfl
theorem go126 : Goes Go.Proofs.Tryz.prog 126 := enters_of Go.Proofs.Tryz.func126 (by kernel_rfl) rfl
theorem go127 : Goes Go.Proofs.Tryz.prog 127 := enters_of Go.Proofs.Tryz.func127 (by kernel_rfl) rfl
theorem go148 : Goes Go.Proofs.Tryz.prog 148 := enters_of Go.Proofs.Tryz.func148 (by kernel_rfl) rfl
theorem go149 : Goes Go.Proofs.Tryz.prog 149 := enters_of Go.Proofs.Tryz.func149 (by kernel_rfl) rfl
theorem go150 : Goes Go.Proofs.Tryz.prog 150 := enters_of Go.Proofs.Tryz.func150 (by kernel_rfl) rfl
theorem go151 : Goes Go.Proofs.Tryz.prog 151 := enters_of Go.Proofs.Tryz.func151 (by kernel_rfl) rfl
theorem go152 : Goes Go.Proofs.Tryz.prog 152 := enters_of Go.Proofs.Tryz.func152 (by kernel_rfl) rfl
theorem sc1 : Sc Go.Proofs.Tryz.prog 1 := ⟨_, Go.Proofs.Tryz.underlying1, rfl, by kernel_rfl⟩
theorem zr167 : Zr Go.Proofs.Tryz.prog 167 (.agg #[.slice none 0 0]) := by unfold Zr; kernel_rfl
theorem zr168 : Zr Go.Proofs.Tryz.prog 168 (.agg #[.nilFunc, .nilFunc, .nilFunc, .nilFunc, .nilFunc]) := by unfold Zr; kernel_rfl
@[reducible] def wfs (bo bw : Nat) : List Value := [Value.func (.func 148) #[] #[.pointer (some ⟨bo, 0, none⟩), .pointer (some ⟨bw, 0, none⟩)], Value.func (.func 149) #[] #[.pointer (some ⟨bo, 0, none⟩), .pointer (some ⟨bw, 0, none⟩)], Value.func (.func 150) #[] #[.pointer (some ⟨bo, 0, none⟩), .pointer (some ⟨bw, 0, none⟩)], Value.func (.func 151) #[] #[.pointer (some ⟨bo, 0, none⟩), .pointer (some ⟨bw, 0, none⟩)], Value.func (.func 152) #[] #[.pointer (some ⟨bo, 0, none⟩), .pointer (some ⟨bw, 0, none⟩)]]
theorem opt_writers (o : Opts) (a : Option Addr) (c : Nat) (p : Nat) (w : World) : Calls Go.Proofs.Tryz.prog 124 #[.agg (optCs o a c).toArray, .pointer (some ⟨p, 0, none⟩)] w (Post w [] (RW fun r Γ => ∃ bo bw, r = .agg (wfs bo bw).toArray ∧ Γ = [blk bo (optCs o a c) 44, blk bw [.pointer (some ⟨p, 0, none⟩)] 170])) := by
  refine spec_of Go.Proofs.Tryz.func124 rfl Go.Proofs.Tryz.ntmps124 rfl (Holds.nil w) ?_
  change C _ _ _ _ _ _ _ ⟨[(0, _), (1, _)], []⟩ _
  refine C.regS ?_
  refine L.bxa rfl ?_; intro b2
  refine L.bx rfl rfl ?_; intro b3
  refine L.al (zs := [.nilFunc, .nilFunc, .nilFunc, .nilFunc, .nilFunc]) zr168 rfl ?_; intro b4
  refine L.nil ?_
  refine C.regS ?_
  refine L.yl (Y.mkf (cv := #[_, _]) rfl) ?_
  refine L.yl (Y.mkf (cv := #[_, _]) rfl) ?_
  refine L.yl (Y.mkf (cv := #[_, _]) rfl) ?_
  refine L.yl (Y.mkf (cv := #[_, _]) rfl) ?_
  refine L.yl (Y.mkf (cv := #[_, _]) rfl) ?_
  refine L.yl (Y.bdA (q := 5) zr168 Go.Proofs.Tryz.underlying168 sc1 rfl rfl rfl rfl) ?_
  refine L.sta (vs := [_, _, _, _, _]) ag168 rfl rfl rfl rfl rfl ?_
  refine L.nil ?_
  refine C.ret ?_
  refine FnPost.rg (xs := [.cell 4 168]) (congrArg Array.toList Go.Proofs.Tryz.results124) (ra_ag (us := [_, _, _, _, _]) rfl ag168 rfl ra_nil) ?_
  exact ⟨[blk b2 (optCs o a c) 44, blk b3 [.pointer (some ⟨p, 0, none⟩)] 170], inferInstance, b2, b3, rfl, rfl⟩
theorem opt_wk (o : Opts) (a : Option Addr) (c : Nat) (bo bw p : Nat) (aw : Option Addr) (cw : Nat) (k : Nat) (hk : k < 5) (l : List UInt8) (hl : l.length ≤ 65536) (ho : OptOk o) (ht : OptT o) (fv : Value) (hfv : (wfs bo bw)[k]? = some fv) (w : World) (hw : X.Holds w [blk bo (optCs o a c) 44, blk bw [.pointer (some ⟨p, 0, none⟩)] 170, blk p [.slice aw l.length cw] 167, own 5 1 aw l.length cw (byteL l)]) (h2 : ∀ w2, Keep (fps [blk bo (optCs o a c) 44, blk bw [.pointer (some ⟨p, 0, none⟩)] 170, blk p [.slice aw l.length cw] 167, own 5 1 aw l.length cw (byteL l)]) w w2 → Rs w2 a (bkL o.blocks)) : CallV Go.Proofs.Tryz.prog fv [] w (Post w [blk bo (optCs o a c) 44, blk bw [.pointer (some ⟨p, 0, none⟩)] 170, blk p [.slice aw l.length cw] 167, own 5 1 aw l.length cw (byteL l)] (RW fun r Γ => r = .tuple #[] ∧ ∃ aw cw, Γ = [blk bo (optCs o a c) 44, blk bw [.pointer (some ⟨p, 0, none⟩)] 170, blk p [.slice aw ((l ++ wpk o k)).length cw] 167, own 5 1 aw ((l ++ wpk o k)).length cw (byteL ((l ++ wpk o k)))])) := by
  match k, hk with
  | 0, _ => obtain rfl := Option.some.inj hfv; exact .inl ⟨_, _, rfl, go148, opt_w1 o a c bo bw p aw cw l hl ho w hw⟩
  | 1, _ => obtain rfl := Option.some.inj hfv; exact .inl ⟨_, _, rfl, go149, opt_w2 o a c bo bw p aw cw l hl w hw⟩
  | 2, _ => obtain rfl := Option.some.inj hfv; exact .inl ⟨_, _, rfl, go150, opt_w3 o a c bo bw p aw cw l hl ht w hw⟩
  | 3, _ => obtain rfl := Option.some.inj hfv; exact .inl ⟨_, _, rfl, go151, opt_w4 o a c bo bw p aw cw l hl ho w hw⟩
  | 4, _ => obtain rfl := Option.some.inj hfv; exact .inl ⟨_, _, rfl, go152, opt_w5 o a c bo bw p aw cw l hl ho ht w hw h2⟩
theorem opt_Encode (o : Opts) (ht : OptT o) (a : Option Addr) (c : Nat) (hl : o.blocks.length ≤ 65536) (w : World) (h : Rs w a (bkL o.blocks)) : Calls Go.Proofs.Tryz.prog 81 #[.agg (optCs o a c).toArray] w (Post w [] (RW fun r Γ => ∃ a1 c1, r = .tuple #[.slice a1 (encR o).length c1, .int .i64 (chkO o)] ∧ Γ = [own 5 1 a1 (encR o).length c1 (byteL (encR o))])) := by
  refine spec_of Go.Proofs.Tryz.func81 rfl Go.Proofs.Tryz.ntmps81 rfl (Holds.nil w) ?_
  change C _ _ _ _ _ _ _ ⟨[(0, _)], []⟩ _
  refine C.regS ?_
  refine L.bxa rfl ?_; intro b1
  refine L.yl (Y.as rfl) ?_
  refine L.yl (Y.as rfl) ?_
  refine L.nil ?_
  refine C.seq ?_
  refine C.regS ?_
  refine L.yl (Y.lda (vs := [_, _, _, _, _, _, _, _]) ag44 rfl rfl) ?_
  refine L.callP go105 rfl (fun w hw => opt_Check o _ _ hl w) ?_
  refine L.yl (Y.as rfl) ?_
  refine L.nil ?_
  refine C.regS ?_
  refine L.yl (Y.mv rfl) ?_
  refine L.yl (Y.nei rfl rfl) ?_
  refine L.nil ?_
  refine C.condP rfl (fun hc1 => ?_) (fun hc1 => ?_)
  ·
    refine C.nil0 5 1 ?_
    refine C.regS ?_
    refine L.yl (Y.mv rfl) ?_
    refine L.yl (Y.as rfl) ?_
    refine L.yl (Y.as rfl) ?_
    refine L.nil ?_
    refine C.ret ?_
    refine Then.r ?_
    refine FnPost.r2 Go.Proofs.Tryz.results81 rfl rfl ?_
    refine ⟨[own 5 1 none 0 0 []], inferInstance, none, 0, ?_, ?_⟩
    rotate_left
    · rw [show encR o = [] from if_neg hc1]; rfl
    · rw [show encR o = [] from if_neg hc1]; rfl
  ·
    have hc0 : chkO o = 0 := Decidable.not_not.1 hc1
    have ho := chkO_ok hc0
    have hlen := encO_length ho
    have hsz := ho.size
    refine C.skip ?_
    refine Then.n ?_
    refine C.regS ?_
    refine L.al (zs := [.slice none 0 0]) zr167 rfl ?_; intro b5
    refine L.nil ?_
    refine C.seq ?_
    refine C.regS ?_
    refine L.yl (Y.lda (vs := [_, _, _, _, _, _, _, _]) ag44 rfl rfl) ?_
    refine L.callFW (Γf := []) go124 rfl (fun w hw hf => opt_writers o a c b5 w) ?_
    rintro _ _ ⟨bo, bw, rfl, rfl⟩
    refine L.apc ?_
    refine L.nil0 5 1 _ ?_
    refine L.yl (Y.mv rfl) ?_
    refine L.nil ?_
    refine C.block ?_
    refine C.loop (σ := Nat × Option Addr × Nat) (fun (k, a1, c1) => [(5, .pointer (some ⟨b5, 0, none⟩)), (14, .agg (wfs bo bw).toArray), (15, .int .i64 k)]) (fun (k, a1, c1) => [blk bo (optCs o a c) 44, blk bw [.pointer (some ⟨b5, 0, none⟩)] 170, blk b5 [.slice a1 (wpTo o k).length c1] 167, own 5 1 a1 (wpTo o k).length c1 (byteL (wpTo o k))]) (fun (k, a1, c1) => k ≤ 5 ∧ (wpTo o k).length ≤ bareN o) (fun (k, a1, c1) => 5 - k) (0, none, 0) ?_ ?_ ?_ ?_
    · repeat (first | exact trivial | refine ⟨rfl, ?_⟩)
    · show Wk _ [blk bo (optCs o a c) 44, blk bw [.pointer (some ⟨b5, 0, none⟩)] 170, blk b5 [.slice none 0 0] 167, own 5 1 none 0 0 []]; exact inferInstance
    · exact ⟨Nat.zero_le _, Nat.zero_le _⟩
    · rintro ⟨k, a1, c1⟩ ⟨hI1, hI2⟩
      try dsimp only
      refine C.regS ?_
      refine L.yl (Y.lss rfl rfl) ?_
      refine L.nil ?_
      refine C.seq ?_
      refine C.condP rfl (fun hc2 => ?_) (fun hc2 => ?_)
      ·
        obtain ⟨fv, hfv⟩ : ∃ fv, (wfs bo bw)[k]? = some fv := ⟨_, List.getElem?_eq_getElem (show k < (wfs bo bw).length by simp [wfs]; omega)⟩
        have hbk : (wpTo o (k + 1)).length ≤ bareN o := by rw [← wpTo_length]; exact wpTo_mono o (by omega)
        have hbn := bareN_le o
        have hl4 := ho.len
        refine C.skip ?_
        refine Then.n ?_
        refine C.seq ?_
        refine C.block ?_
        refine C.regS ?_
        refine L.yl (Y.aidx Go.Proofs.Tryz.underlying168 sc1 rfl rfl (by omega) (by omega) hfv) ?_
        refine L.yl (Y.as rfl) ?_
        refine L.nil ?_
        refine C.reg ?_
        refine L.yl (Y.mv rfl) ?_
        refine L.callVFW (fv := fv) (Γf := [blk bo (optCs o a c) 44, blk bw [.pointer (some ⟨b5, 0, none⟩)] 170, blk b5 [.slice a1 (wpTo o k).length c1] 167, own 5 1 a1 (wpTo o k).length c1 (byteL (wpTo o k))]) rfl rfl (fun w2 hw2 hf => opt_wk o a c bo bw b5 a1 c1 k (by omega) (wpTo o k) (by omega) ho ht fv hfv w2 hf (hw2.rk_old (Γf := [blk bo (optCs o a c) 44, blk bw [.pointer (some ⟨b5, 0, none⟩)] 170, blk b5 [.slice a1 (wpTo o k).length c1] 167, own 5 1 a1 (wpTo o k).length c1 (byteL (wpTo o k))]) (Γr := _) inferInstance h (fun _ _ _ ⟨c, hc, _⟩ => by simp at hc))) ?_
        rintro _ _ ⟨rfl, a19, c19, rfl⟩
        refine L.apc ?_
        refine L.nil ?_
        refine InBlo.n ?_
        refine Then.n ?_
        refine C.reg ?_
        first | refine L.yl (Y.add rfl rfl (by omega)) ?_ | refine L.yl (Y.addW rfl rfl) ?_
        refine L.yl (Y.mv rfl) ?_
        refine L.nil ?_
        rw [show wpTo o k ++ wpk o k = wpTo o (k + 1) from rfl]
        exact ⟨(k + 1, a19, c19), (by repeat (first | exact trivial | refine ⟨rfl, ?_⟩ | refine ⟨congrArg some (by simp), ?_⟩ | refine ⟨congrArg some (by simp; omega), ?_⟩)), rfl, (by first | exact inferInstance | (dsimp only; exact inferInstance)), ⟨by omega, hbk⟩, (by first | omega | (dsimp only; omega))⟩
      ·
        refine C.exit ?_
        refine Then.x ?_
        refine Then.x ?_
        refine InBlo.x ?_
        refine Then.n ?_
        refine C.seq ?_
        refine C.block ?_
        have hk5 : k = 5 := by omega
        subst hk5
        refine C.loop (σ := Option Addr × Nat × List UInt8) (fun (a1, c1, X) => [(5, .pointer (some ⟨b5, 0, none⟩))]) (fun (a1, c1, X) => [blk b5 [.slice a1 X.length c1] 167, own 5 1 a1 X.length c1 (byteL X)]) (fun (a1, c1, X) => padL X = encO o ∧ X.length ≤ 65536) (fun (a1, c1, X) => (4 - X.length % 4) % 4) (a1, c1, wpTo o 5) ?_ ?_ ?_ ?_
        · repeat (first | exact trivial | refine ⟨rfl, ?_⟩)
        · first | exact .of (.refl _) | exact inferInstance | (dsimp only; exact inferInstance)
        · exact ⟨rfl, by have := ho.len; have := bareN_le o; omega⟩
        · rintro ⟨a2, c2, X⟩ ⟨hJ1, hJ2⟩
          try dsimp only
          refine C.seq ?_
          refine C.regS ?_
          refine L.callF (Γf := [blk b5 [.slice a2 X.length c2] 167, own 5 1 a2 X.length c2 (byteL X)]) go125 rfl (fun w hw hf => oc_wLen b5 a2 c2 X w hf) ?_
          rintro _ _ ⟨rfl, rfl⟩
          refine L.apc ?_
          refine L.yl (Y.rem rfl rfl (by omega) (by omega)) ?_
          refine L.yl (Y.nei rfl rfl) ?_
          refine L.nil ?_
          refine C.condP rfl (fun hc3 => ?_) (fun hc3 => ?_)
          ·
            refine C.skip ?_
            refine Then.n ?_
            refine C.block ?_
            refine C.reg ?_
            refine L.callF (Γf := [blk b5 [.slice a2 X.length c2] 167, own 5 1 a2 X.length c2 (byteL X)]) go126 rfl (fun w hw hf => oc_wOne b5 a2 c2 X 0 (by omega) (by omega) w hf) ?_
            rintro _ _ ⟨rfl, a24, c24, rfl⟩
            refine L.apc ?_
            rw [show beB 0 1 = [0] from rfl]
            refine L.nil ?_
            refine InBlo.n ?_
            exact ⟨(a24, c24, X ++ [0]), (by repeat (first | exact trivial | refine ⟨rfl, ?_⟩ | refine ⟨congrArg some (by simp), ?_⟩ | refine ⟨congrArg some (by simp; omega), ?_⟩)), rfl, (by first | exact inferInstance | (dsimp only; exact inferInstance)), ⟨by rw [padL_step (by omega)]; exact hJ1, by simp; have := padL_length X; rw [hJ1, hlen] at this; omega⟩, by simp; omega⟩
          ·
            refine C.exit ?_
            refine Then.x ?_
            refine Then.x ?_
            refine InBlo.x ?_
            refine Then.n ?_
            refine C.regS ?_
            refine L.callF (Γf := [blk b5 [.slice a2 X.length c2] 167, own 5 1 a2 X.length c2 (byteL X)]) go127 rfl (fun w hw hf => oc_wBytes b5 a2 c2 X (by omega) w hf) ?_
            rintro _ _ ⟨a25, c25, rfl, rfl⟩
            refine L.apc ?_
            refine L.yl (Y.as rfl) ?_
            refine L.yl (Y.as rfl) ?_
            refine L.nil ?_
            refine C.ret ?_
            refine FnPost.r2 Go.Proofs.Tryz.results81 rfl rfl ?_
            have hX : X = encO o := by rw [← hJ1, padL_stop (by omega)]
            subst hX
            refine ⟨[own 5 1 a25 (encO o).length c25 (byteL (encO o))], inferInstance, a25, c25, ?_, ?_⟩
            · rw [show encR o = encO o from if_pos hc0, hc0]
            · rw [show encR o = encO o from if_pos hc0]
end Go.Proofs.YtcbhcdcobgdddaaGreat
set_option maxHeartbeats 1000000
namespace Go.Proofs.YtcbhcdcobgdddaaGreat
open Go Go.X Go.Rep Go.Shelf
theorem bd51 : ∃ fs, Go.Proofs.Tryz.prog.underlying 51 = some (.struct fs) ∧ fs.toList.mapM (fun f => (Go.Proofs.Tryz.prog.info? f.type).map fun i => (f.offset, i.size)) = some [(0, 1), (1, 1)] := ⟨_, Go.Proofs.Tryz.underlying51, by kernel_rfl⟩
theorem elt42 : ElT Go.Proofs.Tryz.prog 42 51 2 8 := ElT.of (z := .agg #[.int .u32 0, .int .u32 0]) Go.Proofs.Tryz.underlying42 (by kernel_rfl) rfl (by decide)
theorem go101 : Goes Go.Proofs.Tryz.prog 101 := enters_of Go.Proofs.Tryz.func101 (by kernel_rfl) rfl
theorem go58 : Goes Go.Proofs.Tryz.prog 58 := enters_of Go.Proofs.Tryz.func58 (by kernel_rfl) rfl
theorem go59 : Goes Go.Proofs.Tryz.prog 59 := enters_of Go.Proofs.Tryz.func59 (by kernel_rfl) rfl
theorem go61 : Goes Go.Proofs.Tryz.prog 61 := enters_of Go.Proofs.Tryz.func61 (by kernel_rfl) rfl
theorem go62 : Goes Go.Proofs.Tryz.prog 62 := enters_of Go.Proofs.Tryz.func62 (by kernel_rfl) rfl
theorem rdI_b (l : List UInt8) (i n : Nat) (h : i ≤ l.length) : rdI l i n ≤ l.length := rdI_le h
theorem opt_says (o : Opts) (ba : Option Addr) (bc bo : Nat) (kind : Nat) (hk : kind < 256) (a : Option Addr) (b : List UInt8) (c : Nat) (hbl : b.length ≤ 255) (w : World) (hw : X.Holds w [blk bo (optCs o ba bc) 44, own 51 2 ba o.blocks.length bc (bkL o.blocks)]) (h2 : ∀ w2, Keep (fps [blk bo (optCs o ba bc) 44, own 51 2 ba o.blocks.length bc (bkL o.blocks)]) w w2 → Rs w2 a (byteL b)) : Calls Go.Proofs.Tryz.prog 102 #[.pointer (some ⟨bo, 0, none⟩), .int .u8 kind, .slice a b.length c] w (Post w [blk bo (optCs o ba bc) 44, own 51 2 ba o.blocks.length bc (bkL o.blocks)] (RW fun r Γ => ∃ o1 a1 c1, r = .bool (decide (okB kind b.length)) ∧ (okB kind b.length → o1 = putO o kind b) ∧ Γ = [blk bo (optCs o1 a1 c1) 44, own 51 2 a1 o1.blocks.length c1 (bkL o1.blocks)])) := by
  have hrd : ∀ Γ, Rd w (fps [blk bo (optCs o ba bc) 44, own 51 2 ba o.blocks.length bc (bkL o.blocks)]) Γ a (byteL b) := fun Γ => ⟨fun w2 hw2 => h2 w2 hw2.keep⟩
  refine spec_of Go.Proofs.Tryz.func102 rfl Go.Proofs.Tryz.ntmps102 rfl hw ?_
  change C _ _ _ _ _ _ _ ⟨[(0, _), (1, _), (2, _)], []⟩ _
  refine C.regS ?_
  refine L.yl (Y.as rfl) ?_
  refine L.nil ?_
  refine C.regS ?_
  refine L.yl (Y.mv rfl) ?_
  refine L.callF (Γf := []) go58 rfl (fun w2 hw2 hf => oc_NewReader a b c (by omega) w2 ((hrd _).rd w2 hw2)) ?_
  rintro _ _ ⟨br, ar, cr, rfl, rfl⟩
  refine L.apc ?_
  refine L.yl (Y.as rfl) ?_
  refine L.nil ?_
  refine C.seq ?_
  refine C.regS ?_
  refine L.yl (Y.mv rfl) ?_
  refine L.nil ?_
  refine C.block ?_
  refine C.regS ?_
  refine L.yl (Y.eqi rfl rfl) ?_
  refine L.yl (Y.as rfl) ?_
  refine L.nil ?_
  refine C.condP rfl (fun hc1 => ?_) (fun hc1 => ?_)
  ·
    obtain rfl : kind = 2 := by omega
    have hq2 := rdI_b b 0 2 (by omega)
    have hv2 := rdV2 b 0
    refine C.regS ?_
    refine L.yl (Y.mv rfl) ?_
    refine L.callF (Γf := [blk br [.slice ar b.length cr, .int .i64 ((0 : Nat))] 149, own 5 1 ar b.length cr (byteL b)]) go61 rfl (fun w hw hf => oc_Two br ar cr b (0) (by omega) w hf) ?_
    rintro _ _ ⟨rfl, rfl⟩
    refine L.apc ?_
    refine L.yl (Y.mv rfl) ?_
    refine L.yl (Y.extL rfl rfl) ?_
    refine L.yl (Y.extL rfl rfl) ?_
    refine L.yl (Y.as rfl) ?_
    refine L.yl (Y.as rfl) ?_
    refine L.nil ?_
    refine C.regS ?_
    refine L.yl (Y.mv rfl) ?_
    refine L.yl (Y.mv rfl) ?_
    first | refine L.yl (Y.cvI Go.Proofs.Tryz.underlying3 ⟨_, Go.Proofs.Tryz.underlying118⟩ rfl (by omega)) ?_ | refine L.yl (Y.cvW Go.Proofs.Tryz.underlying3 ⟨_, Go.Proofs.Tryz.underlying118⟩ rfl) ?_
    refine L.yl (Y.nck rfl) ?_
    first | refine L.yl (Y.fa0 fl44_0 rfl) ?_ | refine L.yl (Y.fa fl44_0 rfl) ?_ | refine L.yl (Y.fas fl44_0 rfl (by simp; omega)) ?_
    refine L.st sc3 rfl rfl rfl ?_
    refine L.nil ?_
    refine C.regS ?_
    refine L.yl (Y.mv rfl) ?_
    refine L.yl (Y.eqi rfl rfl) ?_
    refine L.yl (Y.mv rfl) ?_
    first | refine L.gsplit (i := 33) rfl (fun hg33 => ?_) (fun hg33 => ?_) | refine L.gsplitB (i := 33) rfl (fun hg33 => ?_) (fun hg33 => ?_)
    ·
      have hr2 := (rdE_iff b 0 2).1 hg33
      have hi2 : rdI b 0 2 = 2 := rdI_okN (by omega)
      refine L.gOn (t := 33) rfl rfl ?_
      refine L.yl (Y.mv rfl) ?_
      refine L.gOn (t := 33) rfl rfl ?_
      refine L.callF (Γf := [blk br [.slice ar b.length cr, .int .i64 ((rdI b 0 2 : Nat))] 149, own 5 1 ar b.length cr (byteL b)]) go101 rfl (fun w hw hf => oc_Left br ar cr b (rdI b 0 2) (by omega) w hf) ?_
      rintro _ _ ⟨rfl, rfl⟩
      refine L.apc ?_
      refine L.gOn (t := 33) rfl rfl ?_
      refine L.yl (Y.eqi rfl rfl) ?_
      refine L.yl (Y.pickT rfl rfl) ?_
      refine L.yl (Y.as rfl) ?_
      refine L.nil ?_
      refine C.ret ?_
      refine InBlo.r ?_
      refine Then.r ?_
      refine FnPost.r1 Go.Proofs.Tryz.results102 rfl ?_
      refine ⟨[blk bo (optCs (({ o with mss := rdV b 0 2 } : Opts)) ba bc) 44, own 51 2 ba (({ o with mss := rdV b 0 2 } : Opts)).blocks.length bc (bkL (({ o with mss := rdV b 0 2 } : Opts)).blocks)], inferInstance, ({ o with mss := rdV b 0 2 } : Opts), ba, bc, ?_, ?_, rfl⟩
      · congr 1; rw [Bool.eq_iff_iff, decide_eq_true_iff, decide_eq_true_iff]; simp only [okB]; simp; omega
      · intro _; simp [putO]
    ·
      have hr2 : ¬ 0 + 2 ≤ b.length := fun h => hg33 ((rdE_iff b 0 2).2 h)
      refine L.gOff (t := 33) rfl rfl rfl ?_
      refine L.gOff (t := 33) rfl rfl rfl ?_
      refine L.gOff (t := 33) rfl rfl rfl ?_
      refine L.yl (Y.pickF rfl rfl) ?_
      refine L.yl (Y.as rfl) ?_
      refine L.nil ?_
      refine C.ret ?_
      refine InBlo.r ?_
      refine Then.r ?_
      refine FnPost.r1 Go.Proofs.Tryz.results102 rfl ?_
      refine ⟨[blk bo (optCs (({ o with mss := rdV b 0 2 } : Opts)) ba bc) 44, own 51 2 ba (({ o with mss := rdV b 0 2 } : Opts)).blocks.length bc (bkL (({ o with mss := rdV b 0 2 } : Opts)).blocks)], inferInstance, ({ o with mss := rdV b 0 2 } : Opts), ba, bc, ?_, ?_, rfl⟩
      · congr 1; rw [Bool.eq_iff_iff, decide_eq_true_iff]; simp only [okB]; simp; omega
      · intro _; simp [putO]
  ·
    refine C.regS ?_
    refine L.yl (Y.eqi rfl rfl) ?_
    refine L.yl (Y.as rfl) ?_
    refine L.nil ?_
    refine C.condP rfl (fun hc2 => ?_) (fun hc2 => ?_)
    ·
      obtain rfl : kind = 3 := by omega
      have hq1 := rdI_b b 0 1 (by omega)
      have hv1 := rdV1 b 0
      refine C.regS ?_
      refine L.yl (Y.mv rfl) ?_
      refine L.callF (Γf := [blk br [.slice ar b.length cr, .int .i64 ((0 : Nat))] 149, own 5 1 ar b.length cr (byteL b)]) go59 rfl (fun w hw hf => oc_One br ar cr b (0) (by omega) w hf) ?_
      rintro _ _ ⟨rfl, rfl⟩
      refine L.apc ?_
      refine L.yl (Y.mv rfl) ?_
      refine L.yl (Y.extL rfl rfl) ?_
      refine L.yl (Y.extL rfl rfl) ?_
      refine L.yl (Y.as rfl) ?_
      refine L.yl (Y.as rfl) ?_
      refine L.nil ?_
      refine C.regS ?_
      refine L.yl (Y.mv rfl) ?_
      refine L.yl (Y.mv rfl) ?_
      refine L.yl (Y.mv rfl) ?_
      first | refine L.yl (Y.cvI Go.Proofs.Tryz.underlying3 ⟨_, Go.Proofs.Tryz.underlying5⟩ rfl (by omega)) ?_ | refine L.yl (Y.cvW Go.Proofs.Tryz.underlying3 ⟨_, Go.Proofs.Tryz.underlying5⟩ rfl) ?_
      refine L.yl (Y.min2 rfl rfl) ?_
      refine L.yl (Y.nck rfl) ?_
      first | refine L.yl (Y.fa0 fl44_5 rfl) ?_ | refine L.yl (Y.fa fl44_5 rfl) ?_ | refine L.yl (Y.fas fl44_5 rfl (by simp; omega)) ?_
      refine L.st sc4 rfl rfl rfl ?_
      refine L.yl (Y.nck rfl) ?_
      first | refine L.yl (Y.fa0 fl44_6 rfl) ?_ | refine L.yl (Y.fa fl44_6 rfl) ?_ | refine L.yl (Y.fas fl44_6 rfl (by simp; omega)) ?_
      refine L.st sc3 rfl rfl rfl ?_
      refine L.nil ?_
      refine C.regS ?_
      refine L.yl (Y.mv rfl) ?_
      refine L.yl (Y.eqi rfl rfl) ?_
      refine L.yl (Y.mv rfl) ?_
      first | refine L.gsplit (i := 56) rfl (fun hg56 => ?_) (fun hg56 => ?_) | refine L.gsplitB (i := 56) rfl (fun hg56 => ?_) (fun hg56 => ?_)
      ·
        have hr2 := (rdE_iff b 0 1).1 hg56
        have hi2 : rdI b 0 1 = 1 := rdI_okN (by omega)
        refine L.gOn (t := 56) rfl rfl ?_
        refine L.yl (Y.mv rfl) ?_
        refine L.gOn (t := 56) rfl rfl ?_
        refine L.callF (Γf := [blk br [.slice ar b.length cr, .int .i64 ((rdI b 0 1 : Nat))] 149, own 5 1 ar b.length cr (byteL b)]) go101 rfl (fun w hw hf => oc_Left br ar cr b (rdI b 0 1) (by omega) w hf) ?_
        rintro _ _ ⟨rfl, rfl⟩
        refine L.apc ?_
        refine L.gOn (t := 56) rfl rfl ?_
        refine L.yl (Y.eqi rfl rfl) ?_
        refine L.yl (Y.pickT rfl rfl) ?_
        refine L.yl (Y.as rfl) ?_
        refine L.nil ?_
        refine C.ret ?_
        refine InBlo.r ?_
        refine Then.r ?_
        refine FnPost.r1 Go.Proofs.Tryz.results102 rfl ?_
        refine ⟨[blk bo (optCs (({ o with has := true, scale := min (rdV b 0 1) 14 } : Opts)) ba bc) 44, own 51 2 ba (({ o with has := true, scale := min (rdV b 0 1) 14 } : Opts)).blocks.length bc (bkL (({ o with has := true, scale := min (rdV b 0 1) 14 } : Opts)).blocks)], inferInstance, ({ o with has := true, scale := min (rdV b 0 1) 14 } : Opts), ba, bc, ?_, ?_, rfl⟩
        · congr 1; rw [Bool.eq_iff_iff, decide_eq_true_iff, decide_eq_true_iff]; simp only [okB]; simp; omega
        · intro _; simp [putO]
      ·
        have hr2 : ¬ 0 + 1 ≤ b.length := fun h => hg56 ((rdE_iff b 0 1).2 h)
        refine L.gOff (t := 56) rfl rfl rfl ?_
        refine L.gOff (t := 56) rfl rfl rfl ?_
        refine L.gOff (t := 56) rfl rfl rfl ?_
        refine L.yl (Y.pickF rfl rfl) ?_
        refine L.yl (Y.as rfl) ?_
        refine L.nil ?_
        refine C.ret ?_
        refine InBlo.r ?_
        refine Then.r ?_
        refine FnPost.r1 Go.Proofs.Tryz.results102 rfl ?_
        refine ⟨[blk bo (optCs (({ o with has := true, scale := min (rdV b 0 1) 14 } : Opts)) ba bc) 44, own 51 2 ba (({ o with has := true, scale := min (rdV b 0 1) 14 } : Opts)).blocks.length bc (bkL (({ o with has := true, scale := min (rdV b 0 1) 14 } : Opts)).blocks)], inferInstance, ({ o with has := true, scale := min (rdV b 0 1) 14 } : Opts), ba, bc, ?_, ?_, rfl⟩
        · congr 1; rw [Bool.eq_iff_iff, decide_eq_true_iff]; simp only [okB]; simp; omega
        · intro _; simp [putO]
    ·
      refine C.regS ?_
      refine L.yl (Y.eqi rfl rfl) ?_
      refine L.yl (Y.as rfl) ?_
      refine L.nil ?_
      refine C.condP rfl (fun hc3 => ?_) (fun hc3 => ?_)
      ·
        obtain rfl : kind = 4 := by omega
        refine C.regS ?_
        refine L.yl (Y.mv rfl) ?_
        refine L.yl (Y.nck rfl) ?_
        first | refine L.yl (Y.fa0 fl44_1 rfl) ?_ | refine L.yl (Y.fa fl44_1 rfl) ?_ | refine L.yl (Y.fas fl44_1 rfl (by simp; omega)) ?_
        refine L.st sc4 rfl rfl rfl ?_
        refine L.nil ?_
        refine C.regS ?_
        refine L.yl (Y.mv rfl) ?_
        refine L.yl (Y.len ⟨_, Go.Proofs.Tryz.underlying31⟩ rfl) ?_
        refine L.yl (Y.eqi rfl rfl) ?_
        refine L.yl (Y.as rfl) ?_
        refine L.nil ?_
        refine C.ret ?_
        refine InBlo.r ?_
        refine Then.r ?_
        refine FnPost.r1 Go.Proofs.Tryz.results102 rfl ?_
        refine ⟨[blk bo (optCs (({ o with permit := true } : Opts)) ba bc) 44, own 51 2 ba (({ o with permit := true } : Opts)).blocks.length bc (bkL (({ o with permit := true } : Opts)).blocks)], inferInstance, ({ o with permit := true } : Opts), ba, bc, ?_, ?_, rfl⟩
        · congr 1; rw [Bool.eq_iff_iff, decide_eq_true_iff, decide_eq_true_iff]; simp only [okB]; simp
        · intro _; simp [putO]
      ·
        refine C.regS ?_
        refine L.yl (Y.eqi rfl rfl) ?_
        refine L.yl (Y.as rfl) ?_
        refine L.nil ?_
        refine C.condP rfl (fun hc4 => ?_) (fun hc4 => ?_)
        ·
          obtain rfl : kind = 8 := by omega
          refine C.regS ?_
          refine L.yl (Y.mv rfl) ?_
          refine L.yl (Y.nck rfl) ?_
          first | refine L.yl (Y.fa0 fl44_2 rfl) ?_ | refine L.yl (Y.fa fl44_2 rfl) ?_ | refine L.yl (Y.fas fl44_2 rfl (by simp; omega)) ?_
          refine L.st sc4 rfl rfl rfl ?_
          refine L.nil ?_
          have hq4 := rdI_b b 0 4 (by omega)
          have hq5 := rdI_b b (rdI b 0 4) 4 hq4
          refine C.regS ?_
          refine L.yl (Y.mv rfl) ?_
          refine L.yl (Y.mv rfl) ?_
          refine L.callF (Γf := [blk br [.slice ar b.length cr, .int .i64 ((0 : Nat))] 149, own 5 1 ar b.length cr (byteL b)]) go62 rfl (fun w hw hf => oc_Four br ar cr b (0) (by omega) w hf) ?_
          rintro _ _ ⟨rfl, rfl⟩
          refine L.apc ?_
          refine L.yl (Y.mv rfl) ?_
          refine L.yl (Y.extL rfl rfl) ?_
          refine L.yl (Y.extL rfl rfl) ?_
          refine L.yl (Y.nck rfl) ?_
          first | refine L.yl (Y.fa0 fl44_3 rfl) ?_ | refine L.yl (Y.fa fl44_3 rfl) ?_ | refine L.yl (Y.fas fl44_3 rfl (by simp; omega)) ?_
          refine L.st sc22 rfl rfl rfl ?_
          refine L.nil ?_
          refine C.regS ?_
          refine L.yl (Y.mv rfl) ?_
          refine L.yl (Y.mv rfl) ?_
          refine L.callF (Γf := [blk br [.slice ar b.length cr, .int .i64 ((rdI b 0 4 : Nat))] 149, own 5 1 ar b.length cr (byteL b)]) go62 rfl (fun w hw hf => oc_Four br ar cr b (rdI b 0 4) (by omega) w hf) ?_
          rintro _ _ ⟨rfl, rfl⟩
          refine L.apc ?_
          refine L.yl (Y.mv rfl) ?_
          refine L.yl (Y.extL rfl rfl) ?_
          refine L.yl (Y.extL rfl rfl) ?_
          refine L.yl (Y.nck rfl) ?_
          first | refine L.yl (Y.fa0 fl44_4 rfl) ?_ | refine L.yl (Y.fa fl44_4 rfl) ?_ | refine L.yl (Y.fas fl44_4 rfl (by simp; omega)) ?_
          refine L.st sc22 rfl rfl rfl ?_
          refine L.nil ?_
          refine C.regS ?_
          refine L.yl (Y.mv rfl) ?_
          refine L.yl (Y.len ⟨_, Go.Proofs.Tryz.underlying31⟩ rfl) ?_
          refine L.yl (Y.eqi rfl rfl) ?_
          refine L.yl (Y.as rfl) ?_
          refine L.nil ?_
          refine C.ret ?_
          refine InBlo.r ?_
          refine Then.r ?_
          refine FnPost.r1 Go.Proofs.Tryz.results102 rfl ?_
          refine ⟨[blk bo (optCs (({ o with ts := true, val := rdV b 0 4, ecr := rdV b (rdI b 0 4) 4 } : Opts)) ba bc) 44, own 51 2 ba (({ o with ts := true, val := rdV b 0 4, ecr := rdV b (rdI b 0 4) 4 } : Opts)).blocks.length bc (bkL (({ o with ts := true, val := rdV b 0 4, ecr := rdV b (rdI b 0 4) 4 } : Opts)).blocks)], inferInstance, ({ o with ts := true, val := rdV b 0 4, ecr := rdV b (rdI b 0 4) 4 } : Opts), ba, bc, ?_, ?_, rfl⟩
          · congr 1; rw [Bool.eq_iff_iff, decide_eq_true_iff, decide_eq_true_iff]; simp only [okB]; simp; omega
          · intro hok; have hl8 : b.length = 8 := by simpa [okB] using hok
            rw [show rdI b 0 4 = 4 from rdI_okN (by omega)]; simp [putO]
        ·
          refine C.regS ?_
          refine L.yl (Y.eqi rfl rfl) ?_
          refine L.yl (Y.as rfl) ?_
          refine L.nil ?_
          refine C.condP rfl (fun hc5 => ?_) (fun hc5 => ?_)
          ·
            obtain rfl : kind = 5 := by omega
            refine C.regS ?_
            refine L.yl (Y.mv rfl) ?_
            refine L.yl (Y.nck rfl) ?_
            first | refine L.yl (Y.fa0 fl44_7 rfl) ?_ | refine L.yl (Y.fa fl44_7 rfl) ?_ | refine L.yl (Y.fas fl44_7 rfl (by simp; omega)) ?_
            refine L.st sc42 rfl rfl rfl ?_
            refine L.nil ?_
            refine C.seq ?_
            refine C.block ?_
            refine C.nil0 51 2 ?_
            refine C.loop (σ := Nat × Option Addr × Nat × List (Int × Int)) (fun (k, a1, c1, X) => [(0, .pointer (some ⟨bo, 0, none⟩)), (7, .pointer (some ⟨br, 0, none⟩))]) (fun (k, a1, c1, X) => [blk bo [.int .i64 o.mss, .bool o.permit, .bool o.ts, .int .u32 o.val, .int .u32 o.ecr, .bool o.has, .int .i64 o.scale, .slice a1 X.length c1] 44, own 51 2 a1 X.length c1 (bkL X), blk br [.slice ar b.length cr, .int .i64 (((8 * k : Nat) : Int))] 149, own 5 1 ar b.length cr (byteL b)]) (fun (k, a1, c1, X) => 8 * k ≤ b.length ∧ X = blks b k) (fun (k, a1, c1, X) => b.length - 8 * k) (0, none, 0, []) ?_ ?_ ?_ ?_
            · repeat (first | exact trivial | refine ⟨rfl, ?_⟩)
            · show Wk _ [blk bo [.int .i64 o.mss, .bool o.permit, .bool o.ts, .int .u32 o.val, .int .u32 o.ecr, .bool o.has, .int .i64 o.scale, .slice none 0 0] 44, own 51 2 none 0 0 [], blk br [.slice ar b.length cr, .int .i64 (0)] 149, own 5 1 ar b.length cr (byteL b)]; exact inferInstance
            · exact ⟨Nat.zero_le _, rfl⟩
            · rintro ⟨k, a1, c1, X⟩ ⟨hI1, hI2⟩
              try dsimp only
              refine C.seq ?_
              refine C.regS ?_
              refine L.yl (Y.mv rfl) ?_
              refine L.callF (Γf := [blk br [.slice ar b.length cr, .int .i64 (((8 * k : Nat) : Int))] 149, own 5 1 ar b.length cr (byteL b)]) go101 rfl (fun w hw hf => oc_Left br ar cr b (8 * k) (by omega) w hf) ?_
              rintro _ _ ⟨rfl, rfl⟩
              refine L.apc ?_
              refine L.yl (Y.geq rfl rfl) ?_
              refine L.nil ?_
              refine C.condP rfl (fun hc6 => ?_) (fun hc6 => ?_)
              ·
                have hk8 : 8 * k + 8 ≤ b.length := by omega
                have hXl0 : X.length = k := by rw [hI2, blks_length]
                refine C.skip ?_
                refine Then.n ?_
                refine C.block ?_
                refine C.regS ?_
                refine L.yl (Y.mv rfl) ?_
                refine L.callF (Γf := [blk br [.slice ar b.length cr, .int .i64 (((8 * k : Nat) : Int))] 149, own 5 1 ar b.length cr (byteL b)]) go62 rfl (fun w hw hf => oc_Four br ar cr b (8 * k) (by omega) w hf) ?_
                rintro _ _ ⟨rfl, rfl⟩
                refine L.apc ?_
                rw [show rdI b (8 * k) 4 = 8 * k + 4 from rdI_okN (by omega)]
                refine L.yl (Y.mv rfl) ?_
                refine L.yl (Y.extL rfl rfl) ?_
                refine L.yl (Y.extL rfl rfl) ?_
                refine L.yl (Y.as rfl) ?_
                refine L.yl (Y.as rfl) ?_
                refine L.nil ?_
                refine C.regS ?_
                refine L.yl (Y.mv rfl) ?_
                refine L.callF (Γf := [blk br [.slice ar b.length cr, .int .i64 (((8 * k + 4 : Nat) : Int))] 149, own 5 1 ar b.length cr (byteL b)]) go62 rfl (fun w hw hf => oc_Four br ar cr b (8 * k + 4) (by omega) w hf) ?_
                rintro _ _ ⟨rfl, rfl⟩
                refine L.apc ?_
                rw [show rdI b (8 * k + 4) 4 = 8 * k + 4 + 4 from rdI_okN (by omega)]
                refine L.yl (Y.mv rfl) ?_
                refine L.yl (Y.extL rfl rfl) ?_
                refine L.yl (Y.extL rfl rfl) ?_
                refine L.yl (Y.as rfl) ?_
                refine L.yl (Y.as rfl) ?_
                refine L.nil ?_
                refine C.reg ?_
                refine L.yl (Y.mv rfl) ?_
                refine L.yl (Y.mv rfl) ?_
                refine L.yl (Y.nck rfl) ?_
                first | refine L.yl (Y.fa0 fl44_7 rfl) ?_ | refine L.yl (Y.fa fl44_7 rfl) ?_ | refine L.yl (Y.fas fl44_7 rfl (by simp; omega)) ?_
                refine L.yl (Y.ld sc42 rfl rfl) ?_
                refine L.yl (Y.mv rfl) ?_
                refine L.yl (Y.mv rfl) ?_
                refine L.yl (Y.bdL (cs := [_, _]) zr51 bd51 rfl rfl rfl) ?_
                refine L.bsA (vs := [_, _]) elt42 rfl rfl (by decide) ?_; intro b119
                refine L.app elt42 rfl rfl (by rfl) (by rfl) (by omega) (by omega) ?_; intro a120 c120
                refine L.yl (Y.nck rfl) ?_
                first | refine L.yl (Y.fa0 fl44_7 rfl) ?_ | refine L.yl (Y.fa fl44_7 rfl) ?_ | refine L.yl (Y.fas fl44_7 rfl (by simp; omega)) ?_
                refine L.st sc42 rfl rfl rfl ?_
                refine L.nil ?_
                refine InBlo.n ?_
                have hXl : X.length = k := by rw [hI2, blks_length]
                rw [show X.length + 1 = (X ++ [(rdV b (8 * k) 4, rdV b (8 * k + 4) 4)]).length by simp, show bkL X ++ [Value.int .u32 (rdV b (8 * k) 4), Value.int .u32 (rdV b (8 * k + 4) 4)] = bkL (X ++ [(rdV b (8 * k) 4, rdV b (8 * k + 4) 4)]) by rw [bkL_append]; rfl]
                rw [show ((8 * k + 4 + 4 : Nat) : Int) = ((8 * (k + 1) : Nat) : Int) by omega]
                exact ⟨(k + 1, a120, c120, X ++ [(rdV b (8 * k) 4, rdV b (8 * k + 4) 4)]), (by repeat (first | exact trivial | refine ⟨rfl, ?_⟩ | refine ⟨congrArg some (by simp), ?_⟩ | refine ⟨congrArg some (by simp; omega), ?_⟩)), rfl, (by dsimp only; exact inferInstance), ⟨by omega, by rw [hI2, blks_succ]⟩, (by dsimp only; omega)⟩
              ·
                refine C.exit ?_
                refine Then.x ?_
                refine Then.x ?_
                refine InBlo.x ?_
                refine Then.n ?_
                refine C.regS ?_
                refine L.yl (Y.mv rfl) ?_
                refine L.callF (Γf := [blk br [.slice ar b.length cr, .int .i64 (((8 * k : Nat) : Int))] 149, own 5 1 ar b.length cr (byteL b)]) go101 rfl (fun w hw hf => oc_Left br ar cr b (8 * k) (by omega) w hf) ?_
                rintro _ _ ⟨rfl, rfl⟩
                refine L.apc ?_
                refine L.yl (Y.eqi rfl rfl) ?_
                refine L.yl (Y.mv rfl) ?_
                first | refine L.gsplit (i := 126) rfl (fun hg126 => ?_) (fun hg126 => ?_) | refine L.gsplitB (i := 126) rfl (fun hg126 => ?_) (fun hg126 => ?_)
                ·
                  have hXl : X.length = k := by rw [hI2, blks_length]
                  refine L.gOn (t := 126) rfl rfl ?_
                  refine L.yl (Y.mv rfl) ?_
                  refine L.gOn (t := 126) rfl rfl ?_
                  refine L.yl (Y.nck rfl) ?_
                  refine L.gOn (t := 126) rfl rfl ?_
                  first | refine L.yl (Y.fa0 fl44_7 rfl) ?_ | refine L.yl (Y.fa fl44_7 rfl) ?_ | refine L.yl (Y.fas fl44_7 rfl (by simp; omega)) ?_
                  refine L.gOn (t := 126) rfl rfl ?_
                  refine L.yl (Y.ld sc42 rfl rfl) ?_
                  refine L.gOn (t := 126) rfl rfl ?_
                  refine L.yl (Y.len ⟨_, Go.Proofs.Tryz.underlying42⟩ rfl) ?_
                  refine L.gOn (t := 126) rfl rfl ?_
                  refine L.yl (Y.geq rfl rfl) ?_
                  refine L.yl (Y.pickT rfl rfl) ?_
                  refine L.yl (Y.mv rfl) ?_
                  first | refine L.gsplit (i := 134) rfl (fun hg134 => ?_) (fun hg134 => ?_) | refine L.gsplitB (i := 134) rfl (fun hg134 => ?_) (fun hg134 => ?_)
                  ·
                    refine L.gOn (t := 134) rfl rfl ?_
                    refine L.yl (Y.mv rfl) ?_
                    refine L.gOn (t := 134) rfl rfl ?_
                    refine L.yl (Y.nck rfl) ?_
                    refine L.gOn (t := 134) rfl rfl ?_
                    first | refine L.yl (Y.fa0 fl44_7 rfl) ?_ | refine L.yl (Y.fa fl44_7 rfl) ?_ | refine L.yl (Y.fas fl44_7 rfl (by simp; omega)) ?_
                    refine L.gOn (t := 134) rfl rfl ?_
                    refine L.yl (Y.ld sc42 rfl rfl) ?_
                    refine L.gOn (t := 134) rfl rfl ?_
                    refine L.yl (Y.len ⟨_, Go.Proofs.Tryz.underlying42⟩ rfl) ?_
                    refine L.gOn (t := 134) rfl rfl ?_
                    refine L.yl (Y.leq rfl rfl) ?_
                    refine L.yl (Y.pickT rfl rfl) ?_
                    refine L.yl (Y.as rfl) ?_
                    refine L.nil ?_
                    refine C.ret ?_
                    refine InBlo.r ?_
                    refine Then.r ?_
                    refine FnPost.r1 Go.Proofs.Tryz.results102 rfl ?_
                    refine ⟨[blk bo (optCs (({ o with blocks := X } : Opts)) a1 c1) 44, own 51 2 a1 (({ o with blocks := X } : Opts)).blocks.length c1 (bkL (({ o with blocks := X } : Opts)).blocks)], inferInstance, ({ o with blocks := X } : Opts), a1, c1, ?_, ?_, rfl⟩
                    · congr 1; rw [Bool.eq_iff_iff, decide_eq_true_iff, decide_eq_true_iff]; simp only [okB]; simp; omega
                    · intro hok; have hok5 : b.length % 8 = 0 ∧ 1 ≤ b.length / 8 ∧ b.length / 8 ≤ 4 := by simpa [okB] using hok
                      rw [hI2, show k = b.length / 8 by omega]; simp [putO]
                  ·
                    refine L.gOff (t := 134) rfl rfl rfl ?_
                    refine L.gOff (t := 134) rfl rfl rfl ?_
                    refine L.gOff (t := 134) rfl rfl rfl ?_
                    refine L.gOff (t := 134) rfl rfl rfl ?_
                    refine L.gOff (t := 134) rfl rfl rfl ?_
                    refine L.gOff (t := 134) rfl rfl rfl ?_
                    refine L.yl (Y.pickF rfl rfl) ?_
                    refine L.yl (Y.as rfl) ?_
                    refine L.nil ?_
                    refine C.ret ?_
                    refine InBlo.r ?_
                    refine Then.r ?_
                    refine FnPost.r1 Go.Proofs.Tryz.results102 rfl ?_
                    refine ⟨[blk bo (optCs (({ o with blocks := X } : Opts)) a1 c1) 44, own 51 2 a1 (({ o with blocks := X } : Opts)).blocks.length c1 (bkL (({ o with blocks := X } : Opts)).blocks)], inferInstance, ({ o with blocks := X } : Opts), a1, c1, ?_, ?_, rfl⟩
                    · congr 1; rw [Bool.eq_iff_iff, decide_eq_true_iff]; simp only [okB]; simp; omega
                    · intro hok; exfalso; have hok5 : b.length % 8 = 0 ∧ 1 ≤ b.length / 8 ∧ b.length / 8 ≤ 4 := by simpa [okB] using hok
                      omega
                ·
                  have hXl : X.length = k := by rw [hI2, blks_length]
                  refine L.gOff (t := 126) rfl rfl rfl ?_
                  refine L.gOff (t := 126) rfl rfl rfl ?_
                  refine L.gOff (t := 126) rfl rfl rfl ?_
                  refine L.gOff (t := 126) rfl rfl rfl ?_
                  refine L.gOff (t := 126) rfl rfl rfl ?_
                  refine L.gOff (t := 126) rfl rfl rfl ?_
                  refine L.yl (Y.pickF rfl rfl) ?_
                  refine L.yl (Y.mv rfl) ?_
                  refine L.gOff (t := 134) rfl rfl rfl ?_
                  refine L.gOff (t := 134) rfl rfl rfl ?_
                  refine L.gOff (t := 134) rfl rfl rfl ?_
                  refine L.gOff (t := 134) rfl rfl rfl ?_
                  refine L.gOff (t := 134) rfl rfl rfl ?_
                  refine L.gOff (t := 134) rfl rfl rfl ?_
                  refine L.yl (Y.pickF rfl rfl) ?_
                  refine L.yl (Y.as rfl) ?_
                  refine L.nil ?_
                  refine C.ret ?_
                  refine InBlo.r ?_
                  refine Then.r ?_
                  refine FnPost.r1 Go.Proofs.Tryz.results102 rfl ?_
                  refine ⟨[blk bo (optCs (({ o with blocks := X } : Opts)) a1 c1) 44, own 51 2 a1 (({ o with blocks := X } : Opts)).blocks.length c1 (bkL (({ o with blocks := X } : Opts)).blocks)], inferInstance, ({ o with blocks := X } : Opts), a1, c1, ?_, ?_, rfl⟩
                  · congr 1; rw [Bool.eq_iff_iff, decide_eq_true_iff]; simp only [okB]; simp; omega
                  · intro hok; exfalso; have hok5 : b.length % 8 = 0 ∧ 1 ≤ b.length / 8 ∧ b.length / 8 ≤ 4 := by simpa [okB] using hok
                    omega
          ·
            refine C.skip ?_
            refine InBlo.n ?_
            refine Then.n ?_
            refine C.regS ?_
            refine L.yl (Y.as rfl) ?_
            refine L.nil ?_
            refine C.ret ?_
            refine FnPost.r1 Go.Proofs.Tryz.results102 rfl ?_
            refine ⟨[blk bo (optCs o ba bc) 44, own 51 2 ba o.blocks.length bc (bkL o.blocks)], inferInstance, o, ba, bc, ?_, ?_, rfl⟩
            · congr 1; rw [Bool.eq_iff_iff, decide_eq_true_iff]; simp only [okB]; rw [if_neg (by omega), if_neg (by omega), if_neg (by omega), if_neg (by omega), if_neg (by omega)]; first | done | simp
            · intro _; unfold putO; rw [if_neg (by omega), if_neg (by omega), if_neg (by omega), if_neg (by omega), if_neg (by omega)]
end Go.Proofs.YtcbhcdcobgdddaaGreat
set_option maxHeartbeats 1000000
namespace Go.Proofs.YtcbhcdcobgdddaaGreat
open Go Go.X Go.Rep Go.Shelf
theorem bd44 : ∃ fs, Go.Proofs.Tryz.prog.underlying 44 = some (.struct fs) ∧ fs.toList.mapM (fun f => (Go.Proofs.Tryz.prog.info? f.type).map fun i => (f.offset, i.size)) = some [(0, 1), (1, 1), (2, 1), (3, 1), (4, 1), (5, 1), (6, 1), (7, 1)] := ⟨_, Go.Proofs.Tryz.underlying44, by kernel_rfl⟩
theorem go102 : Goes Go.Proofs.Tryz.prog 102 := enters_of Go.Proofs.Tryz.func102 (by kernel_rfl) rfl
theorem go63 : Goes Go.Proofs.Tryz.prog 63 := enters_of Go.Proofs.Tryz.func63 (by kernel_rfl) rfl
theorem zr44 : Zr Go.Proofs.Tryz.prog 44 (.agg #[.int .i64 0, .bool false, .bool false, .int .u32 0, .int .u32 0, .bool false, .int .i64 0, .slice none 0 0]) := by unfold Zr; kernel_rfl
theorem opt_Parse (a : Option Addr) (b : List UInt8) (c : Nat) (hbl : b.length ≤ 4096) (w : World) (h : Rs w a (byteL b)) : Calls Go.Proofs.Tryz.prog 64 #[.slice a b.length c] w (Post w [] (RW fun r Γ => ∃ a1 c1, r = .tuple #[.agg (optCs (parseO b).1 a1 c1).toArray, .int .i64 (parseO b).2] ∧ Γ = [own 51 2 a1 (parseO b).1.blocks.length c1 (bkL (parseO b).1.blocks)])) := by
  have hrd : ∀ Γ, Rd w (fps []) Γ a (byteL b) := fun Γ => Rd.old0 h Γ
  refine spec_of Go.Proofs.Tryz.func64 rfl Go.Proofs.Tryz.ntmps64 rfl ((Holds.nil w)) ?_
  change C _ _ _ _ _ _ _ ⟨[(0, _)], []⟩ _
  refine C.regS ?_
  refine L.al (zs := [.int .i64 0, .bool false, .bool false, .int .u32 0, .int .u32 0, .bool false, .int .i64 0, .slice none 0 0]) zr44 rfl ?_; intro b2
  refine L.yl (Y.as rfl) ?_
  refine L.nil ?_
  refine C.scope ?_
  refine C.seq ?_
  refine C.regS ?_
  refine L.yl (Y.mv rfl) ?_
  refine L.yl (Y.len ⟨_, Go.Proofs.Tryz.underlying31⟩ rfl) ?_
  refine L.yl (Y.gtr rfl rfl) ?_
  refine L.nil ?_
  refine C.condP rfl (fun hc1 => ?_) (fun hc1 => ?_)
  ·
    refine C.regS ?_
    refine L.yl (Y.bdL (cs := [_, _, _, _, _, _, _, _]) zr44 bd44 rfl rfl rfl) ?_
    refine L.sta (vs := [_, _, _, _, _, _, _, _]) ag44 rfl rfl rfl rfl rfl ?_
    refine L.yl (Y.as rfl) ?_
    refine L.nil ?_
    refine C.nil0 51 2 ?_
    refine C.ret ?_
    refine Then.r ?_
    refine InSc.r ?_
    refine FnPost.rg (xs := [.cell 2 44, .tmp 3]) (congrArg Array.toList Go.Proofs.Tryz.results64) (ra_ag (us := [_, _, _, _, _, _, _, _]) rfl ag44 rfl (ra_tmp rfl ra_nil)) ?_
    refine ⟨[own 51 2 none 0 0 []], inferInstance, none, 0, ?_, ?_⟩
    · rw [show parseO b = (Opts.zero, 9) from if_pos (by omega)]; rfl
    · rw [show parseO b = (Opts.zero, 9) from if_pos (by omega)]; rfl
  ·
    refine C.skip ?_
    refine Then.n ?_
    refine C.regS ?_
    refine L.al (zs := [.int .i64 0, .bool false, .bool false, .int .u32 0, .int .u32 0, .bool false, .int .i64 0, .slice none 0 0]) zr44 rfl ?_; intro b4
    refine L.nil ?_
    refine C.regS ?_
    refine L.yl (Y.mv rfl) ?_
    refine L.callF (Γf := []) go58 rfl (fun w2 hw2 hf => oc_NewReader a b c (by omega) w2 ((hrd _).rd w2 hw2)) ?_
    rintro _ _ ⟨br, ar, cr, rfl, rfl⟩
    refine L.apc ?_
    refine L.yl (Y.as rfl) ?_
    refine L.nil ?_
    refine C.seq ?_
    refine C.label ?_
    refine Then.n ?_
    refine C.seq ?_
    refine C.block ?_
    refine C.nil0 51 2 ?_
    refine C.loop (σ := Nat × Opts × Option Addr × Nat × Nat) (fun (i, o, oa, oc, f) => [(2, .pointer (some ⟨b2, 0, none⟩)), (4, .pointer (some ⟨b4, 0, none⟩)), (5, .pointer (some ⟨br, 0, none⟩))]) (fun (i, o, oa, oc, f) => [blk b4 (optCs o oa oc) 44, own 51 2 oa o.blocks.length oc (bkL o.blocks), blk br [.slice ar b.length cr, .int .i64 (((i : Nat) : Int))] 149, own 5 1 ar b.length cr (byteL b), blk b2 [.int .i64 0, .bool false, .bool false, .int .u32 0, .int .u32 0, .bool false, .int .i64 0, .slice none 0 0] 44]) (fun (i, o, oa, oc, f) => i ≤ b.length ∧ b.length < i + f ∧ parseG b f i o = parseO b) (fun (i, o, oa, oc, f) => b.length - i) (0, Opts.zero, none, 0, b.length + 1) ?_ ?_ ?_ ?_
    · repeat (first | exact trivial | refine ⟨rfl, ?_⟩)
    · show Wk _ [blk b4 [.int .i64 0, .bool false, .bool false, .int .u32 0, .int .u32 0, .bool false, .int .i64 0, .slice none 0 0] 44, own 51 2 none 0 0 [], blk br [.slice ar b.length cr, .int .i64 (0)] 149, own 5 1 ar b.length cr (byteL b), blk b2 [.int .i64 0, .bool false, .bool false, .int .u32 0, .int .u32 0, .bool false, .int .i64 0, .slice none 0 0] 44]; exact inferInstance
    · exact ⟨Nat.zero_le _, by omega, (if_neg (show ¬ 40 < b.length by omega)).symm⟩
    · rintro ⟨i, o, oa, oc, f⟩ ⟨hI1, hI2, hI3⟩
      obtain ⟨f, rfl⟩ : ∃ f0, f = f0 + 1 := ⟨f - 1, by omega⟩
      unfold parseG at hI3
      try dsimp only
      refine C.seq ?_
      refine C.regS ?_
      refine L.yl (Y.mv rfl) ?_
      refine L.callF (Γf := [blk br [.slice ar b.length cr, .int .i64 (((i : Nat) : Int))] 149, own 5 1 ar b.length cr (byteL b)]) go101 rfl (fun w hw hf => oc_Left br ar cr b (i) (by omega) w hf) ?_
      rintro _ _ ⟨rfl, rfl⟩
      refine L.apc ?_
      refine L.yl (Y.gtr rfl rfl) ?_
      refine L.nil ?_
      refine C.condP rfl (fun hc2 => ?_) (fun hc2 => ?_)
      ·
        obtain ⟨u0, hu0⟩ : ∃ u, b[i]? = some u := ⟨_, List.getElem?_eq_getElem (by omega)⟩
        rw [if_neg (show ¬ b.length ≤ i by omega), getD_of hu0] at hI3
        have hlt0 := u0.toNat_lt
        refine C.skip ?_
        refine Then.n ?_
        refine C.block ?_
        refine C.regS ?_
        refine L.yl (Y.mv rfl) ?_
        refine L.callF (Γf := [blk br [.slice ar b.length cr, .int .i64 (((i : Nat) : Int))] 149, own 5 1 ar b.length cr (byteL b)]) go59 rfl (fun w hw hf => oc_One br ar cr b (i) (by omega) w hf) ?_
        rintro _ _ ⟨rfl, rfl⟩
        refine L.apc ?_
        rw [rdV_one hu0, rdE_ok (show i + 1 ≤ b.length by omega), show rdI b i 1 = i + 1 from rdI_okN (by omega)]
        refine L.yl (Y.mv rfl) ?_
        refine L.yl (Y.extL rfl rfl) ?_
        refine L.yl (Y.extL rfl rfl) ?_
        refine L.yl (Y.as rfl) ?_
        refine L.yl (Y.as rfl) ?_
        refine L.nil ?_
        refine C.seq ?_
        refine C.regS ?_
        refine L.yl (Y.mv rfl) ?_
        refine L.nil ?_
        refine C.block ?_
        refine C.regS ?_
        refine L.yl (Y.eqi rfl rfl) ?_
        refine L.yl (Y.as rfl) ?_
        refine L.nil ?_
        refine C.condP rfl (fun hc3 => ?_) (fun hc3 => ?_)
        ·
          have hR : parseO b = (o, 0) := by rw [if_pos (show u0.toNat = 0 by omega)] at hI3; exact hI3.symm
          refine C.exit ?_
          refine InBlo.o rfl ?_
          refine Then.x ?_
          refine InBlo.o rfl ?_
          refine Then.x ?_
          refine InBlo.x ?_
          refine Then.n ?_
          refine C.regS ?_
          refine L.yl (Y.lda (vs := [_, _, _, _, _, _, _, _]) ag44 rfl rfl) ?_
          refine L.sta (vs := [_, _, _, _, _, _, _, _]) ag44 rfl rfl rfl rfl rfl ?_
          refine L.yl (Y.as rfl) ?_
          refine L.nil ?_
          refine C.ret ?_
          refine InSc.r ?_
          refine FnPost.rg (xs := [.cell 2 44, .tmp 3]) (congrArg Array.toList Go.Proofs.Tryz.results64) (ra_ag (us := [_, _, _, _, _, _, _, _]) rfl ag44 rfl (ra_tmp rfl ra_nil)) ?_
          refine ⟨[own 51 2 oa o.blocks.length oc (bkL o.blocks)], inferInstance, oa, oc, ?_, ?_⟩
          · rw [hR]; rfl
          · rw [hR]
        ·
          rw [if_neg (show ¬ u0.toNat = 0 by omega)] at hI3
          refine C.regS ?_
          refine L.yl (Y.eqi rfl rfl) ?_
          refine L.yl (Y.as rfl) ?_
          refine L.nil ?_
          refine C.condP rfl (fun hc4 => ?_) (fun hc4 => ?_)
          ·
            refine C.exit ?_
            refine InBlo.o rfl ?_
            refine Then.x ?_
            refine InBlo.x ?_
            rw [if_pos (by omega)] at hI3
            exact ⟨(i + 1, o, oa, oc, f), (by repeat (first | exact trivial | refine ⟨rfl, ?_⟩ | refine ⟨congrArg some (by simp), ?_⟩ | refine ⟨congrArg some (by simp; omega), ?_⟩)), rfl, (by dsimp only; exact inferInstance), ⟨(by dsimp only; omega), (by dsimp only; omega), hI3⟩, (by dsimp only; omega)⟩
          ·
            rw [if_neg (show ¬ u0.toNat = 1 by omega)] at hI3
            refine C.skip ?_
            refine InBlo.n ?_
            refine Then.n ?_
            refine C.regS ?_
            refine L.yl (Y.mv rfl) ?_
            refine L.callF (Γf := [blk br [.slice ar b.length cr, .int .i64 (((i + 1 : Nat) : Int))] 149, own 5 1 ar b.length cr (byteL b)]) go59 rfl (fun w hw hf => oc_One br ar cr b (i + 1) (by omega) w hf) ?_
            rintro _ _ ⟨rfl, rfl⟩
            refine L.apc ?_
            refine L.yl (Y.mv rfl) ?_
            refine L.yl (Y.extL rfl rfl) ?_
            refine L.yl (Y.extL rfl rfl) ?_
            refine L.yl (Y.as rfl) ?_
            refine L.yl (Y.as rfl) ?_
            refine L.nil ?_
            refine C.seq ?_
            refine C.regS ?_
            refine L.yl (Y.mv rfl) ?_
            refine L.yl (Y.nei rfl rfl) ?_
            refine L.nil ?_
            refine C.condP rfl (fun hc5 => ?_) (fun hc5 => ?_)
            ·
              have hs1 : ¬ i + 1 + 1 ≤ b.length := fun h => hc5 (rdE_ok h)
              have hR : parseO b = (Opts.zero, 5) := by rw [if_pos (show b.length ≤ i + 1 by omega)] at hI3; exact hI3.symm
              rw [rdE_no hs1]
              refine C.regS ?_
              refine L.yl (Y.bdL (cs := [_, _, _, _, _, _, _, _]) zr44 bd44 rfl rfl rfl) ?_
              refine L.yl (Y.mv rfl) ?_
              refine L.sta (vs := [_, _, _, _, _, _, _, _]) ag44 rfl rfl rfl rfl rfl ?_
              refine L.yl (Y.as rfl) ?_
              refine L.nil ?_
              refine C.nil0 51 2 ?_
              refine C.ret ?_
              refine Then.r ?_
              refine InBlo.r ?_
              refine Then.r ?_
              refine InBlo.r ?_
              refine Then.r ?_
              refine InSc.r ?_
              refine FnPost.rg (xs := [.cell 2 44, .tmp 3]) (congrArg Array.toList Go.Proofs.Tryz.results64) (ra_ag (us := [_, _, _, _, _, _, _, _]) rfl ag44 rfl (ra_tmp rfl ra_nil)) ?_
              refine ⟨[own 51 2 none 0 0 []], inferInstance, none, 0, ?_, ?_⟩
              · rw [hR]; rfl
              · rw [hR]; rfl
            ·
              have hs1 : i + 1 + 1 ≤ b.length := (rdE_iff b (i + 1) 1).1 (Decidable.not_not.1 hc5)
              obtain ⟨u1, hu1⟩ : ∃ u, b[i + 1]? = some u := ⟨_, List.getElem?_eq_getElem (by omega)⟩
              rw [if_neg (show ¬ b.length ≤ i + 1 by omega), getD_of hu1] at hI3
              have hlt1 := u1.toNat_lt
              rw [rdV_one hu1, show rdI b (i + 1) 1 = i + 2 from rdI_okN (by omega)]
              refine C.skip ?_
              refine Then.n ?_
              refine C.seq ?_
              refine C.regS ?_
              refine L.yl (Y.mv rfl) ?_
              refine L.yl (Y.lss rfl rfl) ?_
              refine L.nil ?_
              refine C.condP rfl (fun hc6 => ?_) (fun hc6 => ?_)
              ·
                have hR : parseO b = (Opts.zero, 6) := by rw [if_pos (show u1.toNat < 2 by omega)] at hI3; exact hI3.symm
                refine C.regS ?_
                refine L.yl (Y.bdL (cs := [_, _, _, _, _, _, _, _]) zr44 bd44 rfl rfl rfl) ?_
                refine L.sta (vs := [_, _, _, _, _, _, _, _]) ag44 rfl rfl rfl rfl rfl ?_
                refine L.yl (Y.as rfl) ?_
                refine L.nil ?_
                refine C.nil0 51 2 ?_
                refine C.ret ?_
                refine Then.r ?_
                refine InBlo.r ?_
                refine Then.r ?_
                refine InBlo.r ?_
                refine Then.r ?_
                refine InSc.r ?_
                refine FnPost.rg (xs := [.cell 2 44, .tmp 3]) (congrArg Array.toList Go.Proofs.Tryz.results64) (ra_ag (us := [_, _, _, _, _, _, _, _]) rfl ag44 rfl (ra_tmp rfl ra_nil)) ?_
                refine ⟨[own 51 2 none 0 0 []], inferInstance, none, 0, ?_, ?_⟩
                · rw [hR]; rfl
                · rw [hR]; rfl
              ·
                rw [if_neg (show ¬ u1.toNat < 2 by omega)] at hI3
                refine C.skip ?_
                refine Then.n ?_
                refine C.regS ?_
                refine L.yl (Y.mv rfl) ?_
                refine L.yl (Y.mv rfl) ?_
                first | refine L.yl (Y.cvI Go.Proofs.Tryz.underlying3 ⟨_, Go.Proofs.Tryz.underlying5⟩ rfl (by omega)) ?_ | refine L.yl (Y.cvW Go.Proofs.Tryz.underlying3 ⟨_, Go.Proofs.Tryz.underlying5⟩ rfl) ?_
                first | refine L.yl (Y.sub rfl rfl (by omega)) ?_ | refine L.yl (Y.subW rfl rfl) ?_
                rw [show ((u1.toNat : Int) - 2) = ((u1.toNat - 2 : Nat) : Int) by omega]
                refine L.callF (Γf := [blk br [.slice ar b.length cr, .int .i64 (((i + 2 : Nat) : Int))] 149, own 5 1 ar b.length cr (byteL b)]) go63 rfl (fun w hw hf => oc_Take br ar cr b (i + 2) (u1.toNat - 2) (by omega) (by omega) (by omega) w hf) ?_
                rintro _ _ ⟨ta, tc, rfl, rfl⟩
                refine L.apc ?_
                refine L.yl (Y.mv rfl) ?_
                refine L.yl (Y.extL rfl rfl) ?_
                refine L.yl (Y.extL rfl rfl) ?_
                refine L.yl (Y.as rfl) ?_
                refine L.yl (Y.as rfl) ?_
                refine L.nil ?_
                refine C.seq ?_
                refine C.regS ?_
                refine L.yl (Y.mv rfl) ?_
                refine L.yl (Y.nei rfl rfl) ?_
                refine L.nil ?_
                refine C.condP rfl (fun hc7 => ?_) (fun hc7 => ?_)
                ·
                  have hs2 : ¬ i + 2 + (u1.toNat - 2) ≤ b.length := fun h => hc7 (rdE_ok h)
                  have hR : parseO b = (Opts.zero, 5) := by rw [if_pos (show b.length < i + u1.toNat by omega)] at hI3; exact hI3.symm
                  rw [rdE_no hs2]
                  refine C.regS ?_
                  refine L.yl (Y.bdL (cs := [_, _, _, _, _, _, _, _]) zr44 bd44 rfl rfl rfl) ?_
                  refine L.yl (Y.mv rfl) ?_
                  refine L.sta (vs := [_, _, _, _, _, _, _, _]) ag44 rfl rfl rfl rfl rfl ?_
                  refine L.yl (Y.as rfl) ?_
                  refine L.nil ?_
                  refine C.nil0 51 2 ?_
                  refine C.ret ?_
                  refine Then.r ?_
                  refine InBlo.r ?_
                  refine Then.r ?_
                  refine InBlo.r ?_
                  refine Then.r ?_
                  refine InSc.r ?_
                  refine FnPost.rg (xs := [.cell 2 44, .tmp 3]) (congrArg Array.toList Go.Proofs.Tryz.results64) (ra_ag (us := [_, _, _, _, _, _, _, _]) rfl ag44 rfl (ra_tmp rfl ra_nil)) ?_
                  refine ⟨[own 51 2 none 0 0 []], inferInstance, none, 0, ?_, ?_⟩
                  · rw [hR]; rfl
                  · rw [hR]; rfl
                ·
                  have hs2 : i + 2 + (u1.toNat - 2) ≤ b.length := (rdE_iff b (i + 2) (u1.toNat - 2)).1 (Decidable.not_not.1 hc7)
                  rw [if_neg (show ¬ b.length < i + u1.toNat by omega), ← tkB_ok hs2] at hI3
                  have htl := tkB_len hs2
                  rw [show rdI b (i + 2) (u1.toNat - 2) = i + 2 + (u1.toNat - 2) from rdI_okN hs2]
                  refine C.skip ?_
                  refine Then.n ?_
                  refine C.regS ?_
                  refine L.yl (Y.mv rfl) ?_
                  refine L.yl (Y.mv rfl) ?_
                  refine L.callFW (Γf := [blk b4 (optCs o oa oc) 44, own 51 2 oa o.blocks.length oc (bkL o.blocks)]) go102 rfl (fun w2 hw2 hf => opt_says o oa oc b4 u0.toNat hlt0 ta (tkB b (i + 2) (u1.toNat - 2)) tc (by omega) w2 hf (by have := hw2.rk_own (Γf := [blk b4 (optCs o oa oc) 44, own 51 2 oa o.blocks.length oc (bkL o.blocks)]) (Γr := _) (a := ta) (t := 5) (sz := 1) (n := (tkB b (i + 2) (u1.toNat - 2)).length) (c := tc) (xs := byteL (tkB b (i + 2) (u1.toNat - 2))) inferInstance inferInstance; exact this)) ?_
                  rintro _ _ ⟨o1, oa1, oc1, rfl, ho1, rfl⟩
                  refine L.apc ?_
                  first | refine L.yl (Y.notP rfl) ?_ | refine L.yl (Y.not rfl) ?_
                  refine L.nil ?_
                  refine C.condP rfl (fun hc8 => ?_) (fun hc8 => ?_)
                  ·
                    have hR : parseO b = (Opts.zero, 6) := by rw [if_neg (by rw [← htl]; exact hc8)] at hI3; exact hI3.symm
                    refine C.regS ?_
                    refine L.yl (Y.bdL (cs := [_, _, _, _, _, _, _, _]) zr44 bd44 rfl rfl rfl) ?_
                    refine L.sta (vs := [_, _, _, _, _, _, _, _]) ag44 rfl rfl rfl rfl rfl ?_
                    refine L.yl (Y.as rfl) ?_
                    refine L.nil ?_
                    refine C.nil0 51 2 ?_
                    refine C.ret ?_
                    refine InBlo.r ?_
                    refine Then.r ?_
                    refine InBlo.r ?_
                    refine Then.r ?_
                    refine InSc.r ?_
                    refine FnPost.rg (xs := [.cell 2 44, .tmp 3]) (congrArg Array.toList Go.Proofs.Tryz.results64) (ra_ag (us := [_, _, _, _, _, _, _, _]) rfl ag44 rfl (ra_tmp rfl ra_nil)) ?_
                    refine ⟨[own 51 2 none 0 0 []], inferInstance, none, 0, ?_, ?_⟩
                    · rw [hR]; rfl
                    · rw [hR]; rfl
                  ·
                    have hok8 := Decidable.not_not.1 hc8
                    have ho1 := ho1 hok8
                    rw [if_pos (by rw [← htl]; exact hok8)] at hI3
                    refine C.skip ?_
                    refine InBlo.n ?_
                    rw [show (i + 2 + (u1.toNat - 2) : Nat) = i + u1.toNat by omega]
                    exact ⟨(i + u1.toNat, o1, oa1, oc1, f), (by repeat (first | exact trivial | refine ⟨rfl, ?_⟩ | refine ⟨congrArg some (by simp), ?_⟩ | refine ⟨congrArg some (by simp; omega), ?_⟩)), rfl, (by dsimp only; exact inferInstance), ⟨(by dsimp only; omega), (by dsimp only; omega), by dsimp only; rw [ho1]; exact hI3⟩, (by dsimp only; omega)⟩
      ·
        have hR : parseO b = (o, 0) := by rw [if_pos (show b.length ≤ i by omega)] at hI3; exact hI3.symm
        refine C.exit ?_
        refine Then.x ?_
        refine Then.x ?_
        refine InBlo.x ?_
        refine Then.n ?_
        refine C.regS ?_
        refine L.yl (Y.lda (vs := [_, _, _, _, _, _, _, _]) ag44 rfl rfl) ?_
        refine L.sta (vs := [_, _, _, _, _, _, _, _]) ag44 rfl rfl rfl rfl rfl ?_
        refine L.yl (Y.as rfl) ?_
        refine L.nil ?_
        refine C.ret ?_
        refine InSc.r ?_
        refine FnPost.rg (xs := [.cell 2 44, .tmp 3]) (congrArg Array.toList Go.Proofs.Tryz.results64) (ra_ag (us := [_, _, _, _, _, _, _, _]) rfl ag44 rfl (ra_tmp rfl ra_nil)) ?_
        refine ⟨[own 51 2 oa o.blocks.length oc (bkL o.blocks)], inferInstance, oa, oc, ?_, ?_⟩
        · rw [hR]; rfl
        · rw [hR]
end Go.Proofs.YtcbhcdcobgdddaaGreat
set_option maxHeartbeats 1000000
namespace Go.Proofs.YtcbhcdcobgdddaaGreat
open Go Go.X Go.Rep Go.Shelf
theorem ag154 : Ag Go.Proofs.Tryz.prog 154 4 := ⟨_, Go.Proofs.Tryz.underlying154, rfl, by kernel_rfl⟩
theorem ag46 : Ag Go.Proofs.Tryz.prog 46 11 := ⟨_, Go.Proofs.Tryz.underlying46, rfl, by kernel_rfl⟩
theorem fl46_0 : Fld Go.Proofs.Tryz.prog 46 0 0 := ⟨_, _, Go.Proofs.Tryz.underlying46, rfl, rfl, _, (by kernel_rfl : (Go.Proofs.Tryz.prog.info? 3).map (·.size) = some 1), by decide⟩
theorem fl46_2 : Fld Go.Proofs.Tryz.prog 46 2 2 := ⟨_, _, Go.Proofs.Tryz.underlying46, rfl, rfl, _, (by kernel_rfl : (Go.Proofs.Tryz.prog.info? 44).map (·.size) = some 8), by decide⟩
theorem fl46_3 : Fld Go.Proofs.Tryz.prog 46 3 10 := ⟨_, _, Go.Proofs.Tryz.underlying46, rfl, rfl, _, (by kernel_rfl : (Go.Proofs.Tryz.prog.info? 31).map (·.size) = some 1), by decide⟩
theorem go103 : Goes Go.Proofs.Tryz.prog 103 := enters_of Go.Proofs.Tryz.func103 (by kernel_rfl) rfl
theorem go104 : Goes Go.Proofs.Tryz.prog 104 := enters_of Go.Proofs.Tryz.func104 (by kernel_rfl) rfl
theorem go106 : Goes Go.Proofs.Tryz.prog 106 := enters_of Go.Proofs.Tryz.func106 (by kernel_rfl) rfl
theorem go107 : Goes Go.Proofs.Tryz.prog 107 := enters_of Go.Proofs.Tryz.func107 (by kernel_rfl) rfl
theorem go60 : Goes Go.Proofs.Tryz.prog 60 := enters_of Go.Proofs.Tryz.func60 (by kernel_rfl) rfl
theorem sc153 : Sc Go.Proofs.Tryz.prog 153 := ⟨_, Go.Proofs.Tryz.underlying153, rfl, by kernel_rfl⟩
theorem zr154 : Zr Go.Proofs.Tryz.prog 154 (.agg #[.nilFunc, .nilFunc, .nilFunc, .nilFunc]) := by unfold Zr; kernel_rfl
theorem seg_kind (s : Seg) (oa : Option Addr) (oc : Nat) (ba : Option Addr) (bc : Nat) (w : World) : Pur Go.Proofs.Tryz.prog 60 [.agg (segCs s oa oc ba bc).toArray] (.int .i64 (kindE s.kind)) w := by
  refine pur_of Go.Proofs.Tryz.func60 rfl Go.Proofs.Tryz.ntmps60 rfl ?_
  change C _ _ _ _ _ _ _ ⟨[(0, _)], []⟩ _
  refine C.regS ?_
  refine L.bxa rfl ?_; intro b1
  refine L.yl (Y.as rfl) ?_
  refine L.nil ?_
  refine C.seq ?_
  refine C.test (s.kind ≠ 1 ∧ s.kind ≠ 2) ?_ (fun hc1 => ?_) (fun hc1 => ?_)
  ·
    first | refine L.yl (Y.fa0 fl46_0 rfl) ?_ | refine L.yl (Y.fa fl46_0 rfl) ?_ | refine L.yl (Y.fas fl46_0 rfl (by simp; omega)) ?_
    refine L.yl (Y.ld sc3 rfl rfl) ?_
    refine L.yl (Y.nei rfl rfl) ?_
    refine L.yl (Y.mv rfl) ?_
    first | refine L.gsplit (i := 6) rfl (fun hg6 => ?_) (fun hg6 => ?_) | refine L.gsplitB (i := 6) rfl (fun hg6 => ?_) (fun hg6 => ?_)
    ·
      refine L.gOn (t := 6) rfl rfl ?_
      first | refine L.yl (Y.fa0 fl46_0 rfl) ?_ | refine L.yl (Y.fa fl46_0 rfl) ?_ | refine L.yl (Y.fas fl46_0 rfl (by simp; omega)) ?_
      refine L.gOn (t := 6) rfl rfl ?_
      refine L.yl (Y.ld sc3 rfl rfl) ?_
      refine L.gOn (t := 6) rfl rfl ?_
      refine L.yl (Y.nei rfl rfl) ?_
      refine L.yl (Y.pickT rfl rfl) ?_
      refine L.nil ?_
      exact ⟨_, rfl, by first | exact ⟨fun _ => by omega, fun _ => rfl⟩ | (rw [decide_eq_true_iff]; omega) | exact ⟨fun h => by cases h, fun h => by omega⟩ | (simp [*] <;> omega), (by repeat (first | exact Inc.refl _ | refine Inc.cons rfl ?_)), rfl, rfl⟩
    ·
      refine L.gOff (t := 6) rfl rfl rfl ?_
      refine L.gOff (t := 6) rfl rfl rfl ?_
      refine L.gOff (t := 6) rfl rfl rfl ?_
      refine L.yl (Y.pickF rfl rfl) ?_
      refine L.nil ?_
      exact ⟨_, rfl, by first | exact ⟨fun _ => by omega, fun _ => rfl⟩ | (rw [decide_eq_true_iff]; omega) | exact ⟨fun h => by cases h, fun h => by omega⟩ | (simp [*] <;> omega), (by repeat (first | exact Inc.refl _ | refine Inc.cons rfl ?_)), rfl, rfl⟩
  ·
    refine C.regS ?_
    refine L.yl (Y.as rfl) ?_
    refine L.nil ?_
    refine C.ret ?_
    refine Then.r ?_
    refine FnPost.r1 Go.Proofs.Tryz.results60 rfl ?_
    unfold kindE; rw [if_pos hc1]
  ·
    refine C.skip ?_
    refine Then.n ?_
    refine C.regS ?_
    refine L.yl (Y.as rfl) ?_
    refine L.nil ?_
    refine C.ret ?_
    refine FnPost.r1 Go.Proofs.Tryz.results60 rfl ?_
    unfold kindE; rw [if_neg hc1]
theorem seg_c0 (s : Seg) (oa : Option Addr) (oc : Nat) (ba : Option Addr) (bc : Nat) (bs : Nat) (w : World) (hw : X.Holds w [blk bs (segCs s oa oc ba bc) 46]) : Calls Go.Proofs.Tryz.prog 103 #[.pointer (some ⟨bs, 0, none⟩)] w (Post w [blk bs (segCs s oa oc ba bc) 46] (fun r Γ => r = .int .i64 (ckk s 0) ∧ Γ = [blk bs (segCs s oa oc ba bc) 46])) := by
  refine spec_of Go.Proofs.Tryz.func103 rfl Go.Proofs.Tryz.ntmps103 rfl hw ?_
  change C _ _ _ _ _ _ _ ⟨[(0, _)], []⟩ _
  refine C.regS ?_
  refine L.yl (Y.as rfl) ?_
  refine L.nil ?_
  refine C.regS ?_
  refine L.yl (Y.lda (vs := [_, _, _, _, _, _, _, _, _, _, _]) ag46 rfl rfl) ?_
  refine L.callP go60 rfl (fun w hw => seg_kind s oa oc ba bc w) ?_
  refine L.yl (Y.as rfl) ?_
  refine L.nil ?_
  refine C.ret ?_
  refine FnPost.r1 Go.Proofs.Tryz.results103 rfl ?_
  exact ⟨rfl, rfl⟩
theorem seg_c1 (s : Seg) (oa : Option Addr) (oc : Nat) (ba : Option Addr) (bc : Nat) (bs : Nat) (hl : s.opt.blocks.length ≤ 65536) (w : World) (hw : X.Holds w [blk bs (segCs s oa oc ba bc) 46]) : Calls Go.Proofs.Tryz.prog 104 #[.pointer (some ⟨bs, 0, none⟩)] w (Post w [blk bs (segCs s oa oc ba bc) 46] (fun r Γ => r = .int .i64 (ckk s 1) ∧ Γ = [blk bs (segCs s oa oc ba bc) 46])) := by
  refine spec_of Go.Proofs.Tryz.func104 rfl Go.Proofs.Tryz.ntmps104 rfl hw ?_
  change C _ _ _ _ _ _ _ ⟨[(0, _)], []⟩ _
  refine C.regS ?_
  refine L.yl (Y.as rfl) ?_
  refine L.nil ?_
  refine C.regS ?_
  first | refine L.yl (Y.fa0 fl46_2 rfl) ?_ | refine L.yl (Y.fa fl46_2 rfl) ?_ | refine L.yl (Y.fas fl46_2 rfl (by simp; omega)) ?_
  refine L.yl (Y.lda (vs := [_, _, _, _, _, _, _, _]) ag44 rfl rfl) ?_
  refine L.callP go105 rfl (fun w hw => opt_Check s.opt oa oc hl w) ?_
  refine L.yl (Y.as rfl) ?_
  refine L.nil ?_
  refine C.ret ?_
  refine FnPost.r1 Go.Proofs.Tryz.results104 rfl ?_
  exact ⟨rfl, rfl⟩
theorem seg_c2 (s : Seg) (oa : Option Addr) (oc : Nat) (ba : Option Addr) (bc : Nat) (bs : Nat) (w : World) (hw : X.Holds w [blk bs (segCs s oa oc ba bc) 46]) : Calls Go.Proofs.Tryz.prog 106 #[.pointer (some ⟨bs, 0, none⟩)] w (Post w [blk bs (segCs s oa oc ba bc) 46] (fun r Γ => r = .int .i64 (ckk s 2) ∧ Γ = [blk bs (segCs s oa oc ba bc) 46])) := by
  refine spec_of Go.Proofs.Tryz.func106 rfl Go.Proofs.Tryz.ntmps106 rfl hw ?_
  change C _ _ _ _ _ _ _ ⟨[(0, _)], []⟩ _
  refine C.regS ?_
  refine L.yl (Y.as rfl) ?_
  refine L.nil ?_
  refine C.seq ?_
  refine C.test (formP s) ?_ (fun hc1 => ?_) (fun hc1 => ?_)
  ·
    first | refine L.yl (Y.fa0 fl46_0 rfl) ?_ | refine L.yl (Y.fa fl46_0 rfl) ?_ | refine L.yl (Y.fas fl46_0 rfl (by simp; omega)) ?_
    refine L.yl (Y.ld sc3 rfl rfl) ?_
    refine L.yl (Y.eqi rfl rfl) ?_
    first | refine L.yl (Y.fa0 fl46_3 rfl) ?_ | refine L.yl (Y.fa fl46_3 rfl) ?_ | refine L.yl (Y.fas fl46_3 rfl (by simp; omega)) ?_
    refine L.yl (Y.ld sc31 rfl rfl) ?_
    refine L.yl (Y.len ⟨_, Go.Proofs.Tryz.underlying31⟩ rfl) ?_
    refine L.yl (Y.gtr rfl rfl) ?_
    refine L.yl (Y.neb Go.Proofs.Tryz.underlying4 rfl rfl) ?_
    rw [show (!(decide (s.kind = 1) == decide ((0 : Int) < (s.body.length : Int)))) = decide ((s.kind = 1 ∧ ¬ 0 < s.body.length) ∨ (s.kind ≠ 1 ∧ 0 < s.body.length)) from by
      by_cases h1 : s.kind = 1 <;> by_cases h2 : 0 < s.body.length <;> simp only [h1, h2, Int.natCast_pos] <;> simp [h1]]
    refine L.yl (Y.mv rfl) ?_
    first | refine L.gsplit (i := 10) rfl (fun hg10 => ?_) (fun hg10 => ?_) | refine L.gsplitB (i := 10) rfl (fun hg10 => ?_) (fun hg10 => ?_)
    ·
      refine L.gOff (t := 10) rfl rfl rfl ?_
      refine L.gOff (t := 10) rfl rfl rfl ?_
      refine L.gOff (t := 10) rfl rfl rfl ?_
      refine L.gOff (t := 10) rfl rfl rfl ?_
      refine L.gOffU (t := 14) rfl rfl ?_
      refine L.gOffU (t := 14) rfl rfl ?_
      refine L.gOffU (t := 14) rfl rfl ?_
      refine L.gOffU (t := 14) rfl rfl ?_
      refine L.gOffU (t := 14) rfl rfl ?_
      refine L.gOff (t := 10) rfl rfl rfl ?_
      refine L.yl (Y.pickT rfl rfl) ?_
      refine L.nil ?_
      exact ⟨_, rfl, by unfold formP; constructor <;> intro hh <;> first | omega | rfl | (simp at hh; done) | (have hh := of_decide_eq_true hh; omega) | (rw [decide_eq_true_iff]; omega), (by repeat (first | exact Inc.refl _ | refine Inc.cons rfl ?_)), rfl, rfl⟩
    ·
      refine L.gOn (t := 10) rfl rfl ?_
      first | refine L.yl (Y.fa0 fl46_0 rfl) ?_ | refine L.yl (Y.fa fl46_0 rfl) ?_ | refine L.yl (Y.fas fl46_0 rfl (by simp; omega)) ?_
      refine L.gOn (t := 10) rfl rfl ?_
      refine L.yl (Y.ld sc3 rfl rfl) ?_
      refine L.gOn (t := 10) rfl rfl ?_
      refine L.yl (Y.eqi rfl rfl) ?_
      refine L.gOn (t := 10) rfl rfl ?_
      refine L.yl (Y.mv rfl) ?_
      first | refine L.gsplit (i := 14) rfl (fun hg14 => ?_) (fun hg14 => ?_) | refine L.gsplitB (i := 14) rfl (fun hg14 => ?_) (fun hg14 => ?_)
      ·
        refine L.gOn (t := 14) rfl rfl ?_
        first | refine L.yl (Y.fa0 fl46_2 rfl) ?_ | refine L.yl (Y.fa fl46_2 rfl) ?_ | refine L.yl (Y.fas fl46_2 rfl (by simp; omega)) ?_
        refine L.gOn (t := 14) rfl rfl ?_
        first | refine L.yl (Y.fa0 fl44_7 rfl) ?_ | refine L.yl (Y.fa fl44_7 rfl) ?_ | refine L.yl (Y.fas fl44_7 rfl (by simp; omega)) ?_
        refine L.gOn (t := 14) rfl rfl ?_
        refine L.yl (Y.ld sc42 rfl rfl) ?_
        refine L.gOn (t := 14) rfl rfl ?_
        refine L.yl (Y.len ⟨_, Go.Proofs.Tryz.underlying42⟩ rfl) ?_
        refine L.gOn (t := 14) rfl rfl ?_
        refine L.yl (Y.gtr rfl rfl) ?_
        refine L.gOn (t := 10) rfl rfl ?_
        refine L.yl (Y.pickT rfl rfl) ?_
        refine L.yl (Y.pickF rfl rfl) ?_
        refine L.nil ?_
        exact ⟨_, rfl, by unfold formP; constructor <;> intro hh <;> first | omega | rfl | (simp at hh; done) | (have hh := of_decide_eq_true hh; omega) | (rw [decide_eq_true_iff]; omega), (by repeat (first | exact Inc.refl _ | refine Inc.cons rfl ?_)), rfl, rfl⟩
      ·
        refine L.gOff (t := 14) rfl rfl rfl ?_
        refine L.gOff (t := 14) rfl rfl rfl ?_
        refine L.gOff (t := 14) rfl rfl rfl ?_
        refine L.gOff (t := 14) rfl rfl rfl ?_
        refine L.gOff (t := 14) rfl rfl rfl ?_
        refine L.gOn (t := 10) rfl rfl ?_
        refine L.yl (Y.pickF rfl rfl) ?_
        refine L.yl (Y.pickF rfl rfl) ?_
        refine L.nil ?_
        exact ⟨_, rfl, by unfold formP; constructor <;> intro hh <;> first | omega | rfl | (simp at hh; done) | (have hh := of_decide_eq_true hh; omega) | (rw [decide_eq_true_iff]; omega), (by repeat (first | exact Inc.refl _ | refine Inc.cons rfl ?_)), rfl, rfl⟩
  ·
    refine C.regS ?_
    refine L.yl (Y.as rfl) ?_
    refine L.nil ?_
    refine C.ret ?_
    refine Then.r ?_
    refine FnPost.r1 Go.Proofs.Tryz.results106 rfl ?_
    exact ⟨by simp only [ckk, if_pos hc1], rfl⟩
  ·
    refine C.skip ?_
    refine Then.n ?_
    refine C.regS ?_
    refine L.yl (Y.as rfl) ?_
    refine L.nil ?_
    refine C.ret ?_
    refine FnPost.r1 Go.Proofs.Tryz.results106 rfl ?_
    exact ⟨by simp only [ckk, if_neg hc1], rfl⟩
theorem seg_c3 (s : Seg) (oa : Option Addr) (oc : Nat) (ba : Option Addr) (bc : Nat) (bs : Nat) (w : World) (hw : X.Holds w [blk bs (segCs s oa oc ba bc) 46]) : Calls Go.Proofs.Tryz.prog 107 #[.pointer (some ⟨bs, 0, none⟩)] w (Post w [blk bs (segCs s oa oc ba bc) 46] (fun r Γ => r = .int .i64 (ckk s 3) ∧ Γ = [blk bs (segCs s oa oc ba bc) 46])) := by
  refine spec_of Go.Proofs.Tryz.func107 rfl Go.Proofs.Tryz.ntmps107 rfl hw ?_
  change C _ _ _ _ _ _ _ ⟨[(0, _)], []⟩ _
  refine C.regS ?_
  refine L.yl (Y.as rfl) ?_
  refine L.nil ?_
  refine C.seq ?_
  refine C.regS ?_
  first | refine L.yl (Y.fa0 fl46_3 rfl) ?_ | refine L.yl (Y.fa fl46_3 rfl) ?_ | refine L.yl (Y.fas fl46_3 rfl (by simp; omega)) ?_
  refine L.yl (Y.ld sc31 rfl rfl) ?_
  refine L.yl (Y.len ⟨_, Go.Proofs.Tryz.underlying31⟩ rfl) ?_
  refine L.yl (Y.gtr rfl rfl) ?_
  refine L.nil ?_
  refine C.condP rfl (fun hc1 => ?_) (fun hc1 => ?_)
  ·
    refine C.regS ?_
    refine L.yl (Y.as rfl) ?_
    refine L.nil ?_
    refine C.ret ?_
    refine Then.r ?_
    refine FnPost.r1 Go.Proofs.Tryz.results107 rfl ?_
    exact ⟨by simp only [ckk, if_pos (show 2048 < s.body.length by omega)], rfl⟩
  ·
    refine C.skip ?_
    refine Then.n ?_
    refine C.regS ?_
    refine L.yl (Y.as rfl) ?_
    refine L.nil ?_
    refine C.ret ?_
    refine FnPost.r1 Go.Proofs.Tryz.results107 rfl ?_
    exact ⟨by simp only [ckk, if_neg (show ¬ 2048 < s.body.length by omega)], rfl⟩
@[reducible] def cfs (bs : Nat) : List Value := [Value.func (.func 103) #[] #[.pointer (some ⟨bs, 0, none⟩)], Value.func (.func 104) #[] #[.pointer (some ⟨bs, 0, none⟩)], Value.func (.func 106) #[] #[.pointer (some ⟨bs, 0, none⟩)], Value.func (.func 107) #[] #[.pointer (some ⟨bs, 0, none⟩)]]
theorem seg_ck (s : Seg) (oa : Option Addr) (oc : Nat) (ba : Option Addr) (bc : Nat) (bs : Nat) (hl : s.opt.blocks.length ≤ 65536) (k : Nat) (hk : k < 4) (fv : Value) (hfv : (cfs bs)[k]? = some fv) (w : World) (hw : X.Holds w [blk bs (segCs s oa oc ba bc) 46]) : CallV Go.Proofs.Tryz.prog fv [] w (Post w [blk bs (segCs s oa oc ba bc) 46] (fun r Γ => r = .int .i64 (ckk s k) ∧ Γ = [blk bs (segCs s oa oc ba bc) 46])) := by
  match k, hk with
  | 0, _ => obtain rfl := Option.some.inj hfv; exact .inl ⟨_, _, rfl, go103, seg_c0 s oa oc ba bc bs w hw⟩
  | 1, _ => obtain rfl := Option.some.inj hfv; exact .inl ⟨_, _, rfl, go104, seg_c1 s oa oc ba bc bs hl w hw⟩
  | 2, _ => obtain rfl := Option.some.inj hfv; exact .inl ⟨_, _, rfl, go106, seg_c2 s oa oc ba bc bs w hw⟩
  | 3, _ => obtain rfl := Option.some.inj hfv; exact .inl ⟨_, _, rfl, go107, seg_c3 s oa oc ba bc bs w hw⟩
theorem seg_Check (s : Seg) (oa : Option Addr) (oc : Nat) (ba : Option Addr) (bc : Nat) (hl : s.opt.blocks.length ≤ 65536) (w : World) : Pur Go.Proofs.Tryz.prog 66 [.agg (segCs s oa oc ba bc).toArray] (.int .i64 (chkS s)) w := by
  refine pur_of Go.Proofs.Tryz.func66 rfl Go.Proofs.Tryz.ntmps66 rfl ?_
  change C _ _ _ _ _ _ _ ⟨[(0, _)], []⟩ _
  refine C.regS ?_
  refine L.bxa rfl ?_; intro b1
  refine L.yl (Y.as rfl) ?_
  refine L.nil ?_
  refine C.regS ?_
  refine L.yl (Y.mkf (cv := #[_]) rfl) ?_
  refine L.yl (Y.mkf (cv := #[_]) rfl) ?_
  refine L.yl (Y.mkf (cv := #[_]) rfl) ?_
  refine L.yl (Y.mkf (cv := #[_]) rfl) ?_
  refine L.yl (Y.bdA (q := 4) zr154 Go.Proofs.Tryz.underlying154 sc153 rfl rfl rfl rfl) ?_
  refine L.al (zs := [.nilFunc, .nilFunc, .nilFunc, .nilFunc]) zr154 rfl ?_; intro b3
  refine L.sta (vs := [_, _, _, _]) ag154 rfl rfl rfl rfl rfl ?_
  refine L.nil ?_
  refine C.seq ?_
  refine C.regS ?_
  refine L.yl (Y.lda (vs := [_, _, _, _]) ag154 rfl rfl) ?_
  refine L.yl (Y.mv rfl) ?_
  refine L.nil ?_
  refine C.block ?_
  refine C.loop (fun (k:Nat) => [(12, .agg (cfs b1).toArray), (13, .int .i64 k)]) (fun k => [blk b1 (segCs s oa oc ba bc) 46]) (fun k => k ≤ 4 ∧ ∀ j, j < k → ckk s j = 0) (fun k => 4 - k) 0 ?_ ?_ ?_ ?_
  · repeat (first | exact trivial | refine ⟨rfl, ?_⟩)
  · first | exact .of (.refl _) | exact inferInstance | (dsimp only; exact inferInstance)
  · exact ⟨Nat.zero_le _, fun j h => absurd h (by omega)⟩
  · rintro k ⟨hI1, hI2⟩
    try dsimp only
    refine C.regS ?_
    refine L.yl (Y.lss rfl rfl) ?_
    refine L.nil ?_
    refine C.seq ?_
    refine C.condP rfl (fun hc1 => ?_) (fun hc1 => ?_)
    ·
      obtain ⟨fv, hfv⟩ : ∃ fv, (cfs b1)[k]? = some fv := ⟨_, List.getElem?_eq_getElem (show k < (cfs b1).length by simp [cfs]; omega)⟩
      refine C.skip ?_
      refine Then.n ?_
      refine C.seq ?_
      refine C.block ?_
      refine C.regS ?_
      refine L.yl (Y.aidx Go.Proofs.Tryz.underlying154 sc153 rfl rfl (by omega) (by omega) hfv) ?_
      refine L.yl (Y.as rfl) ?_
      refine L.nil ?_
      refine C.regS ?_
      refine L.yl (Y.mv rfl) ?_
      refine L.callV (fv := fv) (Γf := [blk b1 (segCs s oa oc ba bc) 46]) (Γr := _) rfl rfl (Fr.perm (Γ := _) (Γf := [blk b1 (segCs s oa oc ba bc) 46])) (fun w2 hw2 hf => seg_ck s oa oc ba bc b1 hl k (by omega) fv hfv w2 hf) ?_
      rintro _ _ ⟨rfl, rfl⟩
      refine L.apc ?_
      refine L.yl (Y.as rfl) ?_
      refine L.nil ?_
      refine C.regS ?_
      refine L.yl (Y.mv rfl) ?_
      refine L.yl (Y.nei rfl rfl) ?_
      refine L.nil ?_
      refine C.condP rfl (fun hc2 => ?_) (fun hc2 => ?_)
      ·
        refine C.regS ?_
        refine L.yl (Y.mv rfl) ?_
        refine L.yl (Y.as rfl) ?_
        refine L.nil ?_
        refine C.ret ?_
        refine InBlo.r ?_
        refine Then.r ?_
        refine Then.r ?_
        refine InBlo.r ?_
        refine Then.r ?_
        refine FnPost.r1 Go.Proofs.Tryz.results66 rfl ?_
        rw [chkS_at (by omega) hI2 hc2]
      ·
        refine C.skip ?_
        refine InBlo.n ?_
        refine Then.n ?_
        refine C.reg ?_
        first | refine L.yl (Y.add rfl rfl (by omega)) ?_ | refine L.yl (Y.addW rfl rfl) ?_
        refine L.yl (Y.mv rfl) ?_
        refine L.nil ?_
        exact ⟨k + 1, (by repeat (first | exact trivial | refine ⟨rfl, ?_⟩ | refine ⟨congrArg some (by simp), ?_⟩ | refine ⟨congrArg some (by simp; omega), ?_⟩)), rfl, (by first | exact inferInstance | (dsimp only; exact inferInstance)), ⟨by omega, fun j hj => by
          rcases Nat.lt_or_ge j k with h | h
          · exact hI2 j h
          · rw [show j = k by omega]; exact Decidable.not_not.1 hc2⟩, (by first | omega | (dsimp only; omega))⟩
    ·
      refine C.exit ?_
      refine Then.x ?_
      refine Then.x ?_
      refine InBlo.x ?_
      refine Then.n ?_
      refine C.regS ?_
      refine L.yl (Y.as rfl) ?_
      refine L.nil ?_
      refine C.ret ?_
      refine FnPost.r1 Go.Proofs.Tryz.results66 rfl ?_
      rw [chkS_zero (fun j hj => hI2 j (by omega))]
end Go.Proofs.YtcbhcdcobgdddaaGreat
