/- Lemmas for the claim: a calculus of steps over the given program, plain laws, and the contracts of its functions. -/
import Derived.WalkKit
import Derived.RangeFuncNested
import Derived.RangeFuncBound
import Derived.OrdersHeld
import Derived.OrdersIn
import Derived.Laws.CopyOwn
import Derived.AtR
import Derived.LoopNIn
import Derived.Laws.AppendOwnNone
import Derived.Lib.Strings
import Derived.RangeFuncRecord
import Derived.RangeFuncIn
import Derived.Laws.MakeOwn
import Derived.Lib.AppendStr
import Derived.Lib.Builder
import Derived.Laws.Externs
import Derived.Laws.StructEq
set_option linter.unusedSimpArgs false
set_option linter.unusedVariables false
namespace Go.X
open Go Go.RowKit

/-! ## the environment -/
abbrev Env := List (Nat × Value)
def get? : Env → Nat → Option Value
  | [], _ => none
  | (j, v) :: r, i => bif Nat.beq i j then some v else get? r i
def look : Env → Operand → Option Value
  | e, .tmp t => get? e t
  | _, .const v => some v
  | _, .global g => some (.pointer (some ⟨g, 0, none⟩))
  | _, .func f => some (.func (.func f) #[] #[])
structure St where
  e : Env
  ds : List Deferred
structure Agr (n : Nat) (s : St) (a : Act) : Prop where
  size : a.tmps.size = n
  ds : a.defers = s.ds
  get : ∀ i v, get? s.e i = some v → a.tmps.getD i undef = v
theorem Agr.look {n : Nat} {s : St} {a : Act} (h : Agr n s a) {x : Operand} {v : Value} (hx : look s.e x = some v) : a.eval x = v := by
  cases x with
  | tmp t => exact h.get t v hx
  | const c => simpa [X.look, Act.eval] using hx
  | global g => simpa [X.look, Act.eval] using hx
  | func f => simpa [X.look, Act.eval] using hx
theorem Agr.put {n : Nat} {e : Env} {ds : List Deferred} {a : Act} (h : Agr n ⟨e, ds⟩ a) {d : Nat} (hd : d < n) (v : Value) : Agr n ⟨(d, v) :: e, ds⟩ (a.put (some d) v) := by
  refine ⟨by simp [Act.put, h.size], by simpa [Act.put] using h.ds, ?_⟩
  intro i u hi
  have hs := h.size
  simp only [get?] at hi
  by_cases hid : i = d
  · subst hid
    simp at hi
    subst hi
    simp [Act.put, hs, hd]
  · have : Nat.beq i d = false := by cases hb : Nat.beq i d with | true => exact absurd (Nat.eq_of_beq_eq_true hb) hid | false => rfl
    rw [this] at hi
    have := h.get i u hi
    simpa [Act.put, Array.getD_eq_getD_getElem?, Array.getElem?_setIfInBounds_ne (Ne.symm hid)] using this
theorem Agr.putNone {n : Nat} {s : St} {a : Act} (h : Agr n s a) (v : Value) : Agr n s (a.put none v) := h
def Sub : Env → Env → Prop
  | [], _ => True
  | (i, v) :: r, e => get? e i = some v ∧ Sub r e
theorem Sub.get {r e : Env} (h : Sub r e) {i : Nat} {v : Value} (hi : get? r i = some v) : get? e i = some v := by
  induction r with
  | nil => simp [get?] at hi
  | cons p r ih =>
    obtain ⟨j, u⟩ := p
    simp only [get?] at hi
    cases hb : Nat.beq i j with
    | true => rw [hb] at hi; simp at hi; subst hi; have := Nat.eq_of_beq_eq_true hb; subst this; exact h.1
    | false => rw [hb] at hi; exact ih h.2 hi
theorem Agr.sub {n : Nat} {r e : Env} {ds : List Deferred} {a : Act} (h : Agr n ⟨e, ds⟩ a) (hs : Sub r e) : Agr n ⟨r, ds⟩ a :=
  ⟨h.size, h.ds, fun i v hi => h.get i v (hs.get hi)⟩

/-! ## the judgements -/
abbrev Fc (ρ : Option Nat) : Fence := { fn := fun _ => True, depth := none, alive := false, round := ρ }
/-- the post of code, lifted -/
def Lift (n : Nat) (Q : Exit → St → World → Prop) : Exit → Act → World → Prop := fun ex a w => ∃ s, Agr n s a ∧ Q ex s w
def wpC (P : Program) (ρ : Option Nat) (n : Nat) (c : Code) (Q : Exit → St → World → Prop) (s : St) (w : World) : Prop :=
  ∀ a, Agr n s a → c.wpIn (Fc ρ) 0 P (Lift n Q) a w
/-- the exits that a region may take: the normal one alone -/
def OnlyNormal (K : St → World → Prop) (n : Nat) : Exit → Act → World → Prop
  | .normal, a, w => ∃ s, Agr n s a ∧ K s w
  | _, _, _ => False
/-- a list of operations, in the order of the text -/
def wpOpsL (P : Program) (ρ : Option Nat) (ops : Array Oper) (Q : Exit → Act → World → Prop) : List Oper → Act → World → Prop
  | [], a, w => Q .normal a w
  | o :: rest, a, w => if Region.wanted o (yielded ops a.tmps) then o.wpIn (Fc ρ) 0 P a w (wpOpsL P ρ ops Q rest) Q else wpOpsL P ρ ops Q rest (a.put o.dst undef) w
def wpL (P : Program) (ρ : Option Nat) (n : Nat) (ops : Array Oper) (l : List Oper) (K : St → World → Prop) (s : St) (w : World) : Prop :=
  ∀ a, Agr n s a → wpOpsL P ρ ops (OnlyNormal K n) l a w
theorem wpOpsL_eq {P : Program} {ρ : Option Nat} {ops : Array Oper} {Q : Exit → Act → World → Prop} (l : List Oper) :
    ∀ k, (∀ j, l[j]? = ops[k + j]?) → ∀ a w, wpOpsL P ρ ops Q l a w → wpOpsIn (Fc ρ) 0 P ops Q (List.range' k l.length) a w := by
  induction l with
  | nil => intro k _ a w h; simpa [wpOpsIn, wpOpsL] using h
  | cons o l ih =>
    intro k h a w hw
    have h0 : ops[k]? = some o := by simpa using (h 0).symm
    simp only [List.length_cons, List.range'_succ, wpOpsIn, h0, wpOpsL] at hw ⊢
    have ih' := ih (k + 1) (fun j => by have := h (j + 1); simp at this; rw [this]; congr 1; omega)
    by_cases hw' : Region.wanted o (yielded ops a.tmps) = true
    · rw [if_pos hw'] at hw ⊢
      refine ⟨fun _ _ => trivial, ?_⟩
      have h2 := hw.2
      revert h2
      generalize (o.semAt (Fc ρ).round a.eval).run P w = r
      intro h2
      cases r with
      | ok nx w' =>
        cases nx <;> simp only [Oper.uponIn] at h2 ⊢ <;> first
          | exact ih' _ _ h2
          | (refine ⟨h2.1, ?_⟩
             exact ⟨h2.2.1, fun cs hr => by
               obtain ⟨e, w'', fr, hR, hx⟩ := h2.2.2 cs hr
               exact ⟨e, w'', fr, by cases e <;> first | exact ih' _ _ hR | exact hR, hx⟩⟩)
          | (refine ⟨h2.1, RowsIn.mono h2.2 fun v w'' hR => ih' _ _ hR⟩)
          | (refine ⟨h2.1, RoundIn.mono h2.2 fun e w'' hR => by cases e <;> first | exact ih' _ _ hR | exact hR⟩)
          | exact h2
      | halt x w' => cases x <;> simp only [Oper.uponIn] at h2 ⊢ <;> exact h2
    · rw [if_neg hw'] at hw ⊢
      exact ⟨fun _ _ => trivial, ih' _ _ hw⟩
theorem OnlyNormal.imp {K : St → World → Prop} {n : Nat} {Q : Exit → St → World → Prop} (h : ∀ s w, K s w → Q .normal s w) : ∀ e a w, OnlyNormal K n e a w → Lift n Q e a w := by
  intro e a w hh
  cases e <;> first | exact hh.elim | skip
  obtain ⟨s, hs, hk⟩ := hh
  exact ⟨s, hs, h s w hk⟩
section rules
variable {P : Program} {ρ : Option Nat} {n : Nat} {Q : Exit → St → World → Prop} {s : St} {w : World} {K : St → World → Prop}
theorem wpC_mono {c : Code} {Q' : Exit → St → World → Prop} (h : wpC P ρ n c Q s w) (hq : ∀ e s w, Q e s w → Q' e s w) : wpC P ρ n c Q' s w :=
  fun a ha => wpIn_mono (h a ha) fun _ _ _ ⟨s, hs, hk⟩ => ⟨s, hs, hq _ _ _ hk⟩
theorem reg {id : Nat} {ops : Array Oper} (h : wpL P ρ n ops ops.toList (Q .normal) s w) : wpC P ρ n (.region id ops false) Q s w := by
  intro a ha
  refine wpIn_mono (wpIn_region (Q := OnlyNormal (Q .normal) n) ?_) (OnlyNormal.imp fun _ _ h => h)
  have := wpOpsL_eq (P := P) (ρ := ρ) (ops := ops) (Q := OnlyNormal (Q .normal) n) ops.toList 0 (fun j => by simp) a w (h a ha)
  rwa [Array.length_toList, ← List.range_eq_range'] at this
/-- the way on behind the first of two -/
@[reducible] def Thn (K : St → World → Prop) (Q : Exit → St → World → Prop) : Exit → St → World → Prop
  | .normal, s, w => K s w
  | e, s, w => Q e s w
theorem seq {x y : Code} (h : wpC P ρ n x (Thn (wpC P ρ n y Q) Q) s w) : wpC P ρ n (.seq x y) Q s w := by
  intro a ha
  refine wpIn_seq (wpIn_mono (h a ha) ?_)
  rintro e a' w' ⟨s', hs', hq⟩
  cases e <;> first | exact hq a' hs' | exact ⟨s', hs', hq⟩
theorem regS {id : Nat} {ops : Array Oper} {y : Code} (h : wpL P ρ n ops ops.toList (wpC P ρ n y Q) s w) : wpC P ρ n (.seq (.region id ops false) y) Q s w := seq (reg h)
theorem skip (h : Q .normal s w) : wpC P ρ n .skip Q s w := fun _ ha => wpIn_skip ⟨s, ha, h⟩
theorem label {l : Nat} (h : Q .normal s w) : wpC P ρ n (.label l) Q s w := fun _ ha => wpIn_label ⟨s, ha, h⟩
theorem exit {id : Nat} (h : Q (.exit id) s w) : wpC P ρ n (.exit id) Q s w := fun _ ha => wpIn_exit ⟨s, ha, h⟩
theorem ret (h : Q .ret s w) : wpC P ρ n .ret Q s w := fun _ ha => wpIn_ret ⟨s, ha, h⟩
@[reducible] def Blo (id : Nat) (Q : Exit → St → World → Prop) : Exit → St → World → Prop
  | .exit id', s, w => bif Nat.beq id' id then Q .normal s w else Q (.exit id') s w
  | e, s, w => Q e s w
theorem block {id : Nat} {c : Code} (h : wpC P ρ n c (Blo id Q) s w) : wpC P ρ n (.block id c) Q s w := by
  intro a ha
  refine wpIn_block (wpIn_mono (h a ha) ?_)
  rintro e a' w' ⟨s', hs', hq⟩
  cases e <;> try exact ⟨s', hs', hq⟩
  rename_i id'
  by_cases hid : id' = id
  · simp only [Exit.inBlock, hid, if_true]
    have hb : Nat.beq id' id = true := by simpa using hid
    simp only [Blo, hb] at hq
    exact ⟨s', hs', hq⟩
  · simp only [Exit.inBlock, hid, if_false]
    have hb : Nat.beq id' id = false := by cases hb : Nat.beq id' id with | true => exact absurd (Nat.eq_of_beq_eq_true hb) hid | false => rfl
    simp only [Blo, hb] at hq
    exact ⟨s', hs', hq⟩
theorem cond {c : Operand} {x y : Code} {b : Bool} (hc : look s.e c = some (.bool b)) (ht : b = true → wpC P ρ n x Q s w) (hf : b = false → wpC P ρ n y Q s w) : wpC P ρ n (.cond c x y) Q s w := by
  intro a ha
  cases b with
  | true => exact wpIn_cond_true (ha.look hc) (ht rfl a ha)
  | false => exact wpIn_cond_false (ha.look hc) (hf rfl a ha)
theorem condT {c : Operand} {x y : Code} (hc : look s.e c = some (.bool true)) (ht : wpC P ρ n x Q s w) : wpC P ρ n (.cond c x y) Q s w := cond hc (fun _ => ht) (fun h => by cases h)
theorem condF {c : Operand} {x y : Code} (hc : look s.e c = some (.bool false)) (hf : wpC P ρ n y Q s w) : wpC P ρ n (.cond c x y) Q s w := cond hc (fun h => by cases h) (fun _ => hf)
theorem condP {c : Operand} {x y : Code} {p : Prop} [Decidable p] (hc : look s.e c = some (.bool (decide p))) (ht : p → wpC P ρ n x Q s w) (hf : ¬p → wpC P ρ n y Q s w) : wpC P ρ n (.cond c x y) Q s w :=
  cond hc (fun h => ht (of_decide_eq_true h)) (fun h => hf (of_decide_eq_false h))
theorem weak {c : Code} {r e : Env} {ds : List Deferred} (hs : Sub r e) (h : wpC P ρ n c Q ⟨r, ds⟩ w) : wpC P ρ n c Q ⟨e, ds⟩ w := fun a ha => h a (ha.sub hs)
theorem loop {σ : Type} {c : Code} {ds : List Deferred} {e : Env} (E : σ → Env) (I : σ → World → Prop) (μ : σ → Nat) (x0 : σ) (he : Sub (E x0) e) (h0 : I x0 w)
    (h : ∀ x w, I x w → wpC P ρ n c (Thn (fun s' w' => ∃ x', Sub (E x') s'.e ∧ s'.ds = ds ∧ I x' w' ∧ μ x' < μ x) Q) ⟨E x, ds⟩ w) : wpC P ρ n (.loop c) Q ⟨e, ds⟩ w := by
  have key : ∀ m x a w, μ x < m → I x w → Agr n ⟨E x, ds⟩ a → Code.roundsIn (Fc ρ) 0 P c (Lift n Q) m a w := by
    intro m
    induction m with
    | zero => intro x a w hm; omega
    | succ m ih =>
      intro x a w hm hi ha
      refine wpIn_mono (h x w hi a ha) ?_
      rintro ex a' w' ⟨s', hs', hq⟩
      cases ex <;> first | exact ⟨s', hs', hq⟩ | skip
      obtain ⟨x', hsub, hds, hi', hlt⟩ := hq
      obtain ⟨e', ds'⟩ := s'
      dsimp only at hds hsub
      subst hds
      exact ih x' a' w' (by omega) hi' (hs'.sub hsub)
  intro a ha
  exact wpIn_loop_rounds (μ x0 + 1) (key _ x0 a w (by omega) h0 (ha.sub he))
end rules
end Go.X
namespace Go.X
open Go Go.RowKit
/-- Outside S all that there was is as it was. -/
structure Keep (S : Nat → Prop) (w w' : World) : Prop where
  os : w'.os = w.os
  tape : w'.tape = w.tape
  output : w'.output = w.output
  size : w.heap.size ≤ w'.heap.size
  blk : ∀ b, b < w.heap.size → ¬ S b → w'.heap[b]? = w.heap[b]?
theorem Keep.refl (S : Nat → Prop) (w : World) : Keep S w w := ⟨rfl, rfl, rfl, Nat.le_refl _, fun _ _ _ => rfl⟩
theorem Keep.trans {S T : Nat → Prop} {a b c : World} (h : Keep S a b) (k : Keep T b c) (hT : ∀ i, T i → i < a.heap.size → S i) : Keep S a c :=
  ⟨k.os.trans h.os, k.tape.trans h.tape, k.output.trans h.output, Nat.le_trans h.size k.size, fun i hi hs =>
    (k.blk i (Nat.lt_of_lt_of_le hi h.size) (fun ht => hs (hT i ht hi))).trans (h.blk i hi hs)⟩
theorem Keep.mono {S T : Nat → Prop} {a b : World} (h : Keep S a b) (hT : ∀ i, i < a.heap.size → S i → T i) : Keep T a b :=
  ⟨h.os, h.tape, h.output, h.size, fun i hi ht => h.blk i hi (fun hs => ht (hT i hi hs))⟩
theorem Keep.below {a b : World} (h : Keep (fun _ => False) a b) : Below a.heap.size a b := ⟨h.os, h.tape, h.output, h.size, fun k hk => h.blk k hk id⟩
theorem Below.keep {a b : World} (h : Below a.heap.size a b) (S : Nat → Prop) : Keep S a b := ⟨h.os, h.tape, h.output, h.size, fun k hk _ => h.block k hk⟩
theorem Keep.drew (S : Nat → Prop) (w : World) (k : Nat) : Keep S w { w with drawn := k } := ⟨rfl, rfl, rfl, Nat.le_refl _, fun _ _ _ => rfl⟩
theorem Keep.alloc (S : Nat → Prop) (w : World) (o : Obj) : Keep S w (w.alloc o) := ⟨rfl, rfl, rfl, by simp, fun k hk _ => Below.heap_alloc _ _ _ hk⟩
theorem Keep.setCell (w : World) (a : Addr) (v : Value) : Keep (· = a.block) w (w.setCell a v) :=
  ⟨rfl, rfl, rfl, by simp [World.setCell], fun k _ hne => Below.heap_setCell _ _ _ _ hne⟩
/-- A piece of memory: the blocks that it takes, and what holds of them. -/
structure Ch where
  fp : Nat → Prop
  on : World → Prop
  stab : ∀ w w', on w → (∀ b, fp b → w'.heap[b]? = w.heap[b]?) → on w'
  lt : ∀ w b, on w → fp b → b < w.heap.size
def blk (b : Nat) (c : List Value) (t : TypeId) : Ch where
  fp := (· = b)
  on w := w.heap[b]? = some (.cells c.toArray t (0, 0))
  stab w w' h hb := (hb b rfl).trans h
  lt w i h hi := by subst hi; exact (Array.getElem?_eq_some_iff.1 h).1
/-- A slice's row: all of its places; none of an empty one without a row. -/
def own (t : TypeId) (sz : Nat) (a : Option Addr) (n c : Nat) (xs : List Value) : Ch where
  fp b := ∃ o s, a = some ⟨b, o, s⟩
  on w := w.ownsRow 0 t sz (.slice a n c) n xs
  stab w w' h hb := by
    obtain ⟨h1, h2⟩ := h
    refine ⟨h1, ?_⟩
    rcases h2 with h2 | ⟨g, cap, cur, hv, hg, hh, r⟩
    · exact .inl h2
    · refine .inr ⟨g, cap, cur, hv, hg, ?_, r⟩
      cases hv
      exact (hb g ⟨_, _, rfl⟩).trans hh
  lt w b h hb := by
    obtain ⟨o, s, rfl⟩ := hb
    obtain ⟨h1, h2⟩ := h
    rcases h2 with ⟨h2, _⟩ | ⟨g, cap, cur, hv, hg, hh, r⟩
    · cases h2
    · cases hv
      exact (Array.getElem?_eq_some_iff.1 hh).1
def Dj (x y : Ch) : Prop := ∀ b, x.fp b → ¬ y.fp b
theorem Dj.symm {x y : Ch} (h : Dj x y) : Dj y x := fun b hy hx => h b hx hy
structure Holds (w : World) (Γ : List Ch) : Prop where
  on : ∀ c, c ∈ Γ → c.on w
  dj : Γ.Pairwise Dj
def fps (Γ : List Ch) (b : Nat) : Prop := ∃ c, c ∈ Γ ∧ c.fp b
structure Sep (w0 : World) (S0 : Nat → Prop) (w : World) (Γ : List Ch) : Prop where
  keep : Keep S0 w0 w
  holds : Holds w Γ
  inn : ∀ b, fps Γ b → b < w0.heap.size → S0 b
theorem Holds.sep {w : World} {Γ : List Ch} (h : Holds w Γ) : Sep w (fps Γ) w Γ := ⟨Keep.refl _ _, h, fun _ hb _ => hb⟩
theorem Holds.perm {w : World} {Γ Δ : List Ch} (h : Holds w Γ) (p : Γ.Perm Δ) : Holds w Δ :=
  ⟨fun c hc => h.on c (p.mem_iff.2 hc), h.dj.perm p (fun h => h.symm)⟩
theorem Holds.nil (w : World) : Holds w [] := ⟨fun _ h => by simp at h, .nil⟩
theorem fps_perm {Γ Δ : List Ch} (p : Γ.Perm Δ) {b : Nat} (h : fps Δ b) : fps Γ b := let ⟨c, hc, hb⟩ := h; ⟨c, p.mem_iff.2 hc, hb⟩
theorem Sep.perm {w0 w : World} {S0 : Nat → Prop} {Γ Δ : List Ch} (h : Sep w0 S0 w Γ) (p : Γ.Perm Δ) : Sep w0 S0 w Δ :=
  ⟨h.keep, h.holds.perm p, fun b hb => h.inn b (fps_perm p hb)⟩
theorem Holds.left {w : World} {Γ Δ : List Ch} (h : Holds w (Γ ++ Δ)) : Holds w Γ :=
  ⟨fun c hc => h.on c (by simp [hc]), (List.pairwise_append.1 h.dj).1⟩
theorem Holds.right {w : World} {Γ Δ : List Ch} (h : Holds w (Γ ++ Δ)) : Holds w Δ :=
  ⟨fun c hc => h.on c (by simp [hc]), (List.pairwise_append.1 h.dj).2.1⟩
theorem Holds.apart {w : World} {Γ Δ : List Ch} (h : Holds w (Γ ++ Δ)) {b : Nat} (h1 : fps Γ b) (h2 : fps Δ b) : False :=
  let ⟨c, hc, hb⟩ := h1; let ⟨d, hd, hb'⟩ := h2; (List.pairwise_append.1 h.dj).2.2 c hc d hd b hb hb'
theorem Holds.lt {w : World} {Γ : List Ch} (h : Holds w Γ) {b : Nat} (hb : fps Γ b) : b < w.heap.size := let ⟨c, hc, hf⟩ := hb; c.lt w b (h.on c hc) hf
/-- THE FRAME: a step that turns the pieces Γ into Γ' lets the others be. -/
theorem Sep.frame {w0 w w' : World} {S0 : Nat → Prop} {Γ Γ' Δ : List Ch} (h : Sep w0 S0 w (Γ ++ Δ)) (k : Sep w (fps Γ) w' Γ') : Sep w0 S0 w' (Γ' ++ Δ) := by
  refine ⟨h.keep.trans k.keep (fun i hi hlt => h.inn i ?_ hlt), ⟨fun c hc => ?_, ?_⟩, fun b hb hlt => ?_⟩
  · obtain ⟨c, hc, hb⟩ := hi; exact ⟨c, by simp [hc], hb⟩
  · rcases List.mem_append.1 hc with hc | hc
    · exact k.holds.on c hc
    · refine c.stab w w' (h.holds.on c (by simp [hc])) fun b hb => k.keep.blk b (c.lt w b (h.holds.on c (by simp [hc])) hb) fun hf => ?_
      exact h.holds.apart hf ⟨c, hc, hb⟩
  · refine List.pairwise_append.2 ⟨k.holds.dj, (List.pairwise_append.1 h.holds.dj).2.1, fun c hc d hd b hb hb' => ?_⟩
    have hlt : b < w.heap.size := d.lt w b (h.holds.on d (by simp [hd])) hb'
    exact h.holds.apart (k.inn b ⟨c, hc, hb⟩ hlt) ⟨d, hd, hb'⟩
  · obtain ⟨c, hc, hcb⟩ := hb
    rcases List.mem_append.1 hc with hc | hc
    · have hlt' : b < w.heap.size := Nat.lt_of_lt_of_le hlt h.keep.size
      obtain ⟨d, hd, hdb⟩ := k.inn b ⟨c, hc, hcb⟩ hlt'
      exact h.inn b ⟨d, by simp [hd], hdb⟩ hlt
    · exact h.inn b ⟨c, by simp [hc], hcb⟩ hlt
/-- One piece x among Γ; Δ are the others. -/
class Pk (x : Ch) (Γ : List Ch) (Δ : outParam (List Ch)) : Prop where
  perm : Γ.Perm (x :: Δ)
instance (priority := 1100) Pk.here {x : Ch} {Γ : List Ch} : Pk x (x :: Γ) Γ := ⟨.refl _⟩
instance Pk.there {x y : Ch} {Γ Δ : List Ch} [h : Pk x Γ Δ] : Pk x (y :: Γ) (y :: Δ) := ⟨(h.perm.cons y).trans (.swap _ _ _)⟩
/-- The block b among Γ, what it holds; the others. -/
class Bk (b : Nat) (Γ : List Ch) (c : outParam (List Value)) (t : outParam TypeId) (Δ : outParam (List Ch)) : Prop where
  perm : Γ.Perm (blk b c t :: Δ)
instance (priority := 1100) Bk.here {b : Nat} {c : List Value} {t : TypeId} {Γ : List Ch} : Bk b (blk b c t :: Γ) c t Γ := ⟨.refl _⟩
instance Bk.there {b : Nat} {y : Ch} {c : List Value} {t : TypeId} {Γ Δ : List Ch} [h : Bk b Γ c t Δ] : Bk b (y :: Γ) c t (y :: Δ) := ⟨(h.perm.cons y).trans (.swap _ _ _)⟩
theorem Bk.on {b : Nat} {Γ Δ : List Ch} {c : List Value} {t : TypeId} (h : Bk b Γ c t Δ) {w : World} (hw : Holds w Γ) : w.heap[b]? = some (.cells c.toArray t (0, 0)) :=
  hw.on (blk b c t) (h.perm.mem_iff.2 (by simp))
theorem cell_of {w : World} {b : Nat} {c : List Value} {t : TypeId} {fr : Nat × Nat} (h : w.heap[b]? = some (.cells c.toArray t fr)) (o : Nat) : w.cell? ⟨b, o, none⟩ = c[o]? := by
  simp [World.cell?, h]
theorem frozen_of {w : World} {b : Nat} {c : List Value} {t : TypeId} (h : w.heap[b]? = some (.cells c.toArray t (0, 0))) (o : Nat) : w.frozen? ⟨b, o, none⟩ = false := by
  simp [World.frozen?, h]
/-- some of the pieces -/
class Wk (Γ Δ : List Ch) : Prop where
  ex : ∃ R, Γ.Perm (Δ ++ R)
instance Wk.nil {Γ : List Ch} : Wk Γ [] := ⟨Γ, .refl _⟩
instance Wk.cons {x : Ch} {Γ Γ' Δ : List Ch} [h : Pk x Γ Γ'] [k : Wk Γ' Δ] : Wk Γ (x :: Δ) := ⟨by
  obtain ⟨R, hR⟩ := k.ex
  exact ⟨R, h.perm.trans (hR.cons x)⟩⟩
theorem Wk.of {Γ Δ : List Ch} (h : Γ.Perm Δ) : Wk Γ Δ := ⟨[], by simpa using h⟩
theorem Sep.wk {w0 w : World} {S0 : Nat → Prop} {Γ Δ : List Ch} (h : Sep w0 S0 w Γ) (k : Wk Γ Δ) : Sep w0 S0 w Δ := by
  obtain ⟨R, hR⟩ := k.ex
  have h2 := h.perm hR
  exact ⟨h2.keep, h2.holds.left, fun b ⟨c, hc, hb⟩ => h2.inn b ⟨c, by simp [hc], hb⟩⟩
/-! ## the judgements over pieces -/
section
variable (w0 : World) (S0 : Nat → Prop) (P : Program) (ρ : Option Nat) (n : Nat)
def U (Q : Exit → St → List Ch → Prop) : Exit → St → World → Prop := fun ex s w => ∃ Γ, Sep w0 S0 w Γ ∧ Q ex s Γ
def C (c : Code) (Q : Exit → St → List Ch → Prop) (s : St) (Γ : List Ch) : Prop := ∀ w, Sep w0 S0 w Γ → wpC P ρ n c (U w0 S0 Q) s w
def L (ops : Array Oper) (l : List Oper) (K : St → List Ch → Prop) (s : St) (Γ : List Ch) : Prop :=
  ∀ w, Sep w0 S0 w Γ → wpL P ρ n ops l (fun s w => ∃ Γ, Sep w0 S0 w Γ ∧ K s Γ) s w
end
section
variable {w0 : World} {S0 : Nat → Prop} {P : Program} {ρ : Option Nat} {n : Nat} {Q : Exit → St → List Ch → Prop} {s : St} {Γ : List Ch} {K : St → List Ch → Prop}
@[reducible] def Then (K : St → List Ch → Prop) (Q : Exit → St → List Ch → Prop) : Exit → St → List Ch → Prop
  | .normal, s, Γ => K s Γ
  | e, s, Γ => Q e s Γ
@[reducible] def InBlo (id : Nat) (Q : Exit → St → List Ch → Prop) : Exit → St → List Ch → Prop
  | .exit id', s, Γ => bif Nat.beq id' id then Q .normal s Γ else Q (.exit id') s Γ
  | e, s, Γ => Q e s Γ
theorem C.reg {id : Nat} {ops : Array Oper} (h : L w0 S0 P ρ n ops ops.toList (Q .normal) s Γ) : C w0 S0 P ρ n (.region id ops false) Q s Γ := fun w hw => X.reg (h w hw)
theorem C.seq {x y : Code} (h : C w0 S0 P ρ n x (Then (C w0 S0 P ρ n y Q) Q) s Γ) : C w0 S0 P ρ n (.seq x y) Q s Γ := fun w hw =>
  X.seq (wpC_mono (h w hw) fun e s w hu => by
    obtain ⟨Γ', hs, hq⟩ := hu
    cases e <;> first | exact hq w hs | exact ⟨Γ', hs, hq⟩)
theorem C.regS {id : Nat} {ops : Array Oper} {y : Code} (h : L w0 S0 P ρ n ops ops.toList (C w0 S0 P ρ n y Q) s Γ) : C w0 S0 P ρ n (.seq (.region id ops false) y) Q s Γ := .seq (.reg h)
theorem C.skip (h : Q .normal s Γ) : C w0 S0 P ρ n .skip Q s Γ := fun w hw => X.skip ⟨Γ, hw, h⟩
theorem C.skipS {y : Code} (h : C w0 S0 P ρ n y Q s Γ) : C w0 S0 P ρ n (.seq .skip y) Q s Γ := .seq (.skip h)
theorem C.label {l : Nat} (h : Q .normal s Γ) : C w0 S0 P ρ n (.label l) Q s Γ := fun w hw => X.label ⟨Γ, hw, h⟩
theorem C.exit {id : Nat} (h : Q (.exit id) s Γ) : C w0 S0 P ρ n (.exit id) Q s Γ := fun w hw => X.exit ⟨Γ, hw, h⟩
theorem C.ret (h : Q .ret s Γ) : C w0 S0 P ρ n .ret Q s Γ := fun w hw => X.ret ⟨Γ, hw, h⟩
theorem C.block {id : Nat} {c : Code} (h : C w0 S0 P ρ n c (InBlo id Q) s Γ) : C w0 S0 P ρ n (.block id c) Q s Γ := fun w hw =>
  X.block (wpC_mono (h w hw) fun e s w hu => by
    obtain ⟨Γ', hs, hq⟩ := hu
    cases e <;> try exact ⟨Γ', hs, hq⟩
    rename_i id'
    dsimp only [Blo, InBlo] at hq ⊢
    cases hb : Nat.beq id' id <;> rw [hb] at hq <;> exact ⟨Γ', hs, hq⟩)
theorem C.cond {c : Operand} {x y : Code} {b : Bool} (hc : look s.e c = some (.bool b)) (ht : b = true → C w0 S0 P ρ n x Q s Γ) (hf : b = false → C w0 S0 P ρ n y Q s Γ) : C w0 S0 P ρ n (.cond c x y) Q s Γ :=
  fun w hw => X.cond hc (fun h => ht h w hw) (fun h => hf h w hw)
theorem C.condP {c : Operand} {x y : Code} {p : Prop} [Decidable p] (hc : look s.e c = some (.bool (decide p))) (ht : p → C w0 S0 P ρ n x Q s Γ) (hf : ¬p → C w0 S0 P ρ n y Q s Γ) : C w0 S0 P ρ n (.cond c x y) Q s Γ :=
  .cond hc (fun h => ht (of_decide_eq_true h)) (fun h => hf (of_decide_eq_false h))
theorem C.condT {c : Operand} {x y : Code} {p : Prop} [Decidable p] (hc : look s.e c = some (.bool (decide p))) (hp : p) (h : C w0 S0 P ρ n x Q s Γ) : C w0 S0 P ρ n (.cond c x y) Q s Γ := .condP hc (fun _ => h) (fun h => absurd hp h)
theorem C.condF {c : Operand} {x y : Code} {p : Prop} [Decidable p] (hc : look s.e c = some (.bool (decide p))) (hp : ¬p) (h : C w0 S0 P ρ n y Q s Γ) : C w0 S0 P ρ n (.cond c x y) Q s Γ := .condP hc (fun h => absurd h hp) (fun _ => h)
theorem C.weak {c : Code} {r e : Env} {ds : List Deferred} (hs : Sub r e) (h : C w0 S0 P ρ n c Q ⟨r, ds⟩ Γ) : C w0 S0 P ρ n c Q ⟨e, ds⟩ Γ := fun w hw => X.weak hs (h w hw)
theorem C.perm {c : Code} {Δ : List Ch} (p : Γ.Perm Δ) (h : C w0 S0 P ρ n c Q s Δ) : C w0 S0 P ρ n c Q s Γ := fun w hw => h w (hw.perm p)
theorem C.wk {c : Code} {Δ : List Ch} (p : Wk Γ Δ) (h : C w0 S0 P ρ n c Q s Δ) : C w0 S0 P ρ n c Q s Γ := fun w hw => h w (hw.wk p)
theorem L.wk {ops : Array Oper} {l : List Oper} {Δ : List Ch} (p : Wk Γ Δ) (h : L w0 S0 P ρ n ops l K s Δ) : L w0 S0 P ρ n ops l K s Γ := fun w hw => h w (hw.wk p)
theorem C.mono {c : Code} {Q' : Exit → St → List Ch → Prop} (h : C w0 S0 P ρ n c Q s Γ) (hq : ∀ e s Γ, Q e s Γ → Q' e s Γ) : C w0 S0 P ρ n c Q' s Γ := fun w hw =>
  wpC_mono (h w hw) fun e s w ⟨Γ', hs, hh⟩ => ⟨Γ', hs, hq _ _ _ hh⟩
/-- what is known of the world through its pieces -/
theorem C.get {c : Code} {p : Prop} (hp : ∀ w, Sep w0 S0 w Γ → p) (h : p → C w0 S0 P ρ n c Q s Γ) : C w0 S0 P ρ n c Q s Γ := fun w hw => h (hp w hw) w hw
theorem L.get {ops : Array Oper} {l : List Oper} {p : Prop} (hp : ∀ w, Sep w0 S0 w Γ → p) (h : p → L w0 S0 P ρ n ops l K s Γ) : L w0 S0 P ρ n ops l K s Γ := fun w hw => h (hp w hw) w hw
/-- a cut: the ways meet again -/
theorem C.cut {γ : Type} {x y : Code} (E : γ → Env) (D : List Deferred) (G : γ → List Ch) (I : γ → Prop)
    (h : C w0 S0 P ρ n x (Then (fun s' Γ' => ∃ g, Sub (E g) s'.e ∧ s'.ds = D ∧ Wk Γ' (G g) ∧ I g) Q) s Γ) (k : ∀ g, I g → C w0 S0 P ρ n y Q ⟨E g, D⟩ (G g)) : C w0 S0 P ρ n (.seq x y) Q s Γ :=
  .seq (.mono h fun e s' Γ' hq => by
    cases e <;> try exact hq
    obtain ⟨g, hsub, hd, hp, hi⟩ := hq
    obtain ⟨e', ds'⟩ := s'
    dsimp only at hsub hd
    subst hd
    exact .wk hp (.weak hsub (k g hi)))
theorem C.loop {σ : Type} {c : Code} {ds : List Deferred} {e : Env} (E : σ → Env) (G : σ → List Ch) (I : σ → Prop) (μ : σ → Nat) (x0 : σ) (he : Sub (E x0) e) (hG : Wk Γ (G x0)) (h0 : I x0)
    (h : ∀ x, I x → C w0 S0 P ρ n c (Then (fun s' Γ' => ∃ x', Sub (E x') s'.e ∧ s'.ds = ds ∧ Wk Γ' (G x') ∧ I x' ∧ μ x' < μ x) Q) ⟨E x, ds⟩ (G x)) : C w0 S0 P ρ n (.loop c) Q ⟨e, ds⟩ Γ := fun w hw =>
  X.loop E (fun x w => Sep w0 S0 w (G x) ∧ I x) μ x0 he ⟨hw.wk hG, h0⟩ fun x w hx =>
    wpC_mono (h x hx.2 w hx.1) fun e s' w' hu => by
      obtain ⟨Γ', hs, hq⟩ := hu
      cases e <;> try exact ⟨Γ', hs, hq⟩
      obtain ⟨x', hsub, hd, hp, hi, hm⟩ := hq
      exact ⟨x', hsub, hd, ⟨hs.wk hp, hi⟩, hm⟩
end
end Go.X
namespace Go.X
open Go Go.RowKit
section
variable {w0 : World} {S0 : Nat → Prop} {P : Program} {ρ : Option Nat} {n : Nat} {ops : Array Oper} {r : List Oper} {K : St → List Ch → Prop} {e : Env} {ds : List Deferred} {Γ : List Ch}
  {d : Nat} {ty : TypeId} {ps : String} {af : Array Edge} {x y z : Operand}
theorem L.nil (h : K ⟨e, ds⟩ Γ) : L w0 S0 P ρ n ops [] K ⟨e, ds⟩ Γ := fun w hw a ha => ⟨_, ha, _, hw, h⟩
def Knows (e : Env) (ev : Operand → Value) : Prop := ∀ x v, look e x = some v → ev x = v
/-- an operation that only yields a value -/
def Yl (w0 : World) (S0 : Nat → Prop) (P : Program) (Γ : List Ch) (e : Env) (o : Oper) (v : Value) : Prop := ∀ ev w, Knows e ev → Sep w0 S0 w Γ → (execOp ev o).run P w = .ok (.value v) w
/-- an operation that yields some value and turns the pieces -/
theorem L.step {op : Op} (R : Value → List Ch → Prop) (hnd : ∀ c, op ≠ .defer c)
    (hrun : ∀ ev w, Knows e ev → Sep w0 S0 w Γ → ∃ v w' Γ', (execOp ev ⟨some d, op, ty, ps, af, none⟩).run P w = .ok (.value v) w' ∧ Sep w0 S0 w' Γ' ∧ R v Γ')
    (h : ∀ v Γ', R v Γ' → L w0 S0 P ρ n ops r K ⟨(d, v) :: e, ds⟩ Γ') (hd : Nat.ble (d + 1) n = true := by rfl) :
    L w0 S0 P ρ n ops (⟨some d, op, ty, ps, af, none⟩ :: r) K ⟨e, ds⟩ Γ := by
  intro w hw a ha
  obtain ⟨v, w', Γ', hr, hs, hR⟩ := hrun a.eval w (fun x v hx => ha.look hx) hw
  show (if Region.wanted _ _ = true then _ else _)
  rw [if_pos (by rfl)]
  refine ⟨fun _ _ => trivial, ?_⟩
  rw [Oper.semAt_eq _ _ _ hnd, hr]
  exact h v Γ' hR w' hs _ (ha.put (Nat.le_of_ble_eq_true hd) v)
theorem L.val {op : Op} {v : Value} (hnd : ∀ c, op ≠ .defer c)
    (hrun : ∀ ev w, Knows e ev → Sep w0 S0 w Γ → (execOp ev ⟨some d, op, ty, ps, af, none⟩).run P w = .ok (.value v) w)
    (h : L w0 S0 P ρ n ops r K ⟨(d, v) :: e, ds⟩ Γ) (hd : Nat.ble (d + 1) n = true := by rfl) :
    L w0 S0 P ρ n ops (⟨some d, op, ty, ps, af, none⟩ :: r) K ⟨e, ds⟩ Γ :=
  L.step (fun v' Γ' => v' = v ∧ Γ' = Γ) hnd (fun ev w he hw => ⟨v, w, Γ, hrun ev w he hw, hw, rfl, rfl⟩) (fun v' Γ' hh => by rw [hh.1, hh.2]; exact h) hd
theorem L.skp {op : Op} (Γ' : List Ch) (hnd : ∀ c, op ≠ .defer c)
    (hrun : ∀ ev w, Knows e ev → Sep w0 S0 w Γ → ∃ w', (execOp ev ⟨none, op, ty, ps, af, none⟩).run P w = .ok .skip w' ∧ Sep w0 S0 w' Γ')
    (h : L w0 S0 P ρ n ops r K ⟨e, ds⟩ Γ') :
    L w0 S0 P ρ n ops (⟨none, op, ty, ps, af, none⟩ :: r) K ⟨e, ds⟩ Γ := by
  intro w hw a ha
  obtain ⟨w', hr, hs⟩ := hrun a.eval w (fun x v hx => ha.look hx) hw
  show (if Region.wanted _ _ = true then _ else _)
  rw [if_pos (by rfl)]
  refine ⟨fun _ _ => trivial, ?_⟩
  rw [Oper.semAt_eq _ _ _ hnd, hr]
  exact h w' hs _ ha
/-- a guarded operation that is wanted; one that is not -/
theorem L.gOn {o : Option Tmp} {op : Op} {g t : Nat} {b : Bool} (hg : (ops[g]?).bind (·.dst) = some t) (ht : get? e t = some (.bool b)) (h : L w0 S0 P ρ n ops (⟨o, op, ty, ps, af, none⟩ :: r) K ⟨e, ds⟩ Γ) :
    L w0 S0 P ρ n ops (⟨o, op, ty, ps, af, some (g, b)⟩ :: r) K ⟨e, ds⟩ Γ := by
  intro w hw a ha
  have := h w hw a ha
  have hy : yielded ops a.tmps g = some b := by
    unfold yielded
    rw [hg]
    have h1 := ha.get t _ ht
    rw [Array.getD_eq_getD_getElem?] at h1
    cases h2 : a.tmps[t]? with
    | none => rw [h2] at h1; cases h1
    | some u => rw [h2] at h1; dsimp at h1; subst h1; simp [h2]
  unfold wpOpsL at this ⊢
  rw [if_pos (by rfl)] at this
  rw [if_pos (by simp [Region.wanted, hy])]
  exact this
theorem L.gOff {t' : Nat} {op : Op} {g t : Nat} {b b' : Bool} (hg : (ops[g]?).bind (·.dst) = some t) (ht : get? e t = some (.bool b')) (hne : b' = !b) (h : L w0 S0 P ρ n ops r K ⟨(t', undef) :: e, ds⟩ Γ) (hd : Nat.ble (t' + 1) n = true := by rfl) :
    L w0 S0 P ρ n ops (⟨some t', op, ty, ps, af, some (g, b)⟩ :: r) K ⟨e, ds⟩ Γ := by
  intro w hw a ha
  have hy : yielded ops a.tmps g = some b' := by
    unfold yielded
    rw [hg]
    have h1 := ha.get t _ ht
    rw [Array.getD_eq_getD_getElem?] at h1
    cases h2 : a.tmps[t]? with
    | none => rw [h2] at h1; cases h1
    | some u => rw [h2] at h1; dsimp at h1; subst h1; simp [h2]
  unfold wpOpsL
  rw [if_neg (by simp [Region.wanted, hy, hne])]
  exact h w hw _ (ha.put (Nat.le_of_ble_eq_true hd) undef)
theorem Y.mv {v : Value} (hx : look e x = some v) : Yl w0 S0 P Γ e ⟨some d, .move x, ty, ps, af, none⟩ (v) :=
  fun ev w he hw => by simp [execOp, he x v hx, Sem.run]
theorem L.mv {v : Value} (hx : look e x = some v) (h : L w0 S0 P ρ n ops r K ⟨(d, v) :: e, ds⟩ Γ) (hd : Nat.ble (d + 1) n = true := by rfl) :
    L w0 S0 P ρ n ops (⟨some d, .move x, ty, ps, af, none⟩ :: r) K ⟨e, ds⟩ Γ :=
  L.val (fun _ h => by cases h) (Y.mv hx) h hd
theorem Y.as {v : Value} (hx : look e x = some v) : Yl w0 S0 P Γ e ⟨some d, .assign x, ty, ps, af, none⟩ (v) :=
  fun ev w he hw => by simp [execOp, he x v hx, Sem.run]
theorem L.as {v : Value} (hx : look e x = some v) (h : L w0 S0 P ρ n ops r K ⟨(d, v) :: e, ds⟩ Γ) (hd : Nat.ble (d + 1) n = true := by rfl) :
    L w0 S0 P ρ n ops (⟨some d, .assign x, ty, ps, af, none⟩ :: r) K ⟨e, ds⟩ Γ :=
  L.val (fun _ h => by cases h) (Y.as hx) h hd
theorem Y.pick {b : Bool} {u v : Value} (hx : look e x = some (.bool b)) (hy : look e y = some u) (hz : look e z = some v) : Yl w0 S0 P Γ e ⟨some d, .pick x y z, ty, ps, af, none⟩ (if b = true then u else v) :=
  fun ev w he hw => by simp [execOp, he x _ hx, he y _ hy, he z _ hz, Sem.run, asBool]
theorem L.pick {b : Bool} {u v : Value} (hx : look e x = some (.bool b)) (hy : look e y = some u) (hz : look e z = some v) (h : L w0 S0 P ρ n ops r K ⟨(d, if b = true then u else v) :: e, ds⟩ Γ) (hd : Nat.ble (d + 1) n = true := by rfl) :
    L w0 S0 P ρ n ops (⟨some d, .pick x y z, ty, ps, af, none⟩ :: r) K ⟨e, ds⟩ Γ :=
  L.val (fun _ h => by cases h) (Y.pick hx hy hz) h hd
section ints
variable {k : IntKind} {t t' : TypeId} {a b : Int}
theorem Y.addW (hx : look e x = some (.int k a)) (hy : look e y = some (.int k b)) : Yl w0 S0 P Γ e ⟨some d, .binOp .add t x y t', ty, ps, af, none⟩ (.int k (k.wrap (a + b))) :=
  fun ev w he hw => by simp [execOp, he x _ hx, he y _ hy, Sem.run, eqGuard, binOp, Op.intArith]
theorem L.addW (hx : look e x = some (.int k a)) (hy : look e y = some (.int k b)) (h : L w0 S0 P ρ n ops r K ⟨(d, .int k (k.wrap (a + b))) :: e, ds⟩ Γ) (hd : Nat.ble (d + 1) n = true := by rfl) :
    L w0 S0 P ρ n ops (⟨some d, .binOp .add t x y t', ty, ps, af, none⟩ :: r) K ⟨e, ds⟩ Γ :=
  L.val (fun _ h => by cases h) (Y.addW hx hy) h hd
theorem Y.subW (hx : look e x = some (.int k a)) (hy : look e y = some (.int k b)) : Yl w0 S0 P Γ e ⟨some d, .binOp .sub t x y t', ty, ps, af, none⟩ (.int k (k.wrap (a - b))) :=
  fun ev w he hw => by simp [execOp, he x _ hx, he y _ hy, Sem.run, eqGuard, binOp, Op.intArith]
theorem L.subW (hx : look e x = some (.int k a)) (hy : look e y = some (.int k b)) (h : L w0 S0 P ρ n ops r K ⟨(d, .int k (k.wrap (a - b))) :: e, ds⟩ Γ) (hd : Nat.ble (d + 1) n = true := by rfl) :
    L w0 S0 P ρ n ops (⟨some d, .binOp .sub t x y t', ty, ps, af, none⟩ :: r) K ⟨e, ds⟩ Γ :=
  L.val (fun _ h => by cases h) (Y.subW hx hy) h hd
theorem Y.mulW (hx : look e x = some (.int k a)) (hy : look e y = some (.int k b)) : Yl w0 S0 P Γ e ⟨some d, .binOp .mul t x y t', ty, ps, af, none⟩ (.int k (k.wrap (a * b))) :=
  fun ev w he hw => by simp [execOp, he x _ hx, he y _ hy, Sem.run, eqGuard, binOp, Op.intArith]
theorem L.mulW (hx : look e x = some (.int k a)) (hy : look e y = some (.int k b)) (h : L w0 S0 P ρ n ops r K ⟨(d, .int k (k.wrap (a * b))) :: e, ds⟩ Γ) (hd : Nat.ble (d + 1) n = true := by rfl) :
    L w0 S0 P ρ n ops (⟨some d, .binOp .mul t x y t', ty, ps, af, none⟩ :: r) K ⟨e, ds⟩ Γ :=
  L.val (fun _ h => by cases h) (Y.mulW hx hy) h hd
theorem wrap64_id {a : Int} (h : -9223372036854775808 ≤ a ∧ a ≤ 9223372036854775807) : IntKind.i64.wrap a = a := by
  rw [IntKind.wrap_i64]; omega
theorem Y.add (hx : look e x = some (.int .i64 a)) (hy : look e y = some (.int .i64 b)) (hr : -9223372036854775808 ≤ a + b ∧ a + b ≤ 9223372036854775807) : Yl w0 S0 P Γ e ⟨some d, .binOp .add t x y t', ty, ps, af, none⟩ (.int .i64 (a + b)) := by
  have := Y.addW (w0 := w0) (S0 := S0) (P := P) (Γ := Γ) (d := d) (ty := ty) (ps := ps) (af := af) (t := t) (t' := t') hx hy
  rwa [wrap64_id hr] at this
theorem L.add (hx : look e x = some (.int .i64 a)) (hy : look e y = some (.int .i64 b)) (hr : -9223372036854775808 ≤ a + b ∧ a + b ≤ 9223372036854775807) (h : L w0 S0 P ρ n ops r K ⟨(d, .int .i64 (a + b)) :: e, ds⟩ Γ) (hd : Nat.ble (d + 1) n = true := by rfl) :
    L w0 S0 P ρ n ops (⟨some d, .binOp .add t x y t', ty, ps, af, none⟩ :: r) K ⟨e, ds⟩ Γ := L.addW hx hy (by rw [wrap64_id hr]; exact h) hd
theorem Y.sub (hx : look e x = some (.int .i64 a)) (hy : look e y = some (.int .i64 b)) (hr : -9223372036854775808 ≤ a - b ∧ a - b ≤ 9223372036854775807) : Yl w0 S0 P Γ e ⟨some d, .binOp .sub t x y t', ty, ps, af, none⟩ (.int .i64 (a - b)) := by
  have := Y.subW (w0 := w0) (S0 := S0) (P := P) (Γ := Γ) (d := d) (ty := ty) (ps := ps) (af := af) (t := t) (t' := t') hx hy
  rwa [wrap64_id hr] at this
theorem L.sub (hx : look e x = some (.int .i64 a)) (hy : look e y = some (.int .i64 b)) (hr : -9223372036854775808 ≤ a - b ∧ a - b ≤ 9223372036854775807) (h : L w0 S0 P ρ n ops r K ⟨(d, .int .i64 (a - b)) :: e, ds⟩ Γ) (hd : Nat.ble (d + 1) n = true := by rfl) :
    L w0 S0 P ρ n ops (⟨some d, .binOp .sub t x y t', ty, ps, af, none⟩ :: r) K ⟨e, ds⟩ Γ := L.subW hx hy (by rw [wrap64_id hr]; exact h) hd
theorem Y.mul (hx : look e x = some (.int .i64 a)) (hy : look e y = some (.int .i64 b)) (hr : -9223372036854775808 ≤ a * b ∧ a * b ≤ 9223372036854775807) : Yl w0 S0 P Γ e ⟨some d, .binOp .mul t x y t', ty, ps, af, none⟩ (.int .i64 (a * b)) := by
  have := Y.mulW (w0 := w0) (S0 := S0) (P := P) (Γ := Γ) (d := d) (ty := ty) (ps := ps) (af := af) (t := t) (t' := t') hx hy
  rwa [wrap64_id hr] at this
theorem L.mul (hx : look e x = some (.int .i64 a)) (hy : look e y = some (.int .i64 b)) (hr : -9223372036854775808 ≤ a * b ∧ a * b ≤ 9223372036854775807) (h : L w0 S0 P ρ n ops r K ⟨(d, .int .i64 (a * b)) :: e, ds⟩ Γ) (hd : Nat.ble (d + 1) n = true := by rfl) :
    L w0 S0 P ρ n ops (⟨some d, .binOp .mul t x y t', ty, ps, af, none⟩ :: r) K ⟨e, ds⟩ Γ := L.mulW hx hy (by rw [wrap64_id hr]; exact h) hd
theorem Y.quo (hx : look e x = some (.int .i64 a)) (hy : look e y = some (.int .i64 b)) (ha : 0 ≤ a ∧ a ≤ 9223372036854775807) (hb : 0 < b) : Yl w0 S0 P Γ e ⟨some d, .binOp .quo t x y t', ty, ps, af, none⟩ (.int .i64 (a / b)) :=
  fun ev w he hw => by
    have hb0 : b ≠ 0 := by omega
    have h1 : a.tdiv b = a / b := Int.tdiv_eq_ediv_of_nonneg ha.1
    have h2 : a / b ≤ a := Int.ediv_le_self b ha.1
    have h3 : 0 ≤ a / b := Int.ediv_nonneg ha.1 (by omega)
    simp [execOp, he x _ hx, he y _ hy, Sem.run, eqGuard, binOp, Op.intDiv, hb0, h1]
    exact wrap64_id (by omega)
theorem L.quo (hx : look e x = some (.int .i64 a)) (hy : look e y = some (.int .i64 b)) (ha : 0 ≤ a ∧ a ≤ 9223372036854775807) (hb : 0 < b) (h : L w0 S0 P ρ n ops r K ⟨(d, .int .i64 (a / b)) :: e, ds⟩ Γ) (hd : Nat.ble (d + 1) n = true := by rfl) :
    L w0 S0 P ρ n ops (⟨some d, .binOp .quo t x y t', ty, ps, af, none⟩ :: r) K ⟨e, ds⟩ Γ :=
  L.val (fun _ h => by cases h) (Y.quo hx hy ha hb) h hd
theorem Y.rem (hx : look e x = some (.int .i64 a)) (hy : look e y = some (.int .i64 b)) (ha : 0 ≤ a) (hb : 0 < b) : Yl w0 S0 P Γ e ⟨some d, .binOp .rem t x y t', ty, ps, af, none⟩ (.int .i64 (a % b)) :=
  fun ev w he hw => by
    have hb0 : b ≠ 0 := by omega
    have h1 : a.tmod b = a % b := Int.tmod_eq_emod_of_nonneg ha
    simp [execOp, he x _ hx, he y _ hy, Sem.run, eqGuard, binOp, Op.intDiv, hb0, h1]
theorem L.rem (hx : look e x = some (.int .i64 a)) (hy : look e y = some (.int .i64 b)) (ha : 0 ≤ a) (hb : 0 < b) (h : L w0 S0 P ρ n ops r K ⟨(d, .int .i64 (a % b)) :: e, ds⟩ Γ) (hd : Nat.ble (d + 1) n = true := by rfl) :
    L w0 S0 P ρ n ops (⟨some d, .binOp .rem t x y t', ty, ps, af, none⟩ :: r) K ⟨e, ds⟩ Γ :=
  L.val (fun _ h => by cases h) (Y.rem hx hy ha hb) h hd
theorem Y.lss (hx : look e x = some (.int k a)) (hy : look e y = some (.int k b)) : Yl w0 S0 P Γ e ⟨some d, .binOp .lss t x y t', ty, ps, af, none⟩ (.bool (decide (a < b))) :=
  fun ev w he hw => by simp [execOp, he x _ hx, he y _ hy, Sem.run, eqGuard, binOp, Op.intCmp]
theorem L.lss (hx : look e x = some (.int k a)) (hy : look e y = some (.int k b)) (h : L w0 S0 P ρ n ops r K ⟨(d, .bool (decide (a < b))) :: e, ds⟩ Γ) (hd : Nat.ble (d + 1) n = true := by rfl) :
    L w0 S0 P ρ n ops (⟨some d, .binOp .lss t x y t', ty, ps, af, none⟩ :: r) K ⟨e, ds⟩ Γ :=
  L.val (fun _ h => by cases h) (Y.lss hx hy) h hd
theorem Y.leq (hx : look e x = some (.int k a)) (hy : look e y = some (.int k b)) : Yl w0 S0 P Γ e ⟨some d, .binOp .leq t x y t', ty, ps, af, none⟩ (.bool (decide (a ≤ b))) :=
  fun ev w he hw => by simp [execOp, he x _ hx, he y _ hy, Sem.run, eqGuard, binOp, Op.intCmp]
theorem L.leq (hx : look e x = some (.int k a)) (hy : look e y = some (.int k b)) (h : L w0 S0 P ρ n ops r K ⟨(d, .bool (decide (a ≤ b))) :: e, ds⟩ Γ) (hd : Nat.ble (d + 1) n = true := by rfl) :
    L w0 S0 P ρ n ops (⟨some d, .binOp .leq t x y t', ty, ps, af, none⟩ :: r) K ⟨e, ds⟩ Γ :=
  L.val (fun _ h => by cases h) (Y.leq hx hy) h hd
theorem Y.gtr (hx : look e x = some (.int k a)) (hy : look e y = some (.int k b)) : Yl w0 S0 P Γ e ⟨some d, .binOp .gtr t x y t', ty, ps, af, none⟩ (.bool (decide (b < a))) :=
  fun ev w he hw => by simp [execOp, he x _ hx, he y _ hy, Sem.run, eqGuard, binOp, Op.intCmp]
theorem L.gtr (hx : look e x = some (.int k a)) (hy : look e y = some (.int k b)) (h : L w0 S0 P ρ n ops r K ⟨(d, .bool (decide (b < a))) :: e, ds⟩ Γ) (hd : Nat.ble (d + 1) n = true := by rfl) :
    L w0 S0 P ρ n ops (⟨some d, .binOp .gtr t x y t', ty, ps, af, none⟩ :: r) K ⟨e, ds⟩ Γ :=
  L.val (fun _ h => by cases h) (Y.gtr hx hy) h hd
theorem Y.geq (hx : look e x = some (.int k a)) (hy : look e y = some (.int k b)) : Yl w0 S0 P Γ e ⟨some d, .binOp .geq t x y t', ty, ps, af, none⟩ (.bool (decide (b ≤ a))) :=
  fun ev w he hw => by simp [execOp, he x _ hx, he y _ hy, Sem.run, eqGuard, binOp, Op.intCmp]
theorem L.geq (hx : look e x = some (.int k a)) (hy : look e y = some (.int k b)) (h : L w0 S0 P ρ n ops r K ⟨(d, .bool (decide (b ≤ a))) :: e, ds⟩ Γ) (hd : Nat.ble (d + 1) n = true := by rfl) :
    L w0 S0 P ρ n ops (⟨some d, .binOp .geq t x y t', ty, ps, af, none⟩ :: r) K ⟨e, ds⟩ Γ :=
  L.val (fun _ h => by cases h) (Y.geq hx hy) h hd
theorem beq_dec (a b : Int) : (a == b) = decide (a = b) := by rfl
theorem Y.eqi (hx : look e x = some (.int k a)) (hy : look e y = some (.int k b)) : Yl w0 S0 P Γ e ⟨some d, .binOp .eql t x y t', ty, ps, af, none⟩ (.bool (decide (a = b))) :=
  fun ev w he hw => by simp only [execOp, he x _ hx, he y _ hy]; simp [Sem.run, eqGuard, binOp, Op.intCmp, beq_dec]
theorem L.eqi (hx : look e x = some (.int k a)) (hy : look e y = some (.int k b)) (h : L w0 S0 P ρ n ops r K ⟨(d, .bool (decide (a = b))) :: e, ds⟩ Γ) (hd : Nat.ble (d + 1) n = true := by rfl) :
    L w0 S0 P ρ n ops (⟨some d, .binOp .eql t x y t', ty, ps, af, none⟩ :: r) K ⟨e, ds⟩ Γ :=
  L.val (fun _ h => by cases h) (Y.eqi hx hy) h hd
theorem Y.nei (hx : look e x = some (.int k a)) (hy : look e y = some (.int k b)) : Yl w0 S0 P Γ e ⟨some d, .binOp .neq t x y t', ty, ps, af, none⟩ (.bool (decide (a ≠ b))) :=
  fun ev w he hw => by simp only [execOp, he x _ hx, he y _ hy]; simp [Sem.run, eqGuard, binOp, Op.intCmp, bne, beq_dec]
theorem L.nei (hx : look e x = some (.int k a)) (hy : look e y = some (.int k b)) (h : L w0 S0 P ρ n ops r K ⟨(d, .bool (decide (a ≠ b))) :: e, ds⟩ Γ) (hd : Nat.ble (d + 1) n = true := by rfl) :
    L w0 S0 P ρ n ops (⟨some d, .binOp .neq t x y t', ty, ps, af, none⟩ :: r) K ⟨e, ds⟩ Γ :=
  L.val (fun _ h => by cases h) (Y.nei hx hy) h hd
theorem Y.neg (hx : look e x = some (.int .i64 a)) (hr : -9223372036854775808 ≤ -a ∧ -a ≤ 9223372036854775807) : Yl w0 S0 P Γ e ⟨some d, .unOp .neg t x, ty, ps, af, none⟩ (.int .i64 (-a)) :=
  fun ev w he hw => by
    have := wrap64_id hr
    simp only [execOp, he x _ hx, Op.unary, Op.intArith]
    rw [show (0 : Int) - a = -a from by omega, this]; rfl
theorem L.neg (hx : look e x = some (.int .i64 a)) (hr : -9223372036854775808 ≤ -a ∧ -a ≤ 9223372036854775807) (h : L w0 S0 P ρ n ops r K ⟨(d, .int .i64 (-a)) :: e, ds⟩ Γ) (hd : Nat.ble (d + 1) n = true := by rfl) :
    L w0 S0 P ρ n ops (⟨some d, .unOp .neg t x, ty, ps, af, none⟩ :: r) K ⟨e, ds⟩ Γ :=
  L.val (fun _ h => by cases h) (Y.neg hx hr) h hd
theorem Y.cvW {k' : IntKind} (hu : P.underlying t' = some (.int k')) (hs : ∃ q, P.underlying t = some (.int q)) (hx : look e x = some (.int k a)) : Yl w0 S0 P Γ e ⟨some d, .convert t t' x, ty, ps, af, none⟩ (.int k' (k'.wrap a)) :=
  fun ev w he hw => by
    obtain ⟨q, hs⟩ := hs
    simp [execOp, he x _ hx, convert, run_underlying hu, run_underlying hs, Conv.intToInt, Sem.run]
theorem L.cvW {k' : IntKind} (hu : P.underlying t' = some (.int k')) (hs : ∃ q, P.underlying t = some (.int q)) (hx : look e x = some (.int k a)) (h : L w0 S0 P ρ n ops r K ⟨(d, .int k' (k'.wrap a)) :: e, ds⟩ Γ) (hd : Nat.ble (d + 1) n = true := by rfl) :
    L w0 S0 P ρ n ops (⟨some d, .convert t t' x, ty, ps, af, none⟩ :: r) K ⟨e, ds⟩ Γ :=
  L.val (fun _ h => by cases h) (Y.cvW hu hs hx) h hd
end ints
theorem Y.not {b : Bool} {t : TypeId} (hx : look e x = some (.bool b)) : Yl w0 S0 P Γ e ⟨some d, .unOp .not t x, ty, ps, af, none⟩ (.bool (!b)) :=
  fun ev w he hw => by simp [execOp, he x _ hx, Sem.run, Op.unary]
theorem L.not {b : Bool} {t : TypeId} (hx : look e x = some (.bool b)) (h : L w0 S0 P ρ n ops r K ⟨(d, .bool (!b)) :: e, ds⟩ Γ) (hd : Nat.ble (d + 1) n = true := by rfl) :
    L w0 S0 P ρ n ops (⟨some d, .unOp .not t x, ty, ps, af, none⟩ :: r) K ⟨e, ds⟩ Γ :=
  L.val (fun _ h => by cases h) (Y.not hx) h hd
theorem L.notP {p : Prop} [Decidable p] {t : TypeId} (hx : look e x = some (.bool (decide p))) (h : L w0 S0 P ρ n ops r K ⟨(d, .bool (decide (¬p))) :: e, ds⟩ Γ) (hd : Nat.ble (d + 1) n = true := by rfl) :
    L w0 S0 P ρ n ops (⟨some d, .unOp .not t x, ty, ps, af, none⟩ :: r) K ⟨e, ds⟩ Γ :=
  L.not hx (by rw [← decide_not]; exact h) hd
theorem Y.ext {vs : Array Value} {i : Nat} {v : Value} (hx : look e x = some (.tuple vs)) (hi : vs[i]? = some v) : Yl w0 S0 P Γ e ⟨some d, .extract x i, ty, ps, af, none⟩ (v) :=
  fun ev w he hw => by simp [execOp, he x _ hx, Sem.run, Instr.extract, hi]
theorem L.ext {vs : Array Value} {i : Nat} {v : Value} (hx : look e x = some (.tuple vs)) (hi : vs[i]? = some v) (h : L w0 S0 P ρ n ops r K ⟨(d, v) :: e, ds⟩ Γ) (hd : Nat.ble (d + 1) n = true := by rfl) :
    L w0 S0 P ρ n ops (⟨some d, .extract x i, ty, ps, af, none⟩ :: r) K ⟨e, ds⟩ Γ :=
  L.val (fun _ h => by cases h) (Y.ext hx hi) h hd
theorem Y.nck {p : Addr} (hx : look e x = some (.pointer (some p))) : Yl w0 S0 P Γ e ⟨some d, .nilCheck x, ty, ps, af, none⟩ (.pointer (some p)) :=
  fun ev w he hw => by simp [execOp, he x _ hx, Sem.run]
theorem L.nck {p : Addr} (hx : look e x = some (.pointer (some p))) (h : L w0 S0 P ρ n ops r K ⟨(d, .pointer (some p)) :: e, ds⟩ Γ) (hd : Nat.ble (d + 1) n = true := by rfl) :
    L w0 S0 P ρ n ops (⟨some d, .nilCheck x, ty, ps, af, none⟩ :: r) K ⟨e, ds⟩ Γ :=
  L.val (fun _ h => by cases h) (Y.nck hx) h hd
theorem Y.mkf {fn : Fn} {cap : Array Operand} {cv : Array Value} (hc : cap.toList.mapM (look e) = some cv.toList) : Yl w0 S0 P Γ e ⟨some d, .makeFunc fn #[] cap, ty, ps, af, none⟩ (.func fn #[] cv) :=
  fun ev w he hw => by
    have hm : ∀ (l : List Operand) (vs : List Value), l.mapM (look e) = some vs → l.map ev = vs := by
      intro l
      induction l with
      | nil => intro vs h; simpa using h
      | cons a l ih =>
        intro vs h
        simp only [List.mapM_cons, Option.bind_eq_bind, Option.bind_eq_some_iff, Option.pure_def, Option.some.injEq] at h
        obtain ⟨v, hv, vs', hvs, rfl⟩ := h
        simp [he a v hv, ih vs' hvs]
    have := hm _ _ hc
    have h2 : cap.map ev = cv := by
      apply Array.ext'
      simpa using this
    simp [execOp, Sem.run, Instr.makeFunc, h2]
theorem L.mkf {fn : Fn} {cap : Array Operand} {cv : Array Value} (hc : cap.toList.mapM (look e) = some cv.toList) (h : L w0 S0 P ρ n ops r K ⟨(d, .func fn #[] cv) :: e, ds⟩ Γ) (hd : Nat.ble (d + 1) n = true := by rfl) :
    L w0 S0 P ρ n ops (⟨some d, .makeFunc fn #[] cap, ty, ps, af, none⟩ :: r) K ⟨e, ds⟩ Γ :=
  L.val (fun _ h => by cases h) (Y.mkf hc) h hd
end
end Go.X
namespace Go.X
open Go Go.RowKit
def aggD : TypeDesc → Bool
  | .struct _ => true
  | .array _ _ => true
  | _ => false
def Sc (P : Program) (t : TypeId) : Prop := ∃ d, P.underlying t = some d ∧ aggD d = false ∧ (P.info? t).map (·.size) = some 1
def Ag (P : Program) (t : TypeId) (k : Nat) : Prop := ∃ d, P.underlying t = some d ∧ aggD d = true ∧ (P.info? t).map (·.size) = some k
def Zr (P : Program) (t : TypeId) (z : Value) : Prop := (P.info? t).bind (·.zero) = some z
def Fld (P : Program) (t : TypeId) (i off : Nat) : Prop := ∃ fs f, P.underlying t = some (.struct fs) ∧ fs[i]? = some f ∧ f.offset = off ∧ ∃ k, (P.info? f.type).map (·.size) = some k ∧ k ≠ 0
section
variable {P : Program} {w : World} {t : TypeId}
theorem run_isAgg {d : TypeDesc} (h : P.underlying t = some d) : (isAgg t).run P w = .ok (aggD d) w := by
  unfold isAgg
  cases d <;> simp [run_underlying h, aggD, Sem.run]
theorem run_size {k : Nat} (h : (P.info? t).map (·.size) = some k) : (Go.sizeOf t).run P w = .ok k w := by
  cases hi : P.info? t with
  | none => rw [hi] at h; cases h
  | some i => rw [hi] at h; simp at h; subst h; simp [Go.sizeOf, run_typeInfo w hi, Sem.run]
theorem run_zero {z : Value} (h : Zr P t z) : (zeroValue t).run P w = .ok z w := by
  unfold Zr at h
  cases hi : P.info? t with
  | none => rw [hi] at h; cases h
  | some i => rw [hi] at h; simp at h; simp [zeroValue, run_typeInfo w hi, h, Sem.run]
theorem run_ld {a : Addr} {v : Value} (hs : Sc P t) (hc : w.cell? a = some v) : (loadVar t a).run P w = .ok v w := by
  obtain ⟨d, hu, hd, _⟩ := hs
  simp [loadVar, run_isAgg hu, hd, load, Sem.run, hc]
theorem run_lda {a : Addr} {vs : List Value} {k : Nat} (hs : Ag P t k) (hk : vs.length = k) (hc : ∀ j v, vs[j]? = some v → w.cell? (a.add j) = some v) : (loadVar t a).run P w = .ok (.agg vs.toArray) w := by
  obtain ⟨d, hu, hd, hz⟩ := hs
  subst hk
  simp [loadVar, run_isAgg hu, hd, run_size hz, run_loadCells_list w a vs hc, Sem.run]
theorem add_pl (b o j : Nat) : (⟨b, o, none⟩ : Addr).add j = ⟨b, o + j, none⟩ := by
  unfold Addr.add; split
  · subst_vars; rfl
  · rfl
theorem cells_one {v : Value} (h : v.oneCell' = true) : v.cells = #[v] := by
  cases v <;> first | rfl | simp [Value.oneCell'] at h
theorem run_store1 {a : Addr} {v u : Value} (hv : v.oneCell' = true) (hc : w.cell? a = some u) (hf : w.frozen? a = false) : (store a v).run P w = .ok () (w.setCell a v) := by
  cases v <;> first | (simp [Value.oneCell'] at hv; done) | simp [store, Sem.run, hc, hf]
theorem run_st {a : Addr} {v u : Value} (hs : Sc P t) (hv : v.oneCell' = true) (hc : w.cell? a = some u) (hf : w.frozen? a = false) : (storeVar t a v).run P w = .ok () (w.setCell a v) := by
  obtain ⟨d, hu, hd, hz⟩ := hs
  have ha : a.add 0 = a := by simp [Addr.add]
  simp [storeVar, cells_one hv, run_size hz, storeCells, ha, run_store1 hv hc hf]
/-- storing a list of cells into a block -/
theorem run_stores (b : Nat) (t' : TypeId) : ∀ (vs : List Value) (o i : Nat) (c : List Value) (w : World), w.heap[b]? = some (.cells c.toArray t' (0, 0)) → o + i + vs.length ≤ c.length → (∀ v ∈ vs, v.oneCell' = true) →
    ∃ w', (storeCells ⟨b, o, none⟩ vs i).run P w = .ok () w' ∧ w'.heap[b]? = some (.cells (c.take (o + i) ++ vs ++ c.drop (o + i + vs.length)).toArray t' (0, 0)) ∧ Keep (· = b) w w'
  | [], o, i, c, w, hb, _, _ => ⟨w, by simp [storeCells, Sem.run], by simpa using hb, Keep.refl _ _⟩
  | v :: vs, o, i, c, w, hb, hl, hv => by
    simp only [List.length_cons] at hl
    have hlt : o + i < c.length := by omega
    have hc : w.cell? ⟨b, o + i, none⟩ = some c[o + i] := by rw [cell_of hb, List.getElem?_eq_getElem hlt]
    have hst := run_store1 (P := P) (hv v (by simp)) hc (frozen_of hb (o + i))
    have hb1 : (w.setCell ⟨b, o + i, none⟩ v).heap[b]? = some (.cells (c.set (o + i) v).toArray t' (0, 0)) := by
      simp only [World.setCell, Array.getElem?_modify, if_true, hb, Option.map_some]
      simp
    obtain ⟨w', h1, h2, h3⟩ := run_stores b t' vs o (i + 1) (c.set (o + i) v) _ hb1 (by simp; omega) (fun u hu => hv u (by simp [hu]))
    refine ⟨w', ?_, ?_, ((Keep.setCell w ⟨b, o + i, none⟩ v).trans h3 (fun j hj _ => hj))⟩
    · simp only [storeCells, add_pl, Sem.run_bind, hst, Result.andThen]; exact h1
    · rw [h2]
      congr 3
      rw [List.take_set, List.drop_set_of_lt (by omega)]
      have : List.take (o + (i + 1)) c = List.take (o + i) c ++ [c[o + i]] := by
        rw [show o + (i + 1) = o + i + 1 from by omega, List.take_succ_eq_append_getElem hlt]
      rw [this, List.set_append_right _ _ (by simp; omega)]
      have hlen : (List.take (o + i) c).length = o + i := by simp; omega
      rw [hlen]
      simp
      congr 1
      omega
end
section
variable {w0 : World} {S0 : Nat → Prop} {P : Program} {ρ : Option Nat} {n : Nat} {ops : Array Oper} {r : List Oper} {K : St → List Ch → Prop} {e : Env} {ds : List Deferred} {Γ Δ : List Ch}
  {d : Nat} {ty : TypeId} {ps : String} {af : Array Edge} {x y z : Operand} {t t' : TypeId} {b o : Nat} {c : List Value} {v : Value}
theorem Y.ldg {a : Addr} (hs : Sc P t) (hx : look e x = some (.pointer (some a))) (hv : ∀ w, Sep w0 S0 w Γ → w.cell? a = some v) : Yl w0 S0 P Γ e ⟨some d, .load t x, ty, ps, af, none⟩ (v) :=
  fun ev w he hw => by simp [execOp, he x _ hx, Instr.loadAt, Instr.sureAddr, run_ld hs (hv w hw), Sem.run]
theorem L.ldg {a : Addr} (hs : Sc P t) (hx : look e x = some (.pointer (some a))) (hv : ∀ w, Sep w0 S0 w Γ → w.cell? a = some v) (h : L w0 S0 P ρ n ops r K ⟨(d, v) :: e, ds⟩ Γ) (hd : Nat.ble (d + 1) n = true := by rfl) :
    L w0 S0 P ρ n ops (⟨some d, .load t x, ty, ps, af, none⟩ :: r) K ⟨e, ds⟩ Γ :=
  L.val (fun _ h => by cases h) (Y.ldg hs hx hv) h hd
theorem L.ld (hs : Sc P t) (hx : look e x = some (.pointer (some ⟨b, o, none⟩))) [hb : Bk b Γ c t' Δ] (hv : c[o]? = some v) (h : L w0 S0 P ρ n ops r K ⟨(d, v) :: e, ds⟩ Γ) (hd : Nat.ble (d + 1) n = true := by rfl) :
    L w0 S0 P ρ n ops (⟨some d, .load t x, ty, ps, af, none⟩ :: r) K ⟨e, ds⟩ Γ :=
  L.ldg hs hx (fun w hw => by rw [cell_of (hb.on hw.holds)]; exact hv) h hd
theorem Y.ldag {a : Addr} {vs : List Value} {k : Nat} (hs : Ag P t k) (hx : look e x = some (.pointer (some a))) (hk : vs.length = k) (hv : ∀ w, Sep w0 S0 w Γ → ∀ j v, vs[j]? = some v → w.cell? (a.add j) = some v) : Yl w0 S0 P Γ e ⟨some d, .load t x, ty, ps, af, none⟩ (.agg vs.toArray) :=
  fun ev w he hw => by simp [execOp, he x _ hx, Instr.loadAt, Instr.sureAddr, run_lda hs hk (hv w hw), Sem.run]
theorem L.ldag {a : Addr} {vs : List Value} {k : Nat} (hs : Ag P t k) (hx : look e x = some (.pointer (some a))) (hk : vs.length = k) (hv : ∀ w, Sep w0 S0 w Γ → ∀ j v, vs[j]? = some v → w.cell? (a.add j) = some v) (h : L w0 S0 P ρ n ops r K ⟨(d, .agg vs.toArray) :: e, ds⟩ Γ) (hd : Nat.ble (d + 1) n = true := by rfl) :
    L w0 S0 P ρ n ops (⟨some d, .load t x, ty, ps, af, none⟩ :: r) K ⟨e, ds⟩ Γ :=
  L.val (fun _ h => by cases h) (Y.ldag hs hx hk hv) h hd
/-- k cells from o on -/
def seg : List Value → Nat → Nat → Option (List Value)
  | _, _, 0 => some []
  | [], _, _ + 1 => none
  | v :: c, 0, k + 1 => match seg c 0 k with | some r => some (v :: r) | none => none
  | _ :: c, o + 1, k + 1 => seg c o (k + 1)
theorem seg_get : ∀ {c : List Value} {o k : Nat} {vs : List Value}, seg c o k = some vs → vs.length = k ∧ ∀ j v, vs[j]? = some v → c[o + j]? = some v
  | c, o, 0, vs, h => by simp [seg] at h; subst h; simp
  | [], o, k + 1, vs, h => by simp [seg] at h
  | v :: c, 0, k + 1, vs, h => by
    simp only [seg] at h
    cases hs : seg c 0 k with
    | none => rw [hs] at h; cases h
    | some r =>
      rw [hs] at h; simp at h; subst h
      obtain ⟨h1, h2⟩ := seg_get hs
      refine ⟨by simp [h1], fun j u hj => ?_⟩
      cases j with
      | zero => simpa using hj
      | succ j => have := h2 j u (by simpa using hj); simpa using this
  | _ :: c, o + 1, k + 1, vs, h => by
    simp only [seg] at h
    obtain ⟨h1, h2⟩ := seg_get h
    exact ⟨h1, fun j u hj => by have := h2 j u hj; rw [show o + 1 + j = o + j + 1 from by omega]; simpa using this⟩
theorem L.lda {vs : List Value} {k : Nat} (hs : Ag P t k) (hx : look e x = some (.pointer (some ⟨b, o, none⟩))) [hb : Bk b Γ c t' Δ] (hv : seg c o k = some vs) (h : L w0 S0 P ρ n ops r K ⟨(d, .agg vs.toArray) :: e, ds⟩ Γ) (hd : Nat.ble (d + 1) n = true := by rfl) :
    L w0 S0 P ρ n ops (⟨some d, .load t x, ty, ps, af, none⟩ :: r) K ⟨e, ds⟩ Γ :=
  L.ldag hs hx (seg_get hv).1 (fun w hw j u hj => by rw [add_pl]; exact (cell_of (hb.on hw.holds) (o + j)).trans ((seg_get hv).2 j u hj)) h hd
/-- a block turned -/
theorem Sep.turn {w w' : World} {c' : List Value} (hw : Sep w0 S0 w Γ) (hb : Bk b Γ c t' Δ) (h1 : w'.heap[b]? = some (.cells c'.toArray t' (0, 0))) (hk : Keep (· = b) w w') : Sep w0 S0 w' (blk b c' t' :: Δ) := by
  have h2 := hw.perm hb.perm
  refine Sep.frame (Γ := [blk b c t']) (Γ' := [blk b c' t']) (Δ := Δ) h2 ⟨hk.mono fun i _ hi => ⟨blk b c t', by simp, hi⟩, ⟨fun c hc => ?_, by simp⟩, fun i hi _ => ?_⟩
  · simp at hc; subst hc; exact h1
  · obtain ⟨q, hq, hqi⟩ := hi; simp at hq; subst hq; exact ⟨blk b c t', List.mem_singleton.2 rfl, hqi⟩
class SetL (c : List Value) (o : Nat) (v : Value) (c' : outParam (List Value)) : Prop where
  lt : o < c.length
  eq : c' = c.set o v
instance SetL.zero {a v : Value} {c : List Value} : SetL (a :: c) 0 v (v :: c) := ⟨by simp, rfl⟩
instance SetL.succ {a v : Value} {c c' : List Value} {o : Nat} [h : SetL c o v c'] : SetL (a :: c) (o + 1) v (a :: c') := ⟨by simp [h.lt], by simp [h.eq]⟩
theorem L.stg {c' : List Value} (hs : Sc P t) (hx : look e x = some (.pointer (some ⟨b, o, none⟩))) (hy : look e y = some v) (hv : v.oneCell' = true) [hb : Bk b Γ c t' Δ] (ho : o < c.length) (h : L w0 S0 P ρ n ops r K ⟨e, ds⟩ (blk b (c.set o v) t' :: Δ)) :
    L w0 S0 P ρ n ops (⟨none, .store t x y, ty, ps, af, none⟩ :: r) K ⟨e, ds⟩ Γ :=
  L.skp _ (fun _ h => by cases h) (fun ev w he hw => by
    have hh := hb.on hw.holds
    have hc : w.cell? ⟨b, o, none⟩ = some c[o] := by rw [cell_of hh, List.getElem?_eq_getElem ho]
    refine ⟨_, by simp [execOp, he x _ hx, he y _ hy, Instr.storeAt, Instr.sureAddr, run_st hs hv hc (frozen_of hh o), Sem.run], hw.turn hb ?_ (Keep.setCell w ⟨b, o, none⟩ v)⟩
    simp only [World.setCell, Array.getElem?_modify, if_true, hh, Option.map_some]
    simp) h
theorem L.st {c' : List Value} (hs : Sc P t) (hx : look e x = some (.pointer (some ⟨b, o, none⟩))) (hy : look e y = some v) (hv : v.oneCell' = true) [hb : Bk b Γ c t' Δ] [hc : SetL c o v c'] (h : L w0 S0 P ρ n ops r K ⟨e, ds⟩ (blk b c' t' :: Δ)) :
    L w0 S0 P ρ n ops (⟨none, .store t x y, ty, ps, af, none⟩ :: r) K ⟨e, ds⟩ Γ := L.stg (c' := c') hs hx hy hv (hb := hb) hc.lt (by rw [← hc.eq]; exact h)
theorem all_one {vs : List Value} (h : vs.all (·.oneCell') = true) : ∀ v ∈ vs, v.oneCell' = true := fun v hv => List.all_eq_true.1 h v hv
/-- several cells from o on put in -/
def putL : List Value → Nat → List Value → Option (List Value)
  | c, 0, [] => some c
  | _ :: c, 0, v :: vs => match putL c 0 vs with | some r => some (v :: r) | none => none
  | a :: c, o + 1, vs => match putL c o vs with | some r => some (a :: r) | none => none
  | [], _, _ => none
theorem putL_eq : ∀ {c : List Value} {o : Nat} {vs c' : List Value}, putL c o vs = some c' → o + vs.length ≤ c.length ∧ c' = c.take o ++ vs ++ c.drop (o + vs.length)
  | c, 0, [], c', h => by cases c <;> (simp [putL] at h; subst h; simp)
  | a :: c, 0, v :: vs, c', h => by
    simp only [putL] at h
    cases hs : putL c 0 vs with
    | none => rw [hs] at h; cases h
    | some r => rw [hs] at h; simp at h; subst h; obtain ⟨h1, h2⟩ := putL_eq hs; exact ⟨by simp at *; omega, by simp [h2]⟩
  | a :: c, o + 1, vs, c', h => by
    simp only [putL] at h
    cases hs : putL c o vs with
    | none => rw [hs] at h; cases h
    | some r =>
      rw [hs] at h; simp at h; subst h; obtain ⟨h1, h2⟩ := putL_eq hs
      exact ⟨by simp at *; omega, by rw [h2, show o + 1 + vs.length = o + vs.length + 1 from by omega]; simp⟩
  | [], 0, v :: vs, c', h => by simp [putL] at h
  | [], o + 1, vs, c', h => by cases vs <;> simp [putL] at h
theorem L.sta {c' vs : List Value} {k : Nat} (hs : Ag P t k) (hx : look e x = some (.pointer (some ⟨b, o, none⟩))) (hy : look e y = some (.agg vs.toArray)) (hv : vs.all (·.oneCell') = true) (hk : vs.length = k) [hb : Bk b Γ c t' Δ] (hp : putL c o vs = some c') (h : L w0 S0 P ρ n ops r K ⟨e, ds⟩ (blk b c' t' :: Δ)) :
    L w0 S0 P ρ n ops (⟨none, .store t x y, ty, ps, af, none⟩ :: r) K ⟨e, ds⟩ Γ :=
  L.skp _ (fun _ h => by cases h) (fun ev w he hw => by
    have hh := hb.on hw.holds
    obtain ⟨d', hu, hd', hz⟩ := hs
    obtain ⟨h1, h2⟩ := putL_eq hp
    obtain ⟨w', hr, hb', hk'⟩ := run_stores (P := P) b t' vs o 0 c w hh (by omega) (all_one hv)
    refine ⟨w', ?_, hw.turn hb (by rw [hb']; simp [h2]) hk'⟩
    subst hk
    have hcs : (Value.agg vs.toArray).cells = vs.toArray := rfl
    simp [execOp, he x _ hx, he y _ hy, Instr.storeAt, Instr.sureAddr, storeVar, hcs, run_size hz, hr, Sem.run]) h
theorem Sep.new {w : World} (hw : Sep w0 S0 w Γ) (cs : List Value) (t : TypeId) : Sep w0 S0 (w.alloc (.cells cs.toArray t (0, 0))) (blk w.heap.size cs t :: Γ) := by
  refine Sep.frame (Γ := []) (Γ' := [blk w.heap.size cs t]) (Δ := Γ) hw ⟨Keep.alloc _ _ _, ⟨fun c hc => ?_, by simp⟩, fun i hi hlt => ?_⟩
  · simp at hc; subst hc; show (w.heap.push _)[w.heap.size]? = _; simp
  · obtain ⟨q, hq, hqi⟩ := hi; simp at hq; subst hq; exact absurd hqi (by show ¬ i = w.heap.size; omega)
theorem run_new {w : World} (cs : Array Value) (t : TypeId) : (newRow t cs).run P w = .ok ⟨w.heap.size, 0, none⟩ (w.alloc (.cells cs t (0, 0))) := by
  simp [newRow, newObj, Sem.run]
theorem L.al {zs : List Value} {zv : Value} (hz : Zr P t zv) (hc : zv.cells = zs.toArray) (h : ∀ b, L w0 S0 P ρ n ops r K ⟨(d, .pointer (some ⟨b, 0, none⟩)) :: e, ds⟩ (blk b zs t :: Γ)) (hd : Nat.ble (d + 1) n = true := by rfl) :
    L w0 S0 P ρ n ops (⟨some d, .alloc t, ty, ps, af, none⟩ :: r) K ⟨e, ds⟩ Γ :=
  L.step (fun v' Γ' => ∃ b, v' = .pointer (some ⟨b, 0, none⟩) ∧ Γ' = blk b zs t :: Γ) (fun _ h => by cases h) (fun ev w he hw =>
    ⟨_, _, _, by simp only [execOp, Instr.alloc, newVar, hc, Sem.run_bind, run_zero hz, Result.andThen, run_new]; rfl, hw.new zs t, _, rfl, rfl⟩)
    (fun v' Γ' ⟨b, h1, h2⟩ => by rw [h1, h2]; exact h b) hd
theorem L.bx (hx : look e x = some v) (hv : v.oneCell' = true) (h : ∀ b, L w0 S0 P ρ n ops r K ⟨(d, .pointer (some ⟨b, 0, none⟩)) :: e, ds⟩ (blk b [v] t :: Γ)) (hd : Nat.ble (d + 1) n = true := by rfl) :
    L w0 S0 P ρ n ops (⟨some d, .box t x, ty, ps, af, none⟩ :: r) K ⟨e, ds⟩ Γ :=
  L.step (fun v' Γ' => ∃ b, v' = .pointer (some ⟨b, 0, none⟩) ∧ Γ' = blk b [v] t :: Γ) (fun _ h => by cases h) (fun ev w he hw =>
    ⟨_, _, _, by simp only [execOp, Instr.box, newVar, he x _ hx, cells_one hv, Sem.run_bind, Result.andThen, run_new]; rfl, hw.new [v] t, _, rfl, rfl⟩)
    (fun v' Γ' ⟨b, h1, h2⟩ => by rw [h1, h2]; exact h b) hd
theorem L.bxa {vs : List Value} (hx : look e x = some (.agg vs.toArray)) (h : ∀ b, L w0 S0 P ρ n ops r K ⟨(d, .pointer (some ⟨b, 0, none⟩)) :: e, ds⟩ (blk b vs t :: Γ)) (hd : Nat.ble (d + 1) n = true := by rfl) :
    L w0 S0 P ρ n ops (⟨some d, .box t x, ty, ps, af, none⟩ :: r) K ⟨e, ds⟩ Γ :=
  L.step (fun v' Γ' => ∃ b, v' = .pointer (some ⟨b, 0, none⟩) ∧ Γ' = blk b vs t :: Γ) (fun _ h => by cases h) (fun ev w he hw =>
    ⟨_, _, _, by simp only [execOp, Instr.box, newVar, he x _ hx, show (Value.agg vs.toArray).cells = vs.toArray from rfl, Sem.run_bind, Result.andThen, run_new]; rfl, hw.new vs t, _, rfl, rfl⟩)
    (fun v' Γ' ⟨b, h1, h2⟩ => by rw [h1, h2]; exact h b) hd
theorem Y.fa {i off : Nat} (hf : Fld P t i off) (hx : look e x = some (.pointer (some ⟨b, o, none⟩))) : Yl w0 S0 P Γ e ⟨some d, .fieldAddr t x i, ty, ps, af, none⟩ (.pointer (some ⟨b, o + off, none⟩)) :=
  fun ev w he hw => by
    obtain ⟨fs, f, hu, hf, rfl, k, hk, hk0⟩ := hf
    simp [execOp, he x _ hx, Instr.fieldAt, run_underlying hu, hf, Instr.sureAddr, fieldPlace, run_size hk, hk0, Addr.add, Sem.run]
theorem L.fa {i off : Nat} (hf : Fld P t i off) (hx : look e x = some (.pointer (some ⟨b, o, none⟩))) (h : L w0 S0 P ρ n ops r K ⟨(d, .pointer (some ⟨b, o + off, none⟩)) :: e, ds⟩ Γ) (hd : Nat.ble (d + 1) n = true := by rfl) :
    L w0 S0 P ρ n ops (⟨some d, .fieldAddr t x i, ty, ps, af, none⟩ :: r) K ⟨e, ds⟩ Γ :=
  L.val (fun _ h => by cases h) (Y.fa hf hx) h hd
theorem L.fa0 {i off : Nat} (hf : Fld P t i off) (hx : look e x = some (.pointer (some ⟨b, 0, none⟩))) (h : L w0 S0 P ρ n ops r K ⟨(d, .pointer (some ⟨b, off, none⟩)) :: e, ds⟩ Γ) (hd : Nat.ble (d + 1) n = true := by rfl) :
    L w0 S0 P ρ n ops (⟨some d, .fieldAddr t x i, ty, ps, af, none⟩ :: r) K ⟨e, ds⟩ Γ :=
  L.fa hf hx (by rw [Nat.zero_add]; exact h) hd
end
end Go.X
namespace Go.X
open Go Go.RowKit
def Goes (P : Program) (f : FuncId) : Prop := ∀ args w, (callFunc f args).run P w = .ok (.enter f args) w
def Post (w : World) (Γ : List Ch) (R : Value → List Ch → Prop) : Ending → World → Prop := fun e w' => ∃ v Γ', e = .returned v ∧ R v Γ' ∧ Sep w (fps Γ) w' Γ'
/-- a call that gives v and lays new blocks alone -/
def Pur (P : Program) (f : FuncId) (args : List Value) (v : Value) (w : World) : Prop := Calls P f args.toArray w fun e w' => e = .returned v ∧ Keep (fun _ => False) w w'
def lookAll (e : Env) : List Operand → Option (List Value)
  | [] => some []
  | x :: xs => match look e x, lookAll e xs with
    | some v, some vs => some (v :: vs)
    | _, _ => none
theorem lookAll_eq {e : Env} {ev : Operand → Value} (he : Knows e ev) : ∀ {xs : List Operand} {vs : List Value}, lookAll e xs = some vs → xs.map ev = vs
  | [], vs, h => by simp [lookAll] at h; subst h; rfl
  | x :: xs, vs, h => by
    simp only [lookAll] at h
    cases h1 : look e x <;> cases h2 : lookAll e xs <;> rw [h1, h2] at h <;> simp at h
    subst h
    simp [he _ _ h1, lookAll_eq he h2]
/-- what a function value does when it is called: a function with what it has captured; a loop's round -/
def CallV (P : Program) (fv : Value) (args : List Value) (w : World) (R : Ending → World → Prop) : Prop :=
  (∃ g cap, fv = .func (.func g) #[] cap ∧ Goes P g ∧ Calls P g (args.toArray ++ cap) w R) ∨
  (∃ l f tmps assign body, fv = .func (.yield l) #[] #[] ∧ (Instr.yield l args.toArray).run P w = .ok (.round l f tmps assign body) w ∧ RoundIn (Fc none) 0 P l f tmps assign body w R)
section
variable {w0 : World} {S0 : Nat → Prop} {P : Program} {ρ : Option Nat} {n : Nat} {ops : Array Oper} {r : List Oper} {K : St → List Ch → Prop} {e : Env} {ds : List Deferred} {Γ Γf Γr : List Ch}
  {d : Nat} {ty : TypeId} {ps : String} {af : Array Edge} {x y z : Operand} {args : Array Operand} {ats : Array TypeId} {vs : List Value}
theorem callsFc {f : FuncId} {as : Array Value} {w : World} {R : Ending → World → Prop} (h : Calls P f as w R) : CallsIn (Fc ρ) 0 P f as w R := by
  have := (callsIn_wide (n := 0)).2 h
  exact this
theorem L.callV {fv : Value} {R : Value → List Ch → Prop} (hx : look e x = some fv) (ha : lookAll e args.toList = some vs) (hp : Γ.Perm (Γf ++ Γr))
    (hc : ∀ w, Sep w0 S0 w Γ → Holds w Γf → CallV P fv vs w (Post w Γf R)) (h : ∀ v Γ', R v Γ' → L w0 S0 P ρ n ops r K ⟨(d, v) :: e, ds⟩ (Γ' ++ Γr)) (hd : Nat.ble (d + 1) n = true := by rfl) :
    L w0 S0 P ρ n ops (⟨some d, .call { callee := .value x, args := args, argTypes := ats }, ty, ps, af, none⟩ :: r) K ⟨e, ds⟩ Γ := by
  intro w hw a haa
  have hw2 := hw.perm hp
  have he : Knows e a.eval := fun x v hx => haa.look hx
  have hargs : args.map a.eval = vs.toArray := by
    apply Array.ext'
    simpa using lookAll_eq he ha
  have hfin : ∀ v w', Post w Γf R (.returned v) w' → wpOpsL P ρ ops (OnlyNormal (fun s w => ∃ Γ, Sep w0 S0 w Γ ∧ K s Γ) n) r (a.put (some d) v) w' := by
    intro v w' hpost
    obtain ⟨v', Γ', hv, hR, hs⟩ := hpost
    cases hv
    exact h _ _ hR w' (hw2.frame hs) _ (haa.put (Nat.le_of_ble_eq_true hd) _)
  show (if Region.wanted _ _ = true then _ else _)
  rw [if_pos (by rfl)]
  refine ⟨fun _ _ => trivial, ?_⟩
  rw [Oper.semAt_eq _ _ _ (fun _ h => by cases h)]
  rcases hc w hw hw2.holds.left with ⟨g, cap, rfl, hg, hcall⟩ | ⟨l, f, tmps, assign, body, rfl, hy, hround⟩
  · have hrun : (execOp a.eval ⟨some d, .call { callee := .value x, args := args, argTypes := ats }, ty, ps, af, none⟩).run P w = .ok (.enter g (vs.toArray ++ cap)) w := by
      simp only [execOp, resolve, he x _ hx, Deferred.ofValue, hargs, Sem.run_bind, Sem.run_pure, Result.andThen, invoke, Array.empty_append]
      exact hg _ _
    rw [hrun]
    refine ⟨(fun h => by cases h), ?_⟩
    refine callsFc (Calls.mono hcall ?_)
    rintro e' w' hpost
    obtain ⟨v', Γ', rfl, hR, hs⟩ := hpost
    exact hfin v' w' ⟨v', Γ', rfl, hR, hs⟩
  · have hrun : (execOp a.eval ⟨some d, .call { callee := .value x, args := args, argTypes := ats }, ty, ps, af, none⟩).run P w = .ok (.round l f tmps assign body) w := by
      simp only [execOp, resolve, he x _ hx, Deferred.ofValue, hargs, Sem.run_bind, Sem.run_pure, Result.andThen, invoke, Array.empty_append]
      exact hy
    rw [hrun]
    refine ⟨(fun h => by cases h), ?_⟩
    refine RoundIn.mono (F := Fc none) hround ?_
    rintro e' w' hpost
    obtain ⟨v', Γ', rfl, hR, hs⟩ := hpost
    exact hfin v' w' ⟨v', Γ', rfl, hR, hs⟩
theorem L.call {f : FuncId} {R : Value → List Ch → Prop} (hg : Goes P f) (ha : lookAll e args.toList = some vs) (hp : Γ.Perm (Γf ++ Γr))
    (hc : ∀ w, Sep w0 S0 w Γ → Holds w Γf → Calls P f vs.toArray w (Post w Γf R)) (h : ∀ v Γ', R v Γ' → L w0 S0 P ρ n ops r K ⟨(d, v) :: e, ds⟩ (Γ' ++ Γr)) (hd : Nat.ble (d + 1) n = true := by rfl) :
    L w0 S0 P ρ n ops (⟨some d, .call { callee := .value (.func f), args := args, argTypes := ats }, ty, ps, af, none⟩ :: r) K ⟨e, ds⟩ Γ :=
  L.callV (fv := .func (.func f) #[] #[]) rfl ha hp (fun w hw hf => .inl ⟨f, #[], rfl, hg, by simpa using hc w hw hf⟩) h hd
theorem L.callP {f : FuncId} {v : Value} (hg : Goes P f) (ha : lookAll e args.toList = some vs)
    (hc : ∀ w, Sep w0 S0 w Γ → Pur P f vs v w) (h : L w0 S0 P ρ n ops r K ⟨(d, v) :: e, ds⟩ Γ) (hd : Nat.ble (d + 1) n = true := by rfl) :
    L w0 S0 P ρ n ops (⟨some d, .call { callee := .value (.func f), args := args, argTypes := ats }, ty, ps, af, none⟩ :: r) K ⟨e, ds⟩ Γ :=
  L.call (Γf := []) (Γr := Γ) (R := fun v' Γ' => v' = v ∧ Γ' = []) hg ha (.refl _) (fun w hw hf => Calls.mono (hc w hw) fun e' w' ⟨h1, h2⟩ =>
    ⟨v, [], h1, ⟨rfl, rfl⟩, h2.mono (fun _ _ h => h.elim), Holds.nil _, fun b hb => by obtain ⟨c, hc, _⟩ := hb; simp at hc⟩) (fun v' Γ' hh => by rw [hh.1, hh.2]; exact h) hd
end
/-! ## a function from its body -/
def ob (b : Nat) (o : Obj) : Ch where
  fp := (· = b)
  on w := w.heap[b]? = some o
  stab w w' h hb := (hb b rfl).trans h
  lt w i h hi := by subst hi; exact (Array.getElem?_eq_some_iff.1 h).1
def ResOk (P : Program) (Γ : List Ch) (e : Env) : ResultVar → Value → Prop
  | .tmp t, v => get? e t = some v
  | .cell a t, v => ∃ b c t', get? e a = some (.pointer (some ⟨b, 0, none⟩)) ∧ blk b c t' ∈ Γ ∧ ((Sc P t ∧ c[0]? = some v) ∨ (∃ k vs, Ag P t k ∧ seg c 0 k = some vs ∧ v = .agg vs.toArray))
def ResAll (P : Program) (Γ : List Ch) (e : Env) : List ResultVar → List Value → Prop
  | [], [] => True
  | x :: xs, v :: vs => ResOk P Γ e x v ∧ ResAll P Γ e xs vs
  | _, _ => False
def mkRes : List Value → Value
  | [v] => v
  | vs => .tuple vs.toArray
/-- the marks of loops over functions -/
def Marks : List Deferred → List Ch → Prop
  | [], Γ => Γ = []
  | d :: ds, Γ => ∃ D Γ', d = { target := .collected D, args := #[] } ∧ Γ = ob D (.deferred (some [])) :: Γ' ∧ Marks ds Γ'
def FnPost (P : Program) (fn : Func) (R : Value → List Ch → Prop) : Exit → St → List Ch → Prop
  | .normal, s, Γ | .ret, s, Γ => ∃ vs Γm Γ', Γ.Perm (Γm ++ Γ') ∧ Marks s.ds Γm ∧ ResAll P Γ' s.e fn.results.toList vs ∧ R (mkRes vs) Γ'
  | _, _, _ => False
def argE : Nat → List Value → Env
  | _, [] => []
  | i, v :: vs => (i, v) :: argE (i + 1) vs
theorem argE_get : ∀ {i : Nat} {vs : List Value} {j : Nat} {v : Value}, get? (argE i vs) j = some v → i ≤ j ∧ vs[j - i]? = some v
  | i, [], j, v, h => by simp [argE, get?] at h
  | i, u :: vs, j, v, h => by
    simp only [argE, get?] at h
    cases hb : Nat.beq j i with
    | true => rw [hb] at h; simp at h; subst h; have := Nat.eq_of_beq_eq_true hb; subst this; simp
    | false =>
      rw [hb] at h
      obtain ⟨h1, h2⟩ := argE_get (i := i + 1) h
      exact ⟨by omega, by rw [show j - i = j - (i + 1) + 1 from by omega]; simpa using h2⟩
theorem agr_args (n : Nat) (vs : List Value) (h : vs.length ≤ n) : Agr n ⟨argE 0 vs, []⟩ { tmps := vs.toArray ++ Array.replicate (n - vs.toArray.size) undef, defers := [] } := by
  refine ⟨by simp; omega, rfl, fun i v hi => ?_⟩
  obtain ⟨_, h2⟩ := argE_get hi
  simp only [Nat.sub_zero] at h2
  have hlt := (List.getElem?_eq_some_iff.1 h2).1
  simp [Array.getD_eq_getD_getElem?, Array.getElem?_append, hlt]
  have := List.getElem?_eq_getElem hlt
  rw [h2] at this; exact (Option.some.inj this).symm
theorem run_resOk {P : Program} {Γ : List Ch} {s : St} {x : ResultVar} {v : Value} {n : Nat} {a : Act} {w : World} (ha : Agr n s a) (hw : Holds w Γ) (h : ResOk P Γ s.e x v) :
    (match x with | .tmp t => (pure (a.tmps.getD t undef) : Sem Value) | .cell b t => do loadVar t (← asAddr (a.tmps.getD b undef))).run P w = .ok v w := by
  cases x with
  | tmp t => simp [ha.get t v h, Sem.run]
  | cell b t =>
    obtain ⟨b', c, t', hg, hm, h⟩ := h
    have hh : w.heap[b']? = some (.cells c.toArray t' (0, 0)) := hw.on _ hm
    simp only [ha.get b _ hg, asAddr, Sem.run_bind, Sem.run_pure, Result.andThen]
    rcases h with ⟨hs, hv⟩ | ⟨k, vs, hs, hv, rfl⟩
    · exact run_ld hs (by rw [cell_of hh]; exact hv)
    · refine run_lda hs (seg_get hv).1 fun j u hj => ?_
      rw [add_pl, cell_of hh]
      exact (seg_get hv).2 j u hj
def resRun (tmps : Array Value) : ResultVar → Sem Value
  | .tmp t => pure (tmps.getD t undef)
  | .cell a t => do loadVar t (← asAddr (tmps.getD a undef))
theorem results_eq (fn : Func) (tmps : Array Value) : results fn tmps = (do
    let vs ← fn.results.mapM (resRun tmps)
    pure (if h : vs.size = 1 then vs[0] else .tuple vs)) := by
  unfold results
  congr 1
theorem run_mapM_res {P : Program} {Γ : List Ch} {s : St} {n : Nat} {a : Act} {w : World} (ha : Agr n s a) (hw : Holds w Γ) : ∀ (xs : List ResultVar) (vs : List Value), ResAll P Γ s.e xs vs →
    (xs.mapM (resRun a.tmps)).run P w = .ok vs w
  | [], [], _ => by simp [Sem.run]
  | [], _ :: _, h => h.elim
  | _ :: _, [], h => h.elim
  | x :: xs, v :: vs, h => by
    have h1 : (resRun a.tmps x).run P w = .ok v w := by
      have := run_resOk ha hw h.1
      cases x <;> exact this
    simp only [List.mapM_cons, Sem.run_bind, h1, Result.andThen, run_mapM_res ha hw xs vs h.2, Sem.run_pure]
theorem run_results {P : Program} {Γ : List Ch} {s : St} {n : Nat} {a : Act} {w : World} (ha : Agr n s a) (hw : Holds w Γ) {fn : Func} {vs : List Value} (h : ResAll P Γ s.e fn.results.toList vs) : (results fn a.tmps).run P w = .ok (mkRes vs) w := by
  have key := run_mapM_res ha hw fn.results.toList vs h
  have h2 : (fn.results.mapM (resRun a.tmps)).run P w = .ok vs.toArray w := by
    rw [Array.mapM_eq_mapM_toList]
    have : (List.toArray <$> fn.results.toList.mapM (resRun a.tmps)) = (fn.results.toList.mapM (resRun a.tmps)) >>= fun l => pure l.toArray := by
      rw [bind_pure_comp]
    rw [this]
    simp only [Sem.run_bind, key, Result.andThen, Sem.run_pure]
  rw [results_eq]
  simp only [Sem.run_bind, h2, Result.andThen, Sem.run_pure]
  congr 1
  match vs with
  | [] => rfl
  | [v] => rfl
  | _ :: _ :: _ => simp [mkRes]
theorem leavesM {P : Program} {n : Nat} {fn : Func} {R : Value → List Ch → Prop} {w0 : World} {Γ0 : List Ch} : ∀ (ds : List Deferred) (s : St) (a : Act) (w : World) (Γ Γm Γ' : List Ch) (vs : List Value),
    Agr n s a → Sep w0 (fps Γ0) w Γ → Γ.Perm (Γm ++ Γ') → Marks ds Γm → ResAll P Γ' s.e fn.results.toList vs → R (mkRes vs) Γ' → LeavesInM (Fc none) 0 P fn a.tmps (Post w0 Γ0 R) ds .returning w
  | [], s, a, w, Γ, Γm, Γ', vs, ha, hw, hp, hm, hr, hR => by
    have h2 := hw.perm hp
    simp only [Marks] at hm
    subst hm
    exact ⟨_, run_results ha (by simpa using h2.holds) hr, _, _, rfl, hR, by simpa using h2⟩
  | d :: ds, s, a, w, Γ, Γm, Γ', vs, ha, hw, hp, hm, hr, hR => by
    obtain ⟨D, Γm', rfl, rfl, hm'⟩ := hm
    have h2 := hw.perm hp
    have hD : w.heap[D]? = some (.deferred (some [])) := h2.holds.on (ob D (.deferred (some []))) (by simp)
    refine ⟨by simp, .inl ⟨D, _, rfl, run_takeDeferred hD, ?_⟩⟩
    refine leavesM ds s a _ (Γm' ++ Γ') Γm' Γ' vs ha ?_ (.refl _) hm' hr hR
    have := Sep.frame (Γ := [ob D (.deferred (some []))]) (Γ' := []) (Δ := Γm' ++ Γ') (w' := w.putObj D (.deferred none)) h2 ⟨⟨rfl, rfl, rfl, by simp [World.putObj], fun b _ hb => ?_⟩, Holds.nil _, fun b hb => by obtain ⟨c, hc, _⟩ := hb; simp at hc⟩
    · simpa using this
    · exact World.putObj_heap_other (fun e => hb ⟨ob D (.deferred (some [])), List.mem_singleton.2 rfl, e⟩)
theorem spec_of {P : Program} {f : FuncId} {fn : Func} {c : Code} {n : Nat} {vs : List Value} {R : Value → List Ch → Prop} {w : World} {Γ : List Ch} (hf : P.funcs[f]? = some fn) (hb : fn.body = some c) (hn : fn.ntmps = n) (hl : Nat.ble vs.length n = true)
    (hw : Holds w Γ) (h : C w (fps Γ) P none n c (FnPost P fn R) ⟨argE 0 vs, []⟩ Γ) : Calls P f vs.toArray w (Post w Γ R) := by
  refine (callsIn_wide (n := 0)).1 ?_
  refine callsIn_of_wp_marks hf hb trivial ?_
  subst hn
  have h1 := h w hw.sep _ (agr_args fn.ntmps vs (Nat.le_of_ble_eq_true hl))
  refine wpIn_mono h1 ?_
  rintro e a w' ⟨s, hs, Γ', hsep, hq⟩
  cases e <;> first | exact hq.elim | skip
  all_goals
    obtain ⟨rs, Γm, Γ1, hp, hm, hr, hR⟩ := hq
    show LeavesInM _ _ _ _ _ _ a.defers _ _
    rw [hs.ds]
    exact leavesM s.ds s a w' Γ' Γm Γ1 rs hs hsep hp hm hr hR
/-! ## tests -/
def Inc (e e' : Env) : Prop := ∀ i v, get? e i = some v → get? e' i = some v
theorem Inc.refl (e : Env) : Inc e e := fun _ _ h => h
theorem Inc.cons {e e' : Env} {d : Nat} {v : Value} (hd : get? e d = none) (h : Inc e e') : Inc e ((d, v) :: e') := fun i u hi => by
  simp only [get?]
  cases hb : Nat.beq i d with
  | true => have := Nat.eq_of_beq_eq_true hb; subst this; rw [hd] at hi; cases hi
  | false => exact h i u hi
theorem Agr.inc {n : Nat} {r e : Env} {ds : List Deferred} {a : Act} (h : Agr n ⟨e, ds⟩ a) (hs : Inc r e) : Agr n ⟨r, ds⟩ a :=
  ⟨h.size, h.ds, fun i v hi => h.get i v (hs i v hi)⟩
theorem Inc.cons' {e : Env} {i : Nat} {u v : Value} (h : get? e i = some u) (huv : u = v) : Inc ((i, v) :: e) e := by
  subst huv
  intro j w hj
  simp only [get?] at hj
  cases hb : Nat.beq j i with
  | true => rw [hb] at hj; have := Nat.eq_of_beq_eq_true hb; subst this; simp at hj; subst hj; exact h
  | false => rw [hb] at hj; exact hj
theorem wpOpsL_mono {P : Program} {ρ : Option Nat} {ops : Array Oper} {Q Q' : Exit → Act → World → Prop} (h : ∀ e a w, Q e a w → Q' e a w) : ∀ (l : List Oper) (a : Act) (w : World), wpOpsL P ρ ops Q l a w → wpOpsL P ρ ops Q' l a w
  | [], a, w, hh => h _ _ _ hh
  | o :: l, a, w, hh => by
    simp only [wpOpsL] at hh ⊢
    by_cases hw' : Region.wanted o (yielded ops a.tmps) = true
    · rw [if_pos hw'] at hh ⊢
      refine ⟨fun _ _ => trivial, ?_⟩
      have h2 := hh.2
      revert h2
      generalize (o.semAt (Fc ρ).round a.eval).run P w = r
      intro h2
      have hl : LetsOut Q → LetsOut Q' := fun ⟨a, w, hq⟩ => ⟨a, w, h _ _ _ hq⟩
      cases r with
      | ok nx w' =>
        cases nx <;> simp only [Oper.uponIn] at h2 ⊢ <;> first
          | exact wpOpsL_mono h l _ _ h2
          | (refine ⟨h2.1, ?_⟩
             exact ⟨h2.2.1, fun cs hr => by
               obtain ⟨e, w'', fr, hR, hx⟩ := h2.2.2 cs hr
               exact ⟨e, w'', fr, by cases e <;> first | exact wpOpsL_mono h l _ _ hR | exact h _ _ _ hR | exact hl hR, hx⟩⟩)
          | (refine ⟨h2.1, RowsIn.mono h2.2 fun v w'' hR => wpOpsL_mono h l _ _ hR⟩)
          | (refine ⟨h2.1, RoundIn.mono h2.2 fun e w'' hR => by cases e <;> first | exact wpOpsL_mono h l _ _ hR | exact h _ _ _ hR | exact hl hR⟩)
          | exact h2
      | halt x w' => cases x <;> simp only [Oper.uponIn] at h2 ⊢ <;> first | exact h _ _ _ h2 | exact h2
    · rw [if_neg hw'] at hh ⊢
      exact wpOpsL_mono h l _ _ hh
theorem L.kmono {P : Program} {ρ : Option Nat} {n : Nat} {ops : Array Oper} {l : List Oper} {K K' : St → World → Prop} (h : ∀ s w, K s w → K' s w) {a : Act} {w : World} (hh : wpOpsL P ρ ops (OnlyNormal K n) l a w) : wpOpsL P ρ ops (OnlyNormal K' n) l a w :=
  wpOpsL_mono (fun e a w hq => by cases e <;> first | exact hq.elim | exact ⟨hq.choose, hq.choose_spec.1, h _ _ hq.choose_spec.2⟩) l a w hh
section
variable {w0 : World} {S0 : Nat → Prop} {P : Program} {ρ : Option Nat} {n : Nat} {Q : Exit → St → List Ch → Prop} {ops : Array Oper} {r : List Oper} {K : St → List Ch → Prop} {e e' : Env} {ds : List Deferred} {Γ Δ : List Ch}
  {d : Nat} {ty : TypeId} {ps : String} {af : Array Edge} {x y z : Operand} {u v : Value}
theorem L.inc (h : Inc e e') (k : L w0 S0 P ρ n ops r K ⟨e, ds⟩ Γ) : L w0 S0 P ρ n ops r K ⟨e', ds⟩ Γ := fun w hw a ha => k w hw a (ha.inc h)
theorem C.inc {c : Code} (h : Inc e e') (k : C w0 S0 P ρ n c Q ⟨e, ds⟩ Γ) : C w0 S0 P ρ n c Q ⟨e', ds⟩ Γ := fun w hw a ha => k w hw a (ha.inc h)
theorem Inc.same {i : Nat} {w : Value} (h : get? e i = some w) : Inc ((i, w) :: e) e := fun j u hj => by
  simp only [get?] at hj
  cases hb : Nat.beq j i with
  | true => rw [hb] at hj; have := Nat.eq_of_beq_eq_true hb; subst this; simp at hj; subst hj; exact h
  | false => rw [hb] at hj; exact hj
theorem L.gsplit {p : Prop} [Decidable p] {i : Nat} (hi : get? e i = some (.bool (decide p))) (h1 : p → L w0 S0 P ρ n ops r K ⟨(i, .bool true) :: e, ds⟩ Γ) (h2 : ¬p → L w0 S0 P ρ n ops r K ⟨(i, .bool false) :: e, ds⟩ Γ) :
    L w0 S0 P ρ n ops r K ⟨e, ds⟩ Γ := by
  by_cases hp : p
  · exact .inc (Inc.cons' hi (by rw [decide_eq_true hp])) (h1 hp)
  · exact .inc (Inc.cons' hi (by rw [decide_eq_false hp])) (h2 hp)
theorem L.pickT (hx : look e x = some (.bool true)) (hy : look e y = some u) (h : L w0 S0 P ρ n ops r K ⟨(d, u) :: e, ds⟩ Γ) (hd : Nat.ble (d + 1) n = true := by rfl) :
    L w0 S0 P ρ n ops (⟨some d, .pick x y z, ty, ps, af, none⟩ :: r) K ⟨e, ds⟩ Γ :=
  L.val (fun _ h => by cases h) (fun ev w he hw => by simp [execOp, he x _ hx, he y _ hy, Sem.run, asBool]) h hd
theorem L.pickF (hx : look e x = some (.bool false)) (hz : look e z = some u) (h : L w0 S0 P ρ n ops r K ⟨(d, u) :: e, ds⟩ Γ) (hd : Nat.ble (d + 1) n = true := by rfl) :
    L w0 S0 P ρ n ops (⟨some d, .pick x y z, ty, ps, af, none⟩ :: r) K ⟨e, ds⟩ Γ :=
  L.val (fun _ h => by cases h) (fun ev w he hw => by simp [execOp, he x _ hx, he z _ hz, Sem.run, asBool]) h hd
theorem C.condTt {c : Operand} {x y : Code} {s : St} (hc : look s.e c = some (.bool true)) (h : C w0 S0 P ρ n x Q s Γ) : C w0 S0 P ρ n (.cond c x y) Q s Γ := .cond hc (fun _ => h) (fun h => by cases h)
theorem C.condFf {c : Operand} {x y : Code} {s : St} (hc : look s.e c = some (.bool false)) (h : C w0 S0 P ρ n y Q s Γ) : C w0 S0 P ρ n (.cond c x y) Q s Γ := .cond hc (fun h => by cases h) (fun _ => h)
/-- a test that leaves all as it was -/
theorem C.test {id : Nat} {c : Operand} {x y : Code} (p : Prop) (h : L w0 S0 P ρ n ops ops.toList (fun s' Γ' => ∃ b, look s'.e c = some (.bool b) ∧ (b = true ↔ p) ∧ Inc e s'.e ∧ s'.ds = ds ∧ Γ' = Γ) ⟨e, ds⟩ Γ)
    (ht : p → C w0 S0 P ρ n x Q ⟨e, ds⟩ Γ) (hf : ¬p → C w0 S0 P ρ n y Q ⟨e, ds⟩ Γ) : C w0 S0 P ρ n (.seq (.region id ops false) (.cond c x y)) Q ⟨e, ds⟩ Γ := by
  refine .regS fun w hw a ha => ?_
  have := h w hw a ha
  refine L.kmono ?_ this
  rintro ⟨e', ds'⟩ w' ⟨Γ', hs, b, hb, hp, hi, hd, rfl⟩
  dsimp only at hi hd hb
  subst hd
  refine ⟨_, hs, .cond hb (fun h => .inc hi (ht (hp.1 h))) (fun h => .inc hi (hf (fun hh => ?_)))⟩
  rw [hp.2 hh] at h; cases h
end
/-! ## the ways out; the ends -/
section
variable {P : Program} {fn : Func} {Q : Exit → St → List Ch → Prop} {K : St → List Ch → Prop} {s : St} {Γ : List Ch} {i j : Nat} {R : Value → List Ch → Prop} {e : Env} {v v1 v2 v3 v4 : Value} {t t1 t2 t3 t4 : Nat}
theorem Then.n (h : K s Γ) : Then K Q .normal s Γ := h
theorem Then.x (h : Q (.exit i) s Γ) : Then K Q (.exit i) s Γ := h
theorem Then.r (h : Q .ret s Γ) : Then K Q .ret s Γ := h
theorem InBlo.n (h : Q .normal s Γ) : InBlo j Q .normal s Γ := h
theorem InBlo.x (h : Q .normal s Γ) : InBlo i Q (.exit i) s Γ := by dsimp only [InBlo]; rw [show Nat.beq i i = true from by simp]; exact h
theorem InBlo.o (hb : Nat.beq i j = false) (h : Q (.exit i) s Γ) : InBlo j Q (.exit i) s Γ := by dsimp only [InBlo]; rw [hb]; exact h
theorem InBlo.r (h : Q .ret s Γ) : InBlo j Q .ret s Γ := h
theorem FnPost.r0 (hr : fn.results = #[]) (hR : R (.tuple #[]) Γ) : FnPost P fn R .ret ⟨e, []⟩ Γ := ⟨[], [], Γ, .refl _, rfl, by rw [hr]; trivial, hR⟩
theorem FnPost.n0 (hr : fn.results = #[]) (hR : R (.tuple #[]) Γ) : FnPost P fn R .normal ⟨e, []⟩ Γ := ⟨[], [], Γ, .refl _, rfl, by rw [hr]; trivial, hR⟩
theorem FnPost.r1 (hr : fn.results = #[.tmp t]) (hv : get? e t = some v) (hR : R v Γ) : FnPost P fn R .ret ⟨e, []⟩ Γ := ⟨[v], [], Γ, .refl _, rfl, by rw [hr]; exact ⟨hv, trivial⟩, hR⟩
theorem FnPost.r2 (hr : fn.results = #[.tmp t1, .tmp t2]) (h1 : get? e t1 = some v1) (h2 : get? e t2 = some v2) (hR : R (.tuple #[v1, v2]) Γ) : FnPost P fn R .ret ⟨e, []⟩ Γ :=
  ⟨[v1, v2], [], Γ, .refl _, rfl, by rw [hr]; exact ⟨h1, h2, trivial⟩, hR⟩
theorem FnPost.r3 (hr : fn.results = #[.tmp t1, .tmp t2, .tmp t3]) (h1 : get? e t1 = some v1) (h2 : get? e t2 = some v2) (h3 : get? e t3 = some v3) (hR : R (.tuple #[v1, v2, v3]) Γ) : FnPost P fn R .ret ⟨e, []⟩ Γ :=
  ⟨[v1, v2, v3], [], Γ, .refl _, rfl, by rw [hr]; exact ⟨h1, h2, h3, trivial⟩, hR⟩
theorem FnPost.r4 (hr : fn.results = #[.tmp t1, .tmp t2, .tmp t3, .tmp t4]) (h1 : get? e t1 = some v1) (h2 : get? e t2 = some v2) (h3 : get? e t3 = some v3) (h4 : get? e t4 = some v4) (hR : R (.tuple #[v1, v2, v3, v4]) Γ) : FnPost P fn R .ret ⟨e, []⟩ Γ :=
  ⟨[v1, v2, v3, v4], [], Γ, .refl _, rfl, by rw [hr]; exact ⟨h1, h2, h3, h4, trivial⟩, hR⟩
theorem FnPost.rg {xs : List ResultVar} {vs : List Value} (hr : fn.results.toList = xs) (h : ResAll P Γ e xs vs) (hR : R (mkRes vs) Γ) : FnPost P fn R .ret ⟨e, []⟩ Γ := ⟨vs, [], Γ, .refl _, rfl, by rw [hr]; exact h, hR⟩
end
theorem pur_of {P : Program} {f : FuncId} {fn : Func} {c : Code} {n : Nat} {vs : List Value} {v : Value} {w : World} (hf : P.funcs[f]? = some fn) (hb : fn.body = some c) (hn : fn.ntmps = n) (hl : Nat.ble vs.length n = true)
    (h : C w (fps []) P none n c (FnPost P fn (fun v' _ => v' = v)) ⟨argE 0 vs, []⟩ []) : Pur P f vs v w := by
  have := spec_of (R := fun v' _ => v' = v) (Γ := []) hf hb hn hl (Holds.nil w) h
  refine Calls.mono this ?_
  rintro e w' ⟨v', Γ', rfl, rfl, hs⟩
  exact ⟨rfl, hs.keep.mono fun _ _ hh => by obtain ⟨c, hc, _⟩ := hh; simp at hc⟩
end Go.X
namespace Go.X
open Go Go.RowKit
/-! ## a region that draws its order -/
/-- operation j waits for all others, at once or through one of those that it waits for -/
def waitsAll (ops : Array Oper) (j : Nat) : Bool := (List.range ops.size).all fun i => i == j || ((ops[j]?).map (·.after.any fun e => Region.binds .any e && (e.on == i || ((ops[e.on]?).map (·.after.any fun e' => Region.binds .any e' && e'.on == i)).getD false))).getD false
/-- what is listed waits for nothing -/
def Cl (ops : Array Oper) (listed : Array Bool) : Prop := ∀ k o, ops[k]? = some o → listed.getD k false = true → ∀ e ∈ o.after, Region.binds .any e = true → listed.getD e.on false = true
def plainOps (ops : Array Oper) : Bool := ops.all fun o => match o.op with | .select .. => false | .defer _ => false | _ => true
theorem plain_sel {ops : Array Oper} (h : plainOps ops = true) {j : Nat} {o : Oper} (ho : ops[j]? = some o) : (∀ cs b, o.op ≠ .select cs b) ∧ (∀ c, o.op ≠ .defer c) := by
  have := Array.all_eq_true_iff_forall_mem.1 h o (Array.mem_of_getElem? ho)
  constructor
  · intro cs b he; simp [he] at this
  · intro c he; simp [he] at this
section
variable {P : Program} {ρ : Option Nat} {ops : Array Oper} {Q : Exit → Act → World → Prop} {S : World → Prop}
def AnyS (P : Program) (ρ : Option Nat) (ops : Array Oper) (Q : Exit → Act → World → Prop) (S : World → Prop) : Nat → Array Bool → Act → World → Prop
  | 0, listed, a, w => Region.ready .any ops listed = [] ∧ Q .normal a w
  | fuel + 1, listed, a, w => (Region.ready .any ops listed = [] → Q .normal a w) ∧
    ∀ i ∈ Region.ready .any ops listed, wpOpIn (Fc ρ) 0 P ops Q i (fun a' w' => (S w' ∧ AnyS P ρ ops Q S fuel (listed.setIfInBounds i true) a' w') ∨ (waitsAll ops i = true ∧ Region.ready .any ops (listed.setIfInBounds i true) = [] ∧ Q .normal a' w')) a w
theorem listed_no {listed : Array Bool} {j : Nat} (h1 : listed.getD j true = false) (h2 : listed.getD j false = true) : False := by
  rw [Array.getD_eq_getD_getElem?] at h1 h2
  cases hx : listed[j]? with
  | none => rw [hx] at h1; simp at h1
  | some b => rw [hx] at h1 h2; simp at h1 h2; rw [h1] at h2; cases h2
theorem cl_init : Cl ops (Array.replicate ops.size false) := fun k o _ h => by
  rw [Array.getD_eq_getD_getElem?, Array.getElem?_replicate] at h
  split at h <;> simp at h
theorem cl_set {listed : Array Bool} (h : Cl ops listed) {i : Nat} (hi : i ∈ Region.ready .any ops listed) : Cl ops (listed.setIfInBounds i true) := fun k o ho hk e he hb => by
  obtain ⟨_, oi, hoi, hall⟩ := mem_ready.1 hi
  by_cases hik : i = k
  · subst hik
    rw [hoi] at ho; injection ho with ho; subst ho
    exact getD_set_true (hall e he hb)
  · rw [getD_set_ne false hik] at hk
    exact getD_set_true (h k o ho hk e he hb)
theorem ready_waits {listed : Array Bool} {i : Nat} (hcl : Cl ops listed) (hi : i ∈ Region.ready .any ops listed) (hw : waitsAll ops i = true) : ∀ j, listed.getD j true = false → j ≠ i → j < ops.size → False := by
  intro j hj hne hlt
  obtain ⟨hu, o, ho, hall⟩ := mem_ready.1 hi
  have := List.all_eq_true.1 hw j (by simpa using hlt)
  simp only [ho, Option.map_some, Option.getD_some, Bool.or_eq_true, beq_iff_eq, hne, false_or] at this
  obtain ⟨k, hk, hb⟩ := Array.any_eq_true.1 this
  simp only [Bool.and_eq_true, Bool.or_eq_true, beq_iff_eq] at hb
  obtain ⟨hb, he | he⟩ := hb
  · have h2 := hall o.after[k] (by simp) hb
    rw [he] at h2
    exact listed_no hj h2
  · have h2 := hall o.after[k] (by simp) hb
    cases hok : ops[o.after[k].on]? with
    | none => rw [hok] at he; simp at he
    | some ok =>
      rw [hok] at he
      simp only [Option.map_some, Option.getD_some] at he
      obtain ⟨k', hk', hb'⟩ := Array.any_eq_true.1 he
      simp only [Bool.and_eq_true, beq_iff_eq] at hb'
      have h3 := hcl _ ok hok h2 ok.after[k'] (by simp) hb'.1
      rw [hb'.2] at h3
      exact listed_no hj h3
theorem ready_after {listed : Array Bool} {i : Nat} (hcl : Cl ops listed) (hi : i ∈ Region.ready .any ops listed) (hw : waitsAll ops i = true) : Region.ready .any ops (listed.setIfInBounds i true) = [] := by
  cases hr : Region.ready .any ops (listed.setIfInBounds i true) with
  | nil => rfl
  | cons j l =>
    have hj : j ∈ Region.ready .any ops (listed.setIfInBounds i true) := by rw [hr]; simp
    obtain ⟨hu, o, ho, _⟩ := mem_ready.1 hj
    by_cases hne : i = j
    · subst hne
      have h0 := (mem_ready.1 hi).1
      rw [Array.getD_eq_getD_getElem?] at hu h0
      cases hx : listed[i]? with
      | none => rw [hx] at h0; simp at h0
      | some b =>
        have hlt := (Array.getElem?_eq_some_iff.1 hx).1
        simp [hlt] at hu
    · rw [getD_set_ne true hne] at hu
      exact (ready_waits hcl hi hw j hu (Ne.symm hne) (Array.getElem?_eq_some_iff.1 ho).1).elim
theorem AnyS.any : ∀ (fuel : Nat) (listed : Array Bool) (a : Act) (w : World), AnyS P ρ ops Q S fuel listed a w → wpAnyIn (Fc ρ) 0 P .any ops Q fuel listed a w
  | 0, _, _, _, h => h
  | fuel + 1, listed, _, _, h => ⟨h.1, fun i hi => wpOpIn_mono (fun a' w' h' => by
      rcases h' with ⟨_, h'⟩ | ⟨hw, hra, hq⟩
      · exact AnyS.any fuel _ a' w' h'
      · cases fuel with
        | zero => exact ⟨hra, hq⟩
        | succ f => exact ⟨fun _ => hq, by rw [hra]; simp⟩) (h.2 i hi)⟩
/-- in every world that meets S the operation yields v and does nothing else -/
def YS (P : Program) (ops : Array Oper) (S : World → Prop) (o : Oper) (v : Value) (a : Act) : Prop :=
  (Region.wanted o (yielded ops a.tmps) = true ∧ ∀ w, S w → (execOp a.eval o).run P w = .ok (.value v) w) ∨ (Region.wanted o (yielded ops a.tmps) = false ∧ v = undef)
theorem YS.op {i : Nat} {o : Oper} {v : Value} {a : Act} (hi : ops[i]? = some o) (hnd : ∀ c, o.op ≠ .defer c) (hy : YS P ops S o v a) {K : Act → World → Prop} {w : World} (hS : S w) (h : K (a.put o.dst v) w) : wpOpIn (Fc ρ) 0 P ops Q i K a w := by
  unfold wpOpIn
  simp only [hi]
  rcases hy with ⟨hw, hv⟩ | ⟨hw, rfl⟩
  · simp only [hw, if_true]
    refine ⟨fun _ _ => trivial, ?_⟩
    rw [Oper.semAt_eq _ _ _ hnd, hv w hS]
    exact h
  · simp only [hw, Bool.false_eq_true, if_false]; exact ⟨fun _ _ => trivial, h⟩
theorem wpOpIn_put' {j : Nat} {oi oj : Oper} {v : Value} (hQ : ∀ e a w, e ≠ .normal → ¬ Q e a w) (hj : ops[j]? = some oj) (hap : oi.apart ops oj = true) (hp : plainOps ops = true) (hsi : ∀ cs b, oi.op ≠ .select cs b)
    {K : Act → World → Prop} {a : Act} {w : World} (hy : YS P ops S oi v a) (h : wpOpIn (Fc ρ) 0 P ops Q j K (a.put oi.dst v) w) :
    wpOpIn (Fc ρ) 0 P ops Q j (fun a' w' => YS P ops S oi v a' ∧ K (a'.put oi.dst v) w') a w := by
  obtain ⟨h1, h2, h3⟩ := Oper.apart_spec hap
  obtain ⟨hsj, hdj⟩ := plain_sel hp hj
  have keep : ∀ (a : Act), YS P ops S oi v a → ∀ u, YS P ops S oi v (a.put oj.dst u) := fun a hy u => by
    unfold YS at *
    rw [execOp_put (ops := ops) oi hsi a oj.dst u h3, wanted_put oi a oj.dst u h3]; exact hy
  unfold wpOpIn at *
  simp only [hj] at *
  rw [wanted_put oj a oi.dst v h1] at h
  split
  · rename_i hw
    simp only [hw, if_true] at h
    refine ⟨fun _ _ => trivial, ?_⟩
    have h := h.2
    rw [Oper.semAt_eq _ _ _ hdj, execOp_put (ops := ops) oj hsj a oi.dst v h1] at h
    rw [Oper.semAt_eq _ _ _ hdj]
    generalize hr : (execOp a.eval oj).run P w = r at *
    cases r with
    | ok n w' =>
      cases n <;> simp only [Oper.uponIn] at h ⊢
      case value u => exact ⟨keep a hy u, by rw [← Act.put_comm a v u h2]; exact h⟩
      case skip => exact ⟨keep a hy _, by rw [← Act.put_comm a v undef h2]; exact h⟩
      case defer d =>
        refine ⟨?_, by
          have := Act.put_comm { a with defers := d :: a.defers } v undef h2
          rw [← this, ← Act.put_defers]; exact h⟩
        have hk := keep a hy undef
        unfold YS at *
        have e1 : ({ a with defers := d :: a.defers } : Act).put oj.dst undef = { a.put oj.dst undef with defers := d :: (a.put oj.dst undef).defers } := (Act.put_defers a oj.dst undef d).symm
        rw [e1]
        exact hk
      case enter f args =>
        refine ⟨h.1, CallsIn.mono h.2 fun e w'' he => ?_⟩
        cases e with
        | returned u => exact ⟨keep a hy u, by rw [← Act.put_comm a v u h2]; exact he⟩
        | panicked c => exact (hQ _ _ _ (by simp) he).elim
        | outgrown => exact he
      case row row args => exact ⟨h.1, RowsIn.mono h.2 fun u w'' he => ⟨keep a hy u, by rw [← Act.put_comm a v u h2]; exact he⟩⟩
      case round l f tmps assign body =>
        refine ⟨h.1, RoundIn.mono h.2 fun e w'' he => ?_⟩
        cases e with
        | returned u => exact ⟨keep a hy u, by rw [← Act.put_comm a v u h2]; exact he⟩
        | panicked c => exact (hQ _ _ _ (by simp) he).elim
        | outgrown => exact he
    | halt x w' =>
      cases x <;> simp only [Oper.uponIn] at h ⊢
      case panic u => exact (hQ _ _ _ (by simp) h).elim
  · rename_i hw
    simp only [hw] at h
    exact ⟨fun _ _ => trivial, keep a hy _, by rw [← Act.put_comm a v undef h2]; exact h.2⟩
theorem AnyS.first {i : Nat} {oi : Oper} {v : Value} (hQ : ∀ e a w, e ≠ .normal → ¬ Q e a w) (hp : plainOps ops = true) (hi : ops[i]? = some oi) :
    ∀ (fuel : Nat) (listed : Array Bool) (a : Act) (w : World), Cl ops listed →
      (∀ j oj, ops[j]? = some oj → j ≠ i → listed.getD j true = false → (∀ e ∈ oj.after, Region.binds .any e = true → e.on ≠ i) → oi.apart ops oj = true) →
      i ∈ Region.ready .any ops listed → YS P ops S oi v a → S w →
      AnyS P ρ ops Q S fuel (listed.setIfInBounds i true) (a.put oi.dst v) w → AnyS P ρ ops Q S (fuel + 1) listed a w := by
  obtain ⟨hsi, hdi⟩ := plain_sel hp hi
  intro fuel
  induction fuel with
  | zero =>
    intro listed a w _ _ hr hy hS H
    refine ⟨fun h => (by rw [h] at hr; cases hr), fun j hj => ?_⟩
    by_cases hji : j = i
    · subst hji; exact hy.op hi hdi hS (.inl ⟨hS, H⟩)
    · have := ready_mono hj hji
      rw [H.1] at this
      cases this
  | succ fuel ih =>
    intro listed a w hcl hfree hr hy hS H
    refine ⟨fun h => (by rw [h] at hr; cases hr), fun j hj => ?_⟩
    by_cases hji : j = i
    · subst hji; exact hy.op hi hdi hS (.inl ⟨hS, H⟩)
    · have h1 := H.2 j (ready_mono hj hji)
      obtain ⟨hjun, oj, hoj, hall⟩ := mem_ready.1 hj
      have hnot : ∀ e ∈ oj.after, Region.binds .any e = true → e.on ≠ i := fun e he hb heq => by
        have h1 := hall e he hb
        have h0 := (mem_ready.1 hr).1
        rw [heq] at h1
        rw [Array.getD_eq_getD_getElem?] at h0 h1
        cases hx : listed[i]? with
        | none => rw [hx] at h1; simp at h1
        | some b => rw [hx] at h0 h1; simp at h0 h1; rw [h0] at h1; cases h1
      have hnw : ¬ waitsAll ops j = true := fun hw => ready_waits hcl hj hw i (mem_ready.1 hr).1 (Ne.symm hji) (Array.getElem?_eq_some_iff.1 hi).1
      have h2 := wpOpIn_put' hQ hoj (hfree j oj hoj hji hjun hnot) hp hsi hy h1
      have hfree' : ∀ k ok, ops[k]? = some ok → k ≠ i → (listed.setIfInBounds j true).getD k true = false →
          (∀ e ∈ ok.after, Region.binds .any e = true → e.on ≠ i) → oi.apart ops ok = true := fun k ok hk hki hun hno => by
        refine hfree k ok hk hki ?_ hno
        by_cases hjk : j = k
        · subst hjk; exact hjun
        · rw [getD_set_ne true hjk] at hun; exact hun
      refine wpOpIn_mono (fun a' w' h3 => ?_) h2
      obtain ⟨hya, h3⟩ := h3
      rcases h3 with ⟨hS', h3⟩ | ⟨hw, _⟩
      · refine .inl ⟨hS', ih (listed.setIfInBounds j true) a' w' (cl_set hcl hj) hfree' (ready_mono hr (Ne.symm hji)) hya hS' ?_⟩
        rw [Array.setIfInBounds_comm _ _ hji]
        exact h3
      · exact absurd hw hnw
end
end Go.X
namespace Go.X
open Go Go.RowKit
inductive Pl where
  | fin
  | y (i : Nat) (k : Pl)
  | h (i : Nat) (k : Pl)
  | b2 (i : Nat) (k : Pl) (j : Nat) (m : Pl)
  | last (i : Nat)
def Pl.depth : Pl → Nat
  | .fin => 0
  | .y _ k => k.depth + 1
  | .h _ k => k.depth + 1
  | .b2 _ k _ m => max k.depth m.depth + 1
  | .last _ => 1
def planOk (ops : Array Oper) : Pl → Array Bool → Bool
  | .fin, l => Region.ready .any ops l == []
  | .y i k, l => (Region.ready .any ops l).contains i && Region.free .any ops l i && planOk ops k (l.setIfInBounds i true)
  | .h i k, l => Region.ready .any ops l == [i] && planOk ops k (l.setIfInBounds i true)
  | .b2 i k j m, l => Region.ready .any ops l == [i, j] && planOk ops k (l.setIfInBounds i true) && planOk ops m (l.setIfInBounds j true)
  | .last i, l => Region.ready .any ops l == [i] && waitsAll ops i
def planGood (ops : Array Oper) (p : Pl) : Bool := plainOps ops && decide (p.depth ≤ ops.size) && planOk ops p (Array.replicate ops.size false)
/-- what is new beside the pieces at the region's head -/
class Spl (Γ Γ0 : List Ch) (Δ : outParam (List Ch)) : Prop where
  eq : Γ = Δ ++ Γ0
instance (priority := 1100) Spl.nil {Γ0 : List Ch} : Spl Γ0 Γ0 [] := ⟨rfl⟩
instance Spl.cons {c : Ch} {Γ Γ0 Δ : List Ch} [h : Spl Γ Γ0 Δ] : Spl (c :: Γ) Γ0 (c :: Δ) := ⟨by rw [h.eq]; rfl⟩
section
variable (w0 : World) (S0 : Nat → Prop) (P : Program) (ρ : Option Nat) (n : Nat) (ops : Array Oper) (K : St → List Ch → Prop) (Γ0 : List Ch)
/-- a light operation: it yields v wherever the pieces at the region's head lie -/
def Yg (e : Env) (o : Oper) (v : Value) : Prop :=
  match o.guard with
  | none => ∀ ev w, Knows e ev → Sep w0 S0 w Γ0 → (execOp ev o).run P w = .ok (.value v) w
  | some (g, b) => ∃ t b', (ops[g]?).bind (·.dst) = some t ∧ get? e t = some (.bool b') ∧ (if b' = b then ∀ ev w, Knows e ev → Sep w0 S0 w Γ0 → (execOp ev o).run P w = .ok (.value v) w else v = undef)
def V : Pl → St → List Ch → Prop
  | .fin, s, Δ => K s (Δ ++ Γ0)
  | .y i k, s, Δ => ∃ o d v, ops[i]? = some o ∧ o.dst = some d ∧ Nat.ble (d + 1) n = true ∧ Yg w0 S0 P ops Γ0 s.e o v ∧ V k ⟨(d, v) :: s.e, s.ds⟩ Δ
  | .h i k, s, Δ => ∃ o, ops[i]? = some o ∧ L w0 S0 P ρ n ops [o] (fun s' Γ' => ∃ Δ', Γ' = Δ' ++ Γ0 ∧ V k s' Δ') s (Δ ++ Γ0)
  | .b2 i k j m, s, Δ => (∃ o, ops[i]? = some o ∧ L w0 S0 P ρ n ops [o] (fun s' Γ' => ∃ Δ', Γ' = Δ' ++ Γ0 ∧ V k s' Δ') s (Δ ++ Γ0)) ∧ (∃ o, ops[j]? = some o ∧ L w0 S0 P ρ n ops [o] (fun s' Γ' => ∃ Δ', Γ' = Δ' ++ Γ0 ∧ V m s' Δ') s (Δ ++ Γ0))
  | .last i, s, Δ => ∃ o, ops[i]? = some o ∧ L w0 S0 P ρ n ops [o] K s (Δ ++ Γ0)
end
section
variable {w0 : World} {S0 : Nat → Prop} {P : Program} {ρ : Option Nat} {n : Nat} {ops : Array Oper} {K : St → List Ch → Prop} {Γ0 : List Ch}
theorem Sep.drop {w : World} {Γ Δ : List Ch} (h : Sep w0 S0 w (Δ ++ Γ)) : Sep w0 S0 w Γ :=
  ⟨h.keep, h.holds.right, fun b ⟨c, hc, hb⟩ => h.inn b ⟨c, by simp [hc], hb⟩⟩
theorem Sep.dropR {w : World} {Γ Δ : List Ch} (h : Sep w0 S0 w (Γ ++ Δ)) : Sep w0 S0 w Γ :=
  ⟨h.keep, h.holds.left, fun b ⟨c, hc, hb⟩ => h.inn b ⟨c, by simp [hc], hb⟩⟩
abbrev Kw (w0 : World) (S0 : Nat → Prop) (n : Nat) (K : St → List Ch → Prop) : Exit → Act → World → Prop := OnlyNormal (fun s w => ∃ Γ, Sep w0 S0 w Γ ∧ K s Γ) n
abbrev SB (w0 : World) (S0 : Nat → Prop) (Γ0 : List Ch) : World → Prop := fun w => Sep w0 S0 w Γ0
theorem Kw.bad {e : Exit} {a : Act} {w : World} (h : e ≠ .normal) : ¬ Kw w0 S0 n K e a w := by
  cases e <;> first | exact absurd rfl h | exact fun h => h.elim
theorem op_of_L {i : Nat} {o : Oper} {s : St} {Γ : List Ch} {K1 : St → List Ch → Prop} {J : Act → World → Prop} {a : Act} {w : World} (ho : ops[i]? = some o) (h : L w0 S0 P ρ n ops [o] K1 s Γ) (ha : Agr n s a) (hw : Sep w0 S0 w Γ)
    (hJ : ∀ a' w', Kw w0 S0 n K1 .normal a' w' → J a' w') : wpOpIn (Fc ρ) 0 P ops (Kw w0 S0 n K) i J a w := by
  have h1 := h w hw a ha
  unfold wpOpIn
  simp only [ho]
  simp only [wpOpsL] at h1
  by_cases hwt : Region.wanted o (yielded ops a.tmps) = true
  · rw [if_pos hwt] at h1 ⊢
    refine ⟨fun _ _ => trivial, ?_⟩
    have h2 := h1.2
    revert h2
    generalize (o.semAt (Fc ρ).round a.eval).run P w = r
    intro h2
    cases r with
    | ok nx w' =>
      cases nx <;> simp only [Oper.uponIn] at h2 ⊢ <;> first
        | exact hJ _ _ h2
        | (refine ⟨h2.1, CallsIn.mono h2.2 fun e w'' hR => by cases e <;> first | exact hJ _ _ hR | exact hR.elim | exact (hR.choose_spec.choose_spec).elim⟩)
        | (refine ⟨h2.1, RowsIn.mono h2.2 fun v w'' hR => hJ _ _ hR⟩)
        | (refine ⟨h2.1, RoundIn.mono h2.2 fun e w'' hR => by cases e <;> first | exact hJ _ _ hR | exact hR.elim | exact (hR.choose_spec.choose_spec).elim⟩)
        | exact h2
    | halt x w' => cases x <;> simp only [Oper.uponIn] at h2 ⊢ <;> first | exact h2 | exact h2.elim
  · rw [if_neg hwt] at h1 ⊢
    exact ⟨fun _ _ => trivial, hJ _ _ h1⟩
theorem V.sound (hpl : plainOps ops = true) : ∀ (p : Pl) (listed : Array Bool) (fuel : Nat) (s : St) (Δ : List Ch) (a : Act) (w : World), Cl ops listed → planOk ops p listed = true → p.depth ≤ fuel →
    V w0 S0 P ρ n ops K Γ0 p s Δ → Agr n s a → Sep w0 S0 w (Δ ++ Γ0) → AnyS P ρ ops (Kw w0 S0 n K) (SB w0 S0 Γ0) fuel listed a w
  | .fin, listed, fuel, s, Δ, a, w, hcl, hok, hd, hv, ha, hw => by
    have hr : Region.ready .any ops listed = [] := by simpa [planOk] using hok
    cases fuel with
    | zero => exact ⟨hr, s, ha, _, hw, hv⟩
    | succ f => exact ⟨fun _ => ⟨s, ha, _, hw, hv⟩, by rw [hr]; simp⟩
  | .y i k, listed, fuel, s, Δ, a, w, hcl, hok, hd, hv, ha, hw => by
    simp only [planOk, Bool.and_eq_true] at hok
    obtain ⟨⟨hr, hf⟩, hk⟩ := hok
    obtain ⟨o, d, v, ho, hdst, hdn, hy, hv⟩ := hv
    cases fuel with
    | zero => simp [Pl.depth] at hd
    | succ fuel =>
      refine AnyS.first (fun e a w h => Kw.bad h) hpl ho fuel listed a w hcl (Region.free_spec ho hf) (by simpa using hr) (v := v) ?_ hw.drop ?_
      · unfold Yg at hy
        cases hg : o.guard with
        | none =>
          rw [hg] at hy
          exact .inl ⟨by simp [Region.wanted, hg], fun w' hw' => hy a.eval w' (fun x v hx => ha.look hx) hw'⟩
        | some gb =>
          obtain ⟨g, b⟩ := gb
          rw [hg] at hy
          obtain ⟨t, b', hdt, hgt, hh⟩ := hy
          have hyl : yielded ops a.tmps g = some b' := by
            unfold yielded
            rw [hdt]
            have h1 := ha.get t _ hgt
            rw [Array.getD_eq_getD_getElem?] at h1
            cases h2 : a.tmps[t]? with
            | none => rw [h2] at h1; cases h1
            | some u => rw [h2] at h1; dsimp at h1; subst h1; simp [h2]
          by_cases hb : b' = b
          · rw [if_pos hb] at hh
            exact .inl ⟨by simp [Region.wanted, hg, hyl, hb], fun w' hw' => hh a.eval w' (fun x v hx => ha.look hx) hw'⟩
          · rw [if_neg hb] at hh
            exact .inr ⟨by simp [Region.wanted, hg, hyl, hb], hh⟩
      · obtain ⟨e, ds⟩ := s
        rw [hdst]
        exact V.sound hpl k _ fuel _ Δ _ w (cl_set hcl (by simpa using hr)) hk (by simp [Pl.depth] at hd; omega) hv (ha.put (Nat.le_of_ble_eq_true hdn) v) hw
  | .h i k, listed, fuel, s, Δ, a, w, hcl, hok, hd, hv, ha, hw => by
    simp only [planOk, Bool.and_eq_true, beq_iff_eq] at hok
    obtain ⟨hr, hk⟩ := hok
    obtain ⟨o, ho, hL⟩ := hv
    cases fuel with
    | zero => simp [Pl.depth] at hd
    | succ fuel =>
      refine ⟨(fun h => by rw [hr] at h; cases h), ?_⟩
      rw [hr]
      intro j hj
      simp at hj
      subst hj
      refine op_of_L ho hL ha hw fun a' w' hK => ?_
      obtain ⟨s', hs', Γ', hw', Δ', rfl, hv'⟩ := hK
      exact .inl ⟨hw'.drop, V.sound hpl k _ fuel s' Δ' a' w' (cl_set hcl (by rw [hr]; simp)) hk (by simp [Pl.depth] at hd; omega) hv' hs' hw'⟩
  | .b2 i k j m, listed, fuel, s, Δ, a, w, hcl, hok, hd, hv, ha, hw => by
    simp only [planOk, Bool.and_eq_true, beq_iff_eq] at hok
    obtain ⟨⟨hr, hk⟩, hm⟩ := hok
    obtain ⟨⟨o1, ho1, hL1⟩, o2, ho2, hL2⟩ := hv
    cases fuel with
    | zero => simp [Pl.depth] at hd
    | succ fuel =>
      simp [Pl.depth] at hd
      refine ⟨(fun h => by rw [hr] at h; cases h), ?_⟩
      rw [hr]
      intro x hx
      simp at hx
      rcases hx with rfl | rfl
      · refine op_of_L ho1 hL1 ha hw fun a' w' hK => ?_
        obtain ⟨s', hs', Γ', hw', Δ', rfl, hv'⟩ := hK
        exact .inl ⟨hw'.drop, V.sound hpl k _ fuel s' Δ' a' w' (cl_set hcl (by rw [hr]; simp)) hk (by omega) hv' hs' hw'⟩
      · refine op_of_L ho2 hL2 ha hw fun a' w' hK => ?_
        obtain ⟨s', hs', Γ', hw', Δ', rfl, hv'⟩ := hK
        exact .inl ⟨hw'.drop, V.sound hpl m _ fuel s' Δ' a' w' (cl_set hcl (by rw [hr]; simp)) hm (by omega) hv' hs' hw'⟩
  | .last i, listed, fuel, s, Δ, a, w, hcl, hok, hd, hv, ha, hw => by
    simp only [planOk, Bool.and_eq_true, beq_iff_eq] at hok
    obtain ⟨hr, hwt⟩ := hok
    obtain ⟨o, ho, hL⟩ := hv
    cases fuel with
    | zero => simp [Pl.depth] at hd
    | succ fuel =>
      refine ⟨(fun h => by rw [hr] at h; cases h), ?_⟩
      rw [hr]
      intro j hj
      simp at hj
      subst hj
      exact op_of_L ho hL ha hw fun a' w' hK => .inr ⟨hwt, ready_after hcl (by rw [hr]; simp) hwt, hK⟩
theorem C.drw {id : Nat} {Q : Exit → St → List Ch → Prop} {s : St} {Γ : List Ch} (p : Pl) (hm : P.follows .mixedOrders = true) (hp : planGood ops p = true) (h : V w0 S0 P ρ n ops (Q .normal) Γ p s []) : C w0 S0 P ρ n (.region id ops true) Q s Γ := by
  intro w hw a ha
  simp only [planGood, Bool.and_eq_true, decide_eq_true_eq] at hp
  obtain ⟨⟨h1, h2⟩, h3⟩ := hp
  have hw2 : Sep w0 S0 { w with drawn := w.drawn + 1 } Γ := by
    have := Sep.frame (Γ := []) (Γ' := []) (Δ := Γ) hw (w' := { w with drawn := w.drawn + 1 }) ⟨Keep.drew _ _ _, Holds.nil _, fun b hb => by obtain ⟨c, hc, _⟩ := hb; simp at hc⟩
    simpa using this
  refine wpIn_mono (wpIn_region_any hm (AnyS.any _ _ _ _ (V.sound h1 p _ _ s [] a _ cl_init h3 h2 h ha (by simpa using hw2)))) ?_
  intro e a' w' hq
  cases e <;> first | exact hq.elim | skip
  obtain ⟨s', hs', Γ', hw', hq⟩ := hq
  exact ⟨s', hs', Γ', hw', hq⟩
theorem C.drwS {id : Nat} {Q : Exit → St → List Ch → Prop} {s : St} {Γ : List Ch} {y : Code} (p : Pl) (hm : P.follows .mixedOrders = true) (hp : planGood ops p = true) (h : V w0 S0 P ρ n ops (C w0 S0 P ρ n y Q) Γ p s []) : C w0 S0 P ρ n (.seq (.region id ops true) y) Q s Γ :=
  .seq (.drw p hm hp h)
variable {s : St} {e : Env} {ds : List Deferred} {Δ : List Ch} {d : Nat} {op : Op} {ty : TypeId} {ps : String} {af : Array Edge} {v : Value} {i j : Nat} {k m : Pl} {g t : Nat} {b b' : Bool}
theorem V.yl (ho : ops[i]? = some ⟨some d, op, ty, ps, af, none⟩) (hy : Yl w0 S0 P Γ0 e ⟨some d, op, ty, ps, af, none⟩ v) (h : V w0 S0 P ρ n ops K Γ0 k ⟨(d, v) :: e, ds⟩ Δ) (hd : Nat.ble (d + 1) n = true := by rfl) : V w0 S0 P ρ n ops K Γ0 (.y i k) ⟨e, ds⟩ Δ :=
  ⟨_, d, v, ho, rfl, hd, hy, h⟩
theorem V.yOn (ho : ops[i]? = some ⟨some d, op, ty, ps, af, some (g, b)⟩) (hg : (ops[g]?).bind (·.dst) = some t) (ht : get? e t = some (.bool b)) (hy : Yl w0 S0 P Γ0 e ⟨some d, op, ty, ps, af, none⟩ v) (h : V w0 S0 P ρ n ops K Γ0 k ⟨(d, v) :: e, ds⟩ Δ) (hd : Nat.ble (d + 1) n = true := by rfl) : V w0 S0 P ρ n ops K Γ0 (.y i k) ⟨e, ds⟩ Δ :=
  ⟨_, d, v, ho, rfl, hd, ⟨t, b, hg, ht, by rw [if_pos rfl]; exact hy⟩, h⟩
theorem V.yOff (ho : ops[i]? = some ⟨some d, op, ty, ps, af, some (g, b)⟩) (hg : (ops[g]?).bind (·.dst) = some t) (ht : get? e t = some (.bool b')) (hne : b' = !b) (h : V w0 S0 P ρ n ops K Γ0 k ⟨(d, undef) :: e, ds⟩ Δ) (hd : Nat.ble (d + 1) n = true := by rfl) : V w0 S0 P ρ n ops K Γ0 (.y i k) ⟨e, ds⟩ Δ :=
  ⟨_, d, undef, ho, rfl, hd, ⟨t, b', hg, ht, by rw [if_neg (by subst hne; cases b <;> simp)]⟩, h⟩
theorem V.hv {o : Oper} (ho : ops[i]? = some o) (h : L w0 S0 P ρ n ops [o] (fun s' Γ' => ∃ Δ', Γ' = Δ' ++ Γ0 ∧ V w0 S0 P ρ n ops K Γ0 k s' Δ') s (Δ ++ Γ0)) : V w0 S0 P ρ n ops K Γ0 (.h i k) s Δ := ⟨o, ho, h⟩
theorem V.ls {o : Oper} (ho : ops[i]? = some o) (h : L w0 S0 P ρ n ops [o] K s (Δ ++ Γ0)) : V w0 S0 P ρ n ops K Γ0 (.last i) s Δ := ⟨o, ho, h⟩
theorem V.on {Γ : List Ch} [hs : Spl Γ Γ0 Δ] (h : V w0 S0 P ρ n ops K Γ0 k s Δ) : ∃ Δ', Γ = Δ' ++ Γ0 ∧ V w0 S0 P ρ n ops K Γ0 k s Δ' := ⟨Δ, hs.eq, h⟩
theorem V.yOnD (ho : ops[i]? = some ⟨some d, op, ty, ps, af, some (g, b)⟩) (hg : (ops[g]?).bind (·.dst) = some t) (ht : get? e t = some (.bool b')) (hb : b' = b) (hy : Yl w0 S0 P Γ0 e ⟨some d, op, ty, ps, af, none⟩ v) (h : V w0 S0 P ρ n ops K Γ0 k ⟨(d, v) :: e, ds⟩ Δ) (hd : Nat.ble (d + 1) n = true := by rfl) : V w0 S0 P ρ n ops K Γ0 (.y i k) ⟨e, ds⟩ Δ :=
  V.yOn ho hg (hb ▸ ht) hy h hd
end
end Go.X
namespace Go.X
open Go Go.RowKit
/-! ## what is read through a slice -/
def Rs (w : World) (a : Option Addr) (xs : List Value) : Prop := ∀ j v, xs[j]? = some v → ∃ b o, a = some ⟨b, o, none⟩ ∧ w.cell? ⟨b, o + j, none⟩ = some v
theorem Rs.keep {w w' : World} {S : Nat → Prop} {a : Option Addr} {xs : List Value} (h : Rs w a xs) (k : Keep S w w') (hS : ∀ b o, a = some ⟨b, o, none⟩ → ¬ S b) : Rs w' a xs := fun j v hj => by
  obtain ⟨b, o, rfl, hc⟩ := h j v hj
  refine ⟨b, o, rfl, ?_⟩
  have hlt : b < w.heap.size := by
    unfold World.cell? at hc
    cases hb : w.heap[b]? with
    | none => simp [hb] at hc
    | some q => exact (Array.getElem?_eq_some_iff.1 hb).1
  rw [← hc]
  exact World.cell?_of_block (w := w) (k.blk b hlt (hS b o rfl))
theorem Rs.nil (w : World) (a : Option Addr) : Rs w a [] := fun j v h => by simp at h
class Rd (w0 : World) (S0 : Nat → Prop) (Γ : List Ch) (a : Option Addr) (xs : outParam (List Value)) : Prop where
  rd : ∀ w, Sep w0 S0 w Γ → Rs w a xs
/-- what was there when the call began, and is not the call's to turn -/
theorem Rd.old {w0 : World} {S0 : Nat → Prop} {a : Option Addr} {xs : List Value} (h : Rs w0 a xs) (hS : ∀ b o, a = some ⟨b, o, none⟩ → ¬ S0 b) (Γ : List Ch) : Rd w0 S0 Γ a xs := ⟨fun w hw => h.keep hw.keep hS⟩
theorem Rd.old0 {w0 : World} {a : Option Addr} {xs : List Value} (h : Rs w0 a xs) (Γ : List Ch) : Rd w0 (fps []) Γ a xs := Rd.old h (fun _ _ _ ⟨c, hc, _⟩ => by simp at hc) Γ
theorem own_rs {w : World} {t : TypeId} {sz n c : Nat} {a : Option Addr} {xs : List Value} (h : (own t sz a n c xs).on w) : Rs w a xs := fun j v hj => by
  have h' : w.ownsRow 0 t sz (.slice a n c) n xs := h
  rcases h'.2 with ⟨h2, hn⟩ | ⟨g, cap, cur, hv, hg, hh, r⟩
  · have := h'.1; rw [hn] at this; simp at this; subst this; simp at hj
  · cases hv
    refine ⟨g, 0, rfl, ?_⟩
    have := h'.cells (g := g) rfl j v hj
    rwa [add_pl] at this
class Ow (a : Option Addr) (Γ : List Ch) (t : outParam TypeId) (sz n c : outParam Nat) (xs : outParam (List Value)) (Δ : outParam (List Ch)) : Prop where
  perm : Γ.Perm (own t sz a n c xs :: Δ)
instance (priority := 1100) Ow.here {a : Option Addr} {Γ : List Ch} {t : TypeId} {sz n c : Nat} {xs : List Value} : Ow a (own t sz a n c xs :: Γ) t sz n c xs Γ := ⟨.refl _⟩
instance Ow.there {a : Option Addr} {y : Ch} {Γ Δ : List Ch} {t : TypeId} {sz n c : Nat} {xs : List Value} [h : Ow a Γ t sz n c xs Δ] : Ow a (y :: Γ) t sz n c xs (y :: Δ) := ⟨(h.perm.cons y).trans (.swap _ _ _)⟩
theorem run_eqIn_p {P : Program} {w : World} {t q : TypeId} (hu : P.underlying t = some (.pointer q)) (p : Option Addr) (d : Nat) : (Op.equalIn (d + 1) t (.pointer p) (.pointer none)).run P w = .ok p.isNone w := by
  cases p <;> simp [Op.equalIn, run_underlying hu, Sem.run]
theorem run_eqIn_b {P : Program} {w : World} {t : TypeId} (hu : P.underlying t = some .bool) (p q : Bool) (d : Nat) : (Op.equalIn (d + 1) t (.bool p) (.bool q)).run P w = .ok (p == q) w := by
  simp [Op.equalIn, run_underlying hu, Sem.run]
instance Rd.own {w0 : World} {S0 : Nat → Prop} {Γ Δ : List Ch} {a : Option Addr} {t : TypeId} {sz n c : Nat} {xs : List Value} [h : Ow a Γ t sz n c xs Δ] : Rd w0 S0 Γ a xs :=
  ⟨fun w hw => own_rs ((hw.holds.perm h.perm).on (X.own t sz a n c xs) (List.mem_cons_self ..))⟩
instance (priority := 900) Rd.none {w0 : World} {S0 : Nat → Prop} {Γ : List Ch} : Rd w0 S0 Γ none [] := ⟨fun w _ => Rs.nil w _⟩
def shift (a : Option Addr) (k : Nat) : Option Addr := a.map fun p => ⟨p.block, p.off + k, p.spot⟩
/-- strings as lists of bytes -/
def S (l : List UInt8) : ByteArray := ⟨l.toArray⟩
theorem S_list (s : ByteArray) : s = S s.data.toList := by cases s; simp [S]
theorem S_inj {l m : List UInt8} (h : S l = S m) : l = m := by simpa [S] using h
def SlT (P : Program) (t el : TypeId) (sz : Nat) : Prop := P.underlying t = some (.slice el) ∧ (P.info? el).map (·.size) = some sz ∧ sz ≠ 0
def StT (P : Program) (t : TypeId) : Prop := P.underlying t = some .string
section
variable {w0 : World} {S0 : Nat → Prop} {P : Program} {ρ : Option Nat} {n : Nat} {ops : Array Oper} {r : List Oper} {K : St → List Ch → Prop} {e : Env} {ds : List Deferred} {Γ Δ : List Ch}
  {d : Nat} {ty : TypeId} {ps : String} {af : Array Edge} {x y z : Operand} {t t' el : TypeId} {b o : Nat} {c : List Value} {v : Value} {a : Option Addr} {sl cp sz : Nat} {xs : List Value} {i j : Int} {k : IntKind} {l m : List UInt8}
theorem L.yl {op : Op} (hy : Yl w0 S0 P Γ e ⟨some d, op, ty, ps, af, none⟩ v) (h : L w0 S0 P ρ n ops r K ⟨(d, v) :: e, ds⟩ Γ) (hd : Nat.ble (d + 1) n = true := by rfl) (hnd : ∀ c, op ≠ .defer c := by intro _ h; cases h) :
    L w0 S0 P ρ n ops (⟨some d, op, ty, ps, af, none⟩ :: r) K ⟨e, ds⟩ Γ := L.val hnd hy h hd
theorem Y.notP {p : Prop} [Decidable p] (hx : look e x = some (.bool (decide p))) : Yl w0 S0 P Γ e ⟨some d, .unOp .not t x, ty, ps, af, none⟩ (.bool (decide (¬p))) := by
  have := Y.not (w0 := w0) (S0 := S0) (P := P) (Γ := Γ) (d := d) (ty := ty) (ps := ps) (af := af) (t := t) hx
  rwa [← decide_not] at this
theorem Y.ld (hs : Sc P t) (hx : look e x = some (.pointer (some ⟨b, o, none⟩))) [hb : Bk b Γ c t' Δ] (hv : c[o]? = some v) : Yl w0 S0 P Γ e ⟨some d, .load t x, ty, ps, af, none⟩ v :=
  Y.ldg hs hx (fun w hw => by rw [cell_of (hb.on hw.holds)]; exact hv)
theorem Y.lda {vs : List Value} {q : Nat} (hs : Ag P t q) (hx : look e x = some (.pointer (some ⟨b, o, none⟩))) [hb : Bk b Γ c t' Δ] (hv : seg c o q = some vs) : Yl w0 S0 P Γ e ⟨some d, .load t x, ty, ps, af, none⟩ (.agg vs.toArray) :=
  Y.ldag hs hx (seg_get hv).1 (fun w hw j u hj => by rw [add_pl]; exact (cell_of (hb.on hw.holds) (o + j)).trans ((seg_get hv).2 j u hj))
theorem Y.fa0 {i off : Nat} (hf : Fld P t i off) (hx : look e x = some (.pointer (some ⟨b, 0, none⟩))) : Yl w0 S0 P Γ e ⟨some d, .fieldAddr t x i, ty, ps, af, none⟩ (.pointer (some ⟨b, off, none⟩)) := by
  have := Y.fa (w0 := w0) (S0 := S0) (Γ := Γ) (d := d) (ty := ty) (ps := ps) (af := af) hf hx
  rwa [Nat.zero_add] at this
theorem Y.pickT {u : Value} (hx : look e x = some (.bool true)) (hy : look e y = some u) : Yl w0 S0 P Γ e ⟨some d, .pick x y z, ty, ps, af, none⟩ u := fun ev w he hw => by simp [execOp, he x _ hx, he y _ hy, asBool]
theorem Y.pickF {u : Value} (hx : look e x = some (.bool false)) (hz : look e z = some u) : Yl w0 S0 P Γ e ⟨some d, .pick x y z, ty, ps, af, none⟩ u := fun ev w he hw => by simp [execOp, he x _ hx, he z _ hz, asBool]
theorem Y.cvI {k : IntKind} {q : Int} (hu : P.underlying t' = some (.int .i64)) (hs : ∃ q, P.underlying t = some (.int q)) (hx : look e x = some (.int k q)) (hr : -9223372036854775808 ≤ q ∧ q ≤ 9223372036854775807) : Yl w0 S0 P Γ e ⟨some d, .convert t t' x, ty, ps, af, none⟩ (.int .i64 q) := by
  have := Y.cvW (w0 := w0) (S0 := S0) (Γ := Γ) (d := d) (ty := ty) (ps := ps) (af := af) hu hs hx
  rwa [wrap64_id hr] at this
/-! pointers against nil -/
theorem Y.eqpN (hu : ∃ q, P.underlying t = some (.pointer q)) (hx : look e x = some (.pointer none)) : Yl w0 S0 P Γ e ⟨some d, .binOp .eql t x (.const (.pointer none)) t', ty, ps, af, none⟩ (.bool true) := fun ev w he hw => by
  obtain ⟨q, hu⟩ := hu
  simp only [execOp, he x _ hx, he (.const (.pointer none)) _ rfl]
  have h1 : (Op.equal t (.pointer none) (.pointer none)).run P w = .ok _ w := run_eqIn_p hu _ 9999
  simp [eqGuard, Go.binOp, h1, Sem.run]
theorem Y.eqpS {p : Addr} (hu : ∃ q, P.underlying t = some (.pointer q)) (hx : look e x = some (.pointer (some p))) : Yl w0 S0 P Γ e ⟨some d, .binOp .eql t x (.const (.pointer none)) t', ty, ps, af, none⟩ (.bool false) := fun ev w he hw => by
  obtain ⟨q, hu⟩ := hu
  simp only [execOp, he x _ hx, he (.const (.pointer none)) _ rfl]
  have h1 : (Op.equal t (.pointer (some p)) (.pointer none)).run P w = .ok _ w := run_eqIn_p hu _ 9999
  simp [eqGuard, Go.binOp, h1, Sem.run]
theorem Y.nepN (hu : ∃ q, P.underlying t = some (.pointer q)) (hx : look e x = some (.pointer none)) : Yl w0 S0 P Γ e ⟨some d, .binOp .neq t x (.const (.pointer none)) t', ty, ps, af, none⟩ (.bool false) := fun ev w he hw => by
  obtain ⟨q, hu⟩ := hu
  simp only [execOp, he x _ hx, he (.const (.pointer none)) _ rfl]
  have h1 : (Op.equal t (.pointer none) (.pointer none)).run P w = .ok _ w := run_eqIn_p hu _ 9999
  simp [eqGuard, Go.binOp, h1, Sem.run]
theorem Y.nepS {p : Addr} (hu : ∃ q, P.underlying t = some (.pointer q)) (hx : look e x = some (.pointer (some p))) : Yl w0 S0 P Γ e ⟨some d, .binOp .neq t x (.const (.pointer none)) t', ty, ps, af, none⟩ (.bool true) := fun ev w he hw => by
  obtain ⟨q, hu⟩ := hu
  simp only [execOp, he x _ hx, he (.const (.pointer none)) _ rfl]
  have h1 : (Op.equal t (.pointer (some p)) (.pointer none)).run P w = .ok _ w := run_eqIn_p hu _ 9999
  simp [eqGuard, Go.binOp, h1, Sem.run]
theorem Y.eqb {p q : Bool} (hu : P.underlying t = some .bool) (hx : look e x = some (.bool p)) (hy : look e y = some (.bool q)) : Yl w0 S0 P Γ e ⟨some d, .binOp .eql t x y t', ty, ps, af, none⟩ (.bool (p == q)) := fun ev w he hw => by
  simp only [execOp, he x _ hx, he y _ hy]
  have h1 : (Op.equal t (.bool p) (.bool q)).run P w = .ok _ w := run_eqIn_b hu _ _ 9999
  simp [eqGuard, Go.binOp, h1, Sem.run]
theorem Y.neb {p q : Bool} (hu : P.underlying t = some .bool) (hx : look e x = some (.bool p)) (hy : look e y = some (.bool q)) : Yl w0 S0 P Γ e ⟨some d, .binOp .neq t x y t', ty, ps, af, none⟩ (.bool (!(p == q))) := fun ev w he hw => by
  simp only [execOp, he x _ hx, he y _ hy]
  have h1 : (Op.equal t (.bool p) (.bool q)).run P w = .ok _ w := run_eqIn_b hu _ _ 9999
  simp [eqGuard, Go.binOp, h1, Sem.run]
theorem Y.remT {k : IntKind} {p q : Int} (hx : look e x = some (.int k p)) (hy : look e y = some (.int k q)) (hb : q ≠ 0) : Yl w0 S0 P Γ e ⟨some d, .binOp .rem t x y t', ty, ps, af, none⟩ (.int k (p.tmod q)) := fun ev w he hw => by
  simp [execOp, he x _ hx, he y _ hy, Sem.run, eqGuard, Go.binOp, Op.intDiv, hb]
theorem Y.quoT {p q : Int} (hx : look e x = some (.int .i64 p)) (hy : look e y = some (.int .i64 q)) (hb : q ≠ 0) (hr : -9223372036854775808 ≤ p.tdiv q ∧ p.tdiv q ≤ 9223372036854775807) : Yl w0 S0 P Γ e ⟨some d, .binOp .quo t x y t', ty, ps, af, none⟩ (.int .i64 (p.tdiv q)) := fun ev w he hw => by
  simp [execOp, he x _ hx, he y _ hy, Sem.run, eqGuard, Go.binOp, Op.intDiv, hb]
  exact wrap64_id hr
/-! strings -/
theorem S_toList (l : List UInt8) : (S l).toList = l := by
  have h := Lib.toList_data (S l)
  rw [h]; rfl
theorem beq_dec' (l m : List UInt8) : (l == m) = decide (l = m) := by rw [Bool.eq_iff_iff]; simp
theorem Y.eqs (hx : look e x = some (.string (S l))) (hy : look e y = some (.string (S m))) : Yl w0 S0 P Γ e ⟨some d, .binOp .eql t x y t', ty, ps, af, none⟩ (.bool (decide (l = m))) := fun ev w he hw => by
  simp only [execOp, he x _ hx, he y _ hy]
  simp [eqGuard, Go.binOp, Op.stringOp, S_toList, Sem.run, beq_dec']
theorem Y.nes (hx : look e x = some (.string (S l))) (hy : look e y = some (.string (S m))) : Yl w0 S0 P Γ e ⟨some d, .binOp .neq t x y t', ty, ps, af, none⟩ (.bool (decide (l ≠ m))) := fun ev w he hw => by
  simp only [execOp, he x _ hx, he y _ hy]
  simp [eqGuard, Go.binOp, Op.stringOp, S_toList, Sem.run, beq_dec']
theorem Y.cat (hx : look e x = some (.string (S l))) (hy : look e y = some (.string (S m))) (hb : l.length + m.length ≤ 9223372036854775807) : Yl w0 S0 P Γ e ⟨some d, .binOp .add t x y t', ty, ps, af, none⟩ (.string (S (l ++ m))) := fun ev w he hw => by
  simp only [execOp, he x _ hx, he y _ hy]
  have h1 : (S l).size = l.length := by simp [S, ByteArray.size]
  have h2 : (S m).size = m.length := by simp [S, ByteArray.size]
  have h3 : S l ++ S m = S (l ++ m) := by
    apply ByteArray.ext
    simp [S, ByteArray.data_append]
  have hb' : ¬ (((S l).size + (S m).size : Nat) : Int) > IntKind.i64.max := by
    rw [h1, h2]; simp only [show IntKind.i64.max = 9223372036854775807 from by decide]; omega
  simp only [eqGuard, Go.binOp, Op.stringOp, if_neg hb', h3]
  simp [Sem.run]
theorem S_size (l : List UInt8) : (S l).size = l.length := by simp [S, ByteArray.size]
theorem Y.lenS {tys : Array TypeId} (hu : StT P t) (hx : look e x = some (.string (S l))) : Yl w0 S0 P Γ e ⟨some d, .call { callee := .builtin .len, args := #[x], argTypes := #[t] }, ty, ps, af, none⟩ (.int .i64 l.length) := fun ev w he hw => by
  have hu : P.underlying t = some .string := hu
  simp [execOp, resolve, invoke, builtin, Builtin.len_, he x _ hx, run_underlying hu, goInt, S_size, Sem.run]
theorem Y.len (hu : ∃ q, P.underlying t = some (.slice q)) (hx : look e x = some (.slice a sl cp)) : Yl w0 S0 P Γ e ⟨some d, .call { callee := .builtin .len, args := #[x], argTypes := #[t] }, ty, ps, af, none⟩ (.int .i64 sl) := fun ev w he hw => by
  obtain ⟨q, hu⟩ := hu
  simp [execOp, resolve, invoke, builtin, Builtin.len_, he x _ hx, run_underlying hu, goInt, Sem.run]
theorem Y.sidx {u : UInt8} (hu : StT P t) (hx : look e x = some (.string (S l))) (hy : look e y = some (.int k i)) (h0 : 0 ≤ i) (hv : l[i.toNat]? = some u) : Yl w0 S0 P Γ e ⟨some d, .index t x y, ty, ps, af, none⟩ (.int .u8 u.toNat) := fun ev w he hw => by
  have hu : P.underlying t = some .string := hu
  have hv' : (S l)[i.toNat]? = some u := by
    have hlt := (List.getElem?_eq_some_iff.1 hv).1
    have : i.toNat < (S l).size := by rw [S_size]; exact hlt
    rw [getElem?_pos (S l) i.toNat this]
    congr 1
    have h2 := (List.getElem?_eq_some_iff.1 hv).2
    rw [← h2]
    rfl
  simp [execOp, Instr.index, he x _ hx, he y _ hy, asIntOf, run_underlying hu, h0, hv', Sem.run]
end
end Go.X
namespace Go.X
open Go Go.RowKit
section
variable {w0 : World} {S0 : Nat → Prop} {P : Program} {ρ : Option Nat} {n : Nat} {ops : Array Oper} {r : List Oper} {K : St → List Ch → Prop} {e : Env} {ds : List Deferred} {Γ Δ : List Ch}
  {d : Nat} {ty : TypeId} {ps : String} {af : Array Edge} {x y z u : Operand} {t t' el : TypeId} {b o : Nat} {c : List Value} {v : Value} {a a2 : Option Addr} {sl cp sz : Nat} {xs : List Value} {i j : Int} {k kj : IntKind} {l m : List UInt8}
/-! an element's place -/
theorem Rs.some_of {w : World} (h : Rs w a xs) {q : Nat} (hq : q < xs.length) : ∃ b o, a = some ⟨b, o, none⟩ ∧ w.cell? ⟨b, o + q, none⟩ = some xs[q] := h q _ (List.getElem?_eq_getElem hq)
theorem Y.ix (hu : SlT P t el sz) (hx : look e x = some (.slice a sl cp)) (hy : look e y = some (.int k i)) [hr : Rd w0 S0 Γ a xs] (hl : xs.length = sl * sz) (h0 : 0 ≤ i) (hi : i < sl) :
    Yl w0 S0 P Γ e ⟨some d, .indexAddr t x y, ty, ps, af, none⟩ (.pointer (shift a (i.toNat * sz))) := fun ev w he hw => by
  obtain ⟨hu, hs, hz⟩ := hu
  have hlt : 0 < xs.length := by rw [hl]; exact Nat.mul_pos (by omega) (by omega)
  obtain ⟨b, o, rfl, _⟩ := (hr.rd w hw).some_of hlt
  simp [execOp, Instr.indexAt, he x _ hx, he y _ hy, asIntOf, run_underlying hu, h0, hi, run_size hs, shift, add_pl, Sem.run]
theorem Y.fas {i off q : Nat} (hf : Fld P t i off) (hx : look e x = some (.pointer (shift a q))) [hr : Rd w0 S0 Γ a xs] (hq : q < xs.length) : Yl w0 S0 P Γ e ⟨some d, .fieldAddr t x i, ty, ps, af, none⟩ (.pointer (shift a (q + off))) := fun ev w he hw => by
  obtain ⟨fs, f, hu, hf, rfl, k, hk, hk0⟩ := hf
  obtain ⟨b, o, rfl, _⟩ := (hr.rd w hw).some_of hq
  simp [execOp, he x _ hx, Instr.fieldAt, run_underlying hu, hf, Instr.sureAddr, fieldPlace, run_size hk, hk0, shift, add_pl, Nat.add_assoc, Sem.run]
theorem Y.lds {q : Nat} (hs : Sc P t) (hx : look e x = some (.pointer (shift a q))) [hr : Rd w0 S0 Γ a xs] (hv : xs[q]? = some v) : Yl w0 S0 P Γ e ⟨some d, .load t x, ty, ps, af, none⟩ v := fun ev w he hw => by
  obtain ⟨b, o, rfl, hc⟩ := (hr.rd w hw) q v hv
  exact Y.ldg (w0 := w0) (S0 := S0) (Γ := Γ) hs hx (a := ⟨b, o + q, none⟩) (v := v) (fun w' hw' => by
    obtain ⟨b', o', h1, hc'⟩ := (hr.rd w' hw') q v hv; cases h1; exact hc') ev w he hw
theorem Y.ldsa {q kk : Nat} {vs : List Value} (hs : Ag P t kk) (hx : look e x = some (.pointer (shift a q))) [hr : Rd w0 S0 Γ a xs] (hk : vs.length = kk) (h1 : 0 < kk) (hv : ∀ j v, vs[j]? = some v → xs[q + j]? = some v) : Yl w0 S0 P Γ e ⟨some d, .load t x, ty, ps, af, none⟩ (.agg vs.toArray) := fun ev w he hw => by
  have h0 : ∃ v0, vs[0]? = some v0 := ⟨_, List.getElem?_eq_getElem (by omega)⟩
  obtain ⟨v0, hv0⟩ := h0
  obtain ⟨b, o, rfl, hc⟩ := (hr.rd w hw) (q + 0) v0 (hv 0 v0 hv0)
  refine Y.ldag (w0 := w0) (S0 := S0) (Γ := Γ) hs hx (a := ⟨b, o + q, none⟩) hk (fun w' hw' j u hj => ?_) ev w he hw
  obtain ⟨b', o', h1, hc'⟩ := (hr.rd w' hw') (q + j) u (hv j u hj)
  cases h1
  rw [add_pl]; simpa [Nat.add_assoc] using hc'
/-! slicing -/
def cutA (a : Option Addr) (k : Nat) (m : Nat) : Option Addr := if m = 0 then a else a.map fun p => p.add k
theorem Rs.cut {w : World} (h : Rs w a xs) (q m q2 : Nat) (hm : m = 0 → q2 = 0) : Rs w (cutA a q m) ((xs.drop q).take q2) := fun j v hj => by
  have hj1 : j < q2 := by
    have := (List.getElem?_eq_some_iff.1 hj).1
    simp at this; omega
  rw [List.getElem?_take_of_lt hj1, List.getElem?_drop] at hj
  obtain ⟨b, o, rfl, hc⟩ := h (q + j) v hj
  have : m ≠ 0 := fun hh => by have := hm hh; omega
  exact ⟨b, o + q, by simp [cutA, this, add_pl], by rw [← hc, Nat.add_assoc]⟩
theorem bnd {w : World} {v : Value} {q : Nat} {cd : BoundsCode} {k : IntKind} {i : Int} (hv : v = .int k i) (h : 0 ≤ i ∧ i ≤ q) : (Instr.sliceBound v q cd).run P w = .ok i.toNat w := by
  subst hv; simp [Instr.sliceBound, asIntOf, h, Sem.run]
/-- s[lo:hi] -/
theorem Y.sl2 (hu : SlT P t el sz) (hx : look e x = some (.slice a sl cp)) (hy : look e y = some (.int k i)) (hz : look e z = some (.int kj j)) (h : 0 ≤ i ∧ i ≤ j ∧ j ≤ cp) :
    Yl w0 S0 P Γ e ⟨some d, .slice t x (some y) (some z) none, ty, ps, af, none⟩ (.slice (cutA a (i.toNat * sz) (cp - i.toNat)) (j.toNat - i.toNat) (cp - i.toNat)) := fun ev w he hw => by
  obtain ⟨hu, hs, hzz⟩ := hu
  have h1 := bnd (P := P) (w := w) (v := .int kj j) (q := cp) (cd := .sliceAcap) rfl ⟨by omega, by omega⟩
  have h2 := bnd (P := P) (w := w) (v := .int k i) (q := j.toNat) (cd := .sliceB) rfl ⟨by omega, by omega⟩
  have h3 : (cp = i.toNat) ↔ (cp - i.toNat = 0) := by omega
  simp [execOp, Instr.sliceAt, Instr.slice, Instr.sliceBounds, he x _ hx, he y _ hy, he z _ hz, run_underlying hu, run_size hs, h1, h2, Sem.run, cutA, h3]
theorem Y.sl1 (hu : SlT P t el sz) (hx : look e x = some (.slice a sl cp)) (hy : look e y = some (.int k i)) (h : 0 ≤ i ∧ i ≤ sl) (hc : sl ≤ cp) :
    Yl w0 S0 P Γ e ⟨some d, .slice t x (some y) none none, ty, ps, af, none⟩ (.slice (cutA a (i.toNat * sz) (cp - i.toNat)) (sl - i.toNat) (cp - i.toNat)) := fun ev w he hw => by
  obtain ⟨hu, hs, hzz⟩ := hu
  have h2 := bnd (P := P) (w := w) (v := .int k i) (q := sl) (cd := .sliceB) rfl ⟨by omega, by omega⟩
  have h3 : (cp = i.toNat) ↔ (cp - i.toNat = 0) := by omega
  simp [execOp, Instr.sliceAt, Instr.slice, Instr.sliceBounds, he x _ hx, he y _ hy, run_underlying hu, run_size hs, h2, Sem.run, cutA, h3]
theorem Y.slh (hu : SlT P t el sz) (hx : look e x = some (.slice a sl cp)) (hz : look e z = some (.int kj j)) (h : 0 ≤ j ∧ j ≤ cp) :
    Yl w0 S0 P Γ e ⟨some d, .slice t x none (some z) none, ty, ps, af, none⟩ (.slice a j.toNat cp) := fun ev w he hw => by
  obtain ⟨hu, hs, hzz⟩ := hu
  have h1 := bnd (P := P) (w := w) (v := .int kj j) (q := cp) (cd := .sliceAcap) rfl ⟨by omega, by omega⟩
  have ha : (if cp = 0 then a else a.map fun p => p.add 0) = a := by
    split
    · rfl
    · cases a <;> simp [Addr.add]
  simp [execOp, Instr.sliceAt, Instr.slice, Instr.sliceBounds, he x _ hx, he z _ hz, run_underlying hu, run_size hs, h1, Sem.run, ha]
/-- a string's part -/
theorem Y.ss2 (hu : StT P t) (hx : look e x = some (.string (S l))) (hy : look e y = some (.int k i)) (hz : look e z = some (.int kj j)) (h : 0 ≤ i ∧ i ≤ j ∧ j ≤ l.length) :
    Yl w0 S0 P Γ e ⟨some d, .slice t x (some y) (some z) none, ty, ps, af, none⟩ (.string (S ((l.drop i.toNat).take (j.toNat - i.toNat)))) := fun ev w he hw => by
  have hu : P.underlying t = some .string := hu
  have h1 := bnd (P := P) (w := w) (v := .int kj j) (q := (S l).size) (cd := .sliceAlen) rfl ⟨by omega, by rw [S_size]; omega⟩
  have h2 := bnd (P := P) (w := w) (v := .int k i) (q := j.toNat) (cd := .sliceB) rfl ⟨by omega, by omega⟩
  have h3 : (S l).extract i.toNat j.toNat = S ((l.drop i.toNat).take (j.toNat - i.toNat)) := by
    apply ByteArray.ext
    simp [S, ByteArray.data_extract]
  simp [execOp, Instr.sliceAt, Instr.slice, Instr.sliceBounds, he x _ hx, he y _ hy, he z _ hz, run_underlying hu, h1, h2, Sem.run, h3]
theorem Y.ss1 (hu : StT P t) (hx : look e x = some (.string (S l))) (hy : look e y = some (.int k i)) (h : 0 ≤ i ∧ i ≤ l.length) :
    Yl w0 S0 P Γ e ⟨some d, .slice t x (some y) none none, ty, ps, af, none⟩ (.string (S (l.drop i.toNat))) := fun ev w he hw => by
  have hu : P.underlying t = some .string := hu
  have h2 := bnd (P := P) (w := w) (v := .int k i) (q := (S l).size) (cd := .sliceB) rfl ⟨by omega, by rw [S_size]; omega⟩
  have h3 : (S l).extract i.toNat (S l).size = S (l.drop i.toNat) := by
    apply ByteArray.ext
    rw [S_size]
    simp [S, ByteArray.data_extract, List.take_of_length_le]
  simp [execOp, Instr.sliceAt, Instr.slice, Instr.sliceBounds, he x _ hx, he y _ hy, run_underlying hu, h2, Sem.run, h3]
theorem Y.ssh (hu : StT P t) (hx : look e x = some (.string (S l))) (hz : look e z = some (.int kj j)) (h : 0 ≤ j ∧ j ≤ l.length) :
    Yl w0 S0 P Γ e ⟨some d, .slice t x none (some z) none, ty, ps, af, none⟩ (.string (S (l.take j.toNat))) := fun ev w he hw => by
  have hu : P.underlying t = some .string := hu
  have h1 := bnd (P := P) (w := w) (v := .int kj j) (q := (S l).size) (cd := .sliceAlen) rfl ⟨by omega, by rw [S_size]; omega⟩
  have h3 : (S l).extract 0 j.toNat = S (l.take j.toNat) := by
    apply ByteArray.ext
    simp [S, ByteArray.data_extract]
  simp [execOp, Instr.sliceAt, Instr.slice, Instr.sliceBounds, he x _ hx, he z _ hz, run_underlying hu, h1, Sem.run, h3]
/-! bytes to a string -/
def byteL (l : List UInt8) : List Value := l.map fun b => .int .u8 (b.toNat : Int)
theorem Y.b2s (hu : SlT P t el 1) (hel : P.underlying el = some (.int .u8)) (ht' : StT P t') (hx : look e x = some (.slice a sl cp)) [hr : Rd w0 S0 Γ a xs] (hxs : xs = byteL l) (hl : l.length = sl) : Yl w0 S0 P Γ e ⟨some d, .convert t t' x, ty, ps, af, none⟩ (.string (S l)) := fun ev w he hw => by
  subst hl hxs
  obtain ⟨hu, _, _⟩ := hu
  simp only [execOp, he x _ hx]
  cases l with
  | nil =>
    cases a with
    | none =>
      simp [convert, run_underlying hu, run_underlying (show P.underlying t' = some .string from ht'), run_underlying hel, Conv.bytesToString, Sem.run]
      rfl
    | some p =>
      have := run_convert_bytes_back (P := P) w t t' el p cp [] hu hel ht' (fun j hj => by simp at hj)
      simp only [List.length_nil] at this
      simp [this, Sem.run, S]
  | cons q l =>
    obtain ⟨b, o, rfl, _⟩ := (hr.rd w hw).some_of (q := 0) (by simp [byteL])
    have := run_convert_bytes_back (P := P) w t t' el ⟨b, o, none⟩ cp (q :: l) hu hel ht' (fun j hj => by
      obtain ⟨b', o', h1, hc⟩ := (hr.rd w hw) j (.int .u8 (q :: l)[j].toNat) (by rw [byteL, List.getElem?_map, List.getElem?_eq_getElem hj]; rfl)
      cases h1
      rw [add_pl]; exact hc)
    simp only [Sem.run_bind, this, Result.andThen, Sem.run_pure]
    rfl
/-! min, max -/
theorem Y.min2 (hx : look e x = some (.int k i)) (hy : look e y = some (.int k j)) {tys : Array TypeId} : Yl w0 S0 P Γ e ⟨some d, .call { callee := .builtin .min, args := #[x, y], argTypes := tys }, ty, ps, af, none⟩ (.int k (min i j)) := fun ev w he hw => by
  have : (if j < i then j else i) = min i j := by omega
  simp [execOp, resolve, invoke, builtin, Builtin.min_, Builtin.min2, he x _ hx, he y _ hy, Sem.run, this]
theorem Y.max2 (hx : look e x = some (.int k i)) (hy : look e y = some (.int k j)) {tys : Array TypeId} : Yl w0 S0 P Γ e ⟨some d, .call { callee := .builtin .max, args := #[x, y], argTypes := tys }, ty, ps, af, none⟩ (.int k (max i j)) := fun ev w he hw => by
  have : (if j > i then j else i) = max i j := by omega
  simp [execOp, resolve, invoke, builtin, Builtin.max_, Builtin.max2, he x _ hx, he y _ hy, Sem.run, this]
/-! new rows, append -/
theorem Sep.newOwn {w : World} (hw : Sep w0 S0 w Γ) (cs : List Value) (t : TypeId) (sz q : Nat) (hl : cs.length = q * sz) (hm : q ≤ maxLen) : Sep w0 S0 (w.alloc (.cells cs.toArray t (0, 0))) (own t sz (some ⟨w.heap.size, 0, none⟩) q q cs :: Γ) := by
  refine Sep.frame (Γ := []) (Γ' := [own t sz (some ⟨w.heap.size, 0, none⟩) q q cs]) (Δ := Γ) hw ⟨Keep.alloc _ _ _, ⟨fun c hc => ?_, by simp⟩, fun i hi hlt => ?_⟩
  · simp at hc; subst hc
    refine ⟨hl, .inr ⟨w.heap.size, q, cs.toArray, rfl, Nat.zero_le _, ?_, Nat.le_refl _, hm, by simpa using hl, ?_⟩⟩
    · show (w.heap.push _)[w.heap.size]? = _; simp
    · rw [← hl]; simp
  · obtain ⟨q', hq, hqi⟩ := hi
    simp at hq; subst hq
    obtain ⟨o, s, h⟩ := hqi
    cases h; omega
theorem nilOwn (t : TypeId) (sz : Nat) {w : World} (hw : Sep w0 S0 w Γ) : Sep w0 S0 w (own t sz none 0 0 [] :: Γ) := by
  refine Sep.frame (Γ := []) (Γ' := [own t sz none 0 0 []]) (Δ := Γ) hw ⟨Keep.refl _ _, ⟨fun c hc => ?_, by simp⟩, fun i hi hlt => ?_⟩
  · simp at hc; subst hc; exact World.ownsRow_nil _ _ _ _
  · obtain ⟨q', hq, hf⟩ := hi
    simp at hq; subst hq
    obtain ⟨o, s, h⟩ := hf; cases h
theorem L.nil0 (t : TypeId) (sz : Nat) (s : St) (h : L w0 S0 P ρ n ops r K s (own t sz none 0 0 [] :: Γ)) : L w0 S0 P ρ n ops r K s Γ := fun w hw => h w (nilOwn t sz hw)
theorem C.nil0 {Q : Exit → St → List Ch → Prop} {s : St} {c : Code} (t : TypeId) (sz : Nat) (h : C w0 S0 P ρ n c Q s (own t sz none 0 0 [] :: Γ)) : C w0 S0 P ρ n c Q s Γ := fun w hw => h w (nilOwn t sz hw)
structure ElT (P : Program) (t el : TypeId) (sz bytes : Nat) : Prop where
  sl : P.underlying t = some (.slice el)
  info : ∃ i z, P.info? el = some i ∧ i.zero = some z ∧ i.size = sz ∧ i.bytes = bytes ∧ z.cells.size = sz ∧ 0 < sz
theorem Sep.drew1 {w : World} (hw : Sep w0 S0 w Γ) : Sep w0 S0 w.drew Γ := by
  have := Sep.frame (Γ := []) (Γ' := []) (Δ := Γ) hw (w' := w.drew) ⟨⟨rfl, rfl, rfl, Nat.le_refl _, fun _ _ _ => rfl⟩, Holds.nil _, fun b hb => by obtain ⟨c, hc, _⟩ := hb; simp at hc⟩
  simpa using this
/-- a new row behind an append that had no room -/
theorem fresh_own {w : World} (hw : Sep w0 S0 w Γ) (el sz bytes old need : Nat) (z : Value) (hz : z.cells.size = sz) (ys : List Value) (hy : ys.length = need * sz) (hm : need ≤ maxLen) :
    Sep w0 S0 (w.drew.alloc (.cells (ys.toArray ++ Builtin.zeroCells z.cells (grownCap w need old el - need)) el)) (own el sz (some ⟨w.heap.size, 0, none⟩) need (grownCap w need old el) ys :: Γ) := by
  have h1 := hw.drew1
  refine Sep.frame (Γ := []) (Γ' := [own el sz (some ⟨w.heap.size, 0, none⟩) need (grownCap w need old el) ys]) (Δ := Γ) h1 ⟨Keep.alloc _ _ _, ⟨fun c hc => ?_, by simp⟩, fun i hi hlt => ?_⟩
  · simp at hc; subst hc
    have hge := grownCap_ge w need old el
    refine ⟨hy, .inr ⟨w.heap.size, _, _, rfl, Nat.zero_le _, heap_alloc_new w.drew _, hge, grownCap_le_maxLen w need old el hm, ?_, ?_⟩⟩
    · simp only [Array.size_append, List.size_toArray, size_zeroCells, hz, hy, ← Nat.add_mul]
      congr 1; omega
    · simp only [Array.toList_append]
      rw [← hy]; exact List.take_left
  · obtain ⟨q', hq, hf⟩ := hi
    simp at hq; subst hq
    obtain ⟨o, s, h⟩ := hf
    cases h
    exact absurd hlt (by show ¬ w.heap.size < w.heap.size; omega)
theorem nil_of {w : World} {q cc : Nat} (h : w.ownsRow 0 el sz (.slice none q cc) q xs) : q = 0 ∧ cc = 0 ∧ xs = [] := by
  rcases h.2 with ⟨h2, rfl⟩ | ⟨g, cap, cur, hv, _⟩
  · cases h2; exact ⟨rfl, rfl, List.eq_nil_of_length_eq_zero (by simpa using h.1)⟩
  · cases hv
/-- append onto what is owned -/
theorem run_app {w : World} {bytes q cc m2 c2 : Nat} {news : List Value} (hT : ElT P t el sz bytes) (hw : Sep w0 S0 w (own el sz a q cc xs :: Γ)) (hr : Rs w a2 news) (hn : news.length = m2 * sz) (h1 : ∀ u ∈ news, u.oneCell' = true) (hb : (q + m2) * bytes ≤ 140737488355328) (hb2 : q + m2 ≤ 140737488355328) :
    ∃ a' c' w', (Builtin.append_ #[t, t] ty #[.slice a q cc, .slice a2 m2 c2]).run P w = .ok (.slice a' (q + m2) c') w' ∧ Sep w0 S0 w' (own el sz a' (q + m2) c' (xs ++ news) :: Γ) := by
  obtain ⟨hs, i, z, hi, hz, hsz, hby, hzc, hpos⟩ := hT
  subst hsz hby
  have ho : w.ownsRow 0 el i.size (.slice a q cc) q xs := hw.holds.on (own el i.size a q cc xs) (by simp)
  have hm : q + m2 ≤ maxLen := by unfold maxLen; omega
  by_cases hm0 : m2 = 0
  · subst hm0
    have : news = [] := List.eq_nil_of_length_eq_zero (by simpa using hn)
    subst this
    have hle : q ≤ cc := by
      rcases ho.2 with ⟨h2, rfl⟩ | ⟨g, cap, cur, hv, _, _, h, _⟩
      · cases h2; exact Nat.le_refl _
      · cases hv; exact h
    refine ⟨a, cc, w, ?_, by simpa using hw⟩
    have hf : (Builtin.firstCells i.size 0 (.slice a2 0 c2)).run P w = .ok #[] w := by cases a2 <;> simp [Builtin.firstCells, loadCells, loadCellsFrom, Sem.run]
    cases a <;> simp [Builtin.append_, run_underlying hs, Go.sizeOf, typeInfo, hi, Builtin.lenOf, hle, hf, storeCells, Sem.run]
  · obtain ⟨b2, o2, rfl, _⟩ := hr.some_of (q := 0) (by rw [hn]; exact Nat.mul_pos (by omega) hpos)
    have hnews : ∀ j u, news[j]? = some u → w.cell? ((⟨b2, o2, none⟩ : Addr).add j) = some u := fun j u hj => by
      obtain ⟨b', o', h, hc⟩ := hr j u hj; cases h; rw [add_pl]; exact hc
    cases a with
    | none =>
      obtain ⟨rfl, rfl, rfl⟩ := nil_of ho
      have hrun := run_append_nil (P := P) w t ty el i z hs hi hz ⟨b2, o2, none⟩ m2 c2 news hn hnews (by omega) (by omega) (by simp at hb; omega)
      refine ⟨_, _, _, by simpa using hrun, ?_⟩
      have hw2 : Sep w0 S0 w Γ := hw.drop (Δ := [own el i.size none 0 0 []])
      have := fresh_own hw2 el i.size i.bytes 0 m2 z hzc news hn (by simpa using hm)
      simpa using this
    | some p =>
      rcases ho.2 with ⟨h2, _⟩ | ⟨g, cap, cur, hv, _, hg, hnc, hcm, hcs, htake⟩
      · cases h2
      · cases hv
        by_cases hroom : q + m2 ≤ cc
        · have hfit : q * i.size + news.length ≤ cur.size := by rw [hn, hcs, ← Nat.add_mul]; exact Nat.mul_le_mul_right _ hroom
          have hrun := run_append_room (P := P) w t ty el i hs hi g q cc cur hg ⟨b2, o2, none⟩ m2 c2 news hn hnews h1 hroom hfit
          refine ⟨_, _, _, hrun, ?_⟩
          have hlen : (xs ++ news).length = (q + m2) * i.size := by rw [List.length_append, ho.1, hn, Nat.add_mul]
          refine Sep.frame (Γ := [own el i.size (some ⟨g, 0, none⟩) q cc xs]) (Γ' := [own el i.size (some ⟨g, 0, none⟩) (q + m2) cc (xs ++ news)]) (Δ := Γ) hw ⟨⟨rfl, rfl, rfl, by simp, fun k _ hk => setRow_other w g k _ (fun e => hk ⟨_, List.mem_singleton.2 rfl, 0, none, by rw [e]⟩)⟩, ⟨fun c hc => ?_, by simp⟩, fun k hk _ => ?_⟩
          · simp at hc; subst hc
            refine ⟨hlen, .inr ⟨g, cc, _, rfl, Nat.zero_le _, setRow_heap w g cur _ el _ hg, hroom, hcm, ?_, ?_⟩⟩
            · simp only [List.size_toArray, List.length_append, List.length_take, List.length_drop, Array.length_toList]; omega
            · rw [htake, ← hlen]; exact List.take_left
          · obtain ⟨q', hq, hf⟩ := hk
            simp at hq; subst hq; exact ⟨_, List.mem_singleton.2 rfl, hf⟩
        · have holds : ∀ j u, xs[j]? = some u → w.cell? ((⟨g, 0, none⟩ : Addr).add j) = some u := ho.cells (g := g) rfl
          have hrun := run_append_grow (P := P) w t ty el i z hs hi hz ⟨g, 0, none⟩ q cc xs ho.1 holds ⟨b2, o2, none⟩ m2 c2 news hn hnews (by omega) (by omega) (growslice_fits (by omega) hb)
          refine ⟨_, _, _, hrun, ?_⟩
          have hw2 : Sep w0 S0 w Γ := hw.drop (Δ := [own el i.size (some ⟨g, 0, none⟩) q cc xs])
          have hlen : (xs ++ news).length = (q + m2) * i.size := by rw [List.length_append, ho.1, hn, Nat.add_mul]
          have := fresh_own hw2 el i.size i.bytes cc (q + m2) z hzc (xs ++ news) hlen hm
          simpa using this
/-- append onto what is read and has no room -/
theorem run_appG {w : World} {bytes q cc m2 c2 : Nat} {olds news : List Value} (hT : ElT P t el sz bytes) (hw : Sep w0 S0 w Γ) (ho : Rs w a olds) (hol : olds.length = q * sz) (hnone : a = none → cc = 0) (hr : Rs w a2 news) (hn : news.length = m2 * sz) (hm0 : 0 < m2) (hroom : cc < q + m2) (hb : (q + m2) * bytes ≤ 140737488355328) (hb2 : q + m2 ≤ 140737488355328) :
    ∃ a' c' w', (Builtin.append_ #[t, t] ty #[.slice a q cc, .slice a2 m2 c2]).run P w = .ok (.slice a' (q + m2) c') w' ∧ Sep w0 S0 w' (own el sz a' (q + m2) c' (olds ++ news) :: Γ) := by
  obtain ⟨hs, i, z, hi, hz, hsz, hby, hzc, hpos⟩ := hT
  subst hsz hby
  have hm : q + m2 ≤ maxLen := by unfold maxLen; omega
  obtain ⟨b2, o2, rfl, _⟩ := hr.some_of (q := 0) (by rw [hn]; exact Nat.mul_pos (by omega) hpos)
  have hnews : ∀ j u, news[j]? = some u → w.cell? ((⟨b2, o2, none⟩ : Addr).add j) = some u := fun j u hj => by
    obtain ⟨b', o', h, hc⟩ := hr j u hj; cases h; rw [add_pl]; exact hc
  have hlen : (olds ++ news).length = (q + m2) * i.size := by rw [List.length_append, hol, hn, Nat.add_mul]
  cases a with
  | none =>
    obtain rfl := hnone rfl
    have hq : q = 0 := by
      by_cases h : q = 0
      · exact h
      · obtain ⟨b, o, h, _⟩ := ho.some_of (q := 0) (by rw [hol]; exact Nat.mul_pos (by omega) hpos)
        cases h
    subst hq
    have : olds = [] := List.eq_nil_of_length_eq_zero (by simpa using hol)
    subst this
    have hrun := run_append_nil (P := P) w t ty el i z hs hi hz ⟨b2, o2, none⟩ m2 c2 news hn hnews (by omega) (by omega) (by simp at hb; omega)
    refine ⟨_, _, _, by simpa using hrun, ?_⟩
    have := fresh_own hw el i.size i.bytes 0 m2 z hzc news hn (by simpa using hm)
    simpa using this
  | some p =>
    have hp : ∀ j u, olds[j]? = some u → w.cell? (p.add j) = some u := fun j u hj => by
      obtain ⟨b', o', h, hc⟩ := ho j u hj; cases h; rw [add_pl]; exact hc
    have hrun := run_append_grow (P := P) w t ty el i z hs hi hz p q cc olds hol hp ⟨b2, o2, none⟩ m2 c2 news hn hnews (by omega) (by omega) (growslice_fits (by omega) hb)
    refine ⟨_, _, _, hrun, ?_⟩
    have := fresh_own hw el i.size i.bytes cc (q + m2) z hzc (olds ++ news) hlen hm
    simpa using this
class OneV (v : Value) : Prop where
  one : v.oneCell' = true
instance {k : IntKind} {a : Int} : OneV (.int k a) := ⟨rfl⟩
instance {b : Bool} : OneV (.bool b) := ⟨rfl⟩
instance {s : ByteArray} : OneV (.string s) := ⟨rfl⟩
instance {p : Option Addr} : OneV (.pointer p) := ⟨rfl⟩
instance {p : Option Addr} {q c : Nat} : OneV (.slice p q c) := ⟨rfl⟩
class OneC (xs : List Value) : Prop where
  one : ∀ u ∈ xs, u.oneCell' = true
instance : OneC [] := ⟨fun u hu => by simp at hu⟩
instance {v : Value} {xs : List Value} [h : OneV v] [g : OneC xs] : OneC (v :: xs) := ⟨fun u hu => by
  rcases List.mem_cons.1 hu with rfl | hu
  · exact h.one
  · exact g.one u hu⟩
instance {xs ys : List Value} [h : OneC xs] [g : OneC ys] : OneC (xs ++ ys) := ⟨fun u hu => by
  rcases List.mem_append.1 hu with hu | hu
  · exact h.one u hu
  · exact g.one u hu⟩
instance {l : List UInt8} : OneC (byteL l) := ⟨fun u hu => by
  obtain ⟨b, _, rfl⟩ := List.mem_map.1 hu; rfl⟩
theorem exec_app {ev : Operand → Value} {w w' : World} {s1 s2 v : Value} (hx : ev x = s1) (hy : ev y = s2) (h : (Builtin.append_ #[t, t] ty #[s1, s2]).run P w = .ok v w') :
    (execOp ev ⟨some d, .call { callee := .builtin .append, args := #[x, y], argTypes := #[t, t] }, ty, ps, af, none⟩).run P w = .ok (.value v) w' := by
  simp [execOp, resolve, invoke, builtin, hx, hy, h, Sem.run]
theorem L.app {bytes q cc m2 c2 cx : Nat} {news : List Value} (hT : ElT P t el sz bytes) (hx : look e x = some (.slice a q cx)) (hy : look e y = some (.slice a2 m2 c2)) [hr : Rd w0 S0 Γ a2 news] [ho : Ow a Γ el sz q cc xs Δ] (hcx : cx = cc) (hn : news.length = m2 * sz) [h1 : OneC news] (hb : (q + m2) * bytes ≤ 140737488355328) (hb2 : q + m2 ≤ 140737488355328)
    (h : ∀ a' c', L w0 S0 P ρ n ops r K ⟨(d, .slice a' (q + m2) c') :: e, ds⟩ (own el sz a' (q + m2) c' (xs ++ news) :: Δ)) (hd : Nat.ble (d + 1) n = true := by rfl) :
    L w0 S0 P ρ n ops (⟨some d, .call { callee := .builtin .append, args := #[x, y], argTypes := #[t, t] }, ty, ps, af, none⟩ :: r) K ⟨e, ds⟩ Γ := by
  subst hcx
  exact L.step (fun v Γ' => ∃ a' c', v = .slice a' (q + m2) c' ∧ Γ' = own el sz a' (q + m2) c' (xs ++ news) :: Δ) (fun _ h => by cases h) (fun ev w he hw => by
    obtain ⟨a', c', w', h1, h2⟩ := run_app (ty := ty) (c2 := c2) hT (hw.perm ho.perm) (hr.rd w hw) hn h1.one hb hb2
    exact ⟨_, w', _, exec_app (he x _ hx) (he y _ hy) h1, h2, a', c', rfl, rfl⟩) (fun v Γ' ⟨a', c', h1, h2⟩ => by rw [h1, h2]; exact h a' c') hd
theorem L.appG {bytes q cc m2 c2 : Nat} {olds news : List Value} (hT : ElT P t el sz bytes) (hx : look e x = some (.slice a q cc)) (hy : look e y = some (.slice a2 m2 c2)) [hr : Rd w0 S0 Γ a2 news] (ho : ∀ w, Sep w0 S0 w Γ → Rs w a olds) (hol : olds.length = q * sz) (hnone : a = none → cc = 0) (hn : news.length = m2 * sz) (hm0 : 0 < m2) (hroom : cc < q + m2) (hb : (q + m2) * bytes ≤ 140737488355328) (hb2 : q + m2 ≤ 140737488355328)
    (h : ∀ a' c', L w0 S0 P ρ n ops r K ⟨(d, .slice a' (q + m2) c') :: e, ds⟩ (own el sz a' (q + m2) c' (olds ++ news) :: Γ)) (hd : Nat.ble (d + 1) n = true := by rfl) :
    L w0 S0 P ρ n ops (⟨some d, .call { callee := .builtin .append, args := #[x, y], argTypes := #[t, t] }, ty, ps, af, none⟩ :: r) K ⟨e, ds⟩ Γ :=
  L.step (fun v Γ' => ∃ a' c', v = .slice a' (q + m2) c' ∧ Γ' = own el sz a' (q + m2) c' (olds ++ news) :: Γ) (fun _ h => by cases h) (fun ev w he hw => by
    obtain ⟨a', c', w', h1, h2⟩ := run_appG (ty := ty) (c2 := c2) hT hw (ho w hw) hol hnone (hr.rd w hw) hn hm0 hroom hb hb2
    exact ⟨_, w', _, exec_app (he x _ hx) (he y _ hy) h1, h2, a', c', rfl, rfl⟩) (fun v Γ' ⟨a', c', h1, h2⟩ => by rw [h1, h2]; exact h a' c') hd
/-! []T{..} -/
theorem set_run : ∀ (cs : List Value) (o k : Nat) (A : Array Value), o + k + cs.length ≤ A.size →
    ((cs.zipIdx k).foldl (fun (B : Array Value) (p : Value × Nat) => B.setIfInBounds (o + p.2) p.1) A) = (A.toList.take (o + k) ++ cs ++ A.toList.drop (o + k + cs.length)).toArray
  | [], o, k, A, h => by simp
  | c :: cs, o, k, A, h => by
    simp only [List.length_cons] at h
    rw [List.zipIdx_cons, List.foldl_cons, set_run cs o (k + 1) _ (by simp; omega)]
    congr 1
    have hlt : o + k < A.toList.length := by simp; omega
    simp only [Array.toList_setIfInBounds, List.length_cons]
    rw [List.take_set, List.drop_set_of_lt (by omega), show o + (k + 1) = o + k + 1 from by omega, List.take_succ_eq_append_getElem hlt, List.set_append_right _ _ (by simp; omega)]
    have hlen : (List.take (o + k) A.toList).length = o + k := by simp; omega
    rw [hlen]
    simp
    congr 1
    omega
def cellsL (vs : List Value) : List Value := vs.flatMap fun v => v.cells.toList
theorem fill_seq (sz : Nat) : ∀ (vs : List Value) (i : Nat) (pre post : List Value), pre.length = i * sz → post.length = vs.length * sz → (∀ v ∈ vs, v.cells.size = sz) →
    Instr.fill (fun i => some (i * sz, sz)) (pre ++ post).toArray ((vs.zipIdx i).map fun p => (p.2, p.1)) = some (pre ++ cellsL vs).toArray
  | [], i, pre, post, h1, h2, _ => by
    have : post = [] := List.eq_nil_of_length_eq_zero (by simpa using h2)
    simp [Instr.fill, cellsL, this]
  | v :: vs, i, pre, post, h1, h2, h3 => by
    have hv := h3 v (by simp)
    simp only [List.length_cons, Nat.add_mul, Nat.one_mul] at h2
    have hs : ¬ (decide (v.cells.size ≠ sz) || decide (i * sz + v.cells.size > (pre ++ post).toArray.size)) = true := by simp [hv, h1]; omega
    have hrun := set_run v.cells.toList (i * sz) 0 (pre ++ post).toArray (by simp [hv, h1]; omega)
    simp only [Array.length_toList, hv, Nat.add_zero] at hrun
    have e1 : (pre ++ post).take (i * sz) = pre := by rw [← h1]; exact List.take_left
    have e2 : (pre ++ post).drop (i * sz + sz) = post.drop sz := by
      rw [← h1, ← List.drop_drop, List.drop_left]
    simp only [e1, e2] at hrun
    rw [List.zipIdx_cons, List.map_cons]
    rw [Instr.fill]
    dsimp only
    rw [if_neg hs]
    have hz : v.cells.zipIdx.foldl (fun (cs : Array Value) (x : Value × Nat) => cs.setIfInBounds (i * sz + x.2) x.1) (pre ++ post).toArray = (pre ++ v.cells.toList ++ post.drop sz).toArray := by
      rw [← hrun, ← Array.foldl_toList, Array.toList_zipIdx]
    rw [hz]
    have ih := fill_seq sz vs (i + 1) (pre ++ v.cells.toList) (post.drop sz) (by simp [h1, hv, Nat.add_mul]) (by simp; omega) (fun u hu => h3 u (by simp [hu]))
    rw [ih]
    simp [cellsL]
theorem L.bs {bytes q : Nat} {vs : List Value} {pa : Array (Nat × Operand)} (hT : ElT P t el sz bytes) (hl : vs.length = q) (hpa : ∀ ev, Knows e ev → (pa.map fun p => (p.1, ev p.2)).toList = (vs.zipIdx).map fun p => (p.2, p.1)) (hc : ∀ v ∈ vs, v.cells.size = sz) (hsm : q * sz ≤ 16777216)
    (h : ∀ b, L w0 S0 P ρ n ops r K ⟨(d, .slice (some ⟨b, 0, none⟩) q q) :: e, ds⟩ (own el sz (some ⟨b, 0, none⟩) q q (cellsL vs) :: Γ)) (hd : Nat.ble (d + 1) n = true := by rfl) :
    L w0 S0 P ρ n ops (⟨some d, .buildSlice t q pa, ty, ps, af, none⟩ :: r) K ⟨e, ds⟩ Γ :=
  L.step (fun v' Γ' => ∃ b, v' = .slice (some ⟨b, 0, none⟩) q q ∧ Γ' = own el sz (some ⟨b, 0, none⟩) q q (cellsL vs) :: Γ) (fun _ h => by cases h) (fun ev w he hw => by
    obtain ⟨hs, i, z, hi, hz, hsz, hby, hzc, hpos⟩ := hT
    have hlen : (cellsL vs).length = q * sz := by
      subst hl
      clear h hpa hsm
      induction vs with
      | nil => simp [cellsL]
      | cons v vs ih =>
        have h1 := hc v (by simp)
        have h2 := ih (fun u hu => hc u (by simp [hu]))
        simp only [cellsL, List.flatMap_cons, List.length_append, Array.length_toList, h1, List.length_cons, Nat.add_mul, Nat.one_mul] at h2 ⊢
        omega
    refine ⟨_, _, _, ?_, hw.newOwn (cellsL vs) el sz q hlen (by unfold maxLen; have := Nat.le_mul_of_pos_right q hpos; omega), w.heap.size, rfl, rfl⟩
    have hrz : (zeroValue el).run P w = .ok z w := run_zero (by simp [Zr, hi, hz])
    have hsz' := run_size (P := P) (w := w) (show (P.info? el).map (·.size) = some sz by simp [hi, hsz])
    have hno : ¬ q * sz > 2 ^ 24 := by omega
    simp only [execOp, Instr.buildSlice, Sem.run_bind, run_underlying hs, Result.andThen, hsz', if_neg hno]
    have hfill : ∀ zc : Array Value, (q * sz = 0 ∨ zc.size = sz) → Instr.fill (fun i => some (i * sz, sz)) ((Array.range (q * sz)).map (fun k => zc[k % zc.size]!)) (pa.map fun p => (p.1, ev p.2)).toList = some (cellsL vs).toArray := fun zc _ => by
      rw [hpa ev he]
      have h0 := fill_seq sz vs 0 [] ((Array.range (q * sz)).map (fun k => zc[k % zc.size]!)).toList (by simp) (by simp [hl]) hc
      simpa only [List.nil_append, Array.toArray_toList] using h0
    by_cases h0 : q * sz = 0
    · simp only [if_pos h0, Sem.run_bind, Sem.run_pure, Result.andThen]
      rw [hfill #[] (.inl h0)]
      simp [run_new, Sem.run]
    · simp only [if_neg h0, Sem.run_bind, hrz, Result.andThen, Sem.run_pure]
      rw [hfill z.cells (.inr hzc)]
      simp [run_new, Sem.run]) (fun v Γ' ⟨b, h1, h2⟩ => by rw [h1, h2]; exact h b) hd
theorem L.bs1 {bytes : Nat} (hT : ElT P t el 1 bytes) (hx : look e x = some v) (hv : v.oneCell' = true)
    (h : ∀ b, L w0 S0 P ρ n ops r K ⟨(d, .slice (some ⟨b, 0, none⟩) 1 1) :: e, ds⟩ (own el 1 (some ⟨b, 0, none⟩) 1 1 [v] :: Γ)) (hd : Nat.ble (d + 1) n = true := by rfl) :
    L w0 S0 P ρ n ops (⟨some d, .buildSlice t 1 #[(0, x)], ty, ps, af, none⟩ :: r) K ⟨e, ds⟩ Γ :=
  L.bs (vs := [v]) hT rfl (fun ev he => by simp [he x _ hx]) (fun u hu => by simp at hu; subst hu; rw [cells_one hv]; rfl) (by omega) (fun b => by have := h b; simpa [cellsL, cells_one hv] using this) hd
theorem L.bsA {bytes : Nat} {vs : List Value} (hT : ElT P t el sz bytes) (hx : look e x = some (.agg vs.toArray)) (hl : vs.length = sz) (hsm : sz ≤ 16777216)
    (h : ∀ b, L w0 S0 P ρ n ops r K ⟨(d, .slice (some ⟨b, 0, none⟩) 1 1) :: e, ds⟩ (own el sz (some ⟨b, 0, none⟩) 1 1 vs :: Γ)) (hd : Nat.ble (d + 1) n = true := by rfl) :
    L w0 S0 P ρ n ops (⟨some d, .buildSlice t 1 #[(0, x)], ty, ps, af, none⟩ :: r) K ⟨e, ds⟩ Γ :=
  L.bs (vs := [.agg vs.toArray]) hT rfl (fun ev he => by simp [he x _ hx]) (fun u hu => by simp at hu; subst hu; simpa [Value.cells] using hl) (by omega) (fun b => by have := h b; simpa [cellsL, Value.cells] using this) hd
theorem ElT.of {z : Value} {bytes : Nat} (hs : P.underlying t = some (.slice el)) (h : (P.info? el).map (fun i => (i.zero, i.size, i.bytes)) = some (some z, sz, bytes)) (hz : z.cells.size = sz) (hp : 0 < sz) : ElT P t el sz bytes := by
  obtain ⟨i, hi, h1, h2, h3⟩ := info_parts h
  exact ⟨hs, i, z, hi, h1, h2, h3, hz, hp⟩
/-! a struct written out -/
theorem Y.bd {t : TypeId} {pa : Array (Nat × Operand)} {ps' : List (Nat × Value)} {zv : Value} {pl : List (Nat × Nat)} {cs : List Value} (hz : Zr P t zv) (hu : ∃ fs, P.underlying t = some (.struct fs) ∧ fs.toList.mapM (fun f => (P.info? f.type).map fun i => (f.offset, i.size)) = some pl)
    (hpa : lookAll e (pa.toList.map (·.2)) = some (ps'.map (·.2))) (hpi : pa.toList.map (·.1) = ps'.map (·.1)) (hf : Instr.fill (fun i => pl.toArray[i]?) zv.cells ps' = some cs.toArray) : Yl w0 S0 P Γ e ⟨some d, .build t pa, ty, ps, af, none⟩ (.agg cs.toArray) := fun ev w he hw => by
  obtain ⟨fs, hu, hpl⟩ := hu
  have h1 := lookAll_eq he hpa
  have h2 : (pa.map fun p => (p.1, ev p.2)).toList = ps' := by
    simp only [Array.toList_map]
    apply List.ext_getElem
    · have := congrArg List.length hpi; simpa using this
    · intro i hi1 hi2
      have e1 : (pa.toList.map (·.1))[i]'(by simpa using hi1) = (ps'.map (·.1))[i]'(by simpa using hi2) := by simp only [hpi]
      have e2 : ((pa.toList.map (·.2)).map ev)[i]'(by simpa using hi1) = (ps'.map (·.2))[i]'(by simpa using hi2) := by simp only [h1]
      simp only [List.getElem_map] at e1 e2 ⊢
      rw [e1, e2]
  have hb : P.built t (pa.map fun p => (p.1, ev p.2)).toList = some cs.toArray := by
    unfold Program.built
    unfold Zr at hz
    cases hi : P.info? t with
    | none => rw [hi] at hz; cases hz
    | some it =>
      rw [hi] at hz; simp at hz
      simp only [hu, hz, hpl, h2]
      exact hf
  simp only [execOp, Sem.run_bind, run_build w t _ _ hb, Result.andThen, Sem.run_pure]
theorem Y.fd {i off : Nat} {vs : List Value} (hf : ∃ fs f, P.underlying t = some (.struct fs) ∧ fs[i]? = some f ∧ f.offset = off ∧ Sc P f.type) (hx : look e x = some (.agg vs.toArray)) (hv : vs[off]? = some v) : Yl w0 S0 P Γ e ⟨some d, .field t x i, ty, ps, af, none⟩ v := fun ev w he hw => by
  obtain ⟨fs, f, hu, hf, rfl, dd, hd, hd2, _⟩ := hf
  simp [execOp, Instr.field, he x _ hx, run_underlying hu, hf, asAgg, part, run_isAgg hd, hd2, hv, Sem.run]
end
end Go.X
namespace Go.X
open Go Go.RowKit
def vcells : Value → List Value
  | .agg cs => cs.toList
  | v => [v]
theorem vcells_eq (v : Value) : v.cells = (vcells v).toArray := by cases v <;> rfl
def setRun : List Value → Nat → List Value → Option (List Value)
  | cs, 0, [] => some cs
  | [], _, _ => none
  | _ :: cs, 0, x :: xs => match setRun cs 0 xs with
    | none => none
    | some r => some (x :: r)
  | c :: cs, o + 1, xs => match setRun cs o xs with
    | none => none
    | some r => some (c :: r)
def fillL (pl : List (Nat × Nat)) : List Value → List Nat → List Value → Option (List Value)
  | cs, i :: is, v :: vs => match pl[i]? with
    | none => none
    | some (o, k) => bif Nat.beq (vcells v).length k then (match setRun cs o (vcells v) with
      | none => none
      | some cs' => fillL pl cs' is vs) else none
  | cs, [], [] => some cs
  | _, _, _ => none
theorem setRun_ok : ∀ (cs : List Value) (o : Nat) (xs r : List Value), setRun cs o xs = some r → o + xs.length ≤ cs.length ∧ r.length = cs.length ∧ ∀ i, r[i]? = if o ≤ i ∧ i < o + xs.length then xs[i - o]? else cs[i]?
  | cs, 0, [], r, h => by simp [setRun] at h; subst h; exact ⟨by simp, rfl, fun i => by rw [if_neg (by simp)]⟩
  | [], 0, x :: xs, r, h => by simp [setRun] at h
  | [], o + 1, xs, r, h => by simp [setRun] at h
  | c :: cs, 0, x :: xs, r, h => by
    simp only [setRun] at h
    split at h
    · cases h
    · rename_i r' hr
      injection h with h; subst h
      obtain ⟨h1, h2, h3⟩ := setRun_ok cs 0 xs r' hr
      refine ⟨by simp at h1 ⊢; omega, by simp [h2], fun i => ?_⟩
      cases i with
      | zero => simp
      | succ i =>
        have := h3 i
        simp only [List.getElem?_cons_succ, this, List.length_cons]
        by_cases hc : i < xs.length
        · rw [if_pos (by omega), if_pos (by omega)]; simp
        · rw [if_neg (by omega), if_neg (by omega)]
  | c :: cs, o + 1, xs, r, h => by
    simp only [setRun] at h
    split at h
    · cases h
    · rename_i r' hr
      injection h with h; subst h
      obtain ⟨h1, h2, h3⟩ := setRun_ok cs o xs r' hr
      refine ⟨by simp; omega, by simp [h2], fun i => ?_⟩
      cases i with
      | zero => simp
      | succ i =>
        have := h3 i
        simp only [List.getElem?_cons_succ, this]
        by_cases hc : o ≤ i ∧ i < o + xs.length
        · rw [if_pos (by omega), if_pos (by omega)]; congr 1; omega
        · rw [if_neg (by omega), if_neg (by omega)]
theorem foldl_set (o : Nat) : ∀ (xs : List Value) (j : Nat) (cs : Array Value), o + j + xs.length ≤ cs.size → ((xs.zipIdx j).foldl (fun cs p => cs.setIfInBounds (o + p.2) p.1) cs).size = cs.size ∧ ∀ i, ((xs.zipIdx j).foldl (fun cs p => cs.setIfInBounds (o + p.2) p.1) cs)[i]? = if o + j ≤ i ∧ i < o + j + xs.length then xs[i - (o + j)]? else cs[i]?
  | [], j, cs, h => ⟨rfl, fun i => by simp only [List.zipIdx_nil, List.foldl_nil, List.length_nil]; rw [if_neg (by omega)]⟩
  | x :: xs, j, cs, h => by
    simp only [List.zipIdx_cons, List.foldl_cons, List.length_cons] at h ⊢
    obtain ⟨h1, h2⟩ := foldl_set o xs (j + 1) (cs.setIfInBounds (o + j) x) (by simp; omega)
    refine ⟨by rw [h1]; simp, fun i => ?_⟩
    rw [h2 i]
    by_cases hc : o + (j + 1) ≤ i ∧ i < o + (j + 1) + xs.length
    · rw [if_pos hc, if_pos (by omega), show i - (o + j) = i - (o + (j + 1)) + 1 by omega, List.getElem?_cons_succ]
    · rw [if_neg hc, Array.getElem?_setIfInBounds]
      by_cases he : o + j = i
      · subst he; rw [if_pos rfl, if_pos (by omega), if_pos (by omega)]; simp
      · rw [if_neg he, if_neg (by omega)]
theorem fillL_ok {pl : List (Nat × Nat)} : ∀ {zs : List Value} {is : List Nat} {vs cs : List Value}, fillL pl zs is vs = some cs → Instr.fill (fun i => pl.toArray[i]?) zs.toArray (is.zip vs) = some cs.toArray
  | zs, [], [], cs, h => by simp [fillL] at h; subst h; rfl
  | zs, [], _ :: _, cs, h => by simp [fillL] at h
  | zs, _ :: _, [], cs, h => by simp [fillL] at h
  | zs, i :: is, v :: vs, cs, h => by
    simp only [fillL] at h
    simp only [List.zip_cons_cons, Instr.fill, List.getElem?_toArray]
    cases hp : pl[i]? with
    | none => rw [hp] at h; cases h
    | some q =>
      obtain ⟨o, k⟩ := q
      rw [hp] at h
      simp only at h ⊢
      cases hb : Nat.beq (vcells v).length k with
      | false => rw [hb] at h; cases h
      | true =>
        rw [hb] at h
        simp only [cond_true] at h
        have hk := Nat.eq_of_beq_eq_true hb
        cases hs : setRun zs o (vcells v) with
        | none => rw [hs] at h; cases h
        | some cs' =>
          rw [hs] at h
          simp only at h
          obtain ⟨h1, h2, h3⟩ := setRun_ok _ _ _ _ hs
          rw [if_neg (by simp [vcells_eq]; omega)]
          have he : (v.cells.zipIdx.foldl (fun cs p => cs.setIfInBounds (o + p.2) p.1) zs.toArray) = cs'.toArray := by
            rw [← Array.foldl_toList, Array.toList_zipIdx, vcells_eq]
            obtain ⟨g1, g2⟩ := foldl_set o (vcells v) 0 zs.toArray (by simp; omega)
            apply Array.ext_getElem?
            intro j
            have := g2 j
            simp only [Nat.add_zero] at this
            rw [this, List.getElem?_toArray, List.getElem?_toArray, h3 j]
          have ih := fillL_ok h
          rw [← ih]
          congr 1
          funext i; simp
theorem lookAll_len {e : Env} : ∀ {xs : List Operand} {vs : List Value}, lookAll e xs = some vs → xs.length = vs.length
  | [], vs, h => by simp [lookAll] at h; subst h; rfl
  | x :: xs, vs, h => by
    simp only [lookAll] at h
    cases h1 : look e x <;> cases h2 : lookAll e xs <;> rw [h1, h2] at h <;> simp at h
    subst h
    simp [lookAll_len h2]
section
variable {w0 : World} {S0 : Nat → Prop} {P : Program} {ρ : Option Nat} {n : Nat} {ops : Array Oper} {r : List Oper} {K : St → List Ch → Prop} {e : Env} {ds : List Deferred} {Γ Δ : List Ch}
  {d : Nat} {ty : TypeId} {ps : String} {af : Array Edge} {x y z u : Operand} {t t' el : TypeId} {b o : Nat} {c : List Value} {v : Value} {a a2 : Option Addr} {sl cp sz : Nat} {xs : List Value} {i j : Int} {k kj : IntKind} {l m : List UInt8}
theorem u8lt (u : UInt8) : u.toNat < 256 := u.toNat_lt
theorem L.sidx (hu : StT P t) (hx : look e x = some (.string (S l))) (hy : look e y = some (.int k i)) (h0 : 0 ≤ i) (hi : i < l.length) (h : ∀ u, l[i.toNat]? = some u → L w0 S0 P ρ n ops r K ⟨(d, .int .u8 u.toNat) :: e, ds⟩ Γ) (hd : Nat.ble (d + 1) n = true := by rfl) :
    L w0 S0 P ρ n ops (⟨some d, .index t x y, ty, ps, af, none⟩ :: r) K ⟨e, ds⟩ Γ := by
  have hv : l[i.toNat]? = some (l[i.toNat]'(by omega)) := List.getElem?_eq_getElem (by omega)
  exact L.yl (Y.sidx hu hx hy h0 hv) (h _ hv) hd
theorem L.ldsF {α : Type} {q : Nat} (f : α → Value) (ls : List α) (hs : Sc P t) (hx : look e x = some (.pointer (shift a q))) [hr : Rd w0 S0 Γ a xs] (hxs : xs = ls.map f) (hq : q < ls.length) (h : ∀ u, ls[q]? = some u → L w0 S0 P ρ n ops r K ⟨(d, f u) :: e, ds⟩ Γ) (hd : Nat.ble (d + 1) n = true := by rfl) :
    L w0 S0 P ρ n ops (⟨some d, .load t x, ty, ps, af, none⟩ :: r) K ⟨e, ds⟩ Γ := by
  have hv : ls[q]? = some (ls[q]'hq) := List.getElem?_eq_getElem hq
  subst hxs
  exact L.yl (Y.lds hs hx (v := f ls[q]) (by simp [hv])) (h _ hv) hd
theorem L.gOffU {t' : Nat} {op : Op} {g t : Nat} {b : Bool} (hg : (ops[g]?).bind (·.dst) = some t) (ht : get? e t = some undef) (h : L w0 S0 P ρ n ops r K ⟨(t', undef) :: e, ds⟩ Γ) (hd : Nat.ble (t' + 1) n = true := by rfl) :
    L w0 S0 P ρ n ops (⟨some t', op, ty, ps, af, some (g, b)⟩ :: r) K ⟨e, ds⟩ Γ := by
  intro w hw a ha
  have hy : yielded ops a.tmps g = none := by
    unfold yielded
    rw [hg]
    have h1 := ha.get t _ ht
    rw [Array.getD_eq_getD_getElem?] at h1
    cases h2 : a.tmps[t]? with
    | none => simp [h2]
    | some u => rw [h2] at h1; dsimp at h1; subst h1; simp [h2, undef]
  unfold wpOpsL
  rw [if_neg (by simp [Region.wanted, hy])]
  exact h w hw _ (ha.put (Nat.le_of_ble_eq_true hd) _)
class AppC (Γ Δ : List Ch) (Θ : outParam (List Ch)) : Prop where
  eq : Γ ++ Δ = Θ
instance AppC.nil {Δ : List Ch} : AppC [] Δ Δ := ⟨rfl⟩
instance AppC.cons {x : Ch} {Γ Δ Θ : List Ch} [h : AppC Γ Δ Θ] : AppC (x :: Γ) Δ (x :: Θ) := ⟨by rw [List.cons_append, h.eq]⟩
theorem L.apc {Γ Δ Θ : List Ch} {s : St} [h : AppC Γ Δ Θ] (k : L w0 S0 P ρ n ops r K s Θ) : L w0 S0 P ρ n ops r K s (Γ ++ Δ) := by rw [h.eq]; exact k
theorem Bk.mem {b : Nat} [h : Bk b Γ c t Δ] : blk b c t ∈ Γ := h.perm.mem_iff.2 (by simp)
theorem Y.extL {vs : List Value} {i : Nat} {v : Value} (hx : look e x = some (.tuple ⟨vs⟩)) (hi : vs[i]? = some v) : Yl w0 S0 P Γ e ⟨some d, .extract x i, ty, ps, af, none⟩ v := Y.ext hx (by simpa using hi)
theorem L.bsl {bytes q : Nat} {vs : List Value} {pa : Array (Nat × Operand)} (hT : ElT P t el sz bytes) (ha : lookAll e (pa.toList.map (·.2)) = some vs) (hi : pa.toList.map (·.1) = List.range q) (hc : (vs.map fun v => v.cells.size) = List.replicate q sz) (hsm : q * sz ≤ 16777216)
    (h : ∀ b, L w0 S0 P ρ n ops r K ⟨(d, .slice (some ⟨b, 0, none⟩) q q) :: e, ds⟩ (own el sz (some ⟨b, 0, none⟩) q q (cellsL vs) :: Γ)) (hd : Nat.ble (d + 1) n = true := by rfl) :
    L w0 S0 P ρ n ops (⟨some d, .buildSlice t q pa, ty, ps, af, none⟩ :: r) K ⟨e, ds⟩ Γ := by
  have hlen : vs.length = q := by have := congrArg List.length hc; simpa using this
  refine L.bs (vs := vs) hT hlen (fun ev he => ?_) (fun v hv => ?_) hsm h hd
  · have h1 := lookAll_eq he ha
    simp only [Array.toList_map]
    apply List.ext_getElem
    · have := congrArg List.length h1; simpa using this
    · intro i hi1 hi2
      have e1 : (pa.toList.map (·.1))[i]'(by simpa using hi1) = i := by simp only [hi]; simp
      have e2 : ((pa.toList.map (·.2)).map ev)[i]'(by simpa using hi1) = vs[i]'(by simpa using hi2) := by simp only [h1]
      simp only [List.getElem_map] at e1 e2 ⊢
      simp only [List.getElem_zipIdx, Nat.zero_add]
      rw [e1, e2]
  · have : v.cells.size ∈ (vs.map fun v => v.cells.size) := List.mem_map.2 ⟨v, hv, rfl⟩
    rw [hc] at this
    exact (List.mem_replicate.1 this).2
theorem Y.bdL {t : TypeId} {pa : Array (Nat × Operand)} {zs vs : List Value} {is : List Nat} {pl : List (Nat × Nat)} {cs : List Value} (hz : Zr P t (.agg zs.toArray)) (hu : ∃ fs, P.underlying t = some (.struct fs) ∧ fs.toList.mapM (fun f => (P.info? f.type).map fun i => (f.offset, i.size)) = some pl)
    (hpi : pa.toList.map (·.1) = is) (hpa : lookAll e (pa.toList.map (·.2)) = some vs) (hf : fillL pl zs is vs = some cs) : Yl w0 S0 P Γ e ⟨some d, .build t pa, ty, ps, af, none⟩ (.agg cs.toArray) := by
  have hl : is.length = vs.length := by
    have h1 := congrArg List.length hpi
    have h2 := lookAll_len hpa
    simp at h1 h2; omega
  refine Y.bd (ps' := is.zip vs) hz hu ?_ ?_ ?_
  · rw [List.map_snd_zip (by omega)]; exact hpa
  · rw [List.map_fst_zip (by omega)]; exact hpi
  · exact fillL_ok hf
instance Spl.app {Γ0 Δ : List Ch} : Spl (Δ ++ Γ0) Γ0 Δ := ⟨rfl⟩
/-- the blocks bs, apart -/
class Bks (bs : List Nat) (Γ : List Ch) (Δ Γ0 : outParam (List Ch)) : Prop where
  perm : Γ.Perm (Δ ++ Γ0)
instance Bks.nil {Γ : List Ch} : Bks [] Γ [] Γ := ⟨.refl _⟩
instance Bks.cons {b : Nat} {bs : List Nat} {Γ Γ1 Δ Γ0 : List Ch} {c : List Value} {t : TypeId} [h : Bk b Γ c t Γ1] [k : Bks bs Γ1 Δ Γ0] : Bks (b :: bs) Γ (blk b c t :: Δ) Γ0 := ⟨h.perm.trans (k.perm.cons _)⟩
theorem C.drwB {id : Nat} {Q : Exit → St → List Ch → Prop} {s : St} {Γ Δ Γ0 : List Ch} (bs : List Nat) (p : Pl) (hm : P.follows .mixedOrders = true) (hp : planGood ops p = true) [hb : Bks bs Γ Δ Γ0] (h : V w0 S0 P ρ n ops (Q .normal) Γ0 p s Δ) : C w0 S0 P ρ n (.region id ops true) Q s Γ := by
  refine C.perm hb.perm ?_
  intro w hw a ha
  simp only [planGood, Bool.and_eq_true, decide_eq_true_eq] at hp
  obtain ⟨⟨h1, h2⟩, h3⟩ := hp
  have hw2 : Sep w0 S0 { w with drawn := w.drawn + 1 } (Δ ++ Γ0) := by
    have := Sep.frame (Γ := []) (Γ' := []) (Δ := Δ ++ Γ0) hw (w' := { w with drawn := w.drawn + 1 }) ⟨Keep.drew _ _ _, Holds.nil _, fun b hb => by obtain ⟨c, hc, _⟩ := hb; simp at hc⟩
    simpa using this
  refine wpIn_mono (wpIn_region_any hm (AnyS.any _ _ _ _ (V.sound h1 p _ _ s Δ a _ cl_init h3 h2 h ha hw2))) ?_
  intro e a' w' hq
  cases e <;> first | exact hq.elim | skip
  obtain ⟨s', hs', Γ', hw', hq⟩ := hq
  exact ⟨s', hs', Γ', hw', hq⟩
theorem C.drwBS {id : Nat} {Q : Exit → St → List Ch → Prop} {s : St} {Γ Δ Γ0 : List Ch} {y : Code} (bs : List Nat) (p : Pl) (hm : P.follows .mixedOrders = true) (hp : planGood ops p = true) [hb : Bks bs Γ Δ Γ0] (h : V w0 S0 P ρ n ops (C w0 S0 P ρ n y Q) Γ0 p s Δ) : C w0 S0 P ρ n (.seq (.region id ops true) y) Q s Γ :=
  .seq (.drwB bs p hm hp h)
theorem V.fin {Γ0 Δ Θ : List Ch} {s : St} [h : AppC Δ Γ0 Θ] (k : K s Θ) : V w0 S0 P ρ n ops K Γ0 .fin s Δ := by
  show K s (Δ ++ Γ0)
  rw [h.eq]; exact k
theorem C.apc {Q : Exit → St → List Ch → Prop} {c : Code} {Γ Δ Θ : List Ch} {s : St} [h : AppC Γ Δ Θ] (k : C w0 S0 P ρ n c Q s Θ) : C w0 S0 P ρ n c Q s (Γ ++ Δ) := by rw [h.eq]; exact k
/-- the result, some of the pieces let go -/
def RW (R : Value → List Ch → Prop) (v : Value) (Γ : List Ch) : Prop := ∃ Δ, Wk Γ Δ ∧ R v Δ
theorem Wk.app {Γ Δ Θ : List Ch} (h : Wk Γ Δ) : Wk (Γ ++ Θ) (Δ ++ Θ) := ⟨by
  obtain ⟨R, hR⟩ := h.ex
  refine ⟨R, (hR.append_right Θ).trans ?_⟩
  simp only [List.append_assoc]
  exact .append_left _ List.perm_append_comm⟩
theorem L.callW {Γf Γr : List Ch} {args : Array Operand} {ats : Array TypeId} {vs : List Value} {f : FuncId} {R : Value → List Ch → Prop} (hg : Goes P f) (ha : lookAll e args.toList = some vs) (hp : Γ.Perm (Γf ++ Γr))
    (hc : ∀ w, Sep w0 S0 w Γ → Holds w Γf → Calls P f vs.toArray w (Post w Γf (RW R))) (h : ∀ v Γ', R v Γ' → L w0 S0 P ρ n ops r K ⟨(d, v) :: e, ds⟩ (Γ' ++ Γr)) (hd : Nat.ble (d + 1) n = true := by rfl) :
    L w0 S0 P ρ n ops (⟨some d, .call { callee := .value (.func f), args := args, argTypes := ats }, ty, ps, af, none⟩ :: r) K ⟨e, ds⟩ Γ :=
  L.call hg ha hp hc (fun v Γ' ⟨Δ, hw, hR⟩ => .wk hw.app (h v Δ hR)) hd
end
/-- the cells of a list of strings -/
@[reducible] def strL (ls : List (List UInt8)) : List Value := ls.map fun l => .string (S l)
theorem get_strL {l : List (List UInt8)} {q q' : Nat} {u : List UInt8} (h : l[q]? = some u) (e : q' = q) : (strL l)[q']? = some (.string (S u)) := by subst e; simp [strL, h]
theorem get_byteL {l : List UInt8} {q q' : Nat} {u : UInt8} (h : l[q]? = some u) (e : q' = q) : (byteL l)[q']? = some (.int .u8 u.toNat) := by subst e; simp [byteL, h]
/-- the cells of a list of ints -/
@[reducible] def intL (ls : List Int) : List Value := ls.map fun i => .int .i64 i
theorem get_intL {l : List Int} {q q' : Nat} {u : Int} (h : l[q]? = some u) (e : q' = q) : (intL l)[q']? = some (.int .i64 u) := by subst e; simp [intL, h]
section
variable {P : Program} {Γ Δ : List Ch} {e : Env} {xs : List ResultVar} {vs us : List Value} {t a b k : Nat} {v : Value} {c : List Value} {t' : TypeId}
theorem ra_nil : ResAll P Γ e [] [] := trivial
theorem ra_tmp (h : get? e t = some v) (k : ResAll P Γ e xs vs) : ResAll P Γ e (.tmp t :: xs) (v :: vs) := ⟨h, k⟩
theorem ra_ag (h : get? e a = some (.pointer (some ⟨b, 0, none⟩))) [hb : Bk b Γ c t' Δ] (ha : Ag P t k) (hv : seg c 0 k = some us) (kk : ResAll P Γ e xs vs) : ResAll P Γ e (.cell a t :: xs) (.agg us.toArray :: vs) :=
  ⟨⟨b, c, t', h, hb.mem, .inr ⟨k, us, ha, hv, rfl⟩⟩, kk⟩
theorem ra_sc (h : get? e a = some (.pointer (some ⟨b, 0, none⟩))) [hb : Bk b Γ c t' Δ] (ha : Sc P t) (hv : c[0]? = some v) (kk : ResAll P Γ e xs vs) : ResAll P Γ e (.cell a t :: xs) (v :: vs) :=
  ⟨⟨b, c, t', h, hb.mem, .inl ⟨ha, hv⟩⟩, kk⟩
end
end Go.X
namespace Go.X
open Go Go.RowKit
/-- many pieces as one -/
def big (Γs : List Ch) : Ch where
  fp := fps Γs
  on w := Holds w Γs
  stab w w' h hb := ⟨fun c hc => c.stab w w' (h.on c hc) fun b hb' => hb b ⟨c, hc, hb'⟩, h.dj⟩
  lt w b h hb := h.lt hb
theorem Holds.cons {w : World} {c : Ch} {Γ : List Ch} : Holds w (c :: Γ) ↔ c.on w ∧ (∀ d, d ∈ Γ → Dj c d) ∧ Holds w Γ := by
  constructor
  · intro h
    exact ⟨h.on c (by simp), (List.pairwise_cons.1 h.dj).1, ⟨fun d hd => h.on d (by simp [hd]), (List.pairwise_cons.1 h.dj).2⟩⟩
  · rintro ⟨h1, h2, h3⟩
    exact ⟨fun d hd => by rcases List.mem_cons.1 hd with rfl | hd; exact h1; exact h3.on d hd, List.pairwise_cons.2 ⟨h2, h3.dj⟩⟩
theorem Holds.pack {w : World} {c : Ch} {Γs Δ : List Ch} (h : Holds w (c :: big Γs :: Δ)) : Holds w (big (Γs ++ [c]) :: Δ) := by
  obtain ⟨h1, h2, h3⟩ := Holds.cons.1 h
  obtain ⟨h4, h5, h6⟩ := Holds.cons.1 h3
  have h4 : Holds w Γs := h4
  refine Holds.cons.2 ⟨?_, ?_, h6⟩
  · refine ⟨fun d hd => ?_, ?_⟩
    · rcases List.mem_append.1 hd with hd | hd
      · exact h4.on d hd
      · rw [List.mem_singleton.1 hd]; exact h1
    · refine List.pairwise_append.2 ⟨h4.dj, by simp, fun d hd e he b hb hb' => ?_⟩
      rw [List.mem_singleton.1 he] at hb'
      exact h2 (big Γs) (by simp) b hb' ⟨d, hd, hb⟩
  · intro d hd b hb hb'
    obtain ⟨e, he, hb⟩ := hb
    rcases List.mem_append.1 he with he | he
    · exact h5 d hd b ⟨e, he, hb⟩ hb'
    · rw [List.mem_singleton.1 he] at hb; exact h2 d (by simp [hd]) b hb hb'
theorem Sep.pack {w0 w : World} {S0 : Nat → Prop} {c : Ch} {Γs Δ : List Ch} (h : Sep w0 S0 w (c :: big Γs :: Δ)) : Sep w0 S0 w (big (Γs ++ [c]) :: Δ) :=
  ⟨h.keep, h.holds.pack, fun b ⟨d, hd, hb⟩ => by
    rcases List.mem_cons.1 hd with rfl | hd
    · obtain ⟨e, he, hb⟩ := hb
      rcases List.mem_append.1 he with he | he
      · exact h.inn b ⟨big Γs, by simp, e, he, hb⟩
      · rw [List.mem_singleton.1 he] at hb; exact h.inn b ⟨c, by simp, hb⟩
    · exact h.inn b ⟨d, by simp [hd], hb⟩⟩
theorem Sep.big0 {w0 w : World} {S0 : Nat → Prop} {Δ : List Ch} (h : Sep w0 S0 w Δ) : Sep w0 S0 w (big [] :: Δ) :=
  ⟨h.keep, Holds.cons.2 ⟨Holds.nil w, fun d _ b ⟨c, hc, _⟩ => by simp at hc, h.holds⟩, fun b ⟨d, hd, hb⟩ => by
    rcases List.mem_cons.1 hd with rfl | hd
    · obtain ⟨e, he, _⟩ := hb; simp at he
    · exact h.inn b ⟨d, hd, hb⟩⟩
section
variable {w0 : World} {S0 : Nat → Prop} {P : Program} {ρ : Option Nat} {n : Nat} {ops : Array Oper} {r : List Oper} {K : St → List Ch → Prop} {Q : Exit → St → List Ch → Prop} {s : St} {Γ Δ1 Δ2 Γs : List Ch} {code : Code}
theorem L.pack (c : Ch) (Γs : List Ch) [h1 : Pk c Γ Δ1] [h2 : Pk (big Γs) Δ1 Δ2] (h : L w0 S0 P ρ n ops r K s (big (Γs ++ [c]) :: Δ2)) : L w0 S0 P ρ n ops r K s Γ := fun w hw =>
  h w ((hw.perm (h1.perm.trans (h2.perm.cons c))).pack)
theorem C.pack (c : Ch) (Γs : List Ch) [h1 : Pk c Γ Δ1] [h2 : Pk (big Γs) Δ1 Δ2] (h : C w0 S0 P ρ n code Q s (big (Γs ++ [c]) :: Δ2)) : C w0 S0 P ρ n code Q s Γ := fun w hw =>
  h w ((hw.perm (h1.perm.trans (h2.perm.cons c))).pack)
theorem C.big0 (h : C w0 S0 P ρ n code Q s (big [] :: Γ)) : C w0 S0 P ρ n code Q s Γ := fun w hw => h w hw.big0
theorem L.big0 (h : L w0 S0 P ρ n ops r K s (big [] :: Γ)) : L w0 S0 P ρ n ops r K s Γ := fun w hw => h w hw.big0
end
end Go.X
namespace Go.X
open Go Go.RowKit
theorem Sep.trans {w0 w1 w2 : World} {S0 : Nat → Prop} {Γ Δ : List Ch} (h : Sep w0 S0 w1 Γ) (k : Sep w1 (fps Γ) w2 Δ) : Sep w0 S0 w2 Δ := by
  have := Sep.frame (Δ := []) (by simpa using h) k
  simpa using this
/-- what a loop's round gives back to the iterator -/
def YR {α σ τ : Type} (G : σ → List Ch) (I : List α → σ → Prop) (Gx : τ → List Ch) (Ix : List α → τ → Prop) (pre : List α) (v : Value) (Γ : List Ch) : Prop :=
  (∃ s, v = .bool true ∧ Γ = G s ∧ I pre s) ∨ (∃ u, v = .bool false ∧ Γ = Gx u ∧ Ix pre u)
/-- THE ROUNDS that an iterator may call: y at the next of xs -/
def Yld (P : Program) (y : Value) {α σ τ : Type} (encs : α → List Value) (xs : List α) (w : World) (S : Nat → Prop) (G : σ → List Ch) (I : List α → σ → Prop) (Gx : τ → List Ch) (Ix : List α → τ → Prop) : Prop :=
  ∀ pre x s w', I pre s → (pre ++ [x]) <+: xs → Sep w S w' (G s) → CallV P y (encs x) w' (Post w' (G s) (YR G I Gx Ix (pre ++ [x])))
/-- AN ITERATOR over xs; Γi are its own pieces -/
def IterOk (P : Program) (gf : FuncId) (cap : Array Value) {α : Type} (encs : α → List Value) (xs : List α) (Γi : List Ch) (C0 : World → Prop) : Prop :=
  ∀ (σ τ : Type) (G : σ → List Ch) (I : List α → σ → Prop) (Gx : τ → List Ch) (Ix : List α → τ → Prop) (s0 : σ) (y : Value) (w : World), C0 w → I [] s0 → Holds w (Γi ++ G s0) → Yld P y encs xs w (fps (Γi ++ G s0)) G I Gx Ix →
    Calls P gf (#[y] ++ cap) w (Post w (Γi ++ G s0) (fun r Γ' => (∃ s, Wk Γ' (G s) ∧ I xs s) ∨ (∃ pre u, Wk Γ' (Gx u) ∧ Ix pre u ∧ pre <+: xs)))
theorem holds_ob2 {w : World} {Γ : List Ch} (h : Holds w Γ) (o1 o2 : Obj) : Holds ((w.alloc o1).alloc o2) (ob (w.heap.size + 1) o2 :: ob w.heap.size o1 :: Γ) := by
  have e2 : ((w.alloc o1).alloc o2).heap[w.heap.size + 1]? = some o2 := by
    have := World.alloc_heap_new (w.alloc o1) o2; rwa [World.size_alloc] at this
  have e1 : ((w.alloc o1).alloc o2).heap[w.heap.size]? = some o1 := (Below.heap_alloc _ _ _ (by simp)).trans (World.alloc_heap_new w _)
  have hk : Keep (fun _ => False) w ((w.alloc o1).alloc o2) := (Keep.alloc _ w o1).trans (Keep.alloc (fun _ => False) _ o2) (fun _ h _ => h)
  refine Holds.cons.2 ⟨e2, ?_, Holds.cons.2 ⟨e1, ?_, ⟨fun c hc => c.stab w _ (h.on c hc) (fun b hb => hk.blk b (c.lt w b (h.on c hc) hb) id), h.dj⟩⟩⟩
  · intro d hd b hb hb'
    have hb : b = w.heap.size + 1 := hb
    rcases List.mem_cons.1 hd with rfl | hd
    · have hb' : b = w.heap.size := hb'; omega
    · have := d.lt w b (h.on d hd) hb'; omega
  · intro d hd b hb hb'
    have hb : b = w.heap.size := hb
    have := d.lt w b (h.on d hd) hb'; omega
theorem Sep.ob2 {w0 w : World} {S0 : Nat → Prop} {Γ : List Ch} (h : Sep w0 S0 w Γ) (o1 o2 : Obj) : Sep w0 S0 ((w.alloc o1).alloc o2) (ob (w.heap.size + 1) o2 :: ob w.heap.size o1 :: Γ) := by
  refine ⟨h.keep.trans ((Keep.alloc (fun _ => False) w o1).trans (Keep.alloc (fun _ => False) _ o2) (fun _ h _ => h)) (fun _ h _ => h.elim), holds_ob2 h.holds o1 o2, fun b ⟨c, hc, hb⟩ hlt => ?_⟩
  have hs := h.keep.size
  rcases List.mem_cons.1 hc with rfl | hc
  · have hb : b = w.heap.size + 1 := hb; omega
  · rcases List.mem_cons.1 hc with rfl | hc
    · have hb : b = w.heap.size := hb; omega
    · exact h.inn b ⟨c, hc, hb⟩ hlt
/-- a block that is no cells turns -/
theorem Sep.putObj {w0 w : World} {S0 : Nat → Prop} {l : Nat} {o : Obj} {Γ : List Ch} (o' : Obj) (h : Sep w0 S0 w (ob l o :: Γ)) : Sep w0 S0 (w.putObj l o') (ob l o' :: Γ) := by
  have hl : w.heap[l]? = some o := h.holds.on (ob l o) (by simp)
  refine Sep.frame (Γ := [ob l o]) (Γ' := [ob l o']) (Δ := Γ) h ⟨⟨rfl, rfl, rfl, by simp, fun b _ hb => World.putObj_heap_other (fun e => hb ⟨ob l o, by simp, e⟩)⟩, ?_, fun b ⟨c, hc, hb⟩ _ => ?_⟩
  · refine Holds.cons.2 ⟨World.putObj_heap_same (Array.getElem?_eq_some_iff.1 hl).1, by simp, Holds.nil _⟩
  · rw [List.mem_singleton.1 hc] at hb; exact ⟨ob l o, by simp, hb⟩
section
variable {w0 : World} {S0 : Nat → Prop} {P : Program} {n : Nat} {Q : Exit → St → List Ch → Prop} {e : Env} {ds : List Deferred} {Γ Γi : List Ch}
/-- how a round's body is left -/
def RQ {α σ τ : Type} (jc : τ → Code) (G : σ → List Ch) (I : List α → σ → Prop) (Gx : τ → List Ch) (Ix : List α → τ → Prop) (b : Ch) (pre : List α) : Exit → St → List Ch → Prop
  | .normal, _, Γ => ∃ s, Wk Γ (b :: G s) ∧ I pre s
  | .ret, _, Γ => ∃ u, jc u = .ret ∧ Wk Γ (b :: Gx u) ∧ Ix pre u
  | .exit id, _, Γ => ∃ u, jc u = .exit id ∧ Wk Γ (b :: Gx u) ∧ Ix pre u
  | _, _, _ => False
theorem C.rf {α σ τ : Type} {g : Operand} {p : Tmp} {assign body : Code} {gf : FuncId} {cap : Array Value} {xs : List α} {C0 : World → Prop} (enc : α → Value) (jc : τ → Code) (G : σ → List Ch) (I : List α → σ → Prop) (Gx : τ → List Ch) (Ix : List α → τ → Prop) (s0 : σ)
    (hg : look e g = some (.func (.func gf) #[] cap)) (hgo : Goes P gf) (hit : IterOk P gf cap (fun x => [enc x]) xs Γi C0) (hC : ∀ w, Sep w0 S0 w Γ → C0 ((w.alloc (.deferred (some []))).alloc (.deferred none)) ∧ ∀ o, C0 ((w.alloc (.deferred (some []))).alloc o)) (hp : Wk Γ (Γi ++ G s0)) (h0 : I [] s0)
    (hbody : ∀ (w' : World) (l : Nat) (r : Loop) (pre : List α) (x : α) (s : σ), Sep w0 S0 w' (ob l (.loop r) :: G s) → r.state = .ready → I pre s → (pre ++ [x]) <+: xs →
      C w' (fps (ob l (.loop r) :: G s)) P (some l) n assign (fun ex s' Γ' => ex = .normal ∧ Γ' = ob l (.loop r) :: G s ∧ C w' (fps (ob l (.loop r) :: G s)) P (some l) n body (RQ jc G I Gx Ix (ob l (.loop { r with state := .busy })) (pre ++ [x])) s' (ob l (.loop { r with state := .busy }) :: G s)) ⟨(p, enc x) :: e, []⟩ (ob l (.loop r) :: G s))
    (hdone : ∀ D s, I xs s → Q .normal ⟨e, { target := .collected D, args := #[] } :: ds⟩ (ob D (.deferred (some [])) :: G s))
    (hstop : ∀ D pre u, Ix pre u → pre <+: xs → C w0 S0 P none n (jc u) Q ⟨e, { target := .collected D, args := #[] } :: ds⟩ (ob D (.deferred (some [])) :: Gx u))
    (hpn : Nat.ble (p + 1) n = true := by rfl) :
    C w0 S0 P none n (.rangeFunc g #[p] assign body) Q ⟨e, ds⟩ Γ := by
  intro w hw0 a ha
  have hpn := Nat.le_of_ble_eq_true hpn
  have hC := hC w hw0
  have hw := hw0.wk hp
  refine wpIn_rangeFunc ?_
  intro fn _
  obtain ⟨rec, hrec, e1, e2, e3, e4, e5, e6, e7⟩ : ∃ rec : LoopState → Option Code → Loop, (∀ st pe, rec st pe = { state := st, pending := pe, fn, tmps := a.tmps, params := #[p], assign, body, defers := w.heap.size }) ∧
      (∀ st pe, (rec st pe).fn = fn) ∧ (∀ st pe, (rec st pe).tmps = a.tmps) ∧ (∀ st pe, (rec st pe).params = #[p]) ∧ (∀ st pe, (rec st pe).assign = assign) ∧ (∀ st pe, (rec st pe).body = body) ∧ (∀ st pe, (rec st pe).state = st) ∧ (∀ st pe, (rec st pe).pending = pe) :=
    ⟨_, fun _ _ => rfl, fun _ _ => rfl, fun _ _ => rfl, fun _ _ => rfl, fun _ _ => rfl, fun _ _ => rfl, fun _ _ => rfl, fun _ _ => rfl⟩
  have hW := hw.ob2 (.deferred (some [])) (.loop (rec .ready none))
  obtain ⟨W1, hW1⟩ : ∃ W1, (w.alloc (.deferred (some []))).alloc (.loop (rec .ready none)) = W1 := ⟨_, rfl⟩
  have hC1 : C0 W1 := hW1 ▸ hC.2 _
  rw [hW1] at hW
  have hperm : (ob (w.heap.size + 1) (.loop (rec .ready none)) :: ob w.heap.size (.deferred (some [])) :: (Γi ++ G s0)).Perm (Γi ++ (ob (w.heap.size + 1) (.loop (rec .ready none)) :: ob w.heap.size (.deferred (some [])) :: G s0)) :=
    (((List.perm_middle (a := ob w.heap.size (.deferred (some []))) (l₁ := Γi) (l₂ := G s0)).symm).cons _).trans List.perm_middle.symm
  have hW2 := hW.perm hperm
  refine ⟨w.heap.size + 1, [{ target := .collected w.heap.size, args := #[] }], W1, { target := .fn (.func gf) cap, args := #[.func (.yield (w.heap.size + 1)) #[] #[]] }, W1, gf,
    #[.func (.yield (w.heap.size + 1)) #[] #[]] ++ cap, W1, ?_, ?_, ?_, ?_, (fun h => by cases h), ?_⟩
  · rw [← hW1, hrec]; exact run_enterLoop_outer _ _ _ _ _
  · have := ha.look hg
    simp only [resolve, this, Deferred.ofValue, Sem.run_bind, Sem.run_pure, Result.andThen]
    simp [Act.eval, Sem.run]
  · intro f' _; trivial
  · simp only [invoke]; exact hgo _ _
  · refine callsFc (ρ := none) ?_
    have key := hit σ τ (fun s => ob (w.heap.size + 1) (.loop (rec .ready none)) :: ob w.heap.size (.deferred (some [])) :: G s) I
      (fun u => ob (w.heap.size + 1) (.loop (rec .done (some (jc u)))) :: ob w.heap.size (.deferred (some [])) :: Gx u) Ix s0 (.func (.yield (w.heap.size + 1)) #[] #[]) W1 hC1 h0 hW2.holds ?_
    · refine Calls.mono key ?_
      rintro e' w3 ⟨v, Γ3, rfl, hR, hs3⟩
      have hs4 := hW2.trans hs3
      rcases hR with ⟨s, hwk, hI⟩ | ⟨pre, u, hwk, hI, hpre⟩
      · have hs5 := hs4.wk hwk
        have hl : w3.heap[w.heap.size + 1]? = some (.loop (rec .ready none)) := hs5.holds.on (ob _ _) (by simp)
        obtain ⟨W3, hend, o3, hs6⟩ : ∃ W3, (Instr.endLoop (w.heap.size + 1)).run P w3 = .ok (none) W3 ∧ ∃ o3, Sep w0 S0 W3 (ob (w.heap.size + 1) o3 :: ob w.heap.size (.deferred (some [])) :: G s) := by
          have hend := run_endLoop (P := P) hl (by rw [e6]; simp)
          rw [e7] at hend
          exact ⟨_, hend, _, hs5.putObj _⟩
        refine ⟨none, _, hend, ?_⟩
        have hs7 := hs6.wk (Δ := ob w.heap.size (.deferred (some [])) :: G s) ⟨[ob (w.heap.size + 1) o3], List.perm_append_comm (l₁ := [_])⟩
        exact ⟨⟨e, { target := .collected w.heap.size, args := #[] } :: ds⟩, ⟨ha.size, by simp [ha.ds], ha.get⟩, _, hs7, hdone w.heap.size s hI⟩
      · have hs5 := hs4.wk hwk
        have hl : w3.heap[w.heap.size + 1]? = some (.loop (rec .done (some (jc u)))) := hs5.holds.on (ob _ _) (by simp)
        obtain ⟨W3, hend, o3, hs6⟩ : ∃ W3, (Instr.endLoop (w.heap.size + 1)).run P w3 = .ok (some (jc u)) W3 ∧ ∃ o3, Sep w0 S0 W3 (ob (w.heap.size + 1) o3 :: ob w.heap.size (.deferred (some [])) :: Gx u) := by
          have hend := run_endLoop (P := P) hl (by rw [e6]; simp)
          rw [e7] at hend
          exact ⟨_, hend, _, hs5.putObj _⟩
        refine ⟨some (jc u), _, hend, ?_⟩
        have hs7 := hs6.wk (Δ := ob w.heap.size (.deferred (some [])) :: Gx u) ⟨[ob (w.heap.size + 1) o3], List.perm_append_comm (l₁ := [_])⟩
        exact hstop w.heap.size pre u hI hpre _ hs7 _ ⟨ha.size, by simp [ha.ds], ha.get⟩
    · intro pre x s w' hI hpre hs
      have hsg := hW2.trans hs
      have hl : w'.heap[w.heap.size + 1]? = some (.loop (rec .ready none)) := hsg.holds.on (ob _ _) (by simp)
      have hy := run_yield (P := P) (args := #[enc x]) hl (by rw [e3]; rfl)
      rw [e1, e2, e3, e4, e5] at hy
      refine .inr ⟨w.heap.size + 1, fn, _, assign, body, rfl, hy, ?_⟩
      refine roundIn_of_wpIn trivial ?_
      have hag : Agr n ⟨(p, enc x) :: e, []⟩ { tmps := ((#[p] : Array Tmp).zip #[enc x]).foldl (fun tmps (t, a) => tmps.setIfInBounds t a) a.tmps, defers := [] } := by
        have hz : ((#[p] : Array Tmp).zip #[enc x]).foldl (fun tmps (t, a) => tmps.setIfInBounds t a) a.tmps = a.tmps.setIfInBounds p (enc x) := by simp
        rw [hz]
        refine ⟨by simp [ha.size], rfl, fun i v hi => ?_⟩
        simp only [get?] at hi
        rw [Array.getD_eq_getD_getElem?, Array.getElem?_setIfInBounds]
        cases hb : Nat.beq i p with
        | true =>
          rw [hb] at hi
          have := Nat.eq_of_beq_eq_true hb
          subst this
          simp at hi
          rw [if_pos rfl, if_pos (by rw [ha.size]; omega)]
          simp [hi]
        | false =>
          rw [hb] at hi
          have : p ≠ i := fun e => by subst e; simp at hb
          rw [if_neg this]
          have := ha.get i v hi
          rwa [Array.getD_eq_getD_getElem?] at this
      have hsp : Sep w0 S0 w' (ob (w.heap.size + 1) (.loop (rec .ready none)) :: G s) := hsg.wk ⟨[ob w.heap.size (.deferred (some []))], ((List.perm_append_comm (l₁ := [_]) (l₂ := G s))).cons _⟩
      have hB := hbody w' (w.heap.size + 1) (rec .ready none) pre x s hsp (e6 _ _) hI hpre w' hsp.holds.sep _ hag
      refine wpIn_mono hB ?_
      rintro ex1 a1 w1 hq
      obtain ⟨s1, hs1, Γ1, hw1, rfl, rfl, hC2⟩ := hq
      have hl1 : w1.heap[w.heap.size + 1]? = some (.loop (rec .ready none)) := hw1.holds.on (ob _ _) (by simp)
      refine ⟨_, run_beginRound hl1 (e6 _ _), ?_⟩
      have hw2 := hw1.putObj (.loop { rec .ready none with state := .busy })
      refine wpIn_mono (hC2 _ hw2 _ hs1) ?_
      -- what is left behind a round
      have fin : ∀ (jump : Option Code) (Δ : List Ch) (w3 : World), Sep w' (fps (ob (w.heap.size + 1) (.loop (rec .ready none)) :: G s)) w3 (ob (w.heap.size + 1) (.loop { rec .ready none with state := .busy }) :: Δ) →
          ∃ w4, (Instr.endRound (w.heap.size + 1) jump).run P w3 = .ok (.bool jump.isNone) w4 ∧ Sep w' (fps (ob (w.heap.size + 1) (.loop (rec .ready none)) :: ob w.heap.size (.deferred (some [])) :: G s)) w4 (ob (w.heap.size + 1) (.loop (rec (if jump.isNone then .ready else .done) jump)) :: ob w.heap.size (.deferred (some [])) :: Δ) := by
        intro jump Δ w3 h3
        have hl3 : w3.heap[w.heap.size + 1]? = some (.loop { rec .ready none with state := .busy }) := h3.holds.on (ob _ _) (by simp)
        have hend := run_endRound (P := P) jump hl3
        have er : ({ ({ rec .ready none with state := .busy } : Loop) with state := if jump.isNone then .ready else .done, pending := jump } : Loop) = rec (if jump.isNone then .ready else .done) jump := by rw [hrec, hrec]
        refine ⟨_, hend, ?_⟩
        have h4 := h3.putObj (.loop (rec (if jump.isNone then .ready else .done) jump))
        have hp1 : (ob (w.heap.size + 1) (.loop (rec .ready none)) :: ob w.heap.size (.deferred (some [])) :: G s).Perm ((ob (w.heap.size + 1) (.loop (rec .ready none)) :: G s) ++ [ob w.heap.size (.deferred (some []))]) := (List.perm_append_comm (l₁ := [_]) (l₂ := G s)).cons _
        have h5 := Sep.frame (hs.holds.sep.perm hp1) h4
        rw [← er] at h5 ⊢
        exact h5.perm ((List.perm_append_comm (l₁ := Δ) (l₂ := [_])).cons _)
      rintro ex2 a2 w3 ⟨s2, hs2, Γ2, hw3, hR2⟩
      cases ex2 with
      | normal =>
        obtain ⟨s', hwk, hI'⟩ := hR2
        obtain ⟨w4, hrun, hsep⟩ := fin none _ w3 (hw3.wk hwk)
        exact ⟨_, w4, hrun, _, _, rfl, .inl ⟨s', rfl, rfl, hI'⟩, hsep⟩
      | ret =>
        obtain ⟨u, hj, hwk, hI'⟩ := hR2
        obtain ⟨w4, hrun, hsep⟩ := fin (some .ret) _ w3 (hw3.wk hwk)
        refine ⟨_, w4, hrun, _, _, rfl, .inr ⟨u, rfl, rfl, hI'⟩, ?_⟩
        show Sep _ _ _ (ob _ (.loop (rec .done (some (jc u)))) :: _)
        rw [hj]; exact hsep
      | exit id =>
        obtain ⟨u, hj, hwk, hI'⟩ := hR2
        obtain ⟨w4, hrun, hsep⟩ := fin (some (.exit id)) _ w3 (hw3.wk hwk)
        refine ⟨_, w4, hrun, _, _, rfl, .inr ⟨u, rfl, rfl, hI'⟩, ?_⟩
        show Sep _ _ _ (ob _ (.loop (rec .done (some (jc u)))) :: _)
        rw [hj]; exact hsep
      | goto t => exact hR2.elim
      | panic ch => exact hR2.elim
      | outgrown => exact hR2.elim
end
end Go.X
namespace Go.X
open Go Go.RowKit
section
variable {w0 : World} {S0 : Nat → Prop} {P : Program} {ρ : Option Nat} {n : Nat} {ops : Array Oper} {r : List Oper} {K : St → List Ch → Prop} {e : Env} {ds : List Deferred} {Γ Δ : List Ch}
  {d : Nat} {ty : TypeId} {ps : String} {af : Array Edge} {x y z u : Operand} {t t' el : TypeId} {b o : Nat} {c : List Value} {v : Value} {a a2 : Option Addr} {sl cp sz : Nat} {xs : List Value} {i j : Int} {k kj : IntKind} {l m : List UInt8}
/-! an interface value beside nil -/
theorem run_eqIfN {w : World} {ms : Array (String × TypeId)} (hu : P.underlying t = some (.interface ms)) : (Op.equal t .nilIface .nilIface).run P w = .ok true w := by
  have : ∀ q, (Op.equalIn (q + 1) t .nilIface .nilIface).run P w = .ok true w := fun q => by
    unfold Op.equalIn
    simp [Sem.run_bind, run_underlying hu, Result.andThen, Sem.run]
  exact this (Op.maxDepth - 1)
theorem run_eqIfS {w : World} {ms : Array (String × TypeId)} (hu : P.underlying t = some (.interface ms)) (q : TypeId) (p : Value) : (Op.equal t (.iface q p) .nilIface).run P w = .ok false w := by
  have : ∀ d, (Op.equalIn (d + 1) t (.iface q p) .nilIface).run P w = .ok false w := fun d => by
    unfold Op.equalIn
    simp [Sem.run_bind, run_underlying hu, Result.andThen, Sem.run]
  exact this (Op.maxDepth - 1)
theorem Y.eqfN (hu : ∃ ms, P.underlying t = some (.interface ms)) (hx : look e x = some .nilIface) : Yl w0 S0 P Γ e ⟨some d, .binOp .eql t x (.const .nilIface) t', ty, ps, af, none⟩ (.bool true) := fun ev w he hw => by
  obtain ⟨ms, hu⟩ := hu
  simp only [execOp, he x _ hx, he _ _ (show look e (.const .nilIface) = some .nilIface from rfl)]
  simp only [eqGuard, Go.binOp, Sem.run_bind, run_eqIfN hu, Result.andThen, Sem.run_pure]
  simp [Sem.run]
theorem Y.eqfS {q : TypeId} {p : Value} (hu : ∃ ms, P.underlying t = some (.interface ms)) (hx : look e x = some (.iface q p)) : Yl w0 S0 P Γ e ⟨some d, .binOp .eql t x (.const .nilIface) t', ty, ps, af, none⟩ (.bool false) := fun ev w he hw => by
  obtain ⟨ms, hu⟩ := hu
  simp only [execOp, he x _ hx, he _ _ (show look e (.const .nilIface) = some .nilIface from rfl)]
  simp only [eqGuard, Go.binOp, Sem.run_bind, run_eqIfS hu, Result.andThen, Sem.run_pure]
  simp [Sem.run]
theorem Y.nefN (hu : ∃ ms, P.underlying t = some (.interface ms)) (hx : look e x = some .nilIface) : Yl w0 S0 P Γ e ⟨some d, .binOp .neq t x (.const .nilIface) t', ty, ps, af, none⟩ (.bool false) := fun ev w he hw => by
  obtain ⟨ms, hu⟩ := hu
  simp only [execOp, he x _ hx, he _ _ (show look e (.const .nilIface) = some .nilIface from rfl)]
  simp only [eqGuard, Go.binOp, Sem.run_bind, run_eqIfN hu, Result.andThen, Sem.run_pure]
  simp [Sem.run]
theorem Y.nefS {q : TypeId} {p : Value} (hu : ∃ ms, P.underlying t = some (.interface ms)) (hx : look e x = some (.iface q p)) : Yl w0 S0 P Γ e ⟨some d, .binOp .neq t x (.const .nilIface) t', ty, ps, af, none⟩ (.bool true) := fun ev w he hw => by
  obtain ⟨ms, hu⟩ := hu
  simp only [execOp, he x _ hx, he _ _ (show look e (.const .nilIface) = some .nilIface from rfl)]
  simp only [eqGuard, Go.binOp, Sem.run_bind, run_eqIfS hu, Result.andThen, Sem.run_pure]
  simp [Sem.run]
/-! shifts, bits -/
theorem Y.shl {q : Int} (hx : look e x = some (.int k i)) (hy : look e y = some (.int kj q)) (h0 : 0 ≤ q) : Yl w0 S0 P Γ e ⟨some d, .binOp .shl t x y t', ty, ps, af, none⟩ (.int k (k.wrap (i * 2 ^ (min q.toNat k.bits)))) := fun ev w he hw => by
  simp only [execOp, he x _ hx, he y _ hy]
  simp [eqGuard, Go.binOp, Op.shift, show ¬ q < 0 by omega, Sem.run_bind, Result.andThen, Sem.run]
theorem Y.shr {q : Int} (hx : look e x = some (.int k i)) (hy : look e y = some (.int kj q)) (h0 : 0 ≤ q) : Yl w0 S0 P Γ e ⟨some d, .binOp .shr t x y t', ty, ps, af, none⟩ (.int k (i.fdiv (2 ^ (min q.toNat k.bits)))) := fun ev w he hw => by
  simp only [execOp, he x _ hx, he y _ hy]
  simp [eqGuard, Go.binOp, Op.shift, show ¬ q < 0 by omega, Sem.run_bind, Result.andThen, Sem.run]
theorem Y.and (hx : look e x = some (.int k i)) (hy : look e y = some (.int k j)) : Yl w0 S0 P Γ e ⟨some d, .binOp .and t x y t', ty, ps, af, none⟩ (.int k (k.wrap ((BitVec.ofInt k.bits i &&& BitVec.ofInt k.bits j).toNat : Int))) := fun ev w he hw => by
  simp only [execOp, he x _ hx, he y _ hy]
  simp [eqGuard, Go.binOp, Op.intBits, Sem.run_bind, Result.andThen, Sem.run]
theorem Y.or (hx : look e x = some (.int k i)) (hy : look e y = some (.int k j)) : Yl w0 S0 P Γ e ⟨some d, .binOp .or t x y t', ty, ps, af, none⟩ (.int k (k.wrap ((BitVec.ofInt k.bits i ||| BitVec.ofInt k.bits j).toNat : Int))) := fun ev w he hw => by
  simp only [execOp, he x _ hx, he y _ hy]
  simp [eqGuard, Go.binOp, Op.intBits, Sem.run_bind, Result.andThen, Sem.run]
theorem Y.xor (hx : look e x = some (.int k i)) (hy : look e y = some (.int k j)) : Yl w0 S0 P Γ e ⟨some d, .binOp .xor t x y t', ty, ps, af, none⟩ (.int k (k.wrap ((BitVec.ofInt k.bits i ^^^ BitVec.ofInt k.bits j).toNat : Int))) := fun ev w he hw => by
  simp only [execOp, he x _ hx, he y _ hy]
  simp [eqGuard, Go.binOp, Op.intBits, Sem.run_bind, Result.andThen, Sem.run]
/-! an array's element -/
theorem Y.aidx {len : Nat} {vs : List Value} (hu : P.underlying t = some (.array len el)) (hs : Sc P el) (hx : look e x = some (.agg vs.toArray)) (hy : look e y = some (.int k i)) (h0 : 0 ≤ i) (hi : i < len) (hv : vs[i.toNat]? = some v) : Yl w0 S0 P Γ e ⟨some d, .index t x y, ty, ps, af, none⟩ v := fun ev w he hw => by
  obtain ⟨d', hd, hd2, hz⟩ := hs
  simp only [execOp, he x _ hx, he y _ hy]
  simp [Instr.index, asIntOf, Sem.run_bind, run_underlying hu, Result.andThen, Sem.run, h0, hi, run_size hz, part, run_isAgg hd, hd2, hv]
theorem L.aidxF {α : Type} {len : Nat} (f : α → Value) (ls : List α) {vs : List Value} (hu : P.underlying t = some (.array len el)) (hs : Sc P el) (hx : look e x = some (.agg vs.toArray)) (hy : look e y = some (.int k i)) (hvs : vs = ls.map f) (h0 : 0 ≤ i) (hi : i < len) (hl : i.toNat < ls.length) (h : ∀ u, ls[i.toNat]? = some u → L w0 S0 P ρ n ops r K ⟨(d, f u) :: e, ds⟩ Γ) (hd : Nat.ble (d + 1) n = true := by rfl) :
    L w0 S0 P ρ n ops (⟨some d, .index t x y, ty, ps, af, none⟩ :: r) K ⟨e, ds⟩ Γ := by
  have hv : ls[i.toNat]? = some (ls[i.toNat]'hl) := List.getElem?_eq_getElem hl
  subst hvs
  exact L.yl (Y.aidx hu hs hx hy h0 hi (v := f ls[i.toNat]) (by simp [hv])) (h _ hv) hd
theorem Y.ixa {len : Nat} (hu : P.underlying t = some (.array len el)) (hs : Sc P el) (hx : look e x = some (.pointer (some ⟨b, o, none⟩))) (hy : look e y = some (.int k i)) (h0 : 0 ≤ i) (hi : i < len) : Yl w0 S0 P Γ e ⟨some d, .indexAddr t x y, ty, ps, af, none⟩ (.pointer (some ⟨b, o + i.toNat, none⟩)) := fun ev w he hw => by
  obtain ⟨d', hd, hd2, hz⟩ := hs
  simp [execOp, Instr.indexAt, he x _ hx, he y _ hy, asIntOf, run_underlying hu, h0, hi, run_size hz, add_pl, Sem.run, Instr.sureAddr]
theorem L.byc {s : St} (p : Prop) [Decidable p] (h1 : p → L w0 S0 P ρ n ops r K s Γ) (h2 : ¬p → L w0 S0 P ρ n ops r K s Γ) : L w0 S0 P ρ n ops r K s Γ := by
  by_cases h : p
  · exact h1 h
  · exact h2 h
theorem C.byc {c : Code} {Q : Exit → St → List Ch → Prop} {s : St} (p : Prop) [Decidable p] (h1 : p → C w0 S0 P ρ n c Q s Γ) (h2 : ¬p → C w0 S0 P ρ n c Q s Γ) : C w0 S0 P ρ n c Q s Γ := by
  by_cases h : p
  · exact h1 h
  · exact h2 h
/-! rows made -/
theorem madeOne {zv : Value} {q : Nat} (hz : zv.cells = #[v]) : madeCells zv.cells q = (List.replicate q v).toArray := by
  rw [hz]
  apply Array.ext
  · simp [madeCells]
  · intro i h1 h2
    simp [madeCells, Nat.mod_one]
theorem mkOf {bytes : Nat} {zv : Value} (h : (P.info? el).map (fun i => (i.zero, i.size, i.bytes)) = some (some zv, 1, bytes)) : ∃ it, P.info? el = some it ∧ it.zero = some zv ∧ it.size = 1 ∧ it.bytes = bytes := by
  cases hi : P.info? el with
  | none => rw [hi] at h; cases h
  | some it =>
    rw [hi] at h
    simp only [Option.map_some, Option.some.injEq, Prod.mk.injEq] at h
    exact ⟨it, rfl, h.1, h.2.1, h.2.2⟩
theorem L.mks {bytes q : Nat} {zv : Value} {kl kc : IntKind} (hu : P.underlying t = some (.slice el)) (hi : ∃ it, P.info? el = some it ∧ it.zero = some zv ∧ it.size = 1 ∧ it.bytes = bytes) (hz : zv.cells = #[v]) (hx : look e x = some (.int kl q)) (hy : look e y = some (.int kc q)) (hq : q ≤ 16777216) (hb : bytes ≤ 1024)
    (h : ∀ b, L w0 S0 P ρ n ops r K ⟨(d, .slice (some ⟨b, 0, none⟩) q q) :: e, ds⟩ (own el 1 (some ⟨b, 0, none⟩) q q (List.replicate q v) :: Γ)) (hd : Nat.ble (d + 1) n = true := by rfl) :
    L w0 S0 P ρ n ops (⟨some d, .makeSlice t x y, ty, ps, af, none⟩ :: r) K ⟨e, ds⟩ Γ :=
  L.step (fun v' Γ' => ∃ b, v' = .slice (some ⟨b, 0, none⟩) q q ∧ Γ' = own el 1 (some ⟨b, 0, none⟩) q q (List.replicate q v) :: Γ) (fun _ h => by cases h) (fun ev w he hw => by
    obtain ⟨it, hit, hzz, hs, hbb⟩ := hi
    have hm : bytes * q ≤ 1024 * 16777216 := Nat.mul_le_mul hb hq
    have hm2 : (bytes : Int) * (q : Int) ≤ 281474976710656 := by
      have e0 : (bytes : Int) * (q : Int) = ((bytes * q : Nat) : Int) := by push_cast; rfl
      omega
    have := run_makeSlice (w := w) t el it zv hu hit hzz kl kc q q (by omega) (by omega) (by rw [hs]; omega) (by rw [hbb]; exact hm2) (by omega)
    rw [hs, Nat.mul_one] at this
    simp only [Int.toNat_natCast] at this
    rw [madeOne hz] at this
    refine ⟨_, _, _, by simp only [execOp, he x _ hx, he y _ hy, Sem.run_bind, this, Result.andThen, Sem.run_pure], hw.newOwn (List.replicate q v) el 1 q (by simp) (by unfold maxLen; omega), _, rfl, rfl⟩) (fun v' Γ' ⟨b, h1, h2⟩ => by rw [h1, h2]; exact h b) hd
/-! a place in a row of one's own -/
theorem own_set {w : World} {q : Nat} {nn cc : Nat} {g : Nat} (h : (own t 1 (some ⟨g, 0, none⟩) nn cc xs).on w) (hq : q < xs.length) (v : Value) : (own t 1 (some ⟨g, 0, none⟩) nn cc (xs.set q v)).on (w.setCell ⟨g, q, none⟩ v) ∧ (∃ u, w.cell? ⟨g, q, none⟩ = some u) ∧ w.frozen? ⟨g, q, none⟩ = false := by
  obtain ⟨h1, h2⟩ := h
  rcases h2 with ⟨h2, _⟩ | ⟨g', cap, cur, hv, hg, hh, h3, h4, h5, h6⟩
  · cases h2
  · cases hv
    have hlt : q < cur.size := by
      have : xs.length ≤ cur.size := by rw [← h6, List.length_take]; simp; omega
      omega
    refine ⟨⟨by simpa using h1, .inr ⟨g, cc, cur.setIfInBounds q v, rfl, hg, ?_, h3, h4, by simpa using h5, ?_⟩⟩, ⟨cur[q], ?_⟩, ?_⟩
    · simp only [World.setCell, Array.getElem?_modify, if_true, hh, Option.map_some]
      simp
    · rw [← h6]; simp [List.take_set]
    · simp [World.cell?, hh, hlt]
    · simp [World.frozen?, hh]
theorem L.sts {q nn cc : Nat} {g : Nat} (hs : Sc P t) (hx : look e x = some (.pointer (shift (some ⟨g, 0, none⟩) q))) (hy : look e y = some v) (hv : v.oneCell' = true) [ho : Ow (some ⟨g, 0, none⟩) Γ t' 1 nn cc xs Δ] (hq : q < xs.length) (h : L w0 S0 P ρ n ops r K ⟨e, ds⟩ (own t' 1 (some ⟨g, 0, none⟩) nn cc (xs.set q v) :: Δ)) :
    L w0 S0 P ρ n ops (⟨none, .store t x y, ty, ps, af, none⟩ :: r) K ⟨e, ds⟩ Γ :=
  L.skp _ (fun _ h => by cases h) (fun ev w he hw => by
    have hw2 := hw.perm ho.perm
    have hon := hw2.holds.on (own t' 1 (some ⟨g, 0, none⟩) nn cc xs) (by simp)
    obtain ⟨h1, ⟨u, hu⟩, h3⟩ := own_set hon hq v
    have hsh : shift (some ⟨g, 0, none⟩) q = some ⟨g, q, none⟩ := by simp [shift, add_pl]
    rw [hsh] at hx
    refine ⟨w.setCell ⟨g, q, none⟩ v, by simp [execOp, he x _ hx, he y _ hy, Instr.storeAt, Instr.sureAddr, run_st hs hv hu h3, Sem.run], ?_⟩
    refine Sep.frame (Γ := [own t' 1 (some ⟨g, 0, none⟩) nn cc xs]) (Γ' := [own t' 1 (some ⟨g, 0, none⟩) nn cc (xs.set q v)]) (Δ := Δ) hw2 ⟨(Keep.setCell w ⟨g, q, none⟩ v).mono fun i _ hi => ⟨_, List.mem_singleton.2 rfl, 0, none, by subst hi; rfl⟩, ⟨fun c hc => ?_, by simp⟩, fun i ⟨c, hc, hb⟩ _ => ?_⟩
    · rw [List.mem_singleton.1 hc]; exact h1
    · rw [List.mem_singleton.1 hc] at hb; exact ⟨_, List.mem_singleton.2 rfl, hb⟩) h
/-! the letters of a text -/
class Ob (b : Nat) (Γ : List Ch) (o : outParam Obj) (Δ : outParam (List Ch)) : Prop where
  perm : Γ.Perm (ob b o :: Δ)
instance (priority := 1100) Ob.here {b : Nat} {o : Obj} {Γ : List Ch} : Ob b (ob b o :: Γ) o Γ := ⟨.refl _⟩
instance Ob.there {b : Nat} {y : Ch} {o : Obj} {Γ Δ : List Ch} [h : Ob b Γ o Δ] : Ob b (y :: Γ) o (y :: Δ) := ⟨(h.perm.cons y).trans (.swap _ _ _)⟩
theorem Sep.newOb {w : World} (hw : Sep w0 S0 w Γ) (o : Obj) : Sep w0 S0 (w.alloc o) (ob w.heap.size o :: Γ) := by
  refine ⟨hw.keep.trans (Keep.alloc (fun _ => False) w o) (fun _ h _ => h.elim), Holds.cons.2 ⟨World.alloc_heap_new w o, fun d hd b hb hb' => ?_, ⟨fun c hc => c.stab w _ (hw.holds.on c hc) (fun b hb => Below.heap_alloc _ _ _ (c.lt w b (hw.holds.on c hc) hb)), hw.holds.dj⟩⟩, fun b ⟨c, hc, hb⟩ hlt => ?_⟩
  · have hb : b = w.heap.size := hb
    have := d.lt w b (hw.holds.on d hd) hb'; omega
  · have hs := hw.keep.size
    rcases List.mem_cons.1 hc with rfl | hc
    · have hb : b = w.heap.size := hb; omega
    · exact hw.inn b ⟨c, hc, hb⟩ hlt
theorem L.rngS (hu : StT P t) (hx : look e x = some (.string (S l))) (h : ∀ b, L w0 S0 P ρ n ops r K ⟨(d, .pointer (some ⟨b, 0, none⟩)) :: e, ds⟩ (ob b (.stringIter (S l) 0) :: Γ)) (hd : Nat.ble (d + 1) n = true := by rfl) :
    L w0 S0 P ρ n ops (⟨some d, .range t x, ty, ps, af, none⟩ :: r) K ⟨e, ds⟩ Γ :=
  L.step (fun v' Γ' => ∃ b, v' = .pointer (some ⟨b, 0, none⟩) ∧ Γ' = ob b (.stringIter (S l) 0) :: Γ) (fun _ h => by cases h) (fun ev w he hw => by
    have hu : P.underlying t = some .string := hu
    refine ⟨_, _, _, by simp only [execOp, Instr.range, he x _ hx, Sem.run_bind, run_underlying hu, Result.andThen, Sem.run_pure, run_newObj_alloc], hw.newOb _, w.heap.size, rfl, rfl⟩) (fun v' Γ' ⟨b, h1, h2⟩ => by rw [h1, h2]; exact h b) hd
theorem getB (l : List UInt8) (q : Nat) (u : UInt8) (h : l[q]? = some u) : (S l).get! q = u := by
  obtain ⟨hlt, hu⟩ := List.getElem?_eq_some_iff.1 h
  show (S l).data[q]! = u
  rw [getElem!_pos _ _ (by simpa [S] using hlt)]
  simpa [S] using hu
/-- a letter below 128 stands for itself; else the rune is 128 or more -/
theorem decode_cases (l : List UInt8) (q : Nat) (u : UInt8) (h : l[q]? = some u) : (u.toNat < 128 ∧ Utf8.decode (S l) q = (u.toNat, 1)) ∨ (128 ≤ u.toNat ∧ 128 ≤ (Utf8.decode (S l) q).1) := by
  have hg := getB l q u h
  by_cases hu : u.toNat < 128
  · left; refine ⟨hu, ?_⟩
    unfold Utf8.decode
    simp only [Nat.add_zero, hg]
    rw [if_pos (by omega)]
  · right; refine ⟨by omega, ?_⟩
    unfold Utf8.decode
    simp only [Nat.add_zero, hg]
    rw [if_neg (by omega)]
    repeat' split
    all_goals first | (simp [Utf8.runeError]; done) | (rename_i hh; dsimp only; omega) | (rename_i hh; simp only [Bool.and_eq_true, decide_eq_true_eq] at hh; dsimp only; omega)
theorem L.nxtS {q : Nat} (hx : look e x = some (.pointer (some ⟨b, 0, none⟩))) [ho : Ob b Γ (.stringIter (S l) q) Δ]
    (h1 : q < l.length → ∀ u c wd, l[q]? = some u → ((u.toNat < 128 ∧ c = u.toNat ∧ wd = 1) ∨ (128 ≤ u.toNat ∧ 128 ≤ c)) → L w0 S0 P ρ n ops r K ⟨(d, .tuple ⟨[.bool true, .int .i64 q, .int .i32 (c : Nat)]⟩) :: e, ds⟩ (ob b (.stringIter (S l) (q + wd)) :: Δ))
    (h2 : ¬ q < l.length → L w0 S0 P ρ n ops r K ⟨(d, .tuple ⟨[.bool false]⟩) :: e, ds⟩ (ob b (.stringIter (S l) q) :: Δ)) (hd : Nat.ble (d + 1) n = true := by rfl) :
    L w0 S0 P ρ n ops (⟨some d, .next x true, ty, ps, af, none⟩ :: r) K ⟨e, ds⟩ Γ := by
  have hsz : (S l).size = l.length := by simp [S, ByteArray.size]
  by_cases hq : q < l.length
  · have hu : l[q]? = some l[q] := List.getElem?_eq_getElem hq
    refine L.step (fun v' Γ' => ∃ c wd, v' = .tuple ⟨[.bool true, .int .i64 q, .int .i32 (c : Nat)]⟩ ∧ Γ' = ob b (.stringIter (S l) (q + wd)) :: Δ ∧ ((l[q].toNat < 128 ∧ c = l[q].toNat ∧ wd = 1) ∨ (128 ≤ l[q].toNat ∧ 128 ≤ c))) (fun _ h => by cases h) (fun ev w he hw => ?_)
      (fun v' Γ' ⟨c, wd, e1, e2, e3⟩ => by rw [e1, e2]; exact h1 hq _ c wd hu e3) hd
    have hw2 := hw.perm ho.perm
    have hb : w.heap[b]? = some (.stringIter (S l) q) := hw2.holds.on (ob b _) (by simp)
    refine ⟨_, _, _, ?_, hw2.putObj (.stringIter (S l) (q + (Utf8.decode (S l) q).2)), (Utf8.decode (S l) q).1, (Utf8.decode (S l) q).2, rfl, rfl, ?_⟩
    · simp only [execOp, he x _ hx, Instr.next]
      simp [Sem.run_bind, getObj, setObj, Sem.run, hb, Result.andThen, hsz, hq, World.putObj, goInt]
    · rcases decode_cases l q _ hu with ⟨a1, a2⟩ | a
      · exact .inl ⟨a1, by rw [a2], by rw [a2]⟩
      · exact .inr a
  · refine L.step (fun v' Γ' => v' = .tuple ⟨[.bool false]⟩ ∧ Γ' = ob b (.stringIter (S l) q) :: Δ) (fun _ h => by cases h) (fun ev w he hw => ?_) (fun v' Γ' ⟨e1, e2⟩ => by rw [e1, e2]; exact h2 hq) hd
    have hw2 := hw.perm ho.perm
    have hb : w.heap[b]? = some (.stringIter (S l) q) := hw2.holds.on (ob b _) (by simp)
    refine ⟨_, w, _, ?_, hw2, rfl, rfl⟩
    simp only [execOp, he x _ hx, Instr.next]
    simp [Sem.run_bind, getObj, setObj, Sem.run, hb, Result.andThen, hsz, hq]
theorem FnPost.rgM {fn : Func} {R : Value → List Ch → Prop} {D : Nat} {xs : List ResultVar} {vs : List Value} [hD : Ob D Γ (.deferred (some [])) Δ] (hr : fn.results.toList = xs) (h : ResAll P Δ e xs vs) (hR : R (mkRes vs) Δ) : FnPost P fn R .ret ⟨e, [{ target := .collected D, args := #[] }]⟩ Γ :=
  ⟨vs, [ob D (.deferred (some []))], Δ, hD.perm, ⟨D, [], rfl, rfl, rfl⟩, by rw [hr]; exact h, hR⟩
end
end Go.X
namespace Go.X
open Go Go.RowKit
section
variable {w0 : World} {S0 : Nat → Prop} {P : Program} {ρ : Option Nat} {n : Nat} {ops : Array Oper} {r : List Oper} {K : St → List Ch → Prop} {e : Env} {ds : List Deferred} {Γ Δ : List Ch}
  {d : Nat} {ty : TypeId} {ps : String} {af : Array Edge} {x y z u : Operand} {t t' el : TypeId} {b o : Nat} {c : List Value} {v : Value} {a a2 : Option Addr} {sl cp sz : Nat} {xs : List Value} {i j : Int} {k kj : IntKind} {l m : List UInt8}
/-- arr[:hi] -/
theorem Y.slah {len : Nat} (hu : P.underlying t = some (.array len el)) (hs : Sc P el) (hx : look e x = some (.pointer (some ⟨b, o, none⟩))) (hz : look e z = some (.int kj j)) (h : 0 ≤ j ∧ j ≤ len) :
    Yl w0 S0 P Γ e ⟨some d, .slice t x none (some z) none, ty, ps, af, none⟩ (.slice (some ⟨b, o, none⟩) j.toNat len) := fun ev w he hw => by
  obtain ⟨d', hd, hd2, hzz⟩ := hs
  have h1 := bnd (P := P) (w := w) (v := .int kj j) (q := len) (cd := .sliceAlen) rfl ⟨by omega, by omega⟩
  simp [execOp, Instr.sliceAt, Instr.sliceBounds, he x _ hx, he z _ hz, run_underlying hu, run_size hzz, h1, Sem.run, Instr.sureAddr, add_pl]
/-- a block's head, read through a slice -/
theorem Rd_blk {b nn : Nat} [hb : Bk b Γ c t Δ] : Rd w0 S0 Γ (some ⟨b, 0, none⟩) (c.take nn) := ⟨fun w hw q u hq => by
  have hh := hb.on hw.holds
  refine ⟨b, 0, rfl, ?_⟩
  rw [Nat.zero_add, cell_of hh]
  rw [List.getElem?_take] at hq
  split at hq
  · exact hq
  · cases hq⟩
theorem C.drwP {id : Nat} {Q : Exit → St → List Ch → Prop} {s : St} {Γ Δ Γ0 : List Ch} (hb : Γ.Perm (Δ ++ Γ0)) (p : Pl) (hm : P.follows .mixedOrders = true) (hp : planGood ops p = true) (h : V w0 S0 P ρ n ops (Q .normal) Γ0 p s Δ) : C w0 S0 P ρ n (.region id ops true) Q s Γ := by
  haveI : Bks [] (Δ ++ Γ0) [] (Δ ++ Γ0) := ⟨.refl _⟩
  refine C.perm hb ?_
  intro w hw a ha
  simp only [planGood, Bool.and_eq_true, decide_eq_true_eq] at hp
  obtain ⟨⟨h1, h2⟩, h3⟩ := hp
  have hw2 : Sep w0 S0 { w with drawn := w.drawn + 1 } (Δ ++ Γ0) := by
    have := Sep.frame (Γ := []) (Γ' := []) (Δ := Δ ++ Γ0) hw (w' := { w with drawn := w.drawn + 1 }) ⟨Keep.drew _ _ _, Holds.nil _, fun b hb => by obtain ⟨c, hc, _⟩ := hb; simp at hc⟩
    simpa using this
  refine wpIn_mono (wpIn_region_any hm (AnyS.any _ _ _ _ (V.sound h1 p _ _ s Δ a _ cl_init h3 h2 h ha hw2))) ?_
  intro e a' w' hq
  cases e <;> first | exact hq.elim | skip
  obtain ⟨s', hs', Γ', hw', hq⟩ := hq
  exact ⟨s', hs', Γ', hw', hq⟩
theorem C.drwPS {id : Nat} {Q : Exit → St → List Ch → Prop} {s : St} {Γ Δ Γ0 : List Ch} {y : Code} (hb : Γ.Perm (Δ ++ Γ0)) (p : Pl) (hm : P.follows .mixedOrders = true) (hp : planGood ops p = true) (h : V w0 S0 P ρ n ops (C w0 S0 P ρ n y Q) Γ0 p s Δ) : C w0 S0 P ρ n (.seq (.region id ops true) y) Q s Γ :=
  .seq (.drwP hb p hm hp h)
theorem strCells_S (l : List UInt8) : Lib.strCells (S l) = byteL l := rfl
theorem run_appS {w : World} {q cc : Nat} (hT : ElT P t el 1 1) (hu : StT P t') (hw : Sep w0 S0 w (own el 1 a q cc xs :: Γ)) (hb : q + l.length ≤ 140737488355328) :
    ∃ a' c' w', (Builtin.append_ #[t, t'] ty #[.slice a q cc, .string (S l)]).run P w = .ok (.slice a' (q + l.length) c') w' ∧ Sep w0 S0 w' (own el 1 a' (q + l.length) c' (xs ++ byteL l) :: Γ) := by
  obtain ⟨hs, i, z, hi, hz, hsz, hby, hzc, hpos⟩ := hT
  have hu : P.underlying t' = some .string := hu
  have ho : w.ownsRow 0 el 1 (.slice a q cc) q xs := hw.holds.on (own el 1 a q cc xs) (by simp)
  have hsl : (S l).size = l.length := by simp [S, ByteArray.size]
  have hm : q + l.length ≤ maxLen := by unfold maxLen; omega
  have hbl : (byteL l).length = l.length := by simp [byteL]
  cases a with
  | none =>
    obtain ⟨rfl, rfl, rfl⟩ := nil_of ho
    have hw2 : Sep w0 S0 w Γ := hw.drop (Δ := [own el 1 none 0 0 []])
    by_cases h0 : 0 < l.length
    · have hrun := run_append_nil_string (P := P) (w := w) t t' ty el i z hs hu hi hz (S l) (by omega) (by omega) (by rw [hby]; omega)
      refine ⟨_, _, _, by rw [hsl] at hrun; simpa using hrun, ?_⟩
      have := fresh_own hw2 el 1 1 0 l.length z hzc (byteL l) (by simp [hbl]) (by omega)
      have e : (S l).data.map (fun b => Value.int .u8 (b.toNat : Int)) = (byteL l).toArray := by simp [S, byteL]
      rw [e]
      simpa using this
    · have : l = [] := List.length_eq_zero_iff.1 (by omega)
      subst this
      refine ⟨none, 0, w, ?_, by simpa [byteL] using hw⟩
      have hf := Lib.run_firstCells_string (P := P) w 1 (S [])
      have hf : (Builtin.firstCells 1 0 (.string (⟨#[]⟩ : ByteArray))).run P w = .ok #[] w := hf
      simp [Builtin.append_, run_underlying hs, run_underlying hu, Go.sizeOf, typeInfo, hi, hsz, Builtin.lenOf, hf, S, Sem.run, show (⟨#[]⟩ : ByteArray).size = 0 from rfl, Result.andThen]
  | some p =>
    rcases ho.2 with ⟨h2, _⟩ | ⟨g, cap, cur, hv, _, hg, hnc, hcm, hcs, htake⟩
    · cases h2
    · cases hv
      have hlen : (xs ++ byteL l).length = (q + l.length) * 1 := by rw [List.length_append, ho.1, hbl]; omega
      by_cases hroom : q + l.length ≤ cc
      · have hrun := Lib.run_append_room_string (P := P) (w := w) t t' ty el i hs hu hi hsz g q cc cur hg (S l) (by omega) (by omega)
        rw [hsl, strCells_S] at hrun
        refine ⟨_, _, _, hrun, ?_⟩
        refine Sep.frame (Γ := [own el 1 (some ⟨g, 0, none⟩) q cc xs]) (Γ' := [own el 1 (some ⟨g, 0, none⟩) (q + l.length) cc (xs ++ byteL l)]) (Δ := Γ) hw ⟨⟨rfl, rfl, rfl, by simp, fun k _ hk => setRow_other w g k _ (fun e => hk ⟨_, List.mem_singleton.2 rfl, 0, none, by rw [e]⟩)⟩, ⟨fun c hc => ?_, by simp⟩, fun k hk _ => ?_⟩
        · simp at hc; subst hc
          refine ⟨hlen, .inr ⟨g, cc, _, rfl, Nat.zero_le _, setRow_heap w g cur _ el _ hg, hroom, hcm, ?_, ?_⟩⟩
          · simp only [List.size_toArray, List.length_append, List.length_take, List.length_drop, Array.length_toList, hbl]; omega
          · rw [Nat.mul_one] at htake
            rw [htake, ← hlen]; exact List.take_left
        · obtain ⟨q', hq, hf⟩ := hk
          simp at hq; subst hq; exact ⟨_, List.mem_singleton.2 rfl, hf⟩
      · have holds : ∀ j u, xs[j]? = some u → w.cell? ((⟨g, 0, none⟩ : Addr).add j) = some u := ho.cells (g := g) rfl
        have hrun := Lib.run_append_grow_string (P := P) (w := w) t t' ty el i z hs hu hi hz ⟨g, 0, none⟩ q cc xs (by rw [hsz]; exact ho.1) holds (S l) (by omega) (by omega) (by rw [hby, hsl]; exact growslice_fits (by omega) (by omega))
        rw [hsl, strCells_S] at hrun
        refine ⟨_, _, _, hrun, ?_⟩
        have hw2 : Sep w0 S0 w Γ := hw.drop (Δ := [own el 1 (some ⟨g, 0, none⟩) q cc xs])
        have := fresh_own hw2 el 1 1 cc (q + l.length) z hzc (xs ++ byteL l) hlen hm
        simpa using this
theorem L.appS {q cc cx : Nat} (hT : ElT P t el 1 1) (hu : StT P t') (hx : look e x = some (.slice a q cx)) (hy : look e y = some (.string (S l))) [ho : Ow a Γ el 1 q cc xs Δ] (hcx : cx = cc) (hb : q + l.length ≤ 140737488355328)
    (h : ∀ a' c', L w0 S0 P ρ n ops r K ⟨(d, .slice a' (q + l.length) c') :: e, ds⟩ (own el 1 a' (q + l.length) c' (xs ++ byteL l) :: Δ)) (hd : Nat.ble (d + 1) n = true := by rfl) :
    L w0 S0 P ρ n ops (⟨some d, .call { callee := .builtin .append, args := #[x, y], argTypes := #[t, t'] }, ty, ps, af, none⟩ :: r) K ⟨e, ds⟩ Γ := by
  subst hcx
  exact L.step (fun v Γ' => ∃ a' c', v = .slice a' (q + l.length) c' ∧ Γ' = own el 1 a' (q + l.length) c' (xs ++ byteL l) :: Δ) (fun _ h => by cases h) (fun ev w he hw => by
    obtain ⟨a', c', w', h1, h2⟩ := run_appS (ty := ty) hT hu (hw.perm ho.perm) hb
    refine ⟨_, w', _, ?_, h2, a', c', rfl, rfl⟩
    simp [execOp, resolve, invoke, builtin, he x _ hx, he y _ hy, h1, Sem.run]) (fun v Γ' ⟨a', c', h1, h2⟩ => by rw [h1, h2]; exact h a' c') hd
/-! a builder's own address -/
theorem shape_blk {w : World} {T : TypeId} (h : w.heap[b]? = some (.cells c.toArray T (0, 0))) : w.shape? b = some (T, c.length) := by simp [World.shape?, h]
theorem Y.toU {T tt : TypeId} (hs : P.underlying t = some (.pointer tt)) (hd : P.underlying t' = some .unsafePointer) (hi : (P.info? tt).map (fun j => decide (j.size = 0)) = some false) (hx : look e x = some (.pointer (some ⟨b, 0, none⟩))) [hb : Bk b Γ c T Δ] (hc : Nat.ble 1 c.length = true) : Yl w0 S0 P Γ e ⟨some d, .convert t t' x, ty, ps, af, none⟩ (.pointer (some ⟨b, 0, none⟩)) := fun ev w he hw => by
  cases hj : P.info? tt with
  | none => rw [hj] at hi; cases hi
  | some j =>
    rw [hj] at hi
    have hj2 : j.size ≠ 0 := by simpa using hi
    have h1 := Lib.run_to_unsafe (P := P) (w := w) ⟨b, 0, none⟩ hs hd hj hj2 (shape_blk (hb.on hw.holds)) (Nat.lt_of_lt_of_le Nat.zero_lt_one (Nat.le_of_ble_eq_true hc))
    simp only [execOp, he x _ hx, Sem.run_bind, h1, Result.andThen, Sem.run_pure]
theorem Y.frU {T tt : TypeId} {q : Nat} (hs : P.underlying t = some .unsafePointer) (hd : P.underlying t' = some (.pointer tt)) (hi : (P.info? tt).isSome = true) (hx : look e x = some (.pointer (some ⟨b, 0, none⟩))) [hb : Bk b Γ c T Δ] (hq : c.length = q) (hl : liesAt P P.depth T (q / P.cellsOf T) 0 tt 1 = true) : Yl w0 S0 P Γ e ⟨some d, .convert t t' x, ty, ps, af, none⟩ (.pointer (some ⟨b, 0, none⟩)) := fun ev w he hw => by
  obtain ⟨j, hj⟩ := Option.isSome_iff_exists.1 hi
  have h1 := Lib.run_from_unsafe (P := P) (w := w) ⟨b, 0, none⟩ hs hd hj (shape_blk (hb.on hw.holds)) (by rw [hq]; exact hl)
  simp only [execOp, he x _ hx, Sem.run_bind, h1, Result.andThen, Sem.run_pure]
def SameX (P : Program) (f : FuncId) : Prop := ∀ v w, (callFunc f #[v]).run P w = .ok (.value v) w
theorem Y.same {f : FuncId} {ats : Array TypeId} (hf : SameX P f) (hx : look e x = some v) : Yl w0 S0 P Γ e ⟨some d, .call { callee := .value (.func f), args := #[x], argTypes := ats }, ty, ps, af, none⟩ v := fun ev w he hw => by
  have h1 := hf v w
  have h2 := he _ _ (show look e (.func f) = some (.func (.func f) #[] #[]) from rfl)
  simp only [execOp, resolve, Deferred.ofValue, h2, Sem.run_bind, Sem.run_pure, Result.andThen, invoke]
  simp [he x _ hx, h1]
theorem Y.nepSelf {tt : TypeId} (hs : P.underlying t = some (.pointer tt)) (hi : (P.info? tt).map (fun j => decide (j.size = 0)) = some false) (hx : look e x = some (.pointer (some ⟨b, 0, none⟩))) (hy : look e y = some (.pointer (some ⟨b, 0, none⟩))) : Yl w0 S0 P Γ e ⟨some d, .binOp .neq t x y t', ty, ps, af, none⟩ (.bool false) := fun ev w he hw => by
  cases hj : P.info? tt with
  | none => rw [hj] at hi; cases hi
  | some j =>
    rw [hj] at hi
    have hj2 : j.size ≠ 0 := by simpa using hi
    have h1 : ∀ q, (Op.equalIn (q + 1) t (.pointer (some ⟨b, 0, none⟩)) (.pointer (some ⟨b, 0, none⟩))).run P w = .ok true w := fun q => by
      unfold Op.equalIn
      simp [run_underlying hs, sizeOf, typeInfo, hj, hj2, sameAddr, Sem.run]
    have h2 : (Op.equal t (.pointer (some ⟨b, 0, none⟩)) (.pointer (some ⟨b, 0, none⟩))).run P w = .ok true w := h1 (Op.maxDepth - 1)
    simp only [execOp, he x _ hx, he y _ hy]
    have h3 : (Go.binOp .neq t (.pointer (some ⟨b, 0, none⟩)) (.pointer (some ⟨b, 0, none⟩))).run P w = .ok (.bool false) w := by
      simp only [Go.binOp, Sem.run_bind, h2, Result.andThen, Sem.run_pure]; rfl
    simp only [eqGuard, Sem.run_bind]
    simp [h3, Sem.run]
/-- a call, by what it does to the whole -/
theorem L.callG {f : FuncId} {args : Array Operand} {ats : Array TypeId} {vs : List Value} {R : Value → List Ch → Prop} (hg : Goes P f) (ha : lookAll e args.toList = some vs)
    (hc : ∀ w, Sep w0 S0 w Γ → Calls P f vs.toArray w (fun e' w' => ∃ v Γ', e' = .returned v ∧ R v Γ' ∧ Sep w0 S0 w' Γ')) (h : ∀ v Γ', R v Γ' → L w0 S0 P ρ n ops r K ⟨(d, v) :: e, ds⟩ Γ') (hd : Nat.ble (d + 1) n = true := by rfl) :
    L w0 S0 P ρ n ops (⟨some d, .call { callee := .value (.func f), args := args, argTypes := ats }, ty, ps, af, none⟩ :: r) K ⟨e, ds⟩ Γ := by
  intro w hw a haa
  have he : Knows e a.eval := fun x v hx => haa.look hx
  have hargs : args.map a.eval = vs.toArray := by
    apply Array.ext'
    simpa using lookAll_eq he ha
  show (if Region.wanted _ _ = true then _ else _)
  rw [if_pos (by rfl)]
  refine ⟨fun _ _ => trivial, ?_⟩
  rw [Oper.semAt_eq _ _ _ (fun _ h => by cases h)]
  have h2 := he _ _ (show look e (.func f) = some (.func (.func f) #[] #[]) from rfl)
  have hrun : (execOp a.eval ⟨some d, .call { callee := .value (.func f), args := args, argTypes := ats }, ty, ps, af, none⟩).run P w = .ok (.enter f vs.toArray) w := by
    simp only [execOp, resolve, h2, Deferred.ofValue, hargs, Sem.run_bind, Sem.run_pure, Result.andThen, invoke, Array.empty_append, Array.append_empty]
    exact hg _ _
  rw [hrun]
  refine ⟨(fun h => by cases h), ?_⟩
  refine callsFc (Calls.mono (hc w hw) ?_)
  rintro e' w' ⟨v, Γ', rfl, hR, hs⟩
  exact h v Γ' hR w' hs _ (haa.put (Nat.le_of_ble_eq_true hd) _)
theorem Sep.belowN {w w' : World} (hw : Sep w0 (fps []) w Γ) (h : Below w0.heap.size w w') : Sep w0 (fps []) w' [] :=
  ⟨⟨h.os.trans hw.keep.os, h.tape.trans hw.keep.tape, h.output.trans hw.keep.output, Nat.le_trans hw.keep.size h.size, fun b hb _ => (h.block b hb).trans (hw.keep.blk b hb (fun ⟨c, hc, _⟩ => by simp at hc))⟩, Holds.nil _, fun b ⟨c, hc, _⟩ => by simp at hc⟩
theorem Sep.new_ge {w : World} (hw : Sep w0 (fps []) w Γ) {b : Nat} (hb : fps Γ b) : w0.heap.size ≤ b := by
  rcases Nat.lt_or_ge b w0.heap.size with h | h
  · obtain ⟨c, hc, _⟩ := hw.inn b hb h; simp at hc
  · exact h
/-- an array written out -/
theorem Y.bdA {len q : Nat} {zs vs : List Value} {pa : Array (Nat × Operand)} (hz : Zr P t (.agg zs.toArray)) (hu : P.underlying t = some (.array len el)) (hs : Sc P el) (hzl : zs.length = q) (ha : lookAll e (pa.toList.map (·.2)) = some vs) (hi : pa.toList.map (·.1) = List.range q) (hc : (vs.map fun v => v.cells.size) = List.replicate q 1) :
    Yl w0 S0 P Γ e ⟨some d, .build t pa, ty, ps, af, none⟩ (.agg (cellsL vs).toArray) := fun ev w he hw => by
  have hlen : vs.length = q := by have := congrArg List.length hc; simpa using this
  have h1 := lookAll_eq he ha
  have h2 : (pa.map fun p => (p.1, ev p.2)).toList = (vs.zipIdx).map fun p => (p.2, p.1) := by
    simp only [Array.toList_map]
    apply List.ext_getElem
    · have := congrArg List.length h1; simpa using this
    · intro i hi1 hi2
      have e1 : (pa.toList.map (·.1))[i]'(by simpa using hi1) = i := by simp only [hi]; simp
      have e2 : ((pa.toList.map (·.2)).map ev)[i]'(by simpa using hi1) = vs[i]'(by simpa using hi2) := by simp only [h1]
      simp only [List.getElem_map] at e1 e2 ⊢
      simp only [List.getElem_zipIdx, Nat.zero_add]
      rw [e1, e2]
  obtain ⟨d', hd, hd2, hsz⟩ := hs
  have hb : P.built t (pa.map fun p => (p.1, ev p.2)).toList = some (cellsL vs).toArray := by
    unfold Program.built
    unfold Zr at hz
    cases hi : P.info? t with
    | none => rw [hi] at hz; cases hz
    | some it =>
      rw [hi] at hz; simp at hz
      cases hie : P.info? el with
      | none => rw [hie] at hsz; cases hsz
      | some ie =>
        rw [hie] at hsz
        have hsz : ie.size = 1 := by simpa using hsz
        simp only [hu, hz, hie, h2, hsz]
        have := fill_seq 1 vs 0 [] zs (by simp) (by omega) (fun v hv => by
          have : v.cells.size ∈ (vs.map fun v => v.cells.size) := List.mem_map.2 ⟨v, hv, rfl⟩
          rw [hc] at this
          exact (List.mem_replicate.1 this).2)
        have hcc : (Value.agg zs.toArray).cells = zs.toArray := rfl
        rw [hcc]
        simpa using this
  simp only [execOp, Sem.run_bind, run_build w t _ _ hb, Result.andThen, Sem.run_pure]
end
end Go.X
namespace Go.X
open Go Go.RowKit
/-- a struct of q ints -/
structure IntSt (P : Program) (t : TypeId) (q : Nat) : Prop where
  ex : ∃ fs, P.underlying t = some (.struct fs) ∧ fs.toList.map (·.offset) = List.range q ∧ ∀ f, f ∈ fs.toList → (f.name == "_") = false ∧ ∃ k, P.underlying f.type = some (.int k)
  stood : P.stoodInHeld t = false
  guard : P.eqGuardType P.depth t = false
theorem eqf_ints {P : Program} {w : World} {d : Nat} {xs ys : List Value} : ∀ (fs : List Field), (∀ f, f ∈ fs → (f.name == "_") = false ∧ ∃ k, P.underlying f.type = some (.int k)) → (∀ f, f ∈ fs → ∃ k a b, xs[f.offset]? = some (.int k a) ∧ ys[f.offset]? = some (.int k b)) →
    ∃ r, (Op.eqFields (d + 1) xs.toArray ys.toArray fs).run P w = .ok r w ∧ (r = true ↔ ∀ f, f ∈ fs → xs[f.offset]? = ys[f.offset]?)
  | [], _, _ => ⟨true, by simp [Op.eqFields], by simp⟩
  | f :: fs, h1, h2 => by
    obtain ⟨r, hr, hi⟩ := eqf_ints fs (fun g hg => h1 g (by simp [hg])) (fun g hg => h2 g (by simp [hg]))
    obtain ⟨hn, k, hk⟩ := h1 f (by simp)
    obtain ⟨k', a, b, hx, hy⟩ := h2 f (by simp)
    have hn' : f.name ≠ "_" := by simpa using hn
    have pa : ∀ (zs : List Value) v, zs[f.offset]? = some v → (part f.type zs.toArray f.offset).run P w = .ok v w := fun zs v hv => by
      simp [part, run_isAgg hk, aggD, hv, Sem.run]
    have he : (Op.equalIn (d + 1) f.type (.int k' a) (.int k' b)).run P w = .ok (a == b) w := run_equalIn_int w d f.type k' k a b hk
    refine ⟨(a == b) && r, ?_, ?_⟩
    · rw [Op.eqFields]
      simp only [if_pos hn', Sem.run_bind, pa xs _ hx, pa ys _ hy, he, Result.andThen_ok]
      cases hab : a == b
      · simp
      · simpa using hr
    · rw [Bool.and_eq_true, hi]
      simp only [beq_iff_eq, List.mem_cons, forall_eq_or_imp, hx, hy, Option.some.injEq, Value.int.injEq, true_and]
section
variable {w0 : World} {S0 : Nat → Prop} {P : Program} {ρ : Option Nat} {n : Nat} {ops : Array Oper} {r : List Oper} {K : St → List Ch → Prop} {e : Env} {ds : List Deferred} {Γ Δ : List Ch}
  {d : Nat} {ty : TypeId} {ps : String} {af : Array Edge} {x y : Operand} {t t' : TypeId} {xs ys : List Value}
theorem run_eqSt {w : World} {q : Nat} (ht : IntSt P t q) (hx : xs.length = q) (hy : ys.length = q) (hk : ∀ i, i < q → ∃ k a b, xs[i]? = some (.int k a) ∧ ys[i]? = some (.int k b)) : ∃ b, (Op.equalIn 10000 t (.agg xs.toArray) (.agg ys.toArray)).run P w = .ok b w ∧ (b = true ↔ xs = ys) := by
  obtain ⟨⟨fs, hu, ho, hf⟩, hst, _⟩ := ht
  have hoff : ∀ f, f ∈ fs.toList → f.offset < q := fun f hf => by
    have : f.offset ∈ fs.toList.map (·.offset) := List.mem_map.2 ⟨f, hf, rfl⟩
    rw [ho] at this; exact List.mem_range.1 this
  obtain ⟨b, hb, hi⟩ := eqf_ints (P := P) (w := w) (d := 9998) (xs := xs) (ys := ys) fs.toList hf (fun f hf => hk _ (hoff f hf))
  have hfo : P.fieldsOf t = fs := by simp [Program.fieldsOf, hu]
  refine ⟨b, ?_, ?_⟩
  · have := run_equalIn_struct (P := P) w 9999 t xs.toArray ys.toArray (by rw [hfo]; exact hu) hst
    rw [hfo] at this
    exact this.trans hb
  · rw [hi]
    constructor
    · intro h
      apply List.ext_getElem?
      intro i
      by_cases hq : i < q
      · have : i ∈ fs.toList.map (·.offset) := by rw [ho]; exact List.mem_range.2 hq
        obtain ⟨f, hf, rfl⟩ := List.mem_map.1 this
        exact h f hf
      · rw [List.getElem?_eq_none (by omega), List.getElem?_eq_none (by omega)]
    · rintro rfl f _; rfl
theorem L.eqSt {q : Nat} (ht : IntSt P t q) (hx : look e x = some (.agg xs.toArray)) (hy : look e y = some (.agg ys.toArray)) (hlx : xs.length = q) (hly : ys.length = q) (hk : ∀ i, i < q → ∃ k a b, xs[i]? = some (.int k a) ∧ ys[i]? = some (.int k b)) (h : ∀ b : Bool, (b = true ↔ xs = ys) → L w0 S0 P ρ n ops r K ⟨(d, .bool b) :: e, ds⟩ Γ) (hd : Nat.ble (d + 1) n = true := by rfl) :
    L w0 S0 P ρ n ops (⟨some d, .binOp .eql t x y t', ty, ps, af, none⟩ :: r) K ⟨e, ds⟩ Γ := by
  refine L.step (fun v Γ' => ∃ b : Bool, v = .bool b ∧ (b = true ↔ xs = ys) ∧ Γ' = Γ) (fun _ h => by cases h) (fun ev w he hw => ?_) (fun v Γ' ⟨b, h1, h2, h3⟩ => by rw [h1, h3]; exact h b h2) hd
  obtain ⟨b, hb, hi⟩ := run_eqSt (w := w) ht hlx hly hk
  refine ⟨.bool b, w, Γ, ?_, hw, b, rfl, hi, rfl⟩
  have h1 := run_eqGuard_agg (P := P) w .eql t x y xs.toArray ys.toArray ht.guard
  have h2 := run_eql_struct (P := P) w t xs.toArray ys.toArray
  rw [hb] at h2
  simp only [execOp, he x _ hx, he y _ hy, Sem.run_bind, h1, Result.andThen, h2, Sem.run_pure]
theorem L.neSt {q : Nat} (ht : IntSt P t q) (hx : look e x = some (.agg xs.toArray)) (hy : look e y = some (.agg ys.toArray)) (hlx : xs.length = q) (hly : ys.length = q) (hk : ∀ i, i < q → ∃ k a b, xs[i]? = some (.int k a) ∧ ys[i]? = some (.int k b)) (h : ∀ b : Bool, (b = false ↔ xs = ys) → L w0 S0 P ρ n ops r K ⟨(d, .bool b) :: e, ds⟩ Γ) (hd : Nat.ble (d + 1) n = true := by rfl) :
    L w0 S0 P ρ n ops (⟨some d, .binOp .neq t x y t', ty, ps, af, none⟩ :: r) K ⟨e, ds⟩ Γ := by
  refine L.step (fun v Γ' => ∃ b : Bool, v = .bool b ∧ (b = false ↔ xs = ys) ∧ Γ' = Γ) (fun _ h => by cases h) (fun ev w he hw => ?_) (fun v Γ' ⟨b, h1, h2, h3⟩ => by rw [h1, h3]; exact h b h2) hd
  obtain ⟨b, hb, hi⟩ := run_eqSt (w := w) ht hlx hly hk
  refine ⟨.bool (!b), w, Γ, ?_, hw, !b, rfl, by rw [← hi]; cases b <;> simp, rfl⟩
  have h1 := run_eqGuard_agg (P := P) w .neq t x y xs.toArray ys.toArray ht.guard
  have h2 := run_neq_struct (P := P) w t xs.toArray ys.toArray
  rw [hb] at h2
  simp only [execOp, he x _ hx, he y _ hy, Sem.run_bind, h1, Result.andThen, h2, Sem.run_pure]
end
end Go.X
namespace Go.X
open Go Go.RowKit
/-- some of the pieces, and the others -/
class Fr (Γ Γf : List Ch) (Γr : outParam (List Ch)) : Prop where
  perm : Γ.Perm (Γf ++ Γr)
instance (priority := 1100) Fr.nil {Γ : List Ch} : Fr Γ [] Γ := ⟨.refl _⟩
instance Fr.cons {x : Ch} {Γ Γ' Γf Γr : List Ch} [h : Pk x Γ Γ'] [k : Fr Γ' Γf Γr] : Fr Γ (x :: Γf) Γr := ⟨h.perm.trans (k.perm.cons x)⟩
section
variable {w0 : World} {S0 : Nat → Prop} {P : Program} {ρ : Option Nat} {n : Nat} {e : Env} {ds : List Deferred} {Γ Δ : List Ch} {K : St → List Ch → Prop} {ops : Array Oper} {r : List Oper} {d : Nat} {ty : TypeId} {ps : String} {af : Array Edge}
theorem L.callF {Γf Γr : List Ch} {args : Array Operand} {ats : Array TypeId} {vs : List Value} {f : FuncId} {R : Value → List Ch → Prop} (hg : Goes P f) (ha : lookAll e args.toList = some vs) [hp : Fr Γ Γf Γr]
    (hc : ∀ w, Sep w0 S0 w Γ → Holds w Γf → Calls P f vs.toArray w (Post w Γf R)) (h : ∀ v Γ', R v Γ' → L w0 S0 P ρ n ops r K ⟨(d, v) :: e, ds⟩ (Γ' ++ Γr)) (hd : Nat.ble (d + 1) n = true := by rfl) :
    L w0 S0 P ρ n ops (⟨some d, .call { callee := .value (.func f), args := args, argTypes := ats }, ty, ps, af, none⟩ :: r) K ⟨e, ds⟩ Γ := L.call hg ha hp.perm hc h hd
end
section
variable {w0 : World} {S0 : Nat → Prop} {P : Program} {ρ : Option Nat} {n : Nat} {e : Env} {ds : List Deferred} {Γ Δ : List Ch} {K : St → List Ch → Prop} {ops : Array Oper} {r : List Oper} {d : Nat} {ty : TypeId} {ps : String} {af : Array Edge}
theorem L.callFW {Γf Γr : List Ch} {args : Array Operand} {ats : Array TypeId} {vs : List Value} {f : FuncId} {R : Value → List Ch → Prop} (hg : Goes P f) (ha : lookAll e args.toList = some vs) [hp : Fr Γ Γf Γr]
    (hc : ∀ w, Sep w0 S0 w Γ → Holds w Γf → Calls P f vs.toArray w (Post w Γf (RW R))) (h : ∀ v Γ', R v Γ' → L w0 S0 P ρ n ops r K ⟨(d, v) :: e, ds⟩ (Γ' ++ Γr)) (hd : Nat.ble (d + 1) n = true := by rfl) :
    L w0 S0 P ρ n ops (⟨some d, .call { callee := .value (.func f), args := args, argTypes := ats }, ty, ps, af, none⟩ :: r) K ⟨e, ds⟩ Γ := L.callW hg ha hp.perm hc h hd
theorem L.callVFW {Γf Γr : List Ch} {x : Operand} {args : Array Operand} {ats : Array TypeId} {vs : List Value} {fv : Value} {R : Value → List Ch → Prop} (hx : look e x = some fv) (ha : lookAll e args.toList = some vs) [hp : Fr Γ Γf Γr]
    (hc : ∀ w, Sep w0 S0 w Γ → Holds w Γf → CallV P fv vs w (Post w Γf (RW R))) (h : ∀ v Γ', R v Γ' → L w0 S0 P ρ n ops r K ⟨(d, v) :: e, ds⟩ (Γ' ++ Γr)) (hd : Nat.ble (d + 1) n = true := by rfl) :
    L w0 S0 P ρ n ops (⟨some d, .call { callee := .value x, args := args, argTypes := ats }, ty, ps, af, none⟩ :: r) K ⟨e, ds⟩ Γ :=
  L.callV hx ha hp.perm hc (fun v Γ' ⟨Δ, hw, hR⟩ => .wk hw.app (h v Δ hR)) hd
theorem L.gsplitB {b : Bool} {i : Nat} (hi : get? e i = some (.bool b)) (h1 : b = true → L w0 S0 P ρ n ops r K ⟨(i, .bool true) :: e, ds⟩ Γ) (h2 : b = false → L w0 S0 P ρ n ops r K ⟨(i, .bool false) :: e, ds⟩ Γ) :
    L w0 S0 P ρ n ops r K ⟨e, ds⟩ Γ := by
  cases b with
  | true => exact L.inc (Inc.same hi) (h1 rfl)
  | false => exact L.inc (Inc.same hi) (h2 rfl)
/-- the other way round -/
theorem Y.cpl16 {i : Nat} {t : TypeId} {x : Operand} (hx : look e x = some (.int .u16 i)) (hi : i < 65536) : Yl w0 S0 P Γ e ⟨some d, .unOp .xor t x, ty, ps, af, none⟩ (.int .u16 ((65535 - i : Nat) : Int)) := fun ev w he hw => by
  have h1 : (BitVec.ofInt 16 ((65535 : Nat) : Int) ^^^ BitVec.ofInt 16 (i : Int)).toNat = 65535 - i := by
    rw [BitVec.ofInt_natCast, BitVec.ofInt_natCast]
    have : BitVec.ofNat 16 65535 = BitVec.allOnes 16 := rfl
    rw [this, BitVec.allOnes_xor, BitVec.toNat_not, BitVec.toNat_ofNat, Nat.mod_eq_of_lt (by omega)]
  have h2 : IntKind.u16.wrap ((BitVec.ofInt IntKind.u16.bits IntKind.u16.max ^^^ BitVec.ofInt IntKind.u16.bits (i : Int)).toNat : Int) = ((65535 - i : Nat) : Int) := by
    show ((BitVec.ofInt 16 ((65535 : Nat) : Int) ^^^ BitVec.ofInt 16 (i : Int)).toNat : Int) % 65536 = _
    rw [h1]; omega
  simp only [execOp, he x _ hx, Op.unary, Op.intBits]
  exact congrArg (fun z => Result.ok (Next.value (Value.int .u16 z)) w) h2
end
theorem own_le {w : World} {t : TypeId} {sz n c : Nat} {a : Option Addr} {xs : List Value} (h : (X.own t sz a n c xs).on w) : xs.length = n * sz ∧ n ≤ c ∧ c ≤ maxLen := by
  obtain ⟨h1, h2⟩ := h
  rcases h2 with ⟨h2, h3⟩ | ⟨g, cap, cur, hv, _, _, hr⟩
  · cases h2; exact ⟨h1, by omega, by unfold maxLen; omega⟩
  · cases hv; exact ⟨h1, hr.1, hr.2.1⟩
theorem ownB_le {w : World} {t : TypeId} {c : Nat} {a : Option Addr} {l : List UInt8} (h : (X.own t 1 a l.length c (byteL l)).on w) : l.length ≤ c ∧ c ≤ 9223372036854775807 := by
  obtain ⟨_, h2, h3⟩ := own_le h
  unfold maxLen at h3
  exact ⟨h2, h3⟩
/-- a piece of an owned row is read -/
instance Rd.cutOw {w0 : World} {S0 : Nat → Prop} {Γ Δ : List Ch} {a : Option Addr} {t : TypeId} {sz n c i : Nat} {xs : List Value} [h : Ow a Γ t sz n c xs Δ] : Rd w0 S0 Γ (cutA a (i * sz) (c - i)) (xs.drop (i * sz)) := ⟨fun w hw => by
  have h1 := hw.holds.on (X.own t sz a n c xs) (h.perm.mem_iff.2 (by simp))
  obtain ⟨h2, h3, _⟩ := own_le h1
  have h4 := (own_rs h1).cut (i * sz) (c - i) (xs.length - i * sz) (fun hm => by
    have : n * sz ≤ i * sz := Nat.mul_le_mul_right _ (by omega)
    omega)
  rwa [List.take_of_length_le (by simp)] at h4⟩
theorem Rs.pre {w : World} {a : Option Addr} {xs : List Value} (h : Rs w a xs) (k : Nat) : Rs w a (xs.take k) := fun j v hj => by
  rw [List.getElem?_take] at hj
  split at hj
  · exact h j v hj
  · cases hj
instance {xs : List Value} {k : Nat} [h : OneC xs] : OneC (xs.take k) := ⟨fun u hu => h.one u (List.mem_of_mem_take hu)⟩
instance {xs : List Value} {k : Nat} [h : OneC xs] : OneC (xs.drop k) := ⟨fun u hu => h.one u (List.mem_of_mem_drop hu)⟩
section
variable {w0 : World} {S0 : Nat → Prop} {P : Program} {ρ : Option Nat} {n : Nat} {e : Env} {ds : List Deferred} {Γ Δ : List Ch} {K : St → List Ch → Prop} {ops : Array Oper} {r : List Oper} {d : Nat} {ty : TypeId} {ps : String} {af : Array Edge}
  {x y : Operand} {t el : TypeId} {a a2 : Option Addr} {sl cp sz q : Nat} {xs : List Value} {i : Int} {k : IntKind}
theorem Y.ixL (hu : SlT P t el sz) (hx : look e x = some (.slice a sl cp)) (hy : look e y = some (.int k i)) [hr : Rd w0 S0 Γ a xs] (hl : sl * sz ≤ xs.length) (h0 : 0 ≤ i) (hi : i < sl) :
    Yl w0 S0 P Γ e ⟨some d, .indexAddr t x y, ty, ps, af, none⟩ (.pointer (shift a (i.toNat * sz))) := fun ev w he hw => by
  obtain ⟨hu, hs, hz⟩ := hu
  have hlt : 0 < xs.length := Nat.lt_of_lt_of_le (Nat.mul_pos (by omega) (by omega)) hl
  obtain ⟨b, o, rfl, _⟩ := (hr.rd w hw).some_of hlt
  simp [execOp, Instr.indexAt, he x _ hx, he y _ hy, asIntOf, run_underlying hu, h0, hi, run_size hs, shift, add_pl, Sem.run]
/-- append, of what is read at the front of a longer row -/
theorem L.appT {bytes q cc m2 c2 cx : Nat} {news : List Value} (hT : ElT P t el sz bytes) (hx : look e x = some (.slice a q cx)) (hy : look e y = some (.slice a2 m2 c2)) [hr : Rd w0 S0 Γ a2 news] [ho : Ow a Γ el sz q cc xs Δ] (hcx : cx = cc) (hn : m2 * sz ≤ news.length) [h1 : OneC news] (hb : (q + m2) * bytes ≤ 140737488355328) (hb2 : q + m2 ≤ 140737488355328)
    (h : ∀ a' c', L w0 S0 P ρ n ops r K ⟨(d, .slice a' (q + m2) c') :: e, ds⟩ (own el sz a' (q + m2) c' (xs ++ news.take (m2 * sz)) :: Δ)) (hd : Nat.ble (d + 1) n = true := by rfl) :
    L w0 S0 P ρ n ops (⟨some d, .call { callee := .builtin .append, args := #[x, y], argTypes := #[t, t] }, ty, ps, af, none⟩ :: r) K ⟨e, ds⟩ Γ := by
  subst hcx
  exact L.step (fun v Γ' => ∃ a' c', v = .slice a' (q + m2) c' ∧ Γ' = own el sz a' (q + m2) c' (xs ++ news.take (m2 * sz)) :: Δ) (fun _ h => by cases h) (fun ev w he hw => by
    obtain ⟨a', c', w', h1, h2⟩ := run_app (ty := ty) (c2 := c2) hT (hw.perm ho.perm) ((hr.rd w hw).pre (m2 * sz)) (by rw [List.length_take]; omega) (fun u hu => h1.one u (List.mem_of_mem_take hu)) hb hb2
    exact ⟨_, w', _, exec_app (he x _ hx) (he y _ hy) h1, h2, a', c', rfl, rfl⟩) (fun v Γ' ⟨a', c', h1, h2⟩ => by rw [h1, h2]; exact h a' c') hd
theorem C.drwF {id : Nat} {Q : Exit → St → List Ch → Prop} {s : St} {Γ Δ Γ0 : List Ch} (p : Pl) (hm : P.follows .mixedOrders = true) (hp : planGood ops p = true) [hb : Fr Γ Δ Γ0] (h : V w0 S0 P ρ n ops (Q .normal) Γ0 p s Δ) : C w0 S0 P ρ n (.region id ops true) Q s Γ := C.drwP hb.perm p hm hp h
theorem C.drwFS {id : Nat} {Q : Exit → St → List Ch → Prop} {s : St} {Γ Δ Γ0 : List Ch} {y : Code} (p : Pl) (hm : P.follows .mixedOrders = true) (hp : planGood ops p = true) [hb : Fr Γ Δ Γ0] (h : V w0 S0 P ρ n ops (C w0 S0 P ρ n y Q) Γ0 p s Δ) : C w0 S0 P ρ n (.seq (.region id ops true) y) Q s Γ := C.drwPS hb.perm p hm hp h
end
/-! what stays readable while some pieces turn -/
theorem Sep.rk_old {w0 w : World} {S0 : Nat → Prop} {Γ Γf Γr : List Ch} {a : Option Addr} {xs : List Value} (hw : Sep w0 S0 w Γ) (hp : Fr Γ Γf Γr) (h : Rs w0 a xs) (hS : ∀ b o, a = some ⟨b, o, none⟩ → ¬ S0 b) : ∀ w', Keep (fps Γf) w w' → Rs w' a xs := fun w' k j v hj => by
  obtain ⟨b, o, rfl, hc⟩ := h j v hj
  have hlt : b < w0.heap.size := by
    unfold World.cell? at hc
    dsimp only at hc
    cases hh : w0.heap[b]? with
    | none => rw [hh] at hc; cases hc
    | some x => exact (Array.getElem?_eq_some_iff.1 hh).1
  have h1 := hw.keep.blk b hlt (hS b o rfl)
  have h2 := k.blk b (Nat.lt_of_lt_of_le hlt hw.keep.size) (fun ⟨c, hcm, hcb⟩ => hS b o rfl (hw.inn b ⟨c, hp.perm.mem_iff.2 (by simp [hcm]), hcb⟩ hlt))
  refine ⟨b, o, rfl, ?_⟩
  unfold World.cell? at hc ⊢
  dsimp only at hc ⊢
  rw [h2, h1]; exact hc
theorem Sep.rk_own {w0 w : World} {S0 : Nat → Prop} {Γ Γf Γr Δ : List Ch} {a : Option Addr} {t : TypeId} {sz n c : Nat} {xs : List Value} (hw : Sep w0 S0 w Γ) (hp : Fr Γ Γf Γr) (hq : Pk (X.own t sz a n c xs) Γr Δ) : ∀ w', Keep (fps Γf) w w' → Rs w' a xs := fun w' k => by
  have h1 := hw.perm hp.perm
  have hm : X.own t sz a n c xs ∈ Γr := hq.perm.mem_iff.2 (by simp)
  have h2 := h1.holds.on (X.own t sz a n c xs) (by simp [hm])
  refine own_rs ((X.own t sz a n c xs).stab w w' h2 fun b hb => k.blk b ((X.own t sz a n c xs).lt w b h2 hb) fun hf => h1.holds.apart hf ⟨_, hm, hb⟩)
end Go.X
namespace Go.X
open Go Go.RowKit
theorem perm_out (X A B : List Ch) : (X ++ (A ++ B)).Perm ((B ++ X) ++ A) := by
  have h1 : (X ++ (A ++ B)).Perm (X ++ (B ++ A)) := List.Perm.append_left X List.perm_append_comm
  have h2 : (X ++ (B ++ A)).Perm ((B ++ X) ++ A) := by rw [← List.append_assoc]; exact List.Perm.append_right A List.perm_append_comm
  exact h1.trans h2
theorem Wk.pk {x : Ch} {Γ Δ : List Ch} [h : Pk x Γ Δ] : Wk Γ (x :: Δ) := .of h.perm
theorem perm_two (x y : Ch) (A B : List Ch) : (A ++ x :: y :: B).Perm (x :: y :: (A ++ B)) := List.perm_middle.trans (List.perm_middle.cons _)
/-- AN ITERATOR over xs, called behind w0: it may read what there was -/
def IterOkS (w0 : World) (S0 : Nat → Prop) (P : Program) (gf : FuncId) (cap : Array Value) {α : Type} (encs : α → List Value) (xs : List α) (Γi Γo : List Ch) : Prop :=
  ∀ (σ τ : Type) (G : σ → List Ch) (I : List α → σ → Prop) (Gx : τ → List Ch) (Ix : List α → τ → Prop) (s0 : σ) (y : Value) (w : World), y.oneCell' = true → Sep w0 S0 w (Γi ++ G s0) → I [] s0 → Yld P y encs xs w (fps (Γi ++ G s0)) G I Gx Ix →
    Calls P gf (#[y] ++ cap) w (Post w (Γi ++ G s0) (fun r Γ' => (∃ s, Wk Γ' (Γo ++ G s) ∧ I xs s) ∨ (∃ pre u, Wk Γ' (Γo ++ Gx u) ∧ Ix pre u ∧ pre <+: xs)))
/-- what is read behind w0 is read behind a later world -/
theorem Sep.rd_via {w0 w : World} {S0 : Nat → Prop} {Γ : List Ch} {a : Option Addr} {xs : List Value} (hw : Sep w0 S0 w Γ) (hr : ∀ Δ, Rd w0 S0 Δ a xs) (Δ : List Ch) : Rd w (fps Γ) Δ a xs := ⟨fun w' hw' => (hr Δ).rd w' (by
  have := Sep.frame (Δ := []) (by simpa using hw) hw'
  simpa using this)⟩
/-- what was read there is read here -/
theorem Sep.rd_old {w0 w : World} {S0 : Nat → Prop} {Γ : List Ch} {a : Option Addr} {xs : List Value} (hw : Sep w0 S0 w Γ) (h : Rs w0 a xs) (hS : ∀ b o, a = some ⟨b, o, none⟩ → ¬ S0 b) (Δ : List Ch) : Rd w (fps Γ) Δ a xs := ⟨fun w' hw' j v hj => by
  obtain ⟨b, o, rfl, hc⟩ := h j v hj
  have hlt : b < w0.heap.size := by
    unfold World.cell? at hc
    dsimp only at hc
    cases hh : w0.heap[b]? with
    | none => rw [hh] at hc; cases hc
    | some x => exact (Array.getElem?_eq_some_iff.1 hh).1
  have h1 := hw.keep.blk b hlt (hS b o rfl)
  have h2 := hw'.keep.blk b (Nat.lt_of_lt_of_le hlt hw.keep.size) (fun hf => hS b o rfl (hw.inn b hf hlt))
  refine ⟨b, o, rfl, ?_⟩
  unfold World.cell? at hc ⊢
  dsimp only at hc ⊢
  rw [h2, h1]; exact hc⟩
section
variable {w0 : World} {S0 : Nat → Prop} {P : Program} {n : Nat} {Q : Exit → St → List Ch → Prop} {e : Env} {ds : List Deferred} {Γ Γi : List Ch}
theorem C.rfS {α σ τ : Type} {Γo : List Ch} {g : Operand} {p : Tmp} {assign body : Code} {gf : FuncId} {cap : Array Value} {xs : List α} (enc : α → Value) (jc : τ → Code) (G : σ → List Ch) (I : List α → σ → Prop) (Gx : τ → List Ch) (Ix : List α → τ → Prop) (s0 : σ)
    (hg : look e g = some (.func (.func gf) #[] cap)) (hgo : Goes P gf) (hit : IterOkS w0 S0 P gf cap (fun x => [enc x]) xs Γi Γo) (hp : Wk Γ (Γi ++ G s0)) (h0 : I [] s0)
    (hbody : ∀ (w' : World) (l : Nat) (r : Loop) (pre : List α) (x : α) (s : σ), Sep w0 S0 w' (ob l (.loop r) :: G s) → r.state = .ready → I pre s → (pre ++ [x]) <+: xs →
      C w' (fps (ob l (.loop r) :: G s)) P (some l) n assign (fun ex s' Γ' => ex = .normal ∧ ∃ Θ, Wk Γ' (ob l (.loop r) :: Θ) ∧ C w' (fps (ob l (.loop r) :: G s)) P (some l) n body (RQ jc G I Gx Ix (ob l (.loop { r with state := .busy })) (pre ++ [x])) s' (ob l (.loop { r with state := .busy }) :: Θ)) ⟨(p, enc x) :: e, []⟩ (ob l (.loop r) :: G s))
    (hdone : ∀ D s, I xs s → Q .normal ⟨e, { target := .collected D, args := #[] } :: ds⟩ (ob D (.deferred (some [])) :: (Γo ++ G s)))
    (hstop : ∀ D pre u, Ix pre u → pre <+: xs → C w0 S0 P none n (jc u) Q ⟨e, { target := .collected D, args := #[] } :: ds⟩ (ob D (.deferred (some [])) :: (Γo ++ Gx u)))
    (hpn : Nat.ble (p + 1) n = true := by rfl) :
    C w0 S0 P none n (.rangeFunc g #[p] assign body) Q ⟨e, ds⟩ Γ := by
  intro w hw0 a ha
  have hpn := Nat.le_of_ble_eq_true hpn
  have hw := hw0.wk hp
  refine wpIn_rangeFunc ?_
  intro fn _
  obtain ⟨rec, hrec, e1, e2, e3, e4, e5, e6, e7⟩ : ∃ rec : LoopState → Option Code → Loop, (∀ st pe, rec st pe = { state := st, pending := pe, fn, tmps := a.tmps, params := #[p], assign, body, defers := w.heap.size }) ∧
      (∀ st pe, (rec st pe).fn = fn) ∧ (∀ st pe, (rec st pe).tmps = a.tmps) ∧ (∀ st pe, (rec st pe).params = #[p]) ∧ (∀ st pe, (rec st pe).assign = assign) ∧ (∀ st pe, (rec st pe).body = body) ∧ (∀ st pe, (rec st pe).state = st) ∧ (∀ st pe, (rec st pe).pending = pe) :=
    ⟨_, fun _ _ => rfl, fun _ _ => rfl, fun _ _ => rfl, fun _ _ => rfl, fun _ _ => rfl, fun _ _ => rfl, fun _ _ => rfl, fun _ _ => rfl⟩
  have hW := hw.ob2 (.deferred (some [])) (.loop (rec .ready none))
  obtain ⟨W1, hW1⟩ : ∃ W1, (w.alloc (.deferred (some []))).alloc (.loop (rec .ready none)) = W1 := ⟨_, rfl⟩
  rw [hW1] at hW
  have hperm : (ob (w.heap.size + 1) (.loop (rec .ready none)) :: ob w.heap.size (.deferred (some [])) :: (Γi ++ G s0)).Perm (Γi ++ (ob (w.heap.size + 1) (.loop (rec .ready none)) :: ob w.heap.size (.deferred (some [])) :: G s0)) :=
    (((List.perm_middle (a := ob w.heap.size (.deferred (some []))) (l₁ := Γi) (l₂ := G s0)).symm).cons _).trans List.perm_middle.symm
  have hW2 := hW.perm hperm
  refine ⟨w.heap.size + 1, [{ target := .collected w.heap.size, args := #[] }], W1, { target := .fn (.func gf) cap, args := #[.func (.yield (w.heap.size + 1)) #[] #[]] }, W1, gf,
    #[.func (.yield (w.heap.size + 1)) #[] #[]] ++ cap, W1, ?_, ?_, ?_, ?_, (fun h => by cases h), ?_⟩
  · rw [← hW1, hrec]; exact run_enterLoop_outer _ _ _ _ _
  · have := ha.look hg
    simp only [resolve, this, Deferred.ofValue, Sem.run_bind, Sem.run_pure, Result.andThen]
    simp [Act.eval, Sem.run]
  · intro f' _; trivial
  · simp only [invoke]; exact hgo _ _
  · refine callsFc (ρ := none) ?_
    have key := hit σ τ (fun s => ob (w.heap.size + 1) (.loop (rec .ready none)) :: ob w.heap.size (.deferred (some [])) :: G s) I
      (fun u => ob (w.heap.size + 1) (.loop (rec .done (some (jc u)))) :: ob w.heap.size (.deferred (some [])) :: Gx u) Ix s0 (.func (.yield (w.heap.size + 1)) #[] #[]) W1 rfl hW2 h0 ?_
    · refine Calls.mono key ?_
      rintro e' w3 ⟨v, Γ3, rfl, hR, hs3⟩
      have hs4 := hW2.trans hs3
      rcases hR with ⟨s, hwk, hI⟩ | ⟨pre, u, hwk, hI, hpre⟩
      · have hs5 := (hs4.wk hwk).perm (perm_two _ _ _ _)
        have hl : w3.heap[w.heap.size + 1]? = some (.loop (rec .ready none)) := hs5.holds.on (ob _ _) (by simp)
        obtain ⟨W3, hend, o3, hs6⟩ : ∃ W3, (Instr.endLoop (w.heap.size + 1)).run P w3 = .ok (none) W3 ∧ ∃ o3, Sep w0 S0 W3 (ob (w.heap.size + 1) o3 :: ob w.heap.size (.deferred (some [])) :: (Γo ++ G s)) := by
          have hend := run_endLoop (P := P) hl (by rw [e6]; simp)
          rw [e7] at hend
          exact ⟨_, hend, _, hs5.putObj _⟩
        refine ⟨none, _, hend, ?_⟩
        have hs7 := hs6.wk (Δ := ob w.heap.size (.deferred (some [])) :: (Γo ++ G s)) ⟨[ob (w.heap.size + 1) o3], List.perm_append_comm (l₁ := [_])⟩
        exact ⟨⟨e, { target := .collected w.heap.size, args := #[] } :: ds⟩, ⟨ha.size, by simp [ha.ds], ha.get⟩, _, hs7, hdone w.heap.size s hI⟩
      · have hs5 := (hs4.wk hwk).perm (perm_two _ _ _ _)
        have hl : w3.heap[w.heap.size + 1]? = some (.loop (rec .done (some (jc u)))) := hs5.holds.on (ob _ _) (by simp)
        obtain ⟨W3, hend, o3, hs6⟩ : ∃ W3, (Instr.endLoop (w.heap.size + 1)).run P w3 = .ok (some (jc u)) W3 ∧ ∃ o3, Sep w0 S0 W3 (ob (w.heap.size + 1) o3 :: ob w.heap.size (.deferred (some [])) :: (Γo ++ Gx u)) := by
          have hend := run_endLoop (P := P) hl (by rw [e6]; simp)
          rw [e7] at hend
          exact ⟨_, hend, _, hs5.putObj _⟩
        refine ⟨some (jc u), _, hend, ?_⟩
        have hs7 := hs6.wk (Δ := ob w.heap.size (.deferred (some [])) :: (Γo ++ Gx u)) ⟨[ob (w.heap.size + 1) o3], List.perm_append_comm (l₁ := [_])⟩
        exact hstop w.heap.size pre u hI hpre _ hs7 _ ⟨ha.size, by simp [ha.ds], ha.get⟩
    · intro pre x s w' hI hpre hs
      have hsg := hW2.trans hs
      have hl : w'.heap[w.heap.size + 1]? = some (.loop (rec .ready none)) := hsg.holds.on (ob _ _) (by simp)
      have hy := run_yield (P := P) (args := #[enc x]) hl (by rw [e3]; rfl)
      rw [e1, e2, e3, e4, e5] at hy
      refine .inr ⟨w.heap.size + 1, fn, _, assign, body, rfl, hy, ?_⟩
      refine roundIn_of_wpIn trivial ?_
      have hag : Agr n ⟨(p, enc x) :: e, []⟩ { tmps := ((#[p] : Array Tmp).zip #[enc x]).foldl (fun tmps (t, a) => tmps.setIfInBounds t a) a.tmps, defers := [] } := by
        have hz : ((#[p] : Array Tmp).zip #[enc x]).foldl (fun tmps (t, a) => tmps.setIfInBounds t a) a.tmps = a.tmps.setIfInBounds p (enc x) := by simp
        rw [hz]
        refine ⟨by simp [ha.size], rfl, fun i v hi => ?_⟩
        simp only [get?] at hi
        rw [Array.getD_eq_getD_getElem?, Array.getElem?_setIfInBounds]
        cases hb : Nat.beq i p with
        | true =>
          rw [hb] at hi
          have := Nat.eq_of_beq_eq_true hb
          subst this
          simp at hi
          rw [if_pos rfl, if_pos (by rw [ha.size]; omega)]
          simp [hi]
        | false =>
          rw [hb] at hi
          have : p ≠ i := fun e => by subst e; simp at hb
          rw [if_neg this]
          have := ha.get i v hi
          rwa [Array.getD_eq_getD_getElem?] at this
      have hsp : Sep w0 S0 w' (ob (w.heap.size + 1) (.loop (rec .ready none)) :: G s) := hsg.wk ⟨[ob w.heap.size (.deferred (some []))], ((List.perm_append_comm (l₁ := [_]) (l₂ := G s))).cons _⟩
      have hB := hbody w' (w.heap.size + 1) (rec .ready none) pre x s hsp (e6 _ _) hI hpre w' hsp.holds.sep _ hag
      refine wpIn_mono hB ?_
      rintro ex1 a1 w1 hq
      obtain ⟨s1, hs1, Γ1, hw1, rfl, Θ, hwk1, hC2⟩ := hq
      replace hw1 := hw1.wk hwk1
      have hl1 : w1.heap[w.heap.size + 1]? = some (.loop (rec .ready none)) := hw1.holds.on (ob _ _) (by simp)
      refine ⟨_, run_beginRound hl1 (e6 _ _), ?_⟩
      have hw2 := hw1.putObj (.loop { rec .ready none with state := .busy })
      refine wpIn_mono (hC2 _ hw2 _ hs1) ?_
      -- what is left behind a round
      have fin : ∀ (jump : Option Code) (Δ : List Ch) (w3 : World), Sep w' (fps (ob (w.heap.size + 1) (.loop (rec .ready none)) :: G s)) w3 (ob (w.heap.size + 1) (.loop { rec .ready none with state := .busy }) :: Δ) →
          ∃ w4, (Instr.endRound (w.heap.size + 1) jump).run P w3 = .ok (.bool jump.isNone) w4 ∧ Sep w' (fps (ob (w.heap.size + 1) (.loop (rec .ready none)) :: ob w.heap.size (.deferred (some [])) :: G s)) w4 (ob (w.heap.size + 1) (.loop (rec (if jump.isNone then .ready else .done) jump)) :: ob w.heap.size (.deferred (some [])) :: Δ) := by
        intro jump Δ w3 h3
        have hl3 : w3.heap[w.heap.size + 1]? = some (.loop { rec .ready none with state := .busy }) := h3.holds.on (ob _ _) (by simp)
        have hend := run_endRound (P := P) jump hl3
        have er : ({ ({ rec .ready none with state := .busy } : Loop) with state := if jump.isNone then .ready else .done, pending := jump } : Loop) = rec (if jump.isNone then .ready else .done) jump := by rw [hrec, hrec]
        refine ⟨_, hend, ?_⟩
        have h4 := h3.putObj (.loop (rec (if jump.isNone then .ready else .done) jump))
        have hp1 : (ob (w.heap.size + 1) (.loop (rec .ready none)) :: ob w.heap.size (.deferred (some [])) :: G s).Perm ((ob (w.heap.size + 1) (.loop (rec .ready none)) :: G s) ++ [ob w.heap.size (.deferred (some []))]) := (List.perm_append_comm (l₁ := [_]) (l₂ := G s)).cons _
        have h5 := Sep.frame (hs.holds.sep.perm hp1) h4
        rw [← er] at h5 ⊢
        exact h5.perm ((List.perm_append_comm (l₁ := Δ) (l₂ := [_])).cons _)
      rintro ex2 a2 w3 ⟨s2, hs2, Γ2, hw3, hR2⟩
      cases ex2 with
      | normal =>
        obtain ⟨s', hwk, hI'⟩ := hR2
        obtain ⟨w4, hrun, hsep⟩ := fin none _ w3 (hw3.wk hwk)
        exact ⟨_, w4, hrun, _, _, rfl, .inl ⟨s', rfl, rfl, hI'⟩, hsep⟩
      | ret =>
        obtain ⟨u, hj, hwk, hI'⟩ := hR2
        obtain ⟨w4, hrun, hsep⟩ := fin (some .ret) _ w3 (hw3.wk hwk)
        refine ⟨_, w4, hrun, _, _, rfl, .inr ⟨u, rfl, rfl, hI'⟩, ?_⟩
        show Sep _ _ _ (ob _ (.loop (rec .done (some (jc u)))) :: _)
        rw [hj]; exact hsep
      | exit id =>
        obtain ⟨u, hj, hwk, hI'⟩ := hR2
        obtain ⟨w4, hrun, hsep⟩ := fin (some (.exit id)) _ w3 (hw3.wk hwk)
        refine ⟨_, w4, hrun, _, _, rfl, .inr ⟨u, rfl, rfl, hI'⟩, ?_⟩
        show Sep _ _ _ (ob _ (.loop (rec .done (some (jc u)))) :: _)
        rw [hj]; exact hsep
      | goto t => exact hR2.elim
      | panic ch => exact hR2.elim
      | outgrown => exact hR2.elim
end
end Go.X
namespace Go.X
open Go Go.RowKit
section
variable {P : Program} {b : Frame} {a : Act} {k : List Item} {cs : List Frame} {w : World}
theorem stepR_scope {c : Code} : step P (lone (b.atR a (.code (.scope c) :: k)) cs w) = .next (lone (b.atR a (.code c :: .inScope c :: k)) cs w) :=
  step_lone_go (by simp [stepG, stepG.exec, Frame.atR])
theorem stepR_inScope {c : Code} : step P (lone (b.atR a (.inScope c :: k)) cs w) = .next (lone (b.atR a k) cs w) :=
  step_lone_go (by simp [stepG, stepG.exec, Frame.atR])
end
/-- a scope through which the run goes without a jump -/
theorem wpIn_scope {F : Fence} {n : Nat} {P : Program} {Q : Exit → Act → World → Prop} {a : Act} {w : World} {c : Code} (h : c.wpIn F n P (fun e a w => (∀ l, e ≠ .goto l) ∧ Q e a w) a w) : (Code.scope c).wpIn F n P Q a w := by
  intro b k cs hro hb hr
  have h0 : (lone (b.atR a (.code (.scope c) :: k)) cs w).fenced P F := fenced_calm hb hr rfl
  obtain ⟨e, a₁, w₁, ⟨hg, hq⟩, harr⟩ := h b (.inScope c :: k) cs hro hb hr
  cases e with
  | normal => exact ⟨.normal, a₁, w₁, hq, .head h0 stepR_scope (StepsIn.trans harr (.one (fenced_calm hb hr rfl) stepR_inScope))⟩
  | exit id =>
    have hx : exitTo id (.inScope c :: k) = exitTo id k := by simp [exitTo]
    exact ⟨.exit id, a₁, w₁, hq, fun k' hk => .head h0 stepR_scope (harr.1 k' (by rw [hx]; exact hk)),
      fun hr' hk => let ⟨k₁, h1, h2⟩ := harr.2 hr' (by rw [hx]; exact hk); ⟨k₁, h1, .head h0 stepR_scope h2⟩⟩
  | goto l => exact (hg l rfl).elim
  | ret => exact ⟨_, a₁, w₁, hq, .of_steps (.one h0 stepR_scope) harr⟩
  | panic ch => exact ⟨_, a₁, w₁, hq, .of_steps (.one h0 stepR_scope) harr⟩
  | outgrown => exact ⟨_, a₁, w₁, hq, .of_steps (.one h0 stepR_scope) harr⟩
section
variable {w0 : World} {S0 : Nat → Prop} {P : Program} {ρ : Option Nat} {n : Nat} {Q : Exit → St → List Ch → Prop} {s : St} {Γ : List Ch}
/-- what leaves a scope -/
def InSc (Q : Exit → St → List Ch → Prop) : Exit → St → List Ch → Prop
  | .goto _, _, _ => False
  | e, s, Γ => Q e s Γ
theorem C.scope {c : Code} (h : C w0 S0 P ρ n c (InSc Q) s Γ) : C w0 S0 P ρ n (.scope c) Q s Γ := fun w hw a ha =>
  wpIn_scope (wpIn_mono (h w hw a ha) fun e a w ⟨s', hs, Γ', hw', hq⟩ => by
    cases e with
    | goto l => exact hq.elim
    | normal => exact ⟨(fun _ h => by cases h), s', hs, Γ', hw', hq⟩
    | exit id => exact ⟨(fun _ h => by cases h), s', hs, Γ', hw', hq⟩
    | ret => exact ⟨(fun _ h => by cases h), s', hs, Γ', hw', hq⟩
    | panic c => exact ⟨(fun _ h => by cases h), s', hs, Γ', hw', hq⟩
    | outgrown => exact ⟨(fun _ h => by cases h), s', hs, Γ', hw', hq⟩)
end
section
variable {Q : Exit → St → List Ch → Prop} {s : St} {Γ : List Ch} {i : Nat}
theorem InSc.n (h : Q .normal s Γ) : InSc Q .normal s Γ := h
theorem InSc.r (h : Q .ret s Γ) : InSc Q .ret s Γ := h
theorem InSc.x (h : Q (.exit i) s Γ) : InSc Q (.exit i) s Γ := h
end
theorem of_rw {P : Program} {f : FuncId} {as : Array Value} {w : World} {Γ : List Ch} {R : Value → List Ch → Prop} (h : Calls P f as w (Post w Γ (RW R))) : Calls P f as w (Post w Γ R) :=
  Calls.mono h fun e w' ⟨v, Γ', he, ⟨Δ, hwk, hR⟩, hs⟩ => ⟨v, Δ, he, hR, hs.wk hwk⟩
theorem CallV.of {P : Program} {f : FuncId} {args cap : List Value} {w : World} {R : Ending → World → Prop} (hg : Goes P f) (h : Calls P f (args ++ cap).toArray w R) : CallV P (.func (.func f) #[] cap.toArray) args w R :=
  .inl ⟨f, cap.toArray, rfl, hg, by simpa using h⟩
instance (priority := 500) Wk.self {Γ : List Ch} : Wk Γ Γ := .of (.refl _)
instance (priority := 300) Wk.drop {x : Ch} {Γ Δ : List Ch} [h : Wk Γ Δ] : Wk (x :: Γ) Δ := ⟨by
  obtain ⟨R, hR⟩ := h.ex
  exact ⟨x :: R, (hR.cons x).trans List.perm_middle.symm⟩⟩
section
variable {w0 : World} {S0 : Nat → Prop} {P : Program} {ρ : Option Nat} {n : Nat} {ops : Array Oper} {K : St → List Ch → Prop} {s : St} {Γ0 Δ : List Ch}
theorem L.flip {r : List Oper} {G Γr Θ : List Ch} [h : AppC Γr G Θ] (k : L w0 S0 P ρ n ops r K s Θ) : L w0 S0 P ρ n ops r K s (G ++ Γr) := fun w hw => k w (by
  have := hw.perm (List.perm_append_comm (l₁ := G) (l₂ := Γr))
  rwa [h.eq] at this)
theorem V.finA (k : K s (Δ ++ Γ0)) : V w0 S0 P ρ n ops K Γ0 .fin s Δ := k
end
theorem FnPost.n0M {P : Program} {e : Env} {Γ Δ : List Ch} {fn : Func} {R : Value → List Ch → Prop} {D : Nat} [hD : Ob D Γ (.deferred (some [])) Δ] (hr : fn.results = #[]) (hR : R (.tuple #[]) Δ) : FnPost P fn R .normal ⟨e, [{ target := .collected D, args := #[] }]⟩ Γ :=
  ⟨[], [ob D (.deferred (some []))], Δ, hD.perm, ⟨D, [], rfl, rfl, rfl⟩, by rw [hr]; trivial, hR⟩
section
variable {w0 : World} {S0 : Nat → Prop} {P : Program} {e : Env} {Γ : List Ch} {d : Nat} {ty : TypeId} {ps : String} {af : Array Edge} {x y z u : Operand} {t el : TypeId} {a : Option Addr} {sl cp sz : Nat} {i j m : Int} {k kj km : IntKind}
theorem Y.sl3 (hu : SlT P t el sz) (hx : look e x = some (.slice a sl cp)) (hy : look e y = some (.int k i)) (hz : look e z = some (.int kj j)) (hm : look e u = some (.int km m)) (h : 0 ≤ i ∧ i ≤ j ∧ j ≤ m ∧ m ≤ cp) :
    Yl w0 S0 P Γ e ⟨some d, .slice t x (some y) (some z) (some u), ty, ps, af, none⟩ (.slice (cutA a (i.toNat * sz) (m.toNat - i.toNat)) (j.toNat - i.toNat) (m.toNat - i.toNat)) := fun ev w he hw => by
  obtain ⟨hu, hs, hzz⟩ := hu
  have h0 := bnd (P := P) (w := w) (v := .int km m) (q := cp) (cd := .slice3Acap) rfl ⟨by omega, by omega⟩
  have h1 := bnd (P := P) (w := w) (v := .int kj j) (q := m.toNat) (cd := .slice3B) rfl ⟨by omega, by omega⟩
  have h2 := bnd (P := P) (w := w) (v := .int k i) (q := j.toNat) (cd := .slice3C) rfl ⟨by omega, by omega⟩
  have h3 : (m.toNat = i.toNat) ↔ (m.toNat - i.toNat = 0) := by omega
  simp [execOp, Instr.sliceAt, Instr.slice, Instr.sliceBounds, he x _ hx, he y _ hy, he z _ hz, he u _ hm, run_underlying hu, run_size hs, h0, h1, h2, Sem.run, cutA, h3]
end
theorem own_none {w : World} {t : TypeId} {sz n c : Nat} {xs : List Value} (h : (X.own t sz none n c xs).on w) : n = 0 := by
  obtain ⟨_, h2⟩ := h
  rcases h2 with ⟨_, h3⟩ | ⟨g, cap, cur, hv, _⟩
  · exact h3
  · cases hv
end Go.X
namespace Go.X
open Go Go.RowKit
section
variable {w0 : World} {S0 : Nat → Prop} {P : Program} {ρ : Option Nat} {n : Nat} {e : Env} {ds : List Deferred} {Γ Δ : List Ch} {K : St → List Ch → Prop} {ops : Array Oper} {r : List Oper} {d : Nat} {ty : TypeId} {ps : String} {af : Array Edge}
/-- a call that reads some of the pieces and leaves them as they are -/
theorem L.callR {Γf Γr : List Ch} {args : Array Operand} {ats : Array TypeId} {vs : List Value} {f : FuncId} {R : Value → Prop} (hg : Goes P f) (ha : lookAll e args.toList = some vs) [hp : Fr Γ Γf Γr]
    (hc : ∀ w, Sep w0 S0 w Γ → Holds w Γf → Calls P f vs.toArray w (Post w Γf (RW fun v Γ' => R v ∧ Γ' = Γf))) (h : ∀ v, R v → L w0 S0 P ρ n ops r K ⟨(d, v) :: e, ds⟩ Γ) (hd : Nat.ble (d + 1) n = true := by rfl) :
    L w0 S0 P ρ n ops (⟨some d, .call { callee := .value (.func f), args := args, argTypes := ats }, ty, ps, af, none⟩ :: r) K ⟨e, ds⟩ Γ :=
  L.callFW hg ha hc (fun v Γ' hv => by obtain ⟨h1, rfl⟩ := hv; exact .wk (.of hp.perm.symm) (h v h1)) hd
theorem Y.ixB {x y : Operand} {t el : TypeId} {g o : Nat} {sl cp sz : Nat} {i : Int} {k : IntKind} (hu : SlT P t el sz) (hx : look e x = some (.slice (some ⟨g, o, none⟩) sl cp)) (hy : look e y = some (.int k i)) (h0 : 0 ≤ i) (hi : i < sl) :
    Yl w0 S0 P Γ e ⟨some d, .indexAddr t x y, ty, ps, af, none⟩ (.pointer (shift (some ⟨g, o, none⟩) (i.toNat * sz))) := fun ev w he hw => by
  obtain ⟨hu, hs, hz⟩ := hu
  simp [execOp, Instr.indexAt, he x _ hx, he y _ hy, asIntOf, run_underlying hu, h0, hi, run_size hs, shift, add_pl, Sem.run]
end
end Go.X
