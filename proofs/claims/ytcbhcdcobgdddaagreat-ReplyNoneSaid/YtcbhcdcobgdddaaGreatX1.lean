/- Lemmas for the claim: a calculus of steps over the given program, plain laws, and the contracts of its functions. -/
import Derived.ChangeSame
import Derived.Carry
import Derived.ProofKit
import Derived.OpenShut
import Derived.Test.YtcbhcdcobgdddaaGreatX0
set_option linter.unusedSimpArgs false
set_option linter.unusedVariables false
namespace Go.X
open Go Go.RowKit
theorem own_some {w : World} {t : TypeId} {sz n c : Nat} {a : Option Addr} {xs : List Value} (h : (X.own t sz a n c xs).on w) (hn : 0 < n) : ∃ g, a = some ⟨g, 0, none⟩ := by
  obtain ⟨h1, h2⟩ := h
  rcases h2 with ⟨h2, h3⟩ | ⟨g, cap, cur, hv, _⟩
  · omega
  · cases hv; exact ⟨g, rfl⟩
section
variable {w0 : World} {S0 : Nat → Prop} {P : Program} {ρ : Option Nat} {n : Nat} {e : Env} {ds : List Deferred} {Γ Δ : List Ch} {K : St → List Ch → Prop} {ops : Array Oper} {r : List Oper} {d : Nat} {ty t el : TypeId} {ps : String} {af : Array Edge} {sz : Nat} {xs : List Value} {x y : Operand} {a a2 : Option Addr}
theorem put_row {cur : List Value} {xs cs : List Value} {o m : Nat} (h : cur.take m = xs) (hm : xs.length = m) (ho : o + cs.length ≤ xs.length) : (cur.take o ++ cs ++ cur.drop (o + cs.length)).take m = xs.take o ++ cs ++ xs.drop (o + cs.length) := by
  have hc : cur = xs ++ cur.drop m := by rw [← h]; exact (List.take_append_drop _ _).symm
  generalize cur.drop m = rest at hc
  subst hc
  have h1 : (xs ++ rest).take o = xs.take o := List.take_append_of_le_length (by omega)
  have h2 : (xs ++ rest).drop (o + cs.length) = xs.drop (o + cs.length) ++ rest := List.drop_append_of_le_length (by omega)
  rw [h1, h2]
  rw [show xs.take o ++ cs ++ (xs.drop (o + cs.length) ++ rest) = (xs.take o ++ cs ++ xs.drop (o + cs.length)) ++ rest by simp]
  have hl : (xs.take o ++ cs ++ xs.drop (o + cs.length)).length = m := by simp; omega
  rw [← hl, List.take_left]
/-- an owned row is written in place -/
theorem Sep.putRow {w : World} {g q cc o : Nat} {cs : List Value} (hw : Sep w0 S0 w (own el sz (some ⟨g, 0, none⟩) q cc xs :: Γ)) (ho : o + cs.length ≤ xs.length) :
    ∃ cur, w.heap[g]? = some (.cells cur el (0, 0)) ∧ o + cs.length ≤ cur.size ∧ cur.size = cc * sz ∧ q ≤ cc ∧ Sep w0 S0 (w.setRow g (cur.toList.take o ++ cs ++ cur.toList.drop (o + cs.length)).toArray) (own el sz (some ⟨g, 0, none⟩) q cc (xs.take o ++ cs ++ xs.drop (o + cs.length)) :: Γ) := by
  obtain ⟨h1, h2⟩ := hw.holds.on (own el sz (some ⟨g, 0, none⟩) q cc xs) (by simp)
  rcases h2 with ⟨h2, _⟩ | ⟨g', cap, cur, hv, _, hg, hnc, hcm, hcs, htake⟩
  · cases h2
  · cases hv
    have hle : q * sz ≤ cc * sz := Nat.mul_le_mul_right _ hnc
    have hfit : o + cs.length ≤ cur.size := by omega
    refine ⟨cur, hg, hfit, hcs, hnc, ?_⟩
    refine Sep.frame (Γ := [own el sz (some ⟨g, 0, none⟩) q cc xs]) (Γ' := [own el sz (some ⟨g, 0, none⟩) q cc _]) (Δ := Γ) hw ⟨⟨rfl, rfl, rfl, by simp, fun k _ hk => setRow_other w g k _ (fun e => hk ⟨_, List.mem_singleton.2 rfl, 0, none, by rw [e]⟩)⟩, ⟨fun c hc => ?_, by simp⟩, fun k hk _ => ?_⟩
    · simp at hc; subst hc
      refine ⟨by simp; omega, .inr ⟨g, cc, _, rfl, Nat.zero_le _, setRow_heap w g cur _ el _ hg, hnc, hcm, ?_, ?_⟩⟩
      · simp only [List.size_toArray, List.length_append, List.length_take, List.length_drop, Array.length_toList]; omega
      · have := put_row htake h1 (by omega : o + cs.length ≤ xs.length)
        simpa using this
    · obtain ⟨q', hq, hf⟩ := hk
      simp at hq; subst hq; exact ⟨_, List.mem_singleton.2 rfl, hf⟩
theorem L.skv {op : Op} (Γ' : List Ch) (hnd : ∀ c, op ≠ .defer c)
    (hrun : ∀ ev w, Knows e ev → Sep w0 S0 w Γ → ∃ v w', (execOp ev ⟨none, op, ty, ps, af, none⟩).run P w = .ok (.value v) w' ∧ Sep w0 S0 w' Γ')
    (h : L w0 S0 P ρ n ops r K ⟨e, ds⟩ Γ') :
    L w0 S0 P ρ n ops (⟨none, op, ty, ps, af, none⟩ :: r) K ⟨e, ds⟩ Γ := by
  intro w hw a ha
  obtain ⟨v, w', hr, hs⟩ := hrun a.eval w (fun x v hx => ha.look hx) hw
  show (if Region.wanted _ _ = true then _ else _)
  rw [if_pos (by rfl)]
  refine ⟨fun _ _ => trivial, ?_⟩
  rw [Oper.semAt_eq _ _ _ hnd, hr]
  exact h w' hs _ ha
/-- append within what is owned -/
theorem L.appIn {bytes g q nn cc cx m2 c2 : Nat} {news : List Value} (hT : ElT P t el sz bytes) (hx : look e x = some (.slice (some ⟨g, 0, none⟩) q cx)) (hy : look e y = some (.slice a2 m2 c2)) [hr : Rd w0 S0 Γ a2 news] [ho : Ow (some ⟨g, 0, none⟩) Γ el sz nn cc xs Δ] (hcx : cx = cc) (hn : news.length = m2 * sz) [h1 : OneC news] (hq : q + m2 ≤ nn)
    (h : L w0 S0 P ρ n ops r K ⟨(d, .slice (some ⟨g, 0, none⟩) (q + m2) cx) :: e, ds⟩ (own el sz (some ⟨g, 0, none⟩) nn cc (xs.take (q * sz) ++ news ++ xs.drop (q * sz + news.length)) :: Δ)) (hd : Nat.ble (d + 1) n = true := by rfl) :
    L w0 S0 P ρ n ops (⟨some d, .call { callee := .builtin .append, args := #[x, y], argTypes := #[t, t] }, ty, ps, af, none⟩ :: r) K ⟨e, ds⟩ Γ := by
  subst hcx
  refine L.step (fun v Γ' => v = .slice (some ⟨g, 0, none⟩) (q + m2) cx ∧ Γ' = own el sz (some ⟨g, 0, none⟩) nn cx (xs.take (q * sz) ++ news ++ xs.drop (q * sz + news.length)) :: Δ) (fun _ h => by cases h) (fun ev w he hw => ?_) (fun v Γ' ⟨h1, h2⟩ => by rw [h1, h2]; exact h) hd
  have hw2 := hw.perm ho.perm
  obtain ⟨h3, h4, h5⟩ := own_le (hw2.holds.on (own el sz (some ⟨g, 0, none⟩) nn cx xs) (by simp))
  have hmul : (q + m2) * sz ≤ nn * sz := Nat.mul_le_mul_right _ hq
  rw [Nat.add_mul] at hmul
  obtain ⟨cur, hg, hfit, hcs, hnc, hsep⟩ := hw2.putRow (o := q * sz) (cs := news) (by omega)
  obtain ⟨hs, i, z, hi, hz, hsz, hby, hzc, hpos⟩ := hT
  subst hsz hby
  by_cases hm0 : m2 = 0
  · subst hm0
    have : news = [] := List.eq_nil_of_length_eq_zero (by simpa using hn)
    subst this
    refine ⟨_, w, _, exec_app (he x _ hx) (he y _ hy) (v := .slice (some ⟨g, 0, none⟩) q cx) (w' := w) ?_, ?_, rfl, rfl⟩
    · have hf : (Builtin.firstCells i.size 0 (.slice a2 0 c2)).run P w = .ok #[] w := by cases a2 <;> simp [Builtin.firstCells, loadCells, loadCellsFrom, Sem.run]
      have hle : q ≤ cx := by omega
      simp [Builtin.append_, run_underlying hs, Go.sizeOf, typeInfo, hi, Builtin.lenOf, hle, hf, storeCells, Sem.run]
    · simpa using hw2
  · obtain ⟨b2, o2, rfl, _⟩ := (hr.rd w hw).some_of (q := 0) (by rw [hn]; exact Nat.mul_pos (by omega) hpos)
    have hnews : ∀ j u, news[j]? = some u → w.cell? ((⟨b2, o2, none⟩ : Addr).add j) = some u := fun j u hj => by
      obtain ⟨b', o', h, hc⟩ := (hr.rd w hw) j u hj; cases h; rw [add_pl]; exact hc
    have hrun := run_append_room (P := P) w t ty el i hs hi g q cx cur hg ⟨b2, o2, none⟩ m2 c2 news hn hnews h1.one (by omega) (by omega)
    exact ⟨_, _, _, exec_app (he x _ hx) (he y _ hy) hrun, hsep, rfl, rfl⟩
/-- what is owned from the left -/
theorem Sep.shrink {w : World} {nn m cc : Nat} (hw : Sep w0 S0 w (own el sz a nn cc xs :: Γ)) (hm : m ≤ nn) (hm0 : a = none → m = 0 → nn = 0) : Sep w0 S0 w (own el sz a m cc (xs.take (m * sz)) :: Γ) := by
  obtain ⟨h1, h2⟩ := hw.holds.on (own el sz a nn cc xs) (by simp)
  have hle : m * sz ≤ nn * sz := Nat.mul_le_mul_right _ hm
  refine ⟨hw.keep, Holds.cons.2 ⟨⟨by rw [List.length_take]; omega, ?_⟩, fun d hd => (Holds.cons.1 hw.holds).2.1 d hd, (Holds.cons.1 hw.holds).2.2⟩, fun b ⟨c, hc, hb⟩ => hw.inn b ?_⟩
  · rcases h2 with ⟨h2, h3⟩ | ⟨g', cap, cur, hv, hb, hg, hnc, hcm, hcs, htake⟩
    · cases h2; obtain rfl : m = 0 := by omega
      exact .inl ⟨rfl, rfl⟩
    · cases hv
      exact .inr ⟨g', cc, cur, rfl, hb, hg, by omega, hcm, hcs, by rw [← htake, List.take_take, Nat.min_eq_left hle]⟩
  · rcases List.mem_cons.1 hc with rfl | hc
    · exact ⟨_, List.mem_cons_self .., hb⟩
    · exact ⟨c, List.mem_cons_of_mem _ hc, hb⟩
theorem C.shr {Q : Exit → St → List Ch → Prop} {s : St} {c : Code} {nn m cc : Nat} (a : Option Addr) [ho : Ow a Γ el sz nn cc xs Δ] (hm : m ≤ nn) (hm0 : a = none → m = 0 → nn = 0) (h : C w0 S0 P ρ n c Q s (own el sz a m cc (xs.take (m * sz)) :: Δ)) : C w0 S0 P ρ n c Q s Γ := fun w hw => h w ((hw.perm ho.perm).shrink hm hm0)
/-- clear, within what is owned -/
theorem L.clr {bytes g k m nn cc c2 : Nat} {z : Value} (hT : ElT P t el sz bytes) (hz : ∀ w, (zeroValue el).run P w = .ok z w) (hzs : z.cells.size = sz) (hz1 : ∀ u ∈ z.cells.toList, u.oneCell' = true) (hx : look e x = some (.slice (some ⟨g, k * sz, none⟩) m c2)) [ho : Ow (some ⟨g, 0, none⟩) Γ el sz nn cc xs Δ] (hk : k + m ≤ nn)
    (h : ∀ cs : List Value, cs.length = m * sz → L w0 S0 P ρ n ops r K ⟨e, ds⟩ (own el sz (some ⟨g, 0, none⟩) nn cc (xs.take (k * sz) ++ cs ++ xs.drop (k * sz + cs.length)) :: Δ)) :
    L w0 S0 P ρ n ops (⟨none, .call { callee := .builtin .clear, args := #[x], argTypes := #[t] }, ty, ps, af, none⟩ :: r) K ⟨e, ds⟩ Γ := by
  have hlen : (Builtin.zeroCells z.cells m).toList.length = m * sz := by simp [Builtin.zeroCells, hzs]
  refine L.skv _ (fun _ h => by cases h) (fun ev w he hw => ?_) (h _ hlen)
  have hw2 := hw.perm ho.perm
  obtain ⟨h3, h4, h5⟩ := own_le (hw2.holds.on (own el sz (some ⟨g, 0, none⟩) nn cc xs) (by simp))
  have hmul : (k + m) * sz ≤ nn * sz := Nat.mul_le_mul_right _ hk
  rw [Nat.add_mul] at hmul
  obtain ⟨cur, hg, hfit, hcs, hnc, hsep⟩ := hw2.putRow (o := k * sz) (cs := (Builtin.zeroCells z.cells m).toList) (by omega)
  have hs := hT.sl
  cases m with
  | zero =>
    refine ⟨.tuple #[], w, by simp [execOp, resolve, invoke, builtin, he x _ hx, Builtin.clear_, run_underlying hs, Sem.run], ?_⟩
    have : (Builtin.zeroCells z.cells 0).toList = [] := List.eq_nil_of_length_eq_zero (by rw [hlen]; simp)
    rw [this]; simpa using hw2
  | succ m =>
    have hst := run_storeCells_at P g (k * sz) el (Builtin.zeroCells z.cells (m + 1)).toList 0 cur w hg (by omega) (fun u hu => by
      simp only [Builtin.zeroCells, Array.toList_map, List.mem_map] at hu
      obtain ⟨j, hj, rfl⟩ := hu
      have hjl : j < (m + 1) * z.cells.size := by simpa using hj
      have hp : 0 < z.cells.size := Nat.pos_of_ne_zero fun h0 => by rw [h0] at hjl; omega
      have hml := Nat.mod_lt j hp
      rw [getElem!_pos z.cells (j % z.cells.size) hml]
      exact hz1 _ (by simp))
    simp only [Nat.add_zero] at hst
    exact ⟨.tuple #[], _, by simp [execOp, resolve, invoke, builtin, he x _ hx, Builtin.clear_, run_underlying hs, hz w, hst, Sem.run], hsep⟩
/-- what is built out of known parts -/
theorem Y.bdC {pa : Array (Nat × Operand)} {vs : List (Nat × Value)} {cs : List Value} (hb : P.built t vs = some cs.toArray) (hpi : pa.toList.map (·.1) = vs.map (·.1)) (hpa : lookAll e (pa.toList.map (·.2)) = some (vs.map (·.2))) : Yl w0 S0 P Γ e ⟨some d, .build t pa, ty, ps, af, none⟩ (.agg cs.toArray) := fun ev w he hw => by
  have h1 := lookAll_eq he hpa
  have h2 : (pa.map fun p => (p.1, ev p.2)).toList = vs := by
    simp only [Array.toList_map]
    apply List.ext_getElem
    · have := congrArg List.length hpi; simpa using this
    · intro i hi1 hi2
      have e1 : (pa.toList.map (·.1))[i]'(by simpa using hi1) = (vs.map (·.1))[i]'(by simpa using hi2) := by simp only [hpi]
      have e2 : ((pa.toList.map (·.2)).map ev)[i]'(by simpa using hi1) = (vs.map (·.2))[i]'(by simpa using hi2) := by simp only [h1]
      simp only [List.getElem_map] at e1 e2 ⊢
      rw [e1, e2]
  rw [← h2] at hb
  simp only [execOp, Sem.run_bind, run_build w t _ _ hb, Result.andThen, Sem.run_pure]
/-- what is known of the pieces where the code stands -/
theorem C.fact {Q : Exit → St → List Ch → Prop} {s : St} {c : Code} {p : Prop} (h : ∀ w, Sep w0 S0 w Γ → p) (k : p → C w0 S0 P ρ n c Q s Γ) : C w0 S0 P ρ n c Q s Γ := fun w hw => k (h w hw) w hw
theorem L.fact {s : St} {p : Prop} (h : ∀ w, Sep w0 S0 w Γ → p) (k : p → L w0 S0 P ρ n ops r K s Γ) : L w0 S0 P ρ n ops r K s Γ := fun w hw => k (h w hw) w hw
theorem Y.quoN {k : IntKind} {p q : Nat} {t' : TypeId} (hx : look e x = some (.int k p)) (hy : look e y = some (.int k q)) (hb : 0 < q) (hw : k.wrap ((p / q : Nat) : Int) = ((p / q : Nat) : Int)) : Yl w0 S0 P Γ e ⟨some d, .binOp .quo t x y t', ty, ps, af, none⟩ (.int k ((p / q : Nat) : Int)) := fun ev w he hw' => by
  have hb0 : (q : Int) ≠ 0 := by omega
  have h1 : (p : Int).tdiv (q : Int) = ((p / q : Nat) : Int) := by rw [Int.tdiv_eq_ediv_of_nonneg (by omega)]; rfl
  simp [execOp, he x _ hx, he y _ hy, Sem.run, eqGuard, Go.binOp, Op.intDiv, hb0, h1, show ¬ q = 0 by omega]
  rw [← Int.natCast_ediv]; exact hw
theorem Y.remN {k : IntKind} {p q : Nat} {t' : TypeId} (hx : look e x = some (.int k p)) (hy : look e y = some (.int k q)) (hb : 0 < q) : Yl w0 S0 P Γ e ⟨some d, .binOp .rem t x y t', ty, ps, af, none⟩ (.int k ((p % q : Nat) : Int)) := fun ev w he hw' => by
  have hb0 : (q : Int) ≠ 0 := by omega
  have h1 : (p : Int).tmod (q : Int) = ((p % q : Nat) : Int) := by rw [Int.tmod_eq_emod_of_nonneg (by omega)]; rfl
  simp [execOp, he x _ hx, he y _ hy, Sem.run, eqGuard, Go.binOp, Op.intDiv, hb0, h1, show ¬ q = 0 by omega]
theorem Wk.flip {A L D : List Ch} (h : Wk (L ++ A) D) : Wk (A ++ L) D := by
  obtain ⟨Θ, h⟩ := h
  exact ⟨Θ, List.perm_append_comm.trans h⟩
instance (priority := 500) Fr.self {Γ : List Ch} : Fr Γ Γ [] := ⟨by simp⟩
/-- a call of a value that reads some of the pieces and leaves them as they are -/
theorem L.callVR {Γf Γr : List Ch} {x : Operand} {args : Array Operand} {ats : Array TypeId} {vs : List Value} {fv : Value} {R : Value → Prop} (hx : look e x = some fv) (ha : lookAll e args.toList = some vs) [hp : Fr Γ Γf Γr]
    (hc : ∀ w, Sep w0 S0 w Γ → Holds w Γf → CallV P fv vs w (Post w Γf (RW fun v Γ' => R v ∧ Γ' = Γf))) (h : ∀ v, R v → L w0 S0 P ρ n ops r K ⟨(d, v) :: e, ds⟩ Γ) (hd : Nat.ble (d + 1) n = true := by rfl) :
    L w0 S0 P ρ n ops (⟨some d, .call { callee := .value x, args := args, argTypes := ats }, ty, ps, af, none⟩ :: r) K ⟨e, ds⟩ Γ :=
  L.callVFW hx ha hc (fun v Γ' hv => by obtain ⟨h1, rfl⟩ := hv; exact .wk (.of hp.perm.symm) (h v h1)) hd
/-- some piece behind pieces that are not looked into -/
instance (priority := 900) Pk.app {x : Ch} {A L L' : List Ch} [h : Pk x L L'] : Pk x (A ++ L) (A ++ L') := ⟨(List.Perm.append_left A h.perm).trans List.perm_middle⟩
end
end Go.X
namespace Go.X
open Go Go.ChangeShapes Go.RowKit
theorem keptBut_of {W W' : World} (h : Keep (fun _ => False) W W') (may : MemPlace → Prop) : W.keptBut W' may := by
  refine ⟨h.os, h.output, fun i hi => ?_⟩
  rw [h.blk i hi id]
  cases hh : W.heap[i]? with
  | none => rfl
  | some o => cases o <;> simp
/-- a row's end from Keep: the old blocks stand -/
theorem post_of_keep {H : Type} {enc : TypeId × Value → H} {P : Program} {f : Func} {s : ChangeSpec} {apart fresh handsOn again : Bool} {W W' : World} {args : Array Value} {v : Value} {ds gs : List (DataW H)} {before pa pv : List MemPlace}
    (hW : DataW.Whole enc P f.params.toList s.vars apart W args.toList ds gs before)
    (hres : ∀ (b : Nat) (sp : Nat → Bool) (hd : Bool), DataW.TrodAll enc P W' b sp hd f.resultTypes.toList (v.resultList f.resultTypes.size) (s.fn H (ds ++ gs)).results [])
    (hargs : ∀ sp : Nat → Bool, (∀ p ∈ before, sp p.block = true) → DataW.TrodAll enc P W' 0 sp true f.params.toList args.toList (s.fn H (ds ++ gs)).args pa)
    (hvars : ∀ sp : Nat → Bool, (∀ p ∈ before, sp p.block = true) → DataW.TrodVars enc P W' sp s.vars (s.fn H (ds ++ gs)).vars pv)
    (hps : before = pa ++ pv) (hk : W.keptBut W' (· ∈ before)) (hkeep : Keep (fun _ => False) W W')
    (hok : ∀ (j : Nat) (t : TypeId) (r : Value), f.resultTypes[j]? = some t → (v.resultList f.resultTypes.size)[j]? = some r → Value.okWide P W' .any 0 t r) :
    s.post enc P f apart fresh handsOn again W args v W' := by
  have hlt := hW.lt
  have hold : ∀ p ∈ before, (fun b => decide (b < W.heap.size)) p.block = true := fun p hp => by simpa using hlt p hp
  refine ⟨ds, gs, before, [], pa, pv, hW, hres _ _ _, hargs _ hold, hvars _ hold, World.keptBut_mono (fun p hp => ⟨hp, ?_⟩) hk, fun _ => ?_⟩
  · rw [hps, List.mem_append] at hp
    exact Or.inr hp
  · obtain ⟨_, _, _, _, _, hz, hn⟩ := hW
    refine ⟨hok, _, _, ([] ++ pa) ++ pv, ⟨[] ++ pa, pv, trodAll_append (hargs _ (fun _ _ => rfl)) (hres _ _ _), hvars _ (fun _ _ => rfl), rfl, ?_, ?_⟩, ?_⟩
    · intro b off hp
      have hb : MemPlace.cell b off ∈ before := by rw [hps]; simpa using hp
      have h1 := hz b off hb
      have h2 : W'.heap[b]? = W.heap[b]? := hkeep.blk b (hlt _ hb) id
      rw [← h1]
      unfold World.frozen?
      simp only [h2]
    · intro ha
      have := hn ha
      rw [hps] at this
      simpa using this
    · intro p hp _
      rw [hps]
      simpa using hp
end Go.X
namespace Go.X
open Go Go.ChangeShapes Go.RowKit
section
variable {H : Type} {enc : TypeId × Value → H} {P : Program}
/-- arguments that are only read are read behind the call as before it -/
theorem trodAll_stays (hl : laidOutB P = true) {W W' : World} {sp' : Nat → Bool} : ∀ {ts : List TypeId} {vs : List Value} {ds : List (DataW H)} {ps : List MemPlace}, (∀ t, t ∈ ts → P.readableRec t = true ∧ t < P.types.size) →
    DataW.TrodAll enc P W 0 (fun _ => true) true ts vs ds ps → (∀ p ∈ ps, W.sameAt W' p) → (∀ p ∈ ps, sp' p.block = true) → DataW.TrodAll enc P W' 0 sp' true ts vs ds ps
  | [], vs, ds, ps, _, h, _, _ => by
    obtain ⟨rfl, rfl, rfl⟩ := trodAll_nil h
    exact trodAll_mk0
  | t :: ts, vs, ds, ps, ht, h, hsame, hs => by
    obtain ⟨v, vs', d, ds', p, q, rfl, rfl, rfl, hd, hr⟩ := trodAll_cons h
    have h1 := ht t (by simp)
    exact trodAll_cons_mk (WideElems.Trod_stays hl h1.1 h1.2 hd (fun x hx => hsame x (by simp [hx])) (fun x hx => hs x (by simp [hx])))
      (trodAll_stays hl (fun t h => ht t (by simp [h])) hr (fun x hx => hsame x (by simp [hx])) (fun x hx => hs x (by simp [hx])))
theorem trodVars_mk0 {P : Program} {W' : World} {sp : Nat → Bool} {enc : TypeId × Value → H} : DataW.TrodVars enc P W' sp [] [] [] := rfl
/-- THE END OF A LAW's ROW: the call answers true, and what there was stands. -/
theorem law_end {f : Func} {s : ChangeSpec} {W W' : World} {args : Array Value} {ds gs : List (DataW H)} {before : List MemPlace} (hl : laidOutB P = true) (hr : ∀ t, t ∈ f.params.toList → P.readableRec t = true ∧ t < P.types.size)
    (hW : DataW.Whole enc P f.params.toList s.vars false W args.toList ds gs before) (hv : s.vars = []) (hfn : s.fn H (ds ++ gs) = { results := [.lit (.bool true)], args := ds })
    (hkeep : Keep (fun _ => False) W W') (hrt : f.resultTypes = #[4]) (h4 : P.underlying 4 = some .bool) :
    s.post enc P f false true false false W args (.bool true) W' := by
  have hW' := hW
  have hlt := hW.lt
  obtain ⟨p, q, hA, hV, rfl, hfz, hnd⟩ := hW
  rw [hv] at hV
  obtain ⟨rfl, rfl⟩ := trodVars_none hV
  have hsame : ∀ x ∈ p, W.sameAt W' x := fun x hx => hkeep.below.same (hlt x (by simpa using hx))
  refine post_of_keep (pa := p) (pv := []) hW' (fun b sp hd => ?_) (fun sp hsp => ?_) (fun sp hsp => ?_) rfl (keptBut_of hkeep _) hkeep ?_
  · rw [hfn, hrt]; exact trodAll_cons_mk (shut_bool h4 true) trodAll_mk0
  · rw [hfn]; exact trodAll_stays hl hr hA hsame (fun x hx => hsp x (by simpa using hx))
  · rw [hfn, hv]; exact trodVars_mk0
  · exact ok_one hrt rfl (okWide_bool_mk h4 true)
end
/-! opening what is read -/
def All2 {α β : Type} (R : α → β → Prop) : List α → List β → Prop
  | [], [] => True
  | a :: l, b :: m => R a b ∧ All2 R l m
  | _, _ => False
theorem All2.of {α β : Type} {R : α → β → Prop} : ∀ {l : List α} {m : List β}, l.length = m.length → (∀ (i : Nat) (a : α) (b : β), l[i]? = some a → m[i]? = some b → R a b) → All2 R l m
  | [], [], _, _ => trivial
  | a :: l, b :: m, h, k => ⟨k 0 a b rfl rfl, All2.of (by simpa using h) (fun i x y hx hy => k (i + 1) x y (by simpa using hx) (by simpa using hy))⟩
  | [], _ :: _, h, _ => by simp at h
  | _ :: _, [], h, _ => by simp at h
theorem All2.get {α β : Type} {R : α → β → Prop} : ∀ {l : List α} {m : List β}, All2 R l m → ∀ (i : Nat) (a : α), l[i]? = some a → ∃ b, m[i]? = some b ∧ R a b
  | [], [], _, i, a, hi => by simp at hi
  | a :: l, b :: m, h, 0, x, hi => by simp at hi; subst hi; exact ⟨b, rfl, h.1⟩
  | a :: l, b :: m, h, i + 1, x, hi => by
    obtain ⟨y, hy, hr⟩ := All2.get h.2 i x (by simpa using hi)
    exact ⟨y, by simpa using hy, hr⟩
  | [], _ :: _, h, _, _, _ => h.elim
  | _ :: _, [], h, _, _, _ => h.elim
theorem All2.length {α β : Type} {R : α → β → Prop} : ∀ {l : List α} {m : List β}, All2 R l m → l.length = m.length
  | [], [], _ => rfl
  | _ :: _, _ :: _, h => by simp [All2.length h.2]
  | [], _ :: _, h => h.elim
  | _ :: _, [], h => h.elim
theorem exists_list {α : Type} (Q : Nat → α → Prop) : ∀ n, (∀ i, i < n → ∃ x, Q i x) → ∃ xs : List α, xs.length = n ∧ ∀ i x, xs[i]? = some x → Q i x
  | 0, _ => ⟨[], rfl, fun i x h => by simp at h⟩
  | n + 1, h => by
    obtain ⟨xs, h1, h2⟩ := exists_list Q n (fun i hi => h i (by omega))
    obtain ⟨x, hx⟩ := h n (by omega)
    refine ⟨xs ++ [x], by simp [h1], fun i y hi => ?_⟩
    rcases Nat.lt_or_ge i n with hlt | hge
    · rw [List.getElem?_append_left (by omega)] at hi; exact h2 i y hi
    · rw [List.getElem?_append_right (by omega)] at hi
      have : i = n := by
        have := (List.getElem?_eq_some_iff.1 hi).1
        simp at this; omega
      subst this
      rw [h1, Nat.sub_self] at hi
      simp at hi; subst hi; exact hx
theorem flat_get {α : Type} {en : α → List Value} {k : Nat} (hk : ∀ x, (en x).length = k) : ∀ (xs : List α) (j : Nat) (v : Value), (xs.flatMap en)[j]? = some v → ∃ i r x, j = i * k + r ∧ r < k ∧ xs[i]? = some x ∧ (en x)[r]? = some v
  | [], j, v, h => by simp at h
  | x :: xs, j, v, h => by
    simp only [List.flatMap_cons] at h
    rcases Nat.lt_or_ge j k with hlt | hge
    · rw [List.getElem?_append_left (by rw [hk]; exact hlt)] at h
      exact ⟨0, j, x, by omega, hlt, rfl, h⟩
    · rw [List.getElem?_append_right (by rw [hk]; exact hge), hk] at h
      obtain ⟨i, r, y, h1, h2, h3, h4⟩ := flat_get hk xs (j - k) v h
      exact ⟨i + 1, r, y, by rw [Nat.succ_mul]; omega, h2, by simpa using h3, h4⟩
theorem cell_plain {w : World} {a : Addr} {v : Value} (h : w.cell? a = some v) : a = ⟨a.block, a.off, none⟩ := by
  obtain ⟨b, o, s⟩ := a
  cases s with
  | none => rfl
  | some s =>
    exfalso
    unfold World.cell? at h
    dsimp only at h
    split at h
    · simp at h
    · cases h
theorem add_add (a : Addr) (m n : Nat) : (a.add m).add n = a.add (m + n) := by
  unfold Addr.add
  by_cases hm : m = 0
  · subst hm; simp
  · by_cases hn : n = 0
    · subst hn; simp
    · rw [if_neg hm, if_neg hn, if_neg (by omega)]
      simp [Nat.add_assoc]
section
variable {H : Type} {enc : TypeId × Value → H} {P : Program} {w : World} {base : Nat} {sp : Nat → Bool} {held : Bool}
/-- A SLICE THAT IS READ: what its elements read as -/
theorem open_slice {α : Type} {t e : TypeId} {k : Nat} (ht : P.underlying t = some (.slice e)) (hc : P.cellsOf e = k) (en : α → List Value) (hen : ∀ x, (en x).length = k) (R : α → DataW H → Prop)
    (hdec : ∀ (n : Nat) (cs : List Value) (y : DataW H × List MemPlace), DataW.trod enc P w base sp held n e cs = some y → ∃ x, cs = en x ∧ R x y.1) {fuel : Nat} {cs : List Value} {x : DataW H × List MemPlace}
    (h : DataW.trod enc P w base sp held fuel t cs = some x) :
    ∃ (a : Option Addr) (xs : List α) (c : Nat), cs = [.slice a xs.length c] ∧ Rs w a (xs.flatMap en) ∧ ((x.1 = .nil ∧ xs = []) ∨ ∃ ds sp, x.1 = .slice ds sp ∧ All2 R xs ds) := by
  rcases DataW.trod_slice ht h with ⟨rfl, rfl⟩ | ⟨a, len, cap, elems, rest, n, _, rfl, rfl, hb, hl, hm, hlen, hel, hsp, hns⟩
  · exact ⟨none, [], 0, rfl, Rs.nil _ _, .inl ⟨rfl, rfl⟩⟩
  · obtain ⟨xs, h1, h2⟩ := exists_list (fun i (x : α) => (∀ j, j < k → w.cell? (a.add (i * k + j)) = (en x)[j]?) ∧ ∃ y, elems[i]? = some y ∧ R x y.1) len (fun i hi => by
      have h3 := hel i hi
      have h4 : elems[i]? = some (elems[i]'(by omega)) := List.getElem?_eq_getElem (by omega)
      rw [h4, hc, Option.bind_eq_some_iff] at h3
      obtain ⟨cs, h5, h6⟩ := h3
      obtain ⟨h7, h8, h9⟩ := World.cells?_some h5
      obtain ⟨x, rfl, hx⟩ := hdec n cs _ h6
      refine ⟨x, fun j hj => ?_, _, h4, hx⟩
      rw [← h9 j hj, add_add])
    refine ⟨some a, xs, cap, by rw [h1], fun j v hj => ?_, .inr ⟨_, _, rfl, ?_⟩⟩
    · obtain ⟨i, r, x, rfl, hr, hx, hv⟩ := flat_get hen xs j v hj
      have h3 := (h2 i x hx).1 r hr
      rw [hv] at h3
      have h4 : a = ⟨a.block, a.off, none⟩ := by
        obtain ⟨x0, hx0⟩ : ∃ x0, xs[0]? = some x0 := ⟨_, List.getElem?_eq_getElem (by have := (List.getElem?_eq_some_iff.1 hx).1; omega)⟩
        obtain ⟨v0, hv0⟩ : ∃ v0, (en x0)[0]? = some v0 := ⟨_, List.getElem?_eq_getElem (by rw [hen]; omega)⟩
        have h5 := (h2 0 x0 hx0).1 0 (by omega)
        rw [hv0] at h5
        exact cell_plain (v := v0) (by simpa [Addr.add] using h5)
      refine ⟨a.block, a.off, by rw [← h4], ?_⟩
      rw [h4, add_pl] at h3
      exact h3
    · refine All2.of (by rw [List.length_map]; omega) fun i x d hx hd => ?_
      obtain ⟨_, y, hy, hr⟩ := h2 i x hx
      rw [List.getElem?_map, hy] at hd
      simp at hd; subst hd; exact hr
theorem byteL_flat (l : List UInt8) : l.flatMap (fun u : UInt8 => [Value.int .u8 u.toNat]) = byteL l := by
  induction l with
  | nil => rfl
  | cons a r ih => simp only [List.flatMap_cons, ih]; rfl
/-- bytes -/
theorem open_bytes {t e : TypeId} (ht : P.underlying t = some (.slice e)) (he : P.underlying e = some (.int .u8)) (hc : P.cellsOf e = 1) {fuel : Nat} {cs : List Value} {x : DataW H × List MemPlace}
    (h : DataW.trod enc P w base sp held fuel t cs = some x) :
    ∃ (a : Option Addr) (l : List UInt8) (c : Nat), cs = [.slice a l.length c] ∧ Rs w a (byteL l) ∧ ((x.1 = .nil ∧ l = []) ∨ ∃ ds sp, x.1 = .slice ds sp ∧ ds.length = l.length) := by
  obtain ⟨a, l, c, h1, h2, h3⟩ := open_slice ht hc (fun u : UInt8 => [Value.int .u8 u.toNat]) (fun _ => rfl) (fun _ _ => True) (fun n cs y hy => by
    obtain ⟨z, rfl, rfl, hwf⟩ := DataW.trod_int he hy
    have : 0 ≤ z ∧ z ≤ 255 := by simpa [Lit.wf, IntKind.min, IntKind.max, IntKind.signed, IntKind.bits] using hwf
    refine ⟨UInt8.ofNat z.toNat, ?_, trivial⟩
    have : ((UInt8.ofNat z.toNat).toNat : Int) = z := by simp; omega
    rw [this]) h
  rw [byteL_flat] at h2
  refine ⟨a, l, c, h1, h2, ?_⟩
  rcases h3 with h3 | ⟨ds, sp, h3, h4⟩
  · exact .inl h3
  · refine .inr ⟨ds, sp, h3, ?_⟩
    exact h4.length.symm
end
end Go.X
