/- Lemmas for the claim: a calculus of steps over the given program, plain laws, and the contracts of its functions. -/
import Derived.Test.YtinbfghmnfldjaaDoorProg
import Derived.Shelf.Abstract
import Derived.Test.YtinbfghmnfldjaaDoorCards
import Derived.OpenShut
import Derived.Lib.LaidTab
import Derived.Lib.LaidU8
import Derived.Shelf.Vars
import Derived.Test.YtinbfghmnfldjaaDoorTie
import Derived.WalkKit
import Derived.ChangeMaps5
import Derived.Deep.DeepHandedRow
import Derived.ProofKit
import Derived.Test.YtinbfghmnfldjaaDoorB1
set_option linter.unusedSimpArgs false
set_option linter.unusedVariables false
set_option maxHeartbeats 1000000
namespace Go.Proofs.YtinbfghmnfldjaaDoor
open Go Go.X Go.Shelf Go.Scr
theorem p_hex (d : List UInt8) (hdl : d.length ≤ 4294967280) (a : Option Addr) (c : Nat) (w : World) (h : Rs w a (byteL d)) : Pur Go.Proofs.Tryd.prog 48 [.slice a d.length c] (.string (S (hexL d))) w := by
  haveI hrd : ∀ Γ, Rd w (fps []) Γ a (byteL d) := fun Γ => Rd.old0 h Γ
  refine pur_of Go.Proofs.Tryd.func48 rfl Go.Proofs.Tryd.ntmps48 rfl ?_
  change C _ _ _ _ _ _ _ ⟨[(0, _)], []⟩ _
  refine C.regS ?_
  refine L.yl (Y.as rfl) ?_
  refine L.nil ?_
  refine C.seq ?_
  refine C.regS ?_
  refine L.yl (Y.mv rfl) ?_
  refine L.yl (Y.len ⟨_, Go.Proofs.Tryd.underlying34⟩ rfl) ?_
  refine L.yl (Y.eqi rfl rfl) ?_
  refine L.nil ?_
  refine C.condP rfl (fun hc1 => ?_) (fun hc1 => ?_)
  ·
    have hd0 : d = [] := List.length_eq_zero_iff.1 (by omega)
    refine C.regS ?_
    refine L.yl (Y.as rfl) ?_
    refine L.nil ?_
    refine C.ret ?_
    refine Then.r ?_
    refine FnPost.r1 Go.Proofs.Tryd.results48 rfl ?_
    rw [hd0]; rfl
  ·
    refine C.skip ?_
    refine Then.n ?_
    refine C.regS ?_
    refine L.yl (Y.as rfl) ?_
    refine L.nil ?_
    refine C.seq ?_
    refine C.regS ?_
    refine L.yl (Y.mv rfl) ?_
    refine L.yl (Y.len ⟨_, Go.Proofs.Tryd.underlying34⟩ rfl) ?_
    refine L.yl (Y.mv rfl) ?_
    refine L.nil ?_
    refine C.block ?_
    refine C.nil0 5 1 ?_
    refine C.loop (σ := Nat × Option Addr × Nat × Nat) (fun (i, a', q, c') => [(3, .slice a' q c'), (9, .slice a d.length c), (10, .int .i64 d.length), (11, .int .i64 i)]) (fun (i, a', q, c') => [own 5 1 a' q c' (byteL ((d.take i).flatMap hx2))]) (fun (i, a', q, c') => i ≤ d.length ∧ q = 2 * i) (fun (i, a', q, c') => d.length - i) (0, none, 0, 0) ?_ ?_ ?_ ?_
    · repeat (first | exact trivial | refine ⟨rfl, ?_⟩)
    · first | exact .of (.refl _) | exact inferInstance | (dsimp only; exact inferInstance)
    · exact ⟨by omega, rfl⟩
    · rintro ⟨i, a', q, c'⟩ ⟨hI1, hI2⟩
      subst hI2
      try dsimp only
      refine C.regS ?_
      refine L.yl (Y.lss rfl rfl) ?_
      refine L.nil ?_
      refine C.seq ?_
      refine C.condP rfl (fun hc2 => ?_) (fun hc2 => ?_)
      ·
        refine C.skip ?_
        refine Then.n ?_
        refine C.seq ?_
        refine C.block ?_
        refine C.regS ?_
        refine L.yl (Y.ix slt34 rfl rfl (by simp [byteL]) (by omega) (by omega)) ?_
        refine L.ldsF (fun u : UInt8 => Value.int .u8 u.toNat) d sc5 rfl rfl (by omega) (fun u14 hu14 => ?_)
        have hu14 : d[i]? = some u14 := by rw [← hu14]; simp
        have hb14 := u8lt u14
        have hp14 := hex_pos u14
        refine L.yl (Y.as rfl) ?_
        refine L.nil ?_
        refine C.drwP (Δ := [_]) (Γ0 := []) (.refl _) (.y 0 (.y 1 (.y 2 (.y 3 (.y 4 (.y 5 (.y 6 (.h 7 (.h 8 (.y 9 (.fin))))))))))) mixo (by kernel_rfl) ?_
        refine V.yl rfl (Y.mv rfl) ?_
        refine V.yl rfl (Y.mv rfl) ?_
        refine V.yl rfl (Y.shr rfl rfl (by omega)) ?_
        refine V.yl rfl (Y.sidx (l := hexdig) Go.Proofs.Tryd.underlying9 rfl rfl hp14.1 (hex_hi u14)) ?_
        refine V.yl rfl (Y.mv rfl) ?_
        refine V.yl rfl (Y.and rfl rfl) ?_
        refine V.yl rfl (Y.sidx (l := hexdig) Go.Proofs.Tryd.underlying9 rfl rfl hp14.2 (hex_lo u14)) ?_
        refine V.hv rfl ?_
        refine L.apc ?_
        refine L.bsl elt34 rfl rfl rfl (by decide) ?_; intro b22
        rw [show cellsL [Value.int .u8 (hd (u14.toNat / 16)).toNat, Value.int .u8 (hd (u14.toNat % 16)).toNat] = byteL (hx2 u14) from rfl]
        refine L.nil ?_
        refine V.on ?_
        refine V.hv rfl ?_
        refine L.apc ?_
        refine L.app elt34 rfl rfl (by rfl) (by rfl) (by omega) (by omega) ?_; intro a23 c23
        rw [show byteL ((d.take i).flatMap hx2) ++ byteL (hx2 u14) = byteL ((d.take (i + 1)).flatMap hx2) from by rw [hexs_take d i u14 hu14]; simp [byteL]]
        refine L.nil ?_
        refine V.on ?_
        refine V.yl rfl (Y.as rfl) ?_
        refine V.fin ?_
        refine InBlo.n ?_
        refine Then.n ?_
        refine C.reg ?_
        first | refine L.yl (Y.add rfl rfl (by omega)) ?_ | refine L.yl (Y.addW rfl rfl) ?_
        refine L.yl (Y.mv rfl) ?_
        refine L.nil ?_
        exact ⟨(i + 1, _, _, _), (by repeat (first | exact trivial | refine ⟨rfl, ?_⟩ | refine ⟨congrArg some (by simp), ?_⟩ | refine ⟨congrArg some (by simp; omega), ?_⟩)), rfl, (by first | exact inferInstance | (dsimp only; exact inferInstance)), ⟨(by first | omega | (dsimp only; omega)), (by first | omega | (dsimp only; omega))⟩, (by first | omega | (dsimp only; omega))⟩
      ·
        refine C.exit ?_
        refine Then.x ?_
        refine Then.x ?_
        refine InBlo.x ?_
        refine Then.n ?_
        refine C.regS ?_
        refine L.yl (Y.mv rfl) ?_
        refine L.yl (Y.b2s slt34 Go.Proofs.Tryd.underlying5 Go.Proofs.Tryd.underlying9 rfl (by rw [List.take_of_length_le (by omega)]) (by rw [hexs_length]; omega)) ?_
        refine L.yl (Y.as rfl) ?_
        refine L.nil ?_
        refine C.ret ?_
        refine FnPost.r1 Go.Proofs.Tryd.results48 rfl ?_
        unfold hexL; rw [if_neg (fun e => by subst e; simp at hc1)]
end Go.Proofs.YtinbfghmnfldjaaDoor
set_option maxHeartbeats 1000000
namespace Go.Proofs.YtinbfghmnfldjaaDoor
open Go Go.X Go.Shelf Go.Scr
theorem sameX55 : SameX Go.Proofs.Tryd.prog 55 := fun v w => by
  rw [run_callFunc_extern Go.Proofs.Tryd.func55 (by kernel_rfl) (by kernel_rfl) (by kernel_rfl) (e := Extern.AbiNoEscape.same) (by kernel_rfl), Lib.run_noEscape]; rfl
theorem infoB : (Go.Proofs.Tryd.prog.info? 71).map (fun j => decide (j.size = 0)) = some false := by kernel_rfl
theorem infoB2 : (Go.Proofs.Tryd.prog.info? 71).isSome = true := by kernel_rfl
theorem liesB : liesAt Go.Proofs.Tryd.prog Go.Proofs.Tryd.prog.depth 71 (2 / Go.Proofs.Tryd.prog.cellsOf 71) 0 71 1 = true := by kernel_rfl

theorem p_copyCheck1 (b : Nat) (v : Value) (w : World) (hw : X.Holds w [blk b [.pointer none, v] 71]) : Calls Go.Proofs.Tryd.prog 46 #[.pointer (some ⟨b, 0, none⟩)] w (Post w [blk b [.pointer none, v] 71] (fun r Γ => r = .tuple #[] ∧ Γ = [blk b [.pointer (some ⟨b, 0, none⟩), v] 71])) := by
  refine spec_of Go.Proofs.Tryd.func46 rfl Go.Proofs.Tryd.ntmps46 rfl hw ?_
  change C _ _ _ _ _ _ _ ⟨[(0, _)], []⟩ _
  refine C.regS ?_
  refine L.yl (Y.mv rfl) ?_
  refine L.yl (Y.nck rfl) ?_
  first | refine L.yl (Y.fa0 fl71_0 rfl) ?_ | refine L.yl (Y.fa fl71_0 rfl) ?_ | refine L.yl (Y.fas fl71_0 rfl (by simp; omega)) ?_
  refine L.yl (Y.ld sc69 rfl rfl) ?_
  first | refine L.yl (Y.eqpS ⟨_, Go.Proofs.Tryd.underlying69⟩ rfl) ?_ | refine L.yl (Y.eqpN ⟨_, Go.Proofs.Tryd.underlying69⟩ rfl) ?_
  refine L.nil ?_
  refine C.condTt rfl ?_
  refine C.reg ?_
  refine L.yl (Y.mv rfl) ?_
  refine L.yl (Y.mv rfl) ?_
  refine L.yl (Y.toU Go.Proofs.Tryd.underlying69 Go.Proofs.Tryd.underlying92 infoB rfl rfl) ?_
  refine L.yl (Y.same sameX55 rfl) ?_
  refine L.yl (Y.frU (q := 2) Go.Proofs.Tryd.underlying92 Go.Proofs.Tryd.underlying69 infoB2 rfl rfl liesB) ?_
  refine L.yl (Y.nck rfl) ?_
  first | refine L.yl (Y.fa0 fl71_0 rfl) ?_ | refine L.yl (Y.fa fl71_0 rfl) ?_ | refine L.yl (Y.fas fl71_0 rfl (by simp; omega)) ?_
  refine L.st sc69 rfl rfl rfl ?_
  refine L.nil ?_
  refine FnPost.n0 Go.Proofs.Tryd.results46 ?_
  exact ⟨rfl, rfl⟩
theorem p_copyCheck2 (b : Nat) (v : Value) (w : World) (hw : X.Holds w [blk b [.pointer (some ⟨b, 0, none⟩), v] 71]) : Calls Go.Proofs.Tryd.prog 46 #[.pointer (some ⟨b, 0, none⟩)] w (Post w [blk b [.pointer (some ⟨b, 0, none⟩), v] 71] (fun r Γ => r = .tuple #[] ∧ Γ = [blk b [.pointer (some ⟨b, 0, none⟩), v] 71])) := by
  refine spec_of Go.Proofs.Tryd.func46 rfl Go.Proofs.Tryd.ntmps46 rfl hw ?_
  change C _ _ _ _ _ _ _ ⟨[(0, _)], []⟩ _
  refine C.regS ?_
  refine L.yl (Y.mv rfl) ?_
  refine L.yl (Y.nck rfl) ?_
  first | refine L.yl (Y.fa0 fl71_0 rfl) ?_ | refine L.yl (Y.fa fl71_0 rfl) ?_ | refine L.yl (Y.fas fl71_0 rfl (by simp; omega)) ?_
  refine L.yl (Y.ld sc69 rfl rfl) ?_
  first | refine L.yl (Y.eqpS ⟨_, Go.Proofs.Tryd.underlying69⟩ rfl) ?_ | refine L.yl (Y.eqpN ⟨_, Go.Proofs.Tryd.underlying69⟩ rfl) ?_
  refine L.nil ?_
  refine C.condFf rfl ?_
  refine C.regS ?_
  refine L.yl (Y.mv rfl) ?_
  refine L.yl (Y.nck rfl) ?_
  first | refine L.yl (Y.fa0 fl71_0 rfl) ?_ | refine L.yl (Y.fa fl71_0 rfl) ?_ | refine L.yl (Y.fas fl71_0 rfl (by simp; omega)) ?_
  refine L.yl (Y.ld sc69 rfl rfl) ?_
  refine L.yl (Y.mv rfl) ?_
  refine L.yl (Y.nepSelf Go.Proofs.Tryd.underlying69 infoB rfl rfl) ?_
  refine L.nil ?_
  refine C.condFf rfl ?_
  refine C.skip ?_
  refine FnPost.n0 Go.Proofs.Tryd.results46 ?_
  exact ⟨rfl, rfl⟩
theorem p_copyCheck (b : Nat) (p v : Value) (hp : p = .pointer none ∨ p = .pointer (some ⟨b, 0, none⟩)) (w : World) (hw : X.Holds w [blk b [p, v] 71]) : Calls Go.Proofs.Tryd.prog 46 #[.pointer (some ⟨b, 0, none⟩)] w (Post w [blk b [p, v] 71] (fun r Γ => r = .tuple #[] ∧ Γ = [blk b [.pointer (some ⟨b, 0, none⟩), v] 71])) := by
  rcases hp with rfl | rfl
  · exact p_copyCheck1 b v w hw
  · exact p_copyCheck2 b v w hw

theorem p_WriteString (b : Nat) (p : Value) (a : Option Addr) (q c : Nat) (l m : List UInt8) (hp : p = .pointer none ∨ p = .pointer (some ⟨b, 0, none⟩)) (hq : q + m.length ≤ 140737488355328) (w : World) (hw : X.Holds w [blk b [p, .slice a q c] 71, own 5 1 a q c (byteL l)]) : Calls Go.Proofs.Tryd.prog 29 #[.pointer (some ⟨b, 0, none⟩), .string (S m)] w (Post w [blk b [p, .slice a q c] 71, own 5 1 a q c (byteL l)] (fun r Γ => r = .tuple #[.int .i64 m.length, .nilIface] ∧ ∃ a' c', Γ = [blk b [.pointer (some ⟨b, 0, none⟩), .slice a' (q + m.length) c'] 71, own 5 1 a' (q + m.length) c' (byteL (l ++ m))])) := by
  refine spec_of Go.Proofs.Tryd.func29 rfl Go.Proofs.Tryd.ntmps29 rfl hw ?_
  change C _ _ _ _ _ _ _ ⟨[(0, _), (1, _)], []⟩ _
  refine C.regS ?_
  refine L.yl (Y.as rfl) ?_
  refine L.yl (Y.as rfl) ?_
  refine L.nil ?_
  refine C.regS ?_
  refine L.yl (Y.mv rfl) ?_
  refine L.call (Γf := [blk b [p, .slice a q c] 71]) (Γr := [own 5 1 a q c (byteL l)]) go46 rfl (.refl _) (fun w hw hf => p_copyCheck b p _ hp w hf) ?_
  rintro _ _ ⟨rfl, rfl⟩
  refine L.apc ?_
  refine L.nil ?_
  refine C.regS ?_
  refine L.yl (Y.mv rfl) ?_
  refine L.yl (Y.mv rfl) ?_
  refine L.yl (Y.nck rfl) ?_
  first | refine L.yl (Y.fa0 fl71_1 rfl) ?_ | refine L.yl (Y.fa fl71_1 rfl) ?_ | refine L.yl (Y.fas fl71_1 rfl (by simp; omega)) ?_
  refine L.yl (Y.ld sc34 rfl rfl) ?_
  refine L.yl (Y.mv rfl) ?_
  refine L.appS elt34 Go.Proofs.Tryd.underlying9 rfl rfl rfl (by omega) ?_; intro a14 c14
  refine L.yl (Y.nck rfl) ?_
  first | refine L.yl (Y.fa0 fl71_1 rfl) ?_ | refine L.yl (Y.fa fl71_1 rfl) ?_ | refine L.yl (Y.fas fl71_1 rfl (by simp; omega)) ?_
  refine L.st sc34 rfl rfl rfl ?_
  refine L.nil ?_
  refine C.regS ?_
  refine L.yl (Y.mv rfl) ?_
  refine L.yl (Y.lenS (tys := #[]) Go.Proofs.Tryd.underlying9 rfl) ?_
  refine L.yl (Y.as rfl) ?_
  refine L.yl (Y.as rfl) ?_
  refine L.nil ?_
  refine C.ret ?_
  refine FnPost.r2 Go.Proofs.Tryd.results29 rfl rfl ?_
  exact ⟨rfl, a14, c14, by simp [byteL]⟩
theorem p_BString (B : Nat) (b : Nat) (p : Value) (a : Option Addr) (q c : Nat) (l : List UInt8) (hp : p = .pointer none ∨ p = .pointer (some ⟨b, 0, none⟩)) (w : World) (hw : X.Holds w [blk b [p, .slice a q c] 71, own 5 1 a q c (byteL l)]) (hB0 : ∀ k, fps [blk b [p, .slice a q c] 71, own 5 1 a q c (byteL l)] k → B ≤ k) (hBw : B ≤ w.heap.size) : Calls Go.Proofs.Tryd.prog 32 #[.pointer (some ⟨b, 0, none⟩)] w (fun e w' => e = .returned (.string (S l)) ∧ RowKit.Below B w w') := by
  have h1 : w.heap[b]? = some (.cells #[p, .slice a q c] 71 (0, 0)) := hw.on (blk b [p, .slice a q c] 71) (by simp)
  have h2 : w.ownsRow 0 5 1 (.slice a q c) q (byteL l) := hw.on (own 5 1 a q c (byteL l)) (by simp)
  have hq : (byteL l).length = q := by simpa using h2.1
  have hne : (Value.slice a q c).ownBlock ≠ some b := by
    intro e
    cases a with
    | none => cases e
    | some ad =>
      injection e with e
      rcases h2.2 with ⟨h, _⟩ | ⟨g, cap, cur, hv, _⟩
      · cases h
      · cases hv
        have := (Go.X.Holds.cons.1 hw).2.1 (own 5 1 (some ⟨g, 0, none⟩) q c (byteL l)) (by simp) b rfl
        exact this ⟨0, none, by rw [← e]⟩
  have h3 : w.ownsRow B 5 1 (.slice a q c) q (byteL l) := by
    obtain ⟨h4, h5⟩ := h2
    refine ⟨h4, ?_⟩
    rcases h5 with h5 | ⟨g, cap, cur, hv, _, hr⟩
    · exact .inl h5
    · refine .inr ⟨g, cap, cur, hv, ?_, hr⟩
      cases hv
      exact hB0 g ⟨own 5 1 (some ⟨g, 0, none⟩) q c (byteL l), by simp, 0, none, rfl⟩
  have hb : Lib.BuilderAt 71 5 B b p (byteL l) w := ⟨hB0 b ⟨blk b [p, .slice a q c] 71, by simp, rfl⟩, _, h1, by rw [hq]; exact h3, hne⟩
  have hB : Lib.IsBuilder 71 5 B b (Lib.byteCells l) w := by
    rcases hp with rfl | rfl
    · exact .inl hb
    · exact .inr hb
  exact Go.Proofs.Tryd.Builder_String_any B b l w hB hBw

end Go.Proofs.YtinbfghmnfldjaaDoor
namespace Go.Scr
open Go Go.Lib Go.X
structure CfgOk (ns : List Int) : Prop where
  len : ns.length = 8
  head : 0 ≤ ns.getD 0 0 ∧ ns.getD 0 0 ≤ 4294967295
  all : ∀ n, n ∈ ns → InR n
def num32 (n : Int) : List UInt8 := 32 :: itoa n
def headT (ns : List Int) : List UInt8 := [115, 101, 110, 100, 101, 114, 32] ++ decDigits (ns.getD 0 0).toNat ++ (ns.drop 1).flatMap num32
theorem num32_length (n : Int) (h : InR n) : (num32 n).length ≤ 22 := by
  have := itoa_length_le n h.1 h.2
  simp [num32]; omega
theorem headT_take (ns : List Int) (i : Nat) (n : Int) (h : (ns.drop 1)[i]? = some n) : ((ns.drop 1).take (i + 1)).flatMap num32 = ((ns.drop 1).take i).flatMap num32 ++ num32 n := by
  rw [List.take_add_one, h]; simp
/-- one line's text, or why not -/
def lineP (it : It) : List UInt8 × Int :=
  if it.1 < 0 ∨ 8 ≤ it.1 then ([], 8) else if (it.1 = 0 ∧ it.2.1 ≠ 0) ∨ (it.1 ≠ 0 ∧ it.2.2 ≠ []) then ([], 6) else
  ((words[it.1.toNat]?.getD []) ++ 32 :: (if it.1 = 0 then hexL it.2.2 else itoa it.2.1), 0)
end Go.Scr
set_option maxHeartbeats 1000000
namespace Go.Proofs.YtinbfghmnfldjaaDoor
open Go Go.X Go.Shelf Go.Scr
theorem cfg_drop {ns : List Int} (h : ns.length = 8) : ns.drop 1 = [ns.getD 1 0, ns.getD 2 0, ns.getD 3 0, ns.getD 4 0, ns.getD 5 0, ns.getD 6 0, ns.getD 7 0] := by
  match ns, h with
  | [a, b, c, d, e, f, g, i], _ => rfl

theorem p_Head (ns : List Int) (h : CfgOk ns) (w : World) (hG : G w) : Pur Go.Proofs.Tryd.prog 30 [headV ns] (.string (S (headT ns))) w := by
  refine pur_of Go.Proofs.Tryd.func30 rfl Go.Proofs.Tryd.ntmps30 rfl ?_
  change C _ _ _ _ _ _ _ ⟨[(0, _)], []⟩ _
  refine C.regS ?_
  refine L.bxa rfl ?_; intro b1
  refine L.yl (Y.as rfl) ?_
  refine L.nil ?_
  refine C.regS ?_
  first | refine L.yl (Y.fa0 fl25_0 rfl) ?_ | refine L.yl (Y.fa fl25_0 rfl) ?_ | refine L.yl (Y.fas fl25_0 rfl (by simp; omega)) ?_
  refine L.yl (Y.ld sc23 rfl rfl) ?_
  refine L.yl (Y.cvW Go.Proofs.Tryd.underlying86 ⟨_, Go.Proofs.Tryd.underlying23⟩ rfl) ?_
  rw [show IntKind.u64.wrap (ns.getD 0 0) = ((ns.getD 0 0).toNat : Int) from by show (ns.getD 0 0) % 18446744073709551616 = _; have := h.head; omega]
  refine L.callP go47 rfl (fun w hw => p_FormatUint (ns.getD 0 0).toNat (by have := h.head; omega) w (hG.sep hw)) ?_
  refine L.yl (Y.cat rfl rfl (by have := Lib.decDigits_length (ns.getD 0 0).toNat; have := Lib.nDigits_le20 (ns.getD 0 0).toNat (by have := h.head; omega); simp only [List.length_append, List.length_cons, List.length_nil]; omega)) ?_
  have hdl : (Lib.decDigits (ns.getD 0 0).toNat).length ≤ 20 := by rw [Lib.decDigits_length]; exact Lib.nDigits_le20 _ (by have := h.head; omega)
  refine L.yl (Y.as rfl) ?_
  refine L.nil ?_
  refine C.seq ?_
  refine C.regS ?_
  first | refine L.yl (Y.fa0 fl25_1 rfl) ?_ | refine L.yl (Y.fa fl25_1 rfl) ?_ | refine L.yl (Y.fas fl25_1 rfl (by simp; omega)) ?_
  refine L.yl (Y.ld sc3 rfl rfl) ?_
  first | refine L.yl (Y.fa0 fl25_2 rfl) ?_ | refine L.yl (Y.fa fl25_2 rfl) ?_ | refine L.yl (Y.fas fl25_2 rfl (by simp; omega)) ?_
  refine L.yl (Y.ld sc3 rfl rfl) ?_
  first | refine L.yl (Y.fa0 fl25_3 rfl) ?_ | refine L.yl (Y.fa fl25_3 rfl) ?_ | refine L.yl (Y.fas fl25_3 rfl (by simp; omega)) ?_
  refine L.yl (Y.ld sc3 rfl rfl) ?_
  first | refine L.yl (Y.fa0 fl25_4 rfl) ?_ | refine L.yl (Y.fa fl25_4 rfl) ?_ | refine L.yl (Y.fas fl25_4 rfl (by simp; omega)) ?_
  refine L.yl (Y.ld sc3 rfl rfl) ?_
  first | refine L.yl (Y.fa0 fl25_5 rfl) ?_ | refine L.yl (Y.fa fl25_5 rfl) ?_ | refine L.yl (Y.fas fl25_5 rfl (by simp; omega)) ?_
  refine L.yl (Y.ld sc3 rfl rfl) ?_
  first | refine L.yl (Y.fa0 fl25_6 rfl) ?_ | refine L.yl (Y.fa fl25_6 rfl) ?_ | refine L.yl (Y.fas fl25_6 rfl (by simp; omega)) ?_
  refine L.yl (Y.ld sc3 rfl rfl) ?_
  first | refine L.yl (Y.fa0 fl25_7 rfl) ?_ | refine L.yl (Y.fa fl25_7 rfl) ?_ | refine L.yl (Y.fas fl25_7 rfl (by simp; omega)) ?_
  refine L.yl (Y.ld sc3 rfl rfl) ?_
  refine L.yl (Y.bdA (q := 7) zr87 Go.Proofs.Tryd.underlying87 sc3 rfl rfl rfl rfl) ?_
  rw [show cellsL [Value.int .i64 (ns.getD 1 0), Value.int .i64 (ns.getD 2 0), Value.int .i64 (ns.getD 3 0), Value.int .i64 (ns.getD 4 0), Value.int .i64 (ns.getD 5 0), Value.int .i64 (ns.getD 6 0), Value.int .i64 (ns.getD 7 0)] = intL (ns.drop 1) from by rw [cfg_drop h.len]; rfl]
  have hd7 : (ns.drop 1).length = 7 := by simp [h.len]
  refine L.yl (Y.mv rfl) ?_
  refine L.nil ?_
  refine C.block ?_
  refine C.loop (fun (i:Nat) => [(3, .string (S ([115, 101, 110, 100, 101, 114, 32] ++ Lib.decDigits (ns.getD 0 0).toNat ++ ((ns.drop 1).take i).flatMap num32))), (25, .agg (intL (ns.drop 1)).toArray), (26, .int .i64 i)]) (fun i => []) (fun i => i ≤ 7 ∧ (((ns.drop 1).take i).flatMap num32).length ≤ 22 * i) (fun i => 7 - i) 0 ?_ ?_ ?_ ?_
  · refine ⟨congrArg some (by simp), rfl, rfl, trivial⟩
  · first | exact .of (.refl _) | exact inferInstance | (dsimp only; exact inferInstance)
  · exact ⟨by omega, by simp⟩
  · rintro i ⟨hI1, hI2⟩
    try dsimp only
    refine C.regS ?_
    refine L.yl (Y.lss rfl rfl) ?_
    refine L.nil ?_
    refine C.seq ?_
    refine C.condP rfl (fun hc1 => ?_) (fun hc1 => ?_)
    ·
      refine C.skip ?_
      refine Then.n ?_
      refine C.seq ?_
      refine C.block ?_
      refine C.regS ?_
      refine L.aidxF (fun n : Int => Value.int .i64 n) (ns.drop 1) Go.Proofs.Tryd.underlying87 sc3 rfl rfl rfl (by omega) (by omega) (by rw [hd7]; omega) (fun u28 hu28 => ?_)
      have hu28 : (ns.drop 1)[i]? = some u28 := hu28
      have hnl := num32_length u28 (h.all _ (List.mem_of_mem_drop (List.mem_of_getElem? hu28)))
      have hnl2 : (Lib.itoa u28).length ≤ 21 := by simp only [num32, List.length_cons] at hnl; omega
      refine L.yl (Y.as rfl) ?_
      refine L.nil ?_
      refine C.reg ?_
      refine L.yl (Y.mv rfl) ?_
      refine L.yl (Y.mv rfl) ?_
      refine L.callP go42 rfl (fun w hw => lib_Itoa u28 (h.all _ (List.mem_of_mem_drop (List.mem_of_getElem? hu28))) w (hG.sep hw)) ?_
      refine L.yl (Y.cat rfl rfl (by simp; omega)) ?_
      refine L.yl (Y.cat rfl rfl (by simp only [List.length_append, List.length_cons, List.length_nil]; omega)) ?_
      refine L.yl (Y.as rfl) ?_
      refine L.nil ?_
      refine InBlo.n ?_
      refine Then.n ?_
      refine C.reg ?_
      first | refine L.yl (Y.add rfl rfl (by omega)) ?_ | refine L.yl (Y.addW rfl rfl) ?_
      refine L.yl (Y.mv rfl) ?_
      refine L.nil ?_
      exact ⟨i + 1, ⟨congrArg some (by rw [headT_take ns i u28 hu28]; simp [num32]), rfl, rfl, trivial⟩, rfl, (by first | exact inferInstance | (dsimp only; exact inferInstance)), ⟨by omega, by rw [headT_take ns i u28 hu28, List.length_append]; omega⟩, by omega⟩
    ·
      refine C.exit ?_
      refine Then.x ?_
      refine Then.x ?_
      refine InBlo.x ?_
      refine Then.n ?_
      refine C.regS ?_
      refine L.yl (Y.mv rfl) ?_
      refine L.yl (Y.as rfl) ?_
      refine L.nil ?_
      refine C.ret ?_
      refine FnPost.r1 Go.Proofs.Tryd.results30 rfl ?_
      unfold headT; rw [List.take_of_length_le (by rw [hd7]; omega)]
end Go.Proofs.YtinbfghmnfldjaaDoor
set_option maxHeartbeats 1000000
namespace Go.Proofs.YtinbfghmnfldjaaDoor
open Go Go.X Go.Shelf Go.Scr
theorem words_len {i : Nat} {u : List UInt8} (h : words[i]? = some u) : u.length ≤ 8 := by
  have key : ∀ j : Fin 8, (words[j.val]!).length ≤ 8 := by decide
  have hlt : i < 8 := (List.getElem?_eq_some_iff.1 h).1
  have := key ⟨i, hlt⟩
  have e : words[i]! = u := by rw [List.getElem!_eq_getElem?_getD, h]; rfl
  rwa [e] at this
theorem lineP_no {k n : Int} {d : List UInt8} (h : ¬ ((k = 0 ∧ n ≠ 0) ∨ (k ≠ 0 ∧ 0 < d.length))) : ¬ (((k, n, d) : It).1 = 0 ∧ ((k, n, d) : It).2.1 ≠ 0 ∨ ((k, n, d) : It).1 ≠ 0 ∧ ((k, n, d) : It).2.2 ≠ []) := by
  rintro (h1 | ⟨h1, h2⟩)
  · exact h (.inl h1)
  · exact h (.inr ⟨h1, List.length_pos_iff.2 h2⟩)

theorem lineP_yes {k n : Int} {d : List UInt8} (h : (k = 0 ∧ n ≠ 0) ∨ (k ≠ 0 ∧ 0 < d.length)) : ((k, n, d) : It).1 = 0 ∧ ((k, n, d) : It).2.1 ≠ 0 ∨ ((k, n, d) : It).1 ≠ 0 ∧ ((k, n, d) : It).2.2 ≠ [] := by
  rcases h with h | h
  · exact .inl h
  · exact .inr ⟨h.1, List.length_pos_iff.1 h.2⟩

theorem p_Line (k n : Int) (hn : InR n) (d : List UInt8) (hdl : d.length ≤ 4294967280) (a : Option Addr) (c : Nat) (w : World) (hG : G w) (h : Rs w a (byteL d)) : Pur Go.Proofs.Tryd.prog 31 [.agg #[.int .i64 k, .int .i64 n, .slice a d.length c]] (.tuple #[.string (S (lineP (k, n, d)).1), .int .i64 (lineP (k, n, d)).2]) w := by
  refine pur_of Go.Proofs.Tryd.func31 rfl Go.Proofs.Tryd.ntmps31 rfl ?_
  change C _ _ _ _ _ _ _ ⟨[(0, _)], []⟩ _
  refine C.regS ?_
  refine L.bxa rfl ?_; intro b1
  refine L.yl (Y.as rfl) ?_
  refine L.yl (Y.as rfl) ?_
  refine L.nil ?_
  refine C.seq ?_
  refine C.block ?_
  refine C.test (k < 0 ∨ 8 ≤ k) ?_ (fun hc1 => ?_) (fun hc1 => ?_)
  ·
    first | refine L.yl (Y.fa0 fl36_0 rfl) ?_ | refine L.yl (Y.fa fl36_0 rfl) ?_ | refine L.yl (Y.fas fl36_0 rfl (by simp; omega)) ?_
    refine L.yl (Y.ld sc3 rfl rfl) ?_
    refine L.yl (Y.lss rfl rfl) ?_
    refine L.yl (Y.mv rfl) ?_
    refine L.gsplit (i := 8) rfl (fun hg8 => ?_) (fun hg8 => ?_)
    ·
      refine L.gOff (t := 8) rfl rfl rfl ?_
      refine L.gOff (t := 8) rfl rfl rfl ?_
      refine L.gOff (t := 8) rfl rfl rfl ?_
      refine L.yl (Y.pickT rfl rfl) ?_
      refine L.yl (Y.as rfl) ?_
      refine L.nil ?_
      exact ⟨_, rfl, by first | exact ⟨fun _ => by omega, fun _ => rfl⟩ | (rw [decide_eq_true_iff]; omega) | exact ⟨fun h => by cases h, fun h => by omega⟩ | (simp [*] <;> omega), (by repeat (first | exact Inc.refl _ | refine Inc.cons rfl ?_)), rfl, rfl⟩
    ·
      refine L.gOn (t := 8) rfl rfl ?_
      first | refine L.yl (Y.fa0 fl36_0 rfl) ?_ | refine L.yl (Y.fa fl36_0 rfl) ?_ | refine L.yl (Y.fas fl36_0 rfl (by simp; omega)) ?_
      refine L.gOn (t := 8) rfl rfl ?_
      refine L.yl (Y.ld sc3 rfl rfl) ?_
      refine L.gOn (t := 8) rfl rfl ?_
      refine L.yl (Y.geq rfl rfl) ?_
      refine L.yl (Y.pickF rfl rfl) ?_
      refine L.yl (Y.as rfl) ?_
      refine L.nil ?_
      exact ⟨_, rfl, by first | exact ⟨fun _ => by omega, fun _ => rfl⟩ | (rw [decide_eq_true_iff]; omega) | exact ⟨fun h => by cases h, fun h => by omega⟩ | (simp [*] <;> omega), (by repeat (first | exact Inc.refl _ | refine Inc.cons rfl ?_)), rfl, rfl⟩
  ·
    refine C.regS ?_
    refine L.yl (Y.as rfl) ?_
    refine L.yl (Y.as rfl) ?_
    refine L.nil ?_
    refine C.ret ?_
    refine InBlo.r ?_
    refine Then.r ?_
    refine FnPost.r2 Go.Proofs.Tryd.results31 rfl rfl ?_
    unfold lineP; rw [if_pos hc1]; rfl
  ·
    obtain ⟨wk, hwk⟩ : ∃ u, words[k.toNat]? = some u := ⟨_, List.getElem?_eq_getElem (by simp [words]; omega)⟩
    have hwl : wk.length ≤ 8 := words_len hwk
    refine C.test ((k = 0 ∧ n ≠ 0) ∨ (k ≠ 0 ∧ 0 < d.length)) ?_ (fun hc2 => ?_) (fun hc2 => ?_)
    ·
      first | refine L.yl (Y.fa0 fl36_0 rfl) ?_ | refine L.yl (Y.fa fl36_0 rfl) ?_ | refine L.yl (Y.fas fl36_0 rfl (by simp; omega)) ?_
      refine L.yl (Y.ld sc3 rfl rfl) ?_
      refine L.yl (Y.eqi rfl rfl) ?_
      refine L.yl (Y.mv rfl) ?_
      refine L.gsplit (i := 17) rfl (fun hg17 => ?_) (fun hg17 => ?_)
      ·
        refine L.gOn (t := 17) rfl rfl ?_
        first | refine L.yl (Y.fa0 fl36_1 rfl) ?_ | refine L.yl (Y.fa fl36_1 rfl) ?_ | refine L.yl (Y.fas fl36_1 rfl (by simp; omega)) ?_
        refine L.gOn (t := 17) rfl rfl ?_
        refine L.yl (Y.ld sc3 rfl rfl) ?_
        refine L.gOn (t := 17) rfl rfl ?_
        refine L.yl (Y.nei rfl rfl) ?_
        refine L.yl (Y.pickT rfl rfl) ?_
        refine L.yl (Y.mv rfl) ?_
        refine L.gsplit (i := 22) rfl (fun hg22 => ?_) (fun hg22 => ?_)
        ·
          refine L.gOff (t := 22) rfl rfl rfl ?_
          refine L.gOff (t := 22) rfl rfl rfl ?_
          refine L.gOff (t := 22) rfl rfl rfl ?_
          refine L.gOff (t := 22) rfl rfl rfl ?_
          refine L.gOffU (t := 26) rfl rfl ?_
          refine L.gOffU (t := 26) rfl rfl ?_
          refine L.gOffU (t := 26) rfl rfl ?_
          refine L.gOffU (t := 26) rfl rfl ?_
          refine L.gOff (t := 22) rfl rfl rfl ?_
          refine L.yl (Y.pickT rfl rfl) ?_
          refine L.yl (Y.as rfl) ?_
          refine L.nil ?_
          exact ⟨_, rfl, by first | exact ⟨fun _ => by omega, fun _ => rfl⟩ | (rw [decide_eq_true_iff]; omega) | exact ⟨fun h => by cases h, fun h => by omega⟩ | (simp [*] <;> omega), (by repeat (first | exact Inc.refl _ | refine Inc.cons rfl ?_)), rfl, rfl⟩
        ·
          refine L.gOn (t := 22) rfl rfl ?_
          first | refine L.yl (Y.fa0 fl36_0 rfl) ?_ | refine L.yl (Y.fa fl36_0 rfl) ?_ | refine L.yl (Y.fas fl36_0 rfl (by simp; omega)) ?_
          refine L.gOn (t := 22) rfl rfl ?_
          refine L.yl (Y.ld sc3 rfl rfl) ?_
          refine L.gOn (t := 22) rfl rfl ?_
          refine L.yl (Y.nei rfl rfl) ?_
          refine L.gOn (t := 22) rfl rfl ?_
          refine L.yl (Y.mv rfl) ?_
          refine L.gsplit (i := 26) rfl (fun hg26 => ?_) (fun hg26 => ?_)
          ·
            refine L.gOn (t := 26) rfl rfl ?_
            first | refine L.yl (Y.fa0 fl36_2 rfl) ?_ | refine L.yl (Y.fa fl36_2 rfl) ?_ | refine L.yl (Y.fas fl36_2 rfl (by simp; omega)) ?_
            refine L.gOn (t := 26) rfl rfl ?_
            refine L.yl (Y.ld sc34 rfl rfl) ?_
            refine L.gOn (t := 26) rfl rfl ?_
            refine L.yl (Y.len ⟨_, Go.Proofs.Tryd.underlying34⟩ rfl) ?_
            refine L.gOn (t := 26) rfl rfl ?_
            refine L.yl (Y.gtr rfl rfl) ?_
            refine L.gOn (t := 22) rfl rfl ?_
            refine L.yl (Y.pickT rfl rfl) ?_
            refine L.yl (Y.pickF rfl rfl) ?_
            refine L.yl (Y.as rfl) ?_
            refine L.nil ?_
            exact ⟨_, rfl, by first | exact ⟨fun _ => by omega, fun _ => rfl⟩ | (rw [decide_eq_true_iff]; omega) | exact ⟨fun h => by cases h, fun h => by omega⟩ | (simp [*] <;> omega), (by repeat (first | exact Inc.refl _ | refine Inc.cons rfl ?_)), rfl, rfl⟩
          ·
            refine L.gOff (t := 26) rfl rfl rfl ?_
            refine L.gOff (t := 26) rfl rfl rfl ?_
            refine L.gOff (t := 26) rfl rfl rfl ?_
            refine L.gOff (t := 26) rfl rfl rfl ?_
            refine L.gOn (t := 22) rfl rfl ?_
            refine L.yl (Y.pickF rfl rfl) ?_
            refine L.yl (Y.pickF rfl rfl) ?_
            refine L.yl (Y.as rfl) ?_
            refine L.nil ?_
            exact ⟨_, rfl, by first | exact ⟨fun _ => by omega, fun _ => rfl⟩ | (rw [decide_eq_true_iff]; omega) | exact ⟨fun h => by cases h, fun h => by omega⟩ | (simp [*] <;> omega), (by repeat (first | exact Inc.refl _ | refine Inc.cons rfl ?_)), rfl, rfl⟩
      ·
        refine L.gOff (t := 17) rfl rfl rfl ?_
        refine L.gOff (t := 17) rfl rfl rfl ?_
        refine L.gOff (t := 17) rfl rfl rfl ?_
        refine L.yl (Y.pickF rfl rfl) ?_
        refine L.yl (Y.mv rfl) ?_
        refine L.gOn (t := 22) rfl rfl ?_
        first | refine L.yl (Y.fa0 fl36_0 rfl) ?_ | refine L.yl (Y.fa fl36_0 rfl) ?_ | refine L.yl (Y.fas fl36_0 rfl (by simp; omega)) ?_
        refine L.gOn (t := 22) rfl rfl ?_
        refine L.yl (Y.ld sc3 rfl rfl) ?_
        refine L.gOn (t := 22) rfl rfl ?_
        refine L.yl (Y.nei rfl rfl) ?_
        refine L.gOn (t := 22) rfl rfl ?_
        refine L.yl (Y.mv rfl) ?_
        refine L.gsplit (i := 26) rfl (fun hg26 => ?_) (fun hg26 => ?_)
        ·
          refine L.gOn (t := 26) rfl rfl ?_
          first | refine L.yl (Y.fa0 fl36_2 rfl) ?_ | refine L.yl (Y.fa fl36_2 rfl) ?_ | refine L.yl (Y.fas fl36_2 rfl (by simp; omega)) ?_
          refine L.gOn (t := 26) rfl rfl ?_
          refine L.yl (Y.ld sc34 rfl rfl) ?_
          refine L.gOn (t := 26) rfl rfl ?_
          refine L.yl (Y.len ⟨_, Go.Proofs.Tryd.underlying34⟩ rfl) ?_
          refine L.gOn (t := 26) rfl rfl ?_
          refine L.yl (Y.gtr rfl rfl) ?_
          refine L.gOn (t := 22) rfl rfl ?_
          refine L.yl (Y.pickT rfl rfl) ?_
          refine L.yl (Y.pickF rfl rfl) ?_
          refine L.yl (Y.as rfl) ?_
          refine L.nil ?_
          exact ⟨_, rfl, by first | exact ⟨fun _ => by omega, fun _ => rfl⟩ | (rw [decide_eq_true_iff]; omega) | exact ⟨fun h => by cases h, fun h => by omega⟩ | (simp [*] <;> omega), (by repeat (first | exact Inc.refl _ | refine Inc.cons rfl ?_)), rfl, rfl⟩
        ·
          refine L.gOff (t := 26) rfl rfl rfl ?_
          refine L.gOff (t := 26) rfl rfl rfl ?_
          refine L.gOff (t := 26) rfl rfl rfl ?_
          refine L.gOff (t := 26) rfl rfl rfl ?_
          refine L.gOn (t := 22) rfl rfl ?_
          refine L.yl (Y.pickF rfl rfl) ?_
          refine L.yl (Y.pickF rfl rfl) ?_
          refine L.yl (Y.as rfl) ?_
          refine L.nil ?_
          exact ⟨_, rfl, by first | exact ⟨fun _ => by omega, fun _ => rfl⟩ | (rw [decide_eq_true_iff]; omega) | exact ⟨fun h => by cases h, fun h => by omega⟩ | (simp [*] <;> omega), (by repeat (first | exact Inc.refl _ | refine Inc.cons rfl ?_)), rfl, rfl⟩
    ·
      refine C.regS ?_
      refine L.yl (Y.as rfl) ?_
      refine L.yl (Y.as rfl) ?_
      refine L.nil ?_
      refine C.ret ?_
      refine InBlo.r ?_
      refine Then.r ?_
      refine FnPost.r2 Go.Proofs.Tryd.results31 rfl rfl ?_
      unfold lineP; rw [if_neg hc1, if_pos (lineP_yes hc2)]; rfl
    ·
      refine C.regS ?_
      first | refine L.yl (Y.fa0 fl36_0 rfl) ?_ | refine L.yl (Y.fa fl36_0 rfl) ?_ | refine L.yl (Y.fas fl36_0 rfl (by simp; omega)) ?_
      refine L.yl (Y.ld sc3 rfl rfl) ?_
      refine L.yl (Y.eqi rfl rfl) ?_
      refine L.yl (Y.as rfl) ?_
      refine L.nil ?_
      refine C.condP rfl (fun hc3 => ?_) (fun hc3 => ?_)
      ·
        refine C.drwS (.y 0 (.y 1 (.y 2 (.y 3 (.y 4 (.y 5 (.y 6 (.h 7 (.y 8 (.y 9 (.y 10 (.fin)))))))))))) mixo (by kernel_rfl) ?_
        first | refine V.yl rfl (Y.fa0 fl36_0 rfl) ?_ | refine V.yl rfl (Y.fa fl36_0 rfl) ?_ | refine V.yl rfl (Y.fas fl36_0 rfl (by simp; omega)) ?_
        refine V.yl rfl (Y.ld sc3 rfl rfl) ?_
        refine V.yl rfl (Y.ixa Go.Proofs.Tryd.underlying59 sc9 rfl rfl (by omega) (by omega)) ?_
        refine V.yl rfl (Y.ldg (a := ⟨0, 0 + k.toNat, none⟩) (v := .string (S wk)) sc9 rfl (fun w hw => by rw [Nat.zero_add]; exact (hG.sep hw).words _ _ hwk)) ?_
        refine V.yl rfl (Y.cat rfl rfl (by simp; omega)) ?_
        first | refine V.yl rfl (Y.fa0 fl36_2 rfl) ?_ | refine V.yl rfl (Y.fa fl36_2 rfl) ?_ | refine V.yl rfl (Y.fas fl36_2 rfl (by simp; omega)) ?_
        refine V.yl rfl (Y.ld sc34 rfl rfl) ?_
        refine V.hv rfl ?_
        refine L.apc ?_
        refine L.callP go48 rfl (fun w hw => p_hex d (by omega) a c w (h.keep hw.keep (fun _ _ _ ⟨c, hc, _⟩ => by simp at hc))) ?_
        have hxl := hexL_length d
        refine L.nil ?_
        refine V.on ?_
        refine V.yl rfl (Y.cat rfl rfl (by simp; omega)) ?_
        refine V.yl rfl (Y.as rfl) ?_
        refine V.yl rfl (Y.as rfl) ?_
        refine V.fin ?_
        refine C.ret ?_
        refine InBlo.r ?_
        refine Then.r ?_
        refine FnPost.r2 Go.Proofs.Tryd.results31 rfl rfl ?_
        unfold lineP; rw [if_neg hc1, if_neg (lineP_no hc2), if_pos hc3, hwk]; simp
      ·
        refine C.skip ?_
        refine InBlo.n ?_
        refine Then.n ?_
        refine C.drwS (.y 0 (.y 1 (.y 2 (.y 3 (.y 4 (.y 5 (.y 6 (.h 7 (.y 8 (.y 9 (.y 10 (.fin)))))))))))) mixo (by kernel_rfl) ?_
        first | refine V.yl rfl (Y.fa0 fl36_0 rfl) ?_ | refine V.yl rfl (Y.fa fl36_0 rfl) ?_ | refine V.yl rfl (Y.fas fl36_0 rfl (by simp; omega)) ?_
        refine V.yl rfl (Y.ld sc3 rfl rfl) ?_
        refine V.yl rfl (Y.ixa Go.Proofs.Tryd.underlying59 sc9 rfl rfl (by omega) (by omega)) ?_
        refine V.yl rfl (Y.ldg (a := ⟨0, 0 + k.toNat, none⟩) (v := .string (S wk)) sc9 rfl (fun w hw => by rw [Nat.zero_add]; exact (hG.sep hw).words _ _ hwk)) ?_
        refine V.yl rfl (Y.cat rfl rfl (by simp; omega)) ?_
        first | refine V.yl rfl (Y.fa0 fl36_1 rfl) ?_ | refine V.yl rfl (Y.fa fl36_1 rfl) ?_ | refine V.yl rfl (Y.fas fl36_1 rfl (by simp; omega)) ?_
        refine V.yl rfl (Y.ld sc3 rfl rfl) ?_
        refine V.hv rfl ?_
        refine L.apc ?_
        refine L.callP go42 rfl (fun w hw => lib_Itoa n hn w (hG.sep hw)) ?_
        have hil := Lib.itoa_length_le n hn.1 hn.2
        refine L.nil ?_
        refine V.on ?_
        refine V.yl rfl (Y.cat rfl rfl (by simp; omega)) ?_
        refine V.yl rfl (Y.as rfl) ?_
        refine V.yl rfl (Y.as rfl) ?_
        refine V.fin ?_
        refine C.ret ?_
        refine FnPost.r2 Go.Proofs.Tryd.results31 rfl rfl ?_
        unfold lineP; rw [if_neg hc1, if_neg (lineP_no hc2), if_neg hc3, hwk]; simp
end Go.Proofs.YtinbfghmnfldjaaDoor
namespace Go.Scr
open Go Go.Lib Go.X
def lineN (it : It) : List UInt8 := (lineP it).1 ++ [10]
def printL (ns : List Int) (its : List It) : List UInt8 × Int :=
  if 4096 < its.length then ([], 9) else
  match its.find? (fun it => decide ((lineP it).2 ≠ 0)) with
  | some it => ([], (lineP it).2)
  | none => (headT ns ++ [10] ++ its.flatMap lineN, 0)
theorem find_bad {its : List It} {i : Nat} {it : It} (h : its[i]? = some it) (hn : (lineP it).2 ≠ 0) (hj : ∀ (j : Nat) (x : It), j < i → its[j]? = some x → (lineP x).2 = 0) : its.find? (fun it => decide ((lineP it).2 ≠ 0)) = some it := by
  induction its generalizing i with
  | nil => simp at h
  | cons y r ih =>
    cases i with
    | zero => simp at h; subst h; simp [hn]
    | succ i =>
      have h0 := hj 0 y (by omega) rfl
      rw [List.find?_cons]
      simp only [h0, ne_eq, not_true, decide_false]
      exact ih (by simpa using h) (fun j x hj' hx => hj (j + 1) x (by omega) (by simpa using hx))
theorem find_ok {its : List It} (hj : ∀ (j : Nat) (x : It), its[j]? = some x → (lineP x).2 = 0) : its.find? (fun it => decide ((lineP it).2 ≠ 0)) = none := by
  rw [List.find?_eq_none]
  intro x hx
  obtain ⟨j, hj'⟩ := List.getElem?_of_mem hx
  simp [hj j x hj']
theorem lineP_length (it : It) (hn : InR it.2.1) : (lineP it).1.length ≤ 2 * it.2.2.length + 40 := by
  unfold lineP
  split
  · simp
  · split
    · simp
    · have hw : (words[it.1.toNat]?.getD []).length ≤ 8 := by
        cases h : words[it.1.toNat]? with
        | none => simp
        | some u =>
          have key : ∀ j : Fin 8, (words[j.val]!).length ≤ 8 := by decide
          have hlt : it.1.toNat < 8 := (List.getElem?_eq_some_iff.1 h).1
          have := key ⟨_, hlt⟩
          have e : words[it.1.toNat]! = u := by rw [List.getElem!_eq_getElem?_getD, h]; rfl
          rw [e] at this
          simpa using this
      have h1 := hexL_length it.2.2
      have h2 := itoa_length_le it.2.1 hn.1 hn.2
      simp only [List.length_append, List.length_cons]
      split <;> omega
theorem lineN_take (its : List It) (i : Nat) (it : It) (h : its[i]? = some it) : (its.take (i + 1)).flatMap lineN = (its.take i).flatMap lineN ++ lineN it := by
  rw [List.take_add_one, h]; simp
end Go.Scr
set_option maxHeartbeats 1000000
namespace Go.Proofs.YtinbfghmnfldjaaDoor
open Go Go.X Go.Shelf Go.Scr
theorem headT_length (ns : List Int) (h : CfgOk ns) : (headT ns).length ≤ 200 := by
  have h1 : (Lib.decDigits (ns.getD 0 0).toNat).length ≤ 20 := by rw [Lib.decDigits_length]; exact Lib.nDigits_le20 _ (by have := h.head; omega)
  have h2 : ∀ l : List Int, (∀ n ∈ l, InR n) → (l.flatMap num32).length ≤ 22 * l.length := by
    intro l
    induction l with
    | nil => intro _; simp
    | cons x r ih =>
      intro hx
      have h3 := ih (fun n hn => hx n (by simp [hn]))
      have h4 := num32_length x (hx x (by simp))
      simp only [List.flatMap_cons, List.length_append, List.length_cons]; omega
  have h3 := h2 (ns.drop 1) (fun n hn => h.all n (List.mem_of_mem_drop hn))
  have h4 : (ns.drop 1).length = 7 := by simp [h.len]
  unfold headT
  simp only [List.length_append, List.length_cons, List.length_nil]; omega
/-- what Print asks of its items -/
def ItsOk (w : World) (zs : List Zt) : Prop := ∀ (i : Nat) (z : Zt), zs[i]? = some z → InR z.1.2.1 ∧ z.1.2.2.length ≤ 4194304 ∧ Rs w z.2.1 (byteL z.1.2.2)

theorem p_Print (ns : List Int) (h : CfgOk ns) (zs : List Zt) (a : Option Addr) (c : Nat) (w : World) (hG : G w) (hl : zs.length ≤ 4294967280) (hr : Rs w a (zcells zs)) (hz : ItsOk w zs) : Pur Go.Proofs.Tryd.prog 14 [headV ns, .slice a zs.length c] (.tuple #[.string (S (printL ns (zs.map (·.1))).1), .int .i64 (printL ns (zs.map (·.1))).2]) w := by
  haveI hrd : ∀ Γ, Rd w (fps []) Γ a (zcells zs) := fun Γ => Rd.old0 hr Γ
  refine pur_of Go.Proofs.Tryd.func14 rfl Go.Proofs.Tryd.ntmps14 rfl ?_
  change C _ _ _ _ _ _ _ ⟨[(0, _), (1, _)], []⟩ _
  refine C.regS ?_
  refine L.bxa rfl ?_; intro b2
  refine L.yl (Y.as rfl) ?_
  refine L.yl (Y.as rfl) ?_
  refine L.nil ?_
  refine C.seq ?_
  refine C.regS ?_
  refine L.yl (Y.mv rfl) ?_
  refine L.yl (Y.len ⟨_, Go.Proofs.Tryd.underlying26⟩ rfl) ?_
  refine L.yl (Y.gtr rfl rfl) ?_
  refine L.nil ?_
  refine C.condP rfl (fun hc1 => ?_) (fun hc1 => ?_)
  ·
    refine C.regS ?_
    refine L.yl (Y.as rfl) ?_
    refine L.yl (Y.as rfl) ?_
    refine L.nil ?_
    refine C.ret ?_
    refine Then.r ?_
    refine FnPost.r2 Go.Proofs.Tryd.results14 rfl rfl ?_
    unfold printL; rw [if_pos (by rw [List.length_map]; omega)]; rfl
  ·
    refine C.skip ?_
    refine Then.n ?_
    refine C.regS ?_
    refine L.al (zs := [.pointer none, .slice none 0 0]) zr71 rfl ?_; intro b6
    refine L.nil ?_
    refine C.regS ?_
    refine L.yl (Y.lda (vs := [_, _, _, _, _, _, _, _]) ag25 rfl rfl) ?_
    refine L.callP go30 rfl (fun w hw => p_Head ns h w (hG.sep hw)) ?_
    have hhl := headT_length ns h
    refine L.yl (Y.cat rfl rfl (by simp only [List.length_append, List.length_cons, List.length_nil]; omega)) ?_
    refine L.nil0 5 1 _ ?_
    refine L.call (Γf := [blk b6 [.pointer none, .slice none 0 0] 71, own 5 1 none 0 0 (byteL [])]) (Γr := [blk b2 (headCs ns) 25]) go29 rfl (.swap _ _ _) (fun w hw hf => p_WriteString b6 _ none 0 0 [] _ (.inl rfl) (by simp only [List.length_append, List.length_singleton]; omega) w hf) ?_
    rintro _ _ ⟨rfl, a17, c17, rfl⟩
    refine L.apc ?_
    refine L.nil ?_
    refine C.seq ?_
    refine C.regS ?_
    refine L.yl (Y.mv rfl) ?_
    refine L.yl (Y.len ⟨_, Go.Proofs.Tryd.underlying26⟩ rfl) ?_
    refine L.yl (Y.mv rfl) ?_
    refine L.nil ?_
    refine C.block ?_
    refine C.loop (σ := Nat × Option Addr × Nat × Nat × List UInt8) (fun (i, a', q, c', txt) => [(6, .pointer (some ⟨b6, 0, none⟩)), (18, .slice a zs.length c), (19, .int .i64 zs.length), (20, .int .i64 i)]) (fun (i, a', q, c', txt) => [blk b6 [.pointer (some ⟨b6, 0, none⟩), .slice a' q c'] 71, own 5 1 a' q c' (byteL txt)]) (fun (i, a', q, c', txt) => i ≤ zs.length ∧ q = txt.length ∧ txt = headT ns ++ [10] ++ ((zs.map (·.1)).take i).flatMap lineN ∧ txt.length ≤ 300 + i * 8400000 ∧ ∀ (j : Nat) (x : It), j < i → (zs.map (·.1))[j]? = some x → (lineP x).2 = 0) (fun (i, a', q, c', txt) => zs.length - i) (0, a17, 0 + (headT ns ++ [10]).length, c17, [] ++ (headT ns ++ [10])) ?_ ?_ ?_ ?_
    · repeat (first | exact trivial | refine ⟨rfl, ?_⟩)
    · first | exact .of (.refl _) | exact inferInstance | (dsimp only; exact inferInstance)
    · exact ⟨by omega, by simp, by simp, by simp; omega, fun j x hj => absurd hj (by omega)⟩
    · rintro ⟨i, a', q, c', txt⟩ ⟨hI1, hI2, hI3, hI4, hI5⟩
      subst hI2
      try dsimp only
      refine C.regS ?_
      refine L.yl (Y.lss rfl rfl) ?_
      refine L.nil ?_
      refine C.seq ?_
      refine C.condP rfl (fun hc2 => ?_) (fun hc2 => ?_)
      ·
        obtain ⟨⟨⟨k0, n0, d0⟩, za, zq⟩, hz0⟩ : ∃ u, zs[i]? = some u := ⟨_, List.getElem?_eq_getElem (by omega)⟩
        have hzi : (zs.map (·.1))[i]? = some (k0, n0, d0) := by rw [List.getElem?_map, hz0]; rfl
        obtain ⟨hz1, hz2, hz3⟩ := hz i _ hz0
        dsimp only at hz1 hz2 hz3
        have hll := lineP_length (k0, n0, d0) hz1
        dsimp only at hll
        refine C.skip ?_
        refine Then.n ?_
        refine C.seq ?_
        refine C.block ?_
        refine C.regS ?_
        refine L.yl (Y.ix slt26 rfl rfl (by rw [zcells_length]) (by omega) (by omega)) ?_
        refine L.yl (Y.ldsa (vs := zc ((k0, n0, d0), za, zq)) ag36 rfl rfl (by decide) (fun j v hj => by rw [show ((i:Int).toNat * 3 + j) = i * 3 + j from rfl, zcells_get zs i j _ hz0 (by have := (List.getElem?_eq_some_iff.1 hj).1; exact this)]; exact hj)) ?_
        refine L.al (zs := [.int .i64 0, .int .i64 0, .slice none 0 0]) zr36 rfl ?_; intro b8
        refine L.sta (vs := [_, _, _]) ag36 rfl rfl rfl rfl rfl ?_
        refine L.nil ?_
        refine C.regS ?_
        refine L.yl (Y.lda (vs := [_, _, _]) ag36 rfl rfl) ?_
        refine L.callP go31 rfl (fun w hw => p_Line k0 n0 hz1 d0 (by omega) za zq w (hG.sep hw) (hz3.keep hw.keep (fun _ _ _ ⟨c, hc, _⟩ => by simp at hc))) ?_
        refine L.yl (Y.mv rfl) ?_
        refine L.yl (Y.extL rfl rfl) ?_
        refine L.yl (Y.extL rfl rfl) ?_
        refine L.yl (Y.as rfl) ?_
        refine L.yl (Y.as rfl) ?_
        refine L.nil ?_
        refine C.seq ?_
        refine C.regS ?_
        refine L.yl (Y.mv rfl) ?_
        refine L.yl (Y.nei rfl rfl) ?_
        refine L.nil ?_
        refine C.condP rfl (fun hc3 => ?_) (fun hc3 => ?_)
        ·
          refine C.regS ?_
          refine L.yl (Y.mv rfl) ?_
          refine L.yl (Y.as rfl) ?_
          refine L.yl (Y.as rfl) ?_
          refine L.nil ?_
          refine C.ret ?_
          refine Then.r ?_
          refine InBlo.r ?_
          refine Then.r ?_
          refine Then.r ?_
          refine InBlo.r ?_
          refine Then.r ?_
          refine FnPost.r2 Go.Proofs.Tryd.results14 rfl rfl ?_
          unfold printL; rw [if_neg (by rw [List.length_map]; omega), find_bad hzi hc3 hI5]; rfl
        ·
          refine C.skip ?_
          refine Then.n ?_
          refine C.reg ?_
          refine L.yl (Y.mv rfl) ?_
          refine L.yl (Y.cat rfl rfl (by simp only [List.length_append, List.length_cons, List.length_nil]; omega)) ?_
          refine L.call (Γf := [blk b6 [.pointer (some ⟨b6, 0, none⟩), .slice a' txt.length c'] 71, own 5 1 a' txt.length c' (byteL txt)]) (Γr := [blk b8 (zc ((k0, n0, d0), za, zq)) 36]) go29 rfl (List.perm_append_comm (l₁ := [_])) (fun w hw hf => p_WriteString b6 _ a' _ c' txt (lineN (k0, n0, d0)) (.inr rfl) (by simp only [lineN, List.length_append, List.length_singleton]; omega) w hf) ?_
          rintro _ _ ⟨rfl, a34, c34, rfl⟩
          refine L.apc ?_
          refine L.nil ?_
          refine InBlo.n ?_
          refine Then.n ?_
          refine C.reg ?_
          first | refine L.yl (Y.add rfl rfl (by omega)) ?_ | refine L.yl (Y.addW rfl rfl) ?_
          refine L.yl (Y.mv rfl) ?_
          refine L.nil ?_
          have hln : (lineN (k0, n0, d0)).length = (lineP (k0, n0, d0)).1.length + 1 := by simp [lineN]
          have hb2 : (txt ++ lineN (k0, n0, d0)).length ≤ 300 + (i + 1) * 8400000 := by rw [List.length_append]; omega
          have hj2 : ∀ (j : Nat) (x : It), j < i + 1 → (zs.map (·.1))[j]? = some x → (lineP x).2 = 0 := fun j x hj hx => by
            rcases Nat.lt_or_ge j i with h' | h'
            · exact hI5 j x h' hx
            · have : j = i := by omega
              subst this; rw [hzi] at hx; injection hx with hx; subst hx; exact Decidable.not_not.1 hc3
          exact ⟨(i + 1, a34, txt.length + (lineN (k0, n0, d0)).length, c34, txt ++ lineN (k0, n0, d0)), (by repeat (first | exact trivial | refine ⟨rfl, ?_⟩ | refine ⟨congrArg some (by simp), ?_⟩ | refine ⟨congrArg some (by simp; omega), ?_⟩)), rfl, (by first | exact inferInstance | (dsimp only; exact inferInstance)), ⟨(by first | omega | (dsimp only; omega)), by simp, by dsimp only; rw [lineN_take _ i _ hzi, hI3]; simp, hb2, hj2⟩, (by first | omega | (dsimp only; omega))⟩
      ·
        refine C.exit ?_
        refine Then.x ?_
        refine Then.x ?_
        refine InBlo.x ?_
        refine Then.n ?_
        refine C.regS ?_
        refine L.callG (R := fun v Γ' => v = .string (S txt) ∧ Γ' = []) go32 rfl (fun w hw => Calls.mono (p_BString _ b6 _ a' _ c' txt (.inr rfl) w hw.holds (fun k hk => hw.new_ge hk) hw.keep.size) (fun e w' ⟨h1, h2⟩ => ⟨_, [], h1, ⟨rfl, rfl⟩, hw.belowN h2⟩)) ?_
        rintro _ _ ⟨rfl, rfl⟩
        refine L.yl (Y.as rfl) ?_
        refine L.yl (Y.as rfl) ?_
        refine L.nil ?_
        refine C.ret ?_
        refine FnPost.r2 Go.Proofs.Tryd.results14 rfl rfl ?_
        have hfin : zs.map (·.1) = (zs.map (·.1)).take i := by rw [List.take_of_length_le (by rw [List.length_map]; omega)]
        unfold printL
        rw [if_neg (by rw [List.length_map]; omega), find_ok (fun j x hx => hI5 j x (by have := (List.getElem?_eq_some_iff.1 hx).1; rw [List.length_map] at this; omega) hx)]
        rw [hI3, ← hfin]
end Go.Proofs.YtinbfghmnfldjaaDoor
set_option maxHeartbeats 1000000
namespace Go.Proofs.YtinbfghmnfldjaaDoor
open Go Go.X Go.Shelf Go.Scr
theorem l_same (k n k' n' : Int) (d d' : List UInt8) (a a' : Option Addr) (c c' : Nat) (hl : d.length ≤ 4294967280) (w : World) (h : Rs w a (byteL d)) (h' : Rs w a' (byteL d')) : Pur Go.Proofs.Tryd.prog 13 [.agg #[.int .i64 k, .int .i64 n, .slice a d.length c], .agg #[.int .i64 k', .int .i64 n', .slice a' d'.length c']] (.bool (decide (((k, n, d) : It) = (k', n', d')))) w := by
  refine pur_of Go.Proofs.Tryd.func13 rfl Go.Proofs.Tryd.ntmps13 rfl ?_
  change C _ _ _ _ _ _ _ ⟨[(0, _), (1, _)], []⟩ _
  refine C.regS ?_
  refine L.bxa rfl ?_; intro b2
  refine L.bxa rfl ?_; intro b3
  refine L.yl (Y.as rfl) ?_
  refine L.nil ?_
  refine C.regS ?_
  first | refine L.yl (Y.fa0 fl36_0 rfl) ?_ | refine L.yl (Y.fa fl36_0 rfl) ?_ | refine L.yl (Y.fas fl36_0 rfl (by simp; omega)) ?_
  refine L.yl (Y.ld sc3 rfl rfl) ?_
  first | refine L.yl (Y.fa0 fl39_0 rfl) ?_ | refine L.yl (Y.fa fl39_0 rfl) ?_ | refine L.yl (Y.fas fl39_0 rfl (by simp; omega)) ?_
  refine L.yl (Y.ld sc3 rfl rfl) ?_
  refine L.yl (Y.eqi rfl rfl) ?_
  refine L.yl (Y.mv rfl) ?_
  refine L.gsplit (i := 10) rfl (fun hg10 => ?_) (fun hg10 => ?_)
  ·
    refine L.gOn (t := 10) rfl rfl ?_
    first | refine L.yl (Y.fa0 fl36_1 rfl) ?_ | refine L.yl (Y.fa fl36_1 rfl) ?_ | refine L.yl (Y.fas fl36_1 rfl (by simp; omega)) ?_
    refine L.gOn (t := 10) rfl rfl ?_
    refine L.yl (Y.ld sc3 rfl rfl) ?_
    refine L.gOn (t := 10) rfl rfl ?_
    first | refine L.yl (Y.fa0 fl39_1 rfl) ?_ | refine L.yl (Y.fa fl39_1 rfl) ?_ | refine L.yl (Y.fas fl39_1 rfl (by simp; omega)) ?_
    refine L.gOn (t := 10) rfl rfl ?_
    refine L.yl (Y.ld sc3 rfl rfl) ?_
    refine L.gOn (t := 10) rfl rfl ?_
    refine L.yl (Y.eqi rfl rfl) ?_
    refine L.yl (Y.pickT rfl rfl) ?_
    refine L.yl (Y.mv rfl) ?_
    refine L.gsplit (i := 17) rfl (fun hg17 => ?_) (fun hg17 => ?_)
    ·
      refine L.gOn (t := 17) rfl rfl ?_
      first | refine L.yl (Y.fa0 fl36_2 rfl) ?_ | refine L.yl (Y.fa fl36_2 rfl) ?_ | refine L.yl (Y.fas fl36_2 rfl (by simp; omega)) ?_
      refine L.gOn (t := 17) rfl rfl ?_
      refine L.yl (Y.ld sc34 rfl rfl) ?_
      refine L.gOn (t := 17) rfl rfl ?_
      first | refine L.yl (Y.fa0 fl39_2 rfl) ?_ | refine L.yl (Y.fa fl39_2 rfl) ?_ | refine L.yl (Y.fas fl39_2 rfl (by simp; omega)) ?_
      refine L.gOn (t := 17) rfl rfl ?_
      refine L.yl (Y.ld sc34 rfl rfl) ?_
      refine L.gOn (t := 17) rfl rfl ?_
      refine L.callP go28 rfl (fun w hw => ref_Same a a' d d' c c' (by omega) w (h.keep hw.keep (fun _ _ _ ⟨c, hc, _⟩ => by simp at hc)) (h'.keep hw.keep (fun _ _ _ ⟨c, hc, _⟩ => by simp at hc))) ?_
      refine L.yl (Y.pickT rfl rfl) ?_
      refine L.yl (Y.as rfl) ?_
      refine L.nil ?_
      refine C.ret ?_
      refine FnPost.r1 Go.Proofs.Tryd.results13 rfl ?_
      (try simp only [Prod.mk.injEq]) <;> (first | rfl | simp [*])
    ·
      refine L.gOff (t := 17) rfl rfl rfl ?_
      refine L.gOff (t := 17) rfl rfl rfl ?_
      refine L.gOff (t := 17) rfl rfl rfl ?_
      refine L.gOff (t := 17) rfl rfl rfl ?_
      refine L.gOff (t := 17) rfl rfl rfl ?_
      refine L.yl (Y.pickF rfl rfl) ?_
      refine L.yl (Y.as rfl) ?_
      refine L.nil ?_
      refine C.ret ?_
      refine FnPost.r1 Go.Proofs.Tryd.results13 rfl ?_
      (try simp only [Prod.mk.injEq]) <;> (first | rfl | simp [*])
  ·
    refine L.gOff (t := 10) rfl rfl rfl ?_
    refine L.gOff (t := 10) rfl rfl rfl ?_
    refine L.gOff (t := 10) rfl rfl rfl ?_
    refine L.gOff (t := 10) rfl rfl rfl ?_
    refine L.gOff (t := 10) rfl rfl rfl ?_
    refine L.yl (Y.pickF rfl rfl) ?_
    refine L.yl (Y.mv rfl) ?_
    refine L.gOff (t := 17) rfl rfl rfl ?_
    refine L.gOff (t := 17) rfl rfl rfl ?_
    refine L.gOff (t := 17) rfl rfl rfl ?_
    refine L.gOff (t := 17) rfl rfl rfl ?_
    refine L.gOff (t := 17) rfl rfl rfl ?_
    refine L.yl (Y.pickF rfl rfl) ?_
    refine L.yl (Y.as rfl) ?_
    refine L.nil ?_
    refine C.ret ?_
    refine FnPost.r1 Go.Proofs.Tryd.results13 rfl ?_
    (try simp only [Prod.mk.injEq]) <;> (first | rfl | simp [*])
theorem l_to (k n : Int) (a : Option Addr) (q c : Nat) (w : World) : Pur Go.Proofs.Tryd.prog 15 [.agg #[.int .i64 k, .int .i64 n, .slice a q c]] (.agg #[.int .i64 k, .int .i64 n, .slice a q c]) w := by
  refine pur_of Go.Proofs.Tryd.func15 rfl Go.Proofs.Tryd.ntmps15 rfl ?_
  change C _ _ _ _ _ _ _ ⟨[(0, _)], []⟩ _
  refine C.regS ?_
  refine L.bxa rfl ?_; intro b1
  refine L.al (zs := [.int .i64 0, .int .i64 0, .slice none 0 0]) zr39 rfl ?_; intro b2
  refine L.nil ?_
  refine C.regS ?_
  first | refine L.yl (Y.fa0 fl36_0 rfl) ?_ | refine L.yl (Y.fa fl36_0 rfl) ?_ | refine L.yl (Y.fas fl36_0 rfl (by simp; omega)) ?_
  refine L.yl (Y.ld sc3 rfl rfl) ?_
  first | refine L.yl (Y.fa0 fl36_1 rfl) ?_ | refine L.yl (Y.fa fl36_1 rfl) ?_ | refine L.yl (Y.fas fl36_1 rfl (by simp; omega)) ?_
  refine L.yl (Y.ld sc3 rfl rfl) ?_
  first | refine L.yl (Y.fa0 fl36_2 rfl) ?_ | refine L.yl (Y.fa fl36_2 rfl) ?_ | refine L.yl (Y.fas fl36_2 rfl (by simp; omega)) ?_
  refine L.yl (Y.ld sc34 rfl rfl) ?_
  refine L.yl (Y.bdL (cs := [_, _, _]) zr39 bd39 rfl rfl rfl) ?_
  refine L.sta (vs := [_, _, _]) ag39 rfl rfl rfl rfl rfl ?_
  refine L.nil ?_
  refine C.ret ?_
  refine FnPost.rg (xs := [.cell 2 39]) (congrArg Array.toList Go.Proofs.Tryd.results15) (ra_ag (us := [_, _, _]) rfl ag39 rfl ra_nil) ?_
  rfl
theorem l_sames (zs ys : List Zt) (a a' : Option Addr) (c c' : Nat) (hl : zs.length ≤ 4294967280) (w : World) (hr : Rs w a (zcells zs)) (hr' : Rs w a' (zcells ys)) (hz : ItsOk w zs) (hy : ItsOk w ys) : Pur Go.Proofs.Tryd.prog 8 [.slice a zs.length c, .slice a' ys.length c'] (.bool (decide (zs.map (·.1) = ys.map (·.1)))) w := by
  haveI hrd : ∀ Γ, Rd w (fps []) Γ a (zcells zs) := fun Γ => Rd.old0 hr Γ
  haveI hrd' : ∀ Γ, Rd w (fps []) Γ a' (zcells ys) := fun Γ => Rd.old0 hr' Γ
  refine pur_of Go.Proofs.Tryd.func8 rfl Go.Proofs.Tryd.ntmps8 rfl ?_
  change C _ _ _ _ _ _ _ ⟨[(0, _), (1, _)], []⟩ _
  refine C.regS ?_
  refine L.yl (Y.as rfl) ?_
  refine L.nil ?_
  refine C.seq ?_
  refine C.regS ?_
  refine L.yl (Y.mv rfl) ?_
  refine L.yl (Y.len ⟨_, Go.Proofs.Tryd.underlying26⟩ rfl) ?_
  refine L.yl (Y.mv rfl) ?_
  refine L.yl (Y.len ⟨_, Go.Proofs.Tryd.underlying30⟩ rfl) ?_
  refine L.yl (Y.nei rfl rfl) ?_
  refine L.nil ?_
  refine C.condP rfl (fun hc1 => ?_) (fun hc1 => ?_)
  ·
    refine C.regS ?_
    refine L.yl (Y.as rfl) ?_
    refine L.nil ?_
    refine C.ret ?_
    refine Then.r ?_
    refine FnPost.r1 Go.Proofs.Tryd.results8 rfl ?_
    rw [decide_eq_false (fun e => hc1 (by have := congrArg List.length e; simp only [List.length_map] at this; omega))]
  ·
    refine C.skip ?_
    refine Then.n ?_
    refine C.seq ?_
    refine C.regS ?_
    refine L.yl (Y.as rfl) ?_
    refine L.nil ?_
    refine C.block ?_
    refine C.loop (fun (i:Nat) => [(0, .slice a zs.length c), (1, .slice a' ys.length c'), (5, .int .i64 i)]) (fun i => []) (fun i => i ≤ zs.length ∧ ∀ j, j < i → (zs.map (·.1))[j]? = (ys.map (·.1))[j]?) (fun i => zs.length - i) 0 ?_ ?_ ?_ ?_
    · repeat (first | exact trivial | refine ⟨rfl, ?_⟩)
    · first | exact .of (.refl _) | exact inferInstance | (dsimp only; exact inferInstance)
    · exact ⟨by omega, fun j h => absurd h (by omega)⟩
    · rintro i ⟨hI1, hI2⟩
      try dsimp only
      refine C.seq ?_
      refine C.regS ?_
      refine L.yl (Y.mv rfl) ?_
      refine L.yl (Y.mv rfl) ?_
      refine L.yl (Y.len ⟨_, Go.Proofs.Tryd.underlying26⟩ rfl) ?_
      refine L.yl (Y.lss rfl rfl) ?_
      refine L.nil ?_
      refine C.condP rfl (fun hc2 => ?_) (fun hc2 => ?_)
      ·
        refine C.skip ?_
        refine Then.n ?_
        refine C.seq ?_
        refine C.block ?_
        obtain ⟨⟨⟨k0, n0, d0⟩, za, zq⟩, hz0⟩ : ∃ u, zs[i]? = some u := ⟨_, List.getElem?_eq_getElem (by omega)⟩
        have hzi : (zs.map (·.1))[i]? = some (k0, n0, d0) := by rw [List.getElem?_map, hz0]; rfl
        obtain ⟨hz1, hz2, hz3⟩ := hz i _ hz0
        dsimp only at hz1 hz2 hz3
        obtain ⟨⟨⟨k1, n1, d1⟩, zb, zr⟩, hy0⟩ : ∃ u, ys[i]? = some u := ⟨_, List.getElem?_eq_getElem (by omega)⟩
        have hyi : (ys.map (·.1))[i]? = some (k1, n1, d1) := by rw [List.getElem?_map, hy0]; rfl
        obtain ⟨hy1, hy2, hy3⟩ := hy i _ hy0
        dsimp only at hy1 hy2 hy3
        refine C.drwS (.y 0 (.y 1 (.y 2 (.y 3 (.y 4 (.y 5 (.y 6 (.y 7 (.h 8 (.y 9 (.fin))))))))))) mixo (by kernel_rfl) ?_
        refine V.yl rfl (Y.mv rfl) ?_
        refine V.yl rfl (Y.mv rfl) ?_
        refine V.yl rfl (Y.ix slt26 rfl rfl (by rw [zcells_length]) (by omega) (by omega)) ?_
        refine V.yl rfl (Y.ldsa (vs := zc ((k0, n0, d0), za, zq)) ag36 rfl rfl (by decide) (fun j v hj => by rw [show ((i:Int).toNat * 3 + j) = i * 3 + j from rfl, zcells_get zs i j _ hz0 (by have := (List.getElem?_eq_some_iff.1 hj).1; exact this)]; exact hj)) ?_
        refine V.yl rfl (Y.mv rfl) ?_
        refine V.yl rfl (Y.mv rfl) ?_
        refine V.yl rfl (Y.ix slt30 rfl rfl (by rw [zcells_length]) (by omega) (by omega)) ?_
        refine V.yl rfl (Y.ldsa (vs := zc ((k1, n1, d1), zb, zr)) ag39 rfl rfl (by decide) (fun j v hj => by rw [show ((i:Int).toNat * 3 + j) = i * 3 + j from rfl, zcells_get ys i j _ hy0 (by have := (List.getElem?_eq_some_iff.1 hj).1; exact this)]; exact hj)) ?_
        refine V.hv rfl ?_
        refine L.apc ?_
        refine L.callP go13 rfl (fun w hw => l_same k0 n0 k1 n1 d0 d1 za zb zq zr (by omega) w (hz3.keep hw.keep (fun _ _ _ ⟨c, hc, _⟩ => by simp at hc)) (hy3.keep hw.keep (fun _ _ _ ⟨c, hc, _⟩ => by simp at hc))) ?_
        refine L.nil ?_
        refine V.on ?_
        first | refine V.yl rfl (Y.notP rfl) ?_ | refine V.yl rfl (Y.not rfl) ?_
        refine V.fin ?_
        refine C.condP rfl (fun hc3 => ?_) (fun hc3 => ?_)
        ·
          refine C.regS ?_
          refine L.yl (Y.as rfl) ?_
          refine L.nil ?_
          refine C.ret ?_
          refine InBlo.r ?_
          refine Then.r ?_
          refine Then.r ?_
          refine InBlo.r ?_
          refine Then.r ?_
          refine FnPost.r1 Go.Proofs.Tryd.results8 rfl ?_
          rw [decide_eq_false]; intro e; rw [e, hyi] at hzi; exact hc3 (Option.some.inj hzi).symm
        ·
          refine C.skip ?_
          refine InBlo.n ?_
          refine Then.n ?_
          refine C.reg ?_
          refine L.yl (Y.mv rfl) ?_
          first | refine L.yl (Y.add rfl rfl (by omega)) ?_ | refine L.yl (Y.addW rfl rfl) ?_
          refine L.yl (Y.as rfl) ?_
          refine L.nil ?_
          exact ⟨i + 1, (by repeat (first | exact trivial | refine ⟨rfl, ?_⟩ | refine ⟨congrArg some (by simp), ?_⟩ | refine ⟨congrArg some (by simp; omega), ?_⟩)), rfl, (by first | exact inferInstance | (dsimp only; exact inferInstance)), ⟨by omega, fun j hj => by
            rcases Nat.lt_or_ge j i with h | h
            · exact hI2 j h
            · rw [show j = i by omega, hzi, hyi, Decidable.not_not.1 hc3]⟩, (by first | omega | (dsimp only; omega))⟩
      ·
        refine C.exit ?_
        refine Then.x ?_
        refine Then.x ?_
        refine InBlo.x ?_
        refine Then.n ?_
        refine C.regS ?_
        refine L.yl (Y.as rfl) ?_
        refine L.nil ?_
        refine C.ret ?_
        refine FnPost.r1 Go.Proofs.Tryd.results8 rfl ?_
        rw [decide_eq_true]; apply List.ext_getElem?; intro j; rcases Nat.lt_or_ge j i with h | h
        · exact hI2 j h
        · rw [List.getElem?_eq_none (by rw [List.length_map]; omega), List.getElem?_eq_none (by rw [List.length_map]; omega)]
end Go.Proofs.YtinbfghmnfldjaaDoor
set_option maxHeartbeats 1000000
namespace Go.Proofs.YtinbfghmnfldjaaDoor
open Go Go.X Go.Shelf Go.Scr
theorem known_text : printL [7, 10, 100, 20, 1000, 100, 5000, 0] [(0, 0, [1, 255]), (1, 9, [])] = ([115, 101, 110, 100, 101, 114, 32, 55, 32, 49, 48, 32, 49, 48, 48, 32, 50, 48, 32, 49, 48, 48, 48, 32, 49, 48, 48, 32, 53, 48, 48, 48, 32, 48, 10, 119, 114, 105, 116, 101, 32, 48, 49, 102, 102, 10, 116, 105, 99, 107, 32, 57, 10], 0) := by decide +kernel
theorem known_cfg : CfgOk [7, 10, 100, 20, 1000, 100, 5000, 0] := ⟨rfl, by decide, by intro n hn; unfold InR; simp at hn; omega⟩

theorem l_known (w : World) (hG : G w) : Pur Go.Proofs.Tryd.prog 5 [] (.bool true) w := by
  refine pur_of Go.Proofs.Tryd.func5 rfl Go.Proofs.Tryd.ntmps5 rfl ?_
  change C _ _ _ _ _ _ _ ⟨[], []⟩ _
  refine C.regS ?_
  refine L.yl (Y.as rfl) ?_
  refine L.nil ?_
  refine C.regS ?_
  refine L.yl (Y.bdL (cs := [_, _, _, _, _, _, _, _]) zr25 bd25 rfl rfl rfl) ?_
  refine L.bsl elt34 rfl rfl rfl (by decide) ?_; intro b5
  refine L.yl (Y.bdL (cs := [_, _, _]) zr36 bd36 rfl rfl rfl) ?_
  refine L.yl (Y.bdL (cs := [_, _, _]) zr36 bd36 rfl rfl rfl) ?_
  refine L.bsl elt26 rfl rfl rfl (by decide) ?_; intro b8
  refine L.callP go14 rfl (fun w hw => p_Print [7, 10, 100, 20, 1000, 100, 5000, 0] known_cfg ([((0, 0, [1, 255]), some ⟨b5, 0, none⟩, 2), ((1, 9, []), none, 0)] : List Zt) (some ⟨b8, 0, none⟩) 2 w (hG.sep hw) (by simp) (own_rs (t := 36) (sz := 3) (n := 2) (c := 2) (hw.holds.on (own 36 3 (some ⟨b8, 0, none⟩) 2 2 _) (List.mem_cons_self ..))) (fun i z hz => ?_)) ?_
  · match i, hz with
    | 0, hz => simp at hz; subst hz; exact ⟨by unfold InR; simp, by simp, own_rs (t := 5) (sz := 1) (n := 2) (c := 2) (hw.holds.on (own 5 1 (some ⟨b5, 0, none⟩) 2 2 _) (List.mem_cons_of_mem _ (List.mem_cons_self ..)))⟩
    | 1, hz => simp at hz; subst hz; exact ⟨by unfold InR; simp, by simp, Rs.nil _ _⟩
    | i + 2, hz => simp at hz
  rw [show List.map (·.1) ([((0, 0, [1, 255]), some ⟨b5, 0, none⟩, 2), ((1, 9, []), none, 0)] : List Zt) = [(0, 0, [1, 255]), (1, 9, [])] from rfl, known_text]
  refine L.yl (Y.mv rfl) ?_
  refine L.yl (Y.extL rfl rfl) ?_
  refine L.yl (Y.extL rfl rfl) ?_
  refine L.yl (Y.as rfl) ?_
  refine L.yl (Y.as rfl) ?_
  refine L.nil ?_
  refine C.regS ?_
  refine L.yl (Y.mv rfl) ?_
  refine L.yl (Y.eqi rfl rfl) ?_
  refine L.yl (Y.mv rfl) ?_
  refine L.gOn (t := 14) rfl rfl ?_
  refine L.yl (Y.mv rfl) ?_
  refine L.gOn (t := 14) rfl rfl ?_
  refine L.yl (Y.eqs rfl rfl) ?_
  refine L.yl (Y.pickT rfl rfl) ?_
  refine L.yl (Y.as rfl) ?_
  refine L.nil ?_
  refine C.ret ?_
  refine FnPost.r1 Go.Proofs.Tryd.results5 rfl ?_
  exact rfl
end Go.Proofs.YtinbfghmnfldjaaDoor
namespace Go.Scr
open Go Go.Lib Go.X
theorem unhexL_length {l d : List UInt8} (h : unhexL l = some d) : d.length ≤ l.length := by
  unfold unhexL at h
  split at h
  · injection h with h; subst h; simp
  · split at h
    · cases h
    · injection h with h; subst h; rw [pairs_length]; omega
theorem tailL_ok {k r : List UInt8} {it : It} (h : tailL k r = some it) : InR it.2.1 ∧ it.2.2.length ≤ r.length := by
  unfold tailL at h
  split at h
  · rw [Option.map_eq_some_iff] at h
    obtain ⟨d, hd, rfl⟩ := h
    exact ⟨by unfold InR; simp, unhexL_length hd⟩
  · split at h
    · rw [Option.map_eq_some_iff] at h
      obtain ⟨n, hn, rfl⟩ := h
      exact ⟨(num_some.1 hn).1, by simp⟩
    · cases h
theorem lineL_ok {l : List UInt8} {it : It} (h : lineL l = some it) : InR it.2.1 ∧ it.2.2.length ≤ l.length := by
  rw [lineL_cut] at h
  split at h
  · obtain ⟨h1, h2⟩ := tailL_ok h
    refine ⟨h1, Nat.le_trans h2 ?_⟩
    rw [List.length_drop]; omega
  · cases h
theorem mapM_mem {α β : Type} {f : α → Option β} : ∀ {l : List α} {bs : List β}, l.mapM f = some bs → ∀ b ∈ bs, ∃ a ∈ l, f a = some b
  | [], bs, h, b, hb => by simp at h; subst h; simp at hb
  | a :: l, bs, h, b, hb => by
    simp only [List.mapM_cons, Option.bind_eq_bind, Option.bind_eq_some_iff, Option.pure_def, Option.some.injEq] at h
    obtain ⟨y, hy, ys, hys, rfl⟩ := h
    rcases List.mem_cons.1 hb with rfl | hb
    · exact ⟨a, by simp, hy⟩
    · obtain ⟨x, hx, hxb⟩ := mapM_mem hys b hb
      exact ⟨x, by simp [hx], hxb⟩
theorem parseL_items {t : List UInt8} {it : It} (h : it ∈ (parseL t).2.1) : InR it.2.1 ∧ it.2.2.length ≤ t.length := by
  unfold parseL at h
  split at h
  · simp at h
  · dsimp only at h
    split at h
    · simp at h
    · split at h
      · simp at h
      · split at h
        · simp at h
        · rename_i xs hxs
          obtain ⟨l, hl, hli⟩ := mapM_mem hxs it h
          obtain ⟨h1, h2⟩ := lineL_ok hli
          have := splitc_mem 10 _ l (List.mem_of_mem_drop hl)
          rw [List.length_take] at this
          exact ⟨h1, by omega⟩
theorem parseL_count (t : List UInt8) : (parseL t).2.1.length ≤ 4097 := by
  unfold parseL
  split
  · simp
  · dsimp only
    split
    · simp
    · split
      · simp
      · split
        · simp
        · rename_i xs hxs
          have := mapM_length lineL _ _ hxs
          rw [List.length_drop] at this
          dsimp only; omega
end Go.Scr
set_option maxHeartbeats 1000000
namespace Go.Proofs.YtinbfghmnfldjaaDoor
open Go Go.X Go.Shelf Go.Scr
theorem int25 : IntSt Go.Proofs.Tryd.prog 25 8 := ⟨⟨_, Go.Proofs.Tryd.underlying25, by kernel_rfl, fun f hf => by
  simp at hf
  rcases hf with rfl | rfl | rfl | rfl | rfl | rfl | rfl | rfl
  · exact ⟨by kernel_rfl, _, Go.Proofs.Tryd.underlying23⟩
  all_goals exact ⟨by kernel_rfl, _, Go.Proofs.Tryd.underlying3⟩⟩, by kernel_rfl, by kernel_rfl⟩
theorem ints8 (ns ms : List Int) : ∀ i, i < 8 → ∃ k a b, (headCs ns)[i]? = some (.int k a) ∧ (headCs ms)[i]? = some (.int k b) := fun i hi => by
  match i, hi with
  | 0, _ | 1, _ | 2, _ | 3, _ | 4, _ | 5, _ | 6, _ | 7, _ => exact ⟨_, _, _, rfl, rfl⟩
theorem itemOf_length (l : List UInt8) : (itemOf (lineL l)).2.2.length ≤ l.length := by
  cases h : lineL l with
  | none => simp [itemOf]
  | some it => exact (lineL_ok h).2
theorem its_of_big {t : List UInt8} (hl : t.length ≤ 4000000) {zs : List Zt} (hz : zs.map (·.1) = (parseL t).2.1) {w : World} (hb : (big (zs.map zch)).on w) : ItsOk w zs := fun i z hi => by
  have hm : z ∈ zs := List.mem_of_getElem? hi
  have h1 : z.1 ∈ (parseL t).2.1 := by rw [← hz]; exact List.mem_map.2 ⟨z, hm, rfl⟩
  obtain ⟨h2, h3⟩ := parseL_items h1
  have hb : X.Holds w (zs.map zch) := hb
  exact ⟨h2, by omega, own_rs (hb.on (zch z) (List.mem_map.2 ⟨z, hm, rfl⟩))⟩

theorem l_ScriptParses (t l : List UInt8) (ht : t.length ≤ 4000000) (hl : l.length ≤ 4000000) (w : World) (hG : G w) : Pur Go.Proofs.Tryd.prog 3 [.string (S t), .string (S l)] (.bool true) w := by
  refine pur_of Go.Proofs.Tryd.func3 rfl Go.Proofs.Tryd.ntmps3 rfl ?_
  change C _ _ _ _ _ _ _ ⟨[(0, _), (1, _)], []⟩ _
  refine C.regS ?_
  refine L.yl (Y.as rfl) ?_
  refine L.nil ?_
  refine C.seq ?_
  refine C.regS ?_
  refine L.callP go5 rfl (fun w hw => l_known w (hG.sep hw)) ?_
  first | refine L.yl (Y.notP rfl) ?_ | refine L.yl (Y.not rfl) ?_
  refine L.nil ?_
  refine C.condFf rfl ?_
  refine C.skip ?_
  refine Then.n ?_
  refine C.regS ?_
  refine L.yl (Y.mv rfl) ?_
  refine L.callW (Γf := []) go6 rfl (.refl _) (fun w hw hf => p_Parse t ht w (hG.sep hw)) ?_
  rintro _ _ ⟨a25, c25, zs, rfl, hz, rfl⟩
  refine L.apc ?_
  refine L.yl (Y.mv rfl) ?_
  refine L.yl (Y.extL rfl rfl) ?_
  refine L.yl (Y.extL rfl rfl) ?_
  refine L.yl (Y.extL rfl rfl) ?_
  refine L.yl (Y.extL rfl rfl) ?_
  refine L.al (zs := [.int .u32 0, .int .i64 0, .int .i64 0, .int .i64 0, .int .i64 0, .int .i64 0, .int .i64 0, .int .i64 0]) zr25 rfl ?_; intro b5
  refine L.sta (vs := [_, _, _, _, _, _, _, _]) ag25 rfl rfl rfl rfl rfl ?_
  refine L.yl (Y.as rfl) ?_
  refine L.yl (Y.as rfl) ?_
  refine L.yl (Y.as rfl) ?_
  refine L.nil ?_
  refine C.regS ?_
  refine L.yl (Y.mv rfl) ?_
  refine L.callW (Γf := []) go7 rfl (.refl _) (fun w hw hf => ref_Parse t ht w) ?_
  rintro _ _ ⟨a32, c32, ys, rfl, hy, rfl⟩
  refine L.apc ?_
  refine L.yl (Y.mv rfl) ?_
  refine L.yl (Y.extL rfl rfl) ?_
  refine L.yl (Y.extL rfl rfl) ?_
  refine L.yl (Y.extL rfl rfl) ?_
  refine L.yl (Y.extL rfl rfl) ?_
  refine L.al (zs := [.int .u32 0, .int .i64 0, .int .i64 0, .int .i64 0, .int .i64 0, .int .i64 0, .int .i64 0, .int .i64 0]) zr25 rfl ?_; intro b9
  refine L.sta (vs := [_, _, _, _, _, _, _, _]) ag25 rfl rfl rfl rfl rfl ?_
  refine L.yl (Y.as rfl) ?_
  refine L.yl (Y.as rfl) ?_
  refine L.yl (Y.as rfl) ?_
  refine L.nil ?_
  refine C.seq ?_
  refine C.regS ?_
  refine L.yl (Y.lda (vs := [_, _, _, _, _, _, _, _]) ag25 rfl rfl) ?_
  refine L.yl (Y.lda (vs := [_, _, _, _, _, _, _, _]) ag25 rfl rfl) ?_
  refine L.neSt int25 rfl rfl rfl rfl (ints8 _ _) (fun b hb => ?_)
  obtain rfl : b = false := hb.2 rfl
  refine L.yl (Y.mv rfl) ?_
  refine L.gOn (t := 40) rfl rfl ?_
  refine L.yl (Y.mv rfl) ?_
  refine L.gOn (t := 40) rfl rfl ?_
  refine L.yl (Y.mv rfl) ?_
  refine L.gOn (t := 40) rfl rfl ?_
  refine L.callP go8 rfl (fun w hw => l_sames zs ys a25 a32 c25 c32 (by have h5 := parseL_count t; rw [← hz, List.length_map] at h5; omega) w (own_rs (hw.holds.on (own 36 3 a25 zs.length c25 (zcells zs)) (by simp))) (own_rs (hw.holds.on (own 39 3 a32 ys.length c32 (zcells ys)) (by simp))) (its_of_big ht hz (hw.holds.on (big (zs.map zch)) (by simp))) (its_of_big ht hy (hw.holds.on (big (ys.map zch)) (by simp)))) ?_
  rw [decide_eq_true (show zs.map (·.1) = ys.map (·.1) from hz.trans hy.symm)]
  refine L.gOn (t := 40) rfl rfl ?_
  first | refine L.yl (Y.notP rfl) ?_ | refine L.yl (Y.not rfl) ?_
  refine L.yl (Y.pickF rfl rfl) ?_
  refine L.yl (Y.mv rfl) ?_
  refine L.gOn (t := 46) rfl rfl ?_
  refine L.yl (Y.mv rfl) ?_
  refine L.gOn (t := 46) rfl rfl ?_
  refine L.yl (Y.mv rfl) ?_
  refine L.gOn (t := 46) rfl rfl ?_
  refine L.yl (Y.nei rfl rfl) ?_
  rw [decide_eq_false (show ¬ ((parseL t).2.2.1 ≠ (parseL t).2.2.1) from fun h => h rfl)]
  refine L.yl (Y.pickF rfl rfl) ?_
  refine L.yl (Y.mv rfl) ?_
  refine L.gOn (t := 51) rfl rfl ?_
  refine L.yl (Y.mv rfl) ?_
  refine L.gOn (t := 51) rfl rfl ?_
  refine L.yl (Y.mv rfl) ?_
  refine L.gOn (t := 51) rfl rfl ?_
  refine L.yl (Y.nei rfl rfl) ?_
  rw [decide_eq_false (show ¬ ((parseL t).2.2.2 ≠ (parseL t).2.2.2) from fun h => h rfl)]
  refine L.yl (Y.pickF rfl rfl) ?_
  refine L.nil ?_
  refine C.condFf rfl ?_
  refine C.skip ?_
  refine Then.n ?_
  refine C.regS ?_
  refine L.yl (Y.mv rfl) ?_
  refine L.callW (Γf := []) go9 rfl (.refl _) (fun w hw hf => p_ParseLine l (by omega) w (hG.sep hw)) ?_
  rintro _ _ ⟨a58, c58, rfl, rfl⟩
  refine L.apc ?_
  refine L.yl (Y.mv rfl) ?_
  refine L.yl (Y.extL rfl rfl) ?_
  refine L.yl (Y.extL rfl rfl) ?_
  refine L.al (zs := [.int .i64 0, .int .i64 0, .slice none 0 0]) zr36 rfl ?_; intro b13
  refine L.sta (vs := [_, _, _]) ag36 rfl rfl rfl rfl rfl ?_
  refine L.yl (Y.as rfl) ?_
  refine L.nil ?_
  refine C.regS ?_
  refine L.yl (Y.mv rfl) ?_
  refine L.callW (Γf := []) go10 rfl (.refl _) (fun w hw hf => ref_ParseLine l (by omega) w) ?_
  rintro _ _ ⟨a63, c63, rfl, rfl⟩
  refine L.apc ?_
  refine L.yl (Y.mv rfl) ?_
  refine L.yl (Y.extL rfl rfl) ?_
  refine L.yl (Y.extL rfl rfl) ?_
  refine L.al (zs := [.int .i64 0, .int .i64 0, .slice none 0 0]) zr39 rfl ?_; intro b15
  refine L.sta (vs := [_, _, _]) ag39 rfl rfl rfl rfl rfl ?_
  refine L.yl (Y.as rfl) ?_
  refine L.nil ?_
  refine C.regS ?_
  refine L.yl (Y.mv rfl) ?_
  refine L.callP go11 rfl (fun w hw => p_ParseHead l (by omega) w (hG.sep hw)) ?_
  refine L.yl (Y.mv rfl) ?_
  refine L.yl (Y.extL rfl rfl) ?_
  refine L.yl (Y.extL rfl rfl) ?_
  refine L.al (zs := [.int .u32 0, .int .i64 0, .int .i64 0, .int .i64 0, .int .i64 0, .int .i64 0, .int .i64 0, .int .i64 0]) zr25 rfl ?_; intro b17
  refine L.sta (vs := [_, _, _, _, _, _, _, _]) ag25 rfl rfl rfl rfl rfl ?_
  refine L.yl (Y.as rfl) ?_
  refine L.nil ?_
  refine C.regS ?_
  refine L.yl (Y.mv rfl) ?_
  refine L.callP go12 rfl (fun w hw => ref_ParseHead l (by omega) w) ?_
  refine L.yl (Y.mv rfl) ?_
  refine L.yl (Y.extL rfl rfl) ?_
  refine L.yl (Y.extL rfl rfl) ?_
  refine L.al (zs := [.int .u32 0, .int .i64 0, .int .i64 0, .int .i64 0, .int .i64 0, .int .i64 0, .int .i64 0, .int .i64 0]) zr25 rfl ?_; intro b19
  refine L.sta (vs := [_, _, _, _, _, _, _, _]) ag25 rfl rfl rfl rfl rfl ?_
  refine L.yl (Y.as rfl) ?_
  refine L.nil ?_
  refine C.regS ?_
  refine L.yl (Y.mv rfl) ?_
  refine L.yl (Y.mv rfl) ?_
  refine L.yl (Y.eqb Go.Proofs.Tryd.underlying4 rfl rfl) ?_
  rw [show (decide (lineL l ≠ none) == decide (lineL l ≠ none)) = true from beq_self_eq_true _]
  refine L.yl (Y.mv rfl) ?_
  refine L.gOn (t := 79) rfl rfl ?_
  refine L.yl (Y.lda (vs := [_, _, _]) ag36 rfl rfl) ?_
  refine L.gOn (t := 79) rfl rfl ?_
  refine L.yl (Y.lda (vs := [_, _, _]) ag39 rfl rfl) ?_
  refine L.gOn (t := 79) rfl rfl ?_
  refine L.callP go13 rfl (fun w hw => l_same (itemOf (lineL l)).1 (itemOf (lineL l)).2.1 (itemOf (lineL l)).1 (itemOf (lineL l)).2.1 (itemOf (lineL l)).2.2 (itemOf (lineL l)).2.2 a58 a63 c58 c63 (by have := itemOf_length l; omega) w (own_rs (hw.holds.on (own 5 1 a58 (itemOf (lineL l)).2.2.length c58 (byteL (itemOf (lineL l)).2.2)) (by simp))) (own_rs (hw.holds.on (own 5 1 a63 (itemOf (lineL l)).2.2.length c63 (byteL (itemOf (lineL l)).2.2)) (by simp)))) ?_
  rw [decide_eq_true rfl]
  refine L.yl (Y.pickT rfl rfl) ?_
  refine L.yl (Y.mv rfl) ?_
  refine L.gOn (t := 84) rfl rfl ?_
  refine L.yl (Y.lda (vs := [_, _, _, _, _, _, _, _]) ag25 rfl rfl) ?_
  refine L.gOn (t := 84) rfl rfl ?_
  refine L.yl (Y.lda (vs := [_, _, _, _, _, _, _, _]) ag25 rfl rfl) ?_
  refine L.gOn (t := 84) rfl rfl ?_
  refine L.eqSt int25 rfl rfl rfl rfl (ints8 _ _) (fun b hb => ?_)
  obtain rfl : b = true := hb.2 rfl
  refine L.yl (Y.pickT rfl rfl) ?_
  refine L.yl (Y.mv rfl) ?_
  refine L.gOn (t := 89) rfl rfl ?_
  refine L.yl (Y.mv rfl) ?_
  refine L.gOn (t := 89) rfl rfl ?_
  refine L.yl (Y.mv rfl) ?_
  refine L.gOn (t := 89) rfl rfl ?_
  refine L.yl (Y.eqb Go.Proofs.Tryd.underlying4 rfl rfl) ?_
  rw [show (decide (headL l ≠ none) == decide (headL l ≠ none)) = true from beq_self_eq_true _]
  refine L.yl (Y.pickT rfl rfl) ?_
  refine L.yl (Y.mv rfl) ?_
  refine L.gOn (t := 94) rfl rfl ?_
  refine L.callP go5 rfl (fun w hw => l_known w (hG.sep hw)) ?_
  refine L.yl (Y.pickT rfl rfl) ?_
  refine L.yl (Y.as rfl) ?_
  refine L.nil ?_
  refine C.ret ?_
  refine FnPost.r1 Go.Proofs.Tryd.results3 rfl ?_
  exact rfl
end Go.Proofs.YtinbfghmnfldjaaDoor
namespace Go.Proofs.YtinbfghmnfldjaaDoor
open Go Go.X Go.Scr
theorem var_cell {W : World} {name : String} {g : Nat} {cs : Array Value} (hg : Go.Proofs.Tryd.prog.globalNamed name = some g) (h : W.var? Go.Proofs.Tryd.prog name = some cs) (i : Nat) : W.cell? ⟨g, i, none⟩ = cs[i]? := by
  unfold World.var? at h
  rw [hg] at h
  dsimp only [Option.bind_some] at h
  unfold World.cell?
  cases hh : W.heap[g]? with
  | none => rw [hh] at h; cases h
  | some o =>
    rw [hh] at h
    cases o <;> simp at h
    subst h
    simp [hh]
theorem gW : Go.Proofs.Tryd.prog.globalNamed "undertow/script.words" = some 0 := by kernel_rfl
theorem gS : Go.Proofs.Tryd.prog.globalNamed "strconv.ErrSyntax" = some 2 := by kernel_rfl
theorem gR : Go.Proofs.Tryd.prog.globalNamed "strconv.ErrRange" = some 3 := by kernel_rfl
theorem tyW : (Go.Proofs.Tryd.prog.globals[0]?).map (·.type) = some 59 := by kernel_rfl
theorem tyP : (Go.Proofs.Tryd.prog.globals[4]?).map (·.type) = some 118 := by kernel_rfl
theorem g_tab {W : World} {l : List (String × DataW Unit)} (h : laidMet Go.Proofs.Tryd.prog l W) (hm : ("internal/strconv.uint64pow10", Rows.laid_internal_strconv_uint64pow10) ∈ l) : Lib.TabIs Go.Proofs.Tryd.prog W "internal/strconv.uint64pow10" .u64 Lib.pow10Tab := by
  obtain ⟨g, t, cs, fuel, p, h1, h2, h3, h4⟩ := Lib.laidMet.reads h hm
  obtain rfl := Option.some.inj (tabNo.symm.trans h1)
  obtain rfl := Option.some.inj (tyP.symm.trans h2)
  unfold Lib.TabIs
  have := Lib.cells_of_tab (k := .u64) (zs := Lib.pow10Tab) Go.Proofs.Tryd.underlying118 Go.Proofs.Tryd.underlying86 (by kernel_rfl) (by kernel_rfl) h4
  rw [h3, ← this]
theorem cells9 : Go.Proofs.Tryd.prog.cellsOf 9 = 1 := by kernel_rfl
set_option maxRecDepth 100000 in
theorem g_words {W : World} {l : List (String × DataW Unit)} (h : laidMet Go.Proofs.Tryd.prog l W) (hm : ("undertow/script.words", Rows.laid_undertow_script_words) ∈ l) : ∀ (i : Nat) u, words[i]? = some u → W.cell? ⟨0, i, none⟩ = some (.string (S u)) := by
  obtain ⟨g, t, cs, fuel, p, h1, h2, h3, h4⟩ := Lib.laidMet.reads h hm
  obtain rfl := Option.some.inj (gW.symm.trans h1)
  obtain rfl := Option.some.inj (tyW.symm.trans h2)
  intro i u hu
  rw [var_cell gW h3]
  obtain ⟨xs, m, rfl, hx, hl, hxl, hall⟩ := DataW.trod_array Go.Proofs.Tryd.underlying59 h4
  have hi : i < 8 := (List.getElem?_eq_some_iff.1 hu).1
  have ha := hall i hi
  rw [cells9, Nat.mul_one] at ha
  have hxi : xs[i]? = some (xs[i]'(by omega)) := List.getElem?_eq_getElem (by omega)
  rw [hxi] at ha
  obtain ⟨s, hs, hxs, _⟩ := DataW.trod_string Go.Proofs.Tryd.underlying9 ha
  have hd : (xs.map (·.1)) = words.map (fun l => (DataW.lit (.string l) : DataW Unit)) := by
    have := congrArg Prod.fst hx
    have e : (DataW.agg (xs.map (·.1)) : DataW Unit) = DataW.agg (words.map (fun l => (DataW.lit (.string l) : DataW Unit))) := this.symm
    injection e
  have h5 : (xs.map (·.1))[i]? = some (DataW.lit (.string s.data.toList)) := by rw [List.getElem?_map, hxi, Option.map_some, hxs]
  rw [hd, List.getElem?_map, hu, Option.map_some] at h5
  injection h5 with h5; injection h5 with h5; injection h5 with h5
  have h6 : cs.toList[i]? = some (.string s) := by
    have := congrArg (·[0]?) hs
    simpa [List.getElem?_take, List.getElem?_drop] using this
  rw [← Array.getElem?_toList, h6, S_list s, ← h5]
theorem gsize : Go.Proofs.Tryd.prog.globals.size = 9 := by kernel_rfl
theorem rowM : ((begin Go.Proofs.Tryd.prog (fun _ _ => 0) default).world.heap[1]?).bind Obj.row? = some (#[.int .i64 0], 3) := by kernel_rfl
theorem g_maxl {W : World} (hS : W.ShapedOpen Go.Proofs.Tryd.prog) : ∃ m, W.cell? ⟨1, 0, none⟩ = some (.int .i64 m) :=
  Go.Proofs.cell_of_shapedOpen_int hS (by rw [gsize]; omega) rowM rfl (by kernel_rfl) (by kernel_rfl) Go.Proofs.Tryd.underlying3
theorem tyS : (Go.Proofs.Tryd.prog.globals[2]?).map (·.type) = some 73 := by kernel_rfl
theorem tyR : (Go.Proofs.Tryd.prog.globals[3]?).map (·.type) = some 73 := by kernel_rfl
theorem g_syn {W : World} {l : List (String × DataW Unit)} (h : laidMet Go.Proofs.Tryd.prog l W) (hm : ("strconv.ErrSyntax", Rows.laid_strconv_ErrSyntax) ∈ l) : ∃ te pe, W.cell? ⟨2, 0, none⟩ = some (.iface te pe) := by
  obtain ⟨g, t, cs, fuel, p, h1, h2, h3, h4⟩ := Lib.laidMet.reads h hm
  obtain rfl := Option.some.inj (gS.symm.trans h1)
  obtain rfl := Option.some.inj (tyS.symm.trans h2)
  obtain ⟨f1, u, v, hc, _⟩ := iface_of_trod Go.Proofs.Tryd.underlying73 h4
  refine ⟨u, v, ?_⟩
  rw [var_cell gS h3, ← Array.getElem?_toList, hc]; rfl
theorem g_rng {W : World} {l : List (String × DataW Unit)} (h : laidMet Go.Proofs.Tryd.prog l W) (hm : ("strconv.ErrRange", Rows.laid_strconv_ErrRange) ∈ l) : ∃ te pe, W.cell? ⟨3, 0, none⟩ = some (.iface te pe) := by
  obtain ⟨g, t, cs, fuel, p, h1, h2, h3, h4⟩ := Lib.laidMet.reads h hm
  obtain rfl := Option.some.inj (gR.symm.trans h1)
  obtain rfl := Option.some.inj (tyR.symm.trans h2)
  obtain ⟨f1, u, v, hc, _⟩ := iface_of_trod Go.Proofs.Tryd.underlying73 h4
  refine ⟨u, v, ?_⟩
  rw [var_cell gR h3, ← Array.getElem?_toList, hc]; rfl
theorem row8 : (((begin Go.Proofs.Tryd.prog (fun _ _ => 0) default).world.heap[8]?).bind Obj.row?).isSome = true := by kernel_rfl
theorem g_low {W : World} (hS : W.ShapedOpen Go.Proofs.Tryd.prog) : 9 ≤ W.heap.size := by
  obtain ⟨⟨z, t⟩, hz⟩ := Option.isSome_iff_exists.1 row8
  obtain ⟨cs, hh, _⟩ := hS.1 8 z t (by rw [gsize]; omega) hz
  exact (Array.getElem?_eq_some_iff.1 hh).1
theorem g_of {W : World} (hL : laidMetH Go.Proofs.Tryd.prog Rows.scriptParsesUptoRow.laid W) (hS : W.ShapedOpen Go.Proofs.Tryd.prog) : G W := by
  have hM : laidMet Go.Proofs.Tryd.prog Rows.scriptParsesUptoRow.laid W := hL
  exact ⟨g_words hM (by simp [Rows.scriptParsesUptoRow]), g_maxl hS, g_syn hM (by simp [Rows.scriptParsesUptoRow]), g_rng hM (by simp [Rows.scriptParsesUptoRow]), g_low hS, g_tab hM (by simp [Rows.scriptParsesUptoRow])⟩
end Go.Proofs.YtinbfghmnfldjaaDoor
namespace Go.Scr
open Go Go.Lib Go.X
/-! what is printed is read back, and what is read is printed as it stood -/
def joinc (c : UInt8) : List (List UInt8) → List UInt8
  | [] => []
  | [a] => a
  | a :: b :: r => a ++ c :: joinc c (b :: r)
theorem joinc_cons (c : UInt8) (a : List UInt8) (ls : List (List UInt8)) (h : ls ≠ []) : joinc c (a :: ls) = a ++ c :: joinc c ls := by
  cases ls with
  | nil => exact absurd rfl h
  | cons b r => rfl
theorem joinc_splitc (c : UInt8) : ∀ l : List UInt8, joinc c (splitc c l) = l
  | [] => rfl
  | x :: r => by
    have ih := joinc_splitc c r
    simp only [splitc]
    split
    · rename_i h; subst h
      rw [joinc_cons _ _ _ (splitc_ne _ _), ih]; rfl
    · split
      · rename_i h'; exact absurd h' (splitc_ne c r)
      · rename_i h t h'
        rw [h'] at ih
        cases t with
        | nil => simp only [joinc] at ih ⊢; rw [ih]
        | cons b t => simp only [joinc] at ih ⊢; rw [← ih]; rfl
theorem splitc_joinc (c : UInt8) : ∀ ls : List (List UInt8), ls ≠ [] → (∀ a ∈ ls, c ∉ a) → splitc c (joinc c ls) = ls
  | [], h, _ => absurd rfl h
  | [a], _, h => splitc_none c a (h a (by simp))
  | a :: b :: r, _, h => by
    simp only [joinc]
    rw [splitc_hit c a _ (h a (by simp)), splitc_joinc c (b :: r) (by simp) (fun x hx => h x (by simp [hx]))]
theorem splitc_free (c : UInt8) : ∀ (l a : List UInt8), a ∈ splitc c l → c ∉ a
  | [], a, h => by simp [splitc] at h; subst h; simp
  | x :: r, a, h => by
    have ih := splitc_free c r
    simp only [splitc] at h
    split at h
    · rcases List.mem_cons.1 h with rfl | h
      · simp
      · exact ih a h
    · rename_i hx
      split at h
      · simp at h; subst h; simp; exact fun e => hx e.symm
      · rename_i h0 t hs
        rcases List.mem_cons.1 h with rfl | h
        · have := ih h0 (by rw [hs]; simp)
          simp [this]; exact fun e => hx e.symm
        · exact ih a (by rw [hs]; simp [h])
/-! hex -/
theorem hd_hexv (a : UInt8) (h : 0 ≤ hexv a) : hd (hexv a).toNat = a := by
  have key : ∀ n : Fin 256, 0 ≤ hexv (UInt8.ofNat n.val) → hd (hexv (UInt8.ofNat n.val)).toNat = UInt8.ofNat n.val := by decide +kernel
  have := key ⟨a.toNat, a.toNat_lt⟩
  simp only [UInt8.ofNat_toNat] at this
  exact this h
theorem hexv_hd (n : Nat) (h : n < 16) : hexv (hd n) = n := by
  have key : ∀ n : Fin 16, hexv (hd n.val) = n.val := by decide +kernel
  exact key ⟨n, h⟩
theorem hex2_hx2 (u : UInt8) : hex2 (hd (u.toNat / 16)) (hd (u.toNat % 16)) = u := by
  have := u.toNat_lt
  unfold hex2
  rw [hexv_hd _ (by omega), hexv_hd _ (by omega)]
  apply UInt8.toNat_inj.1
  simp
  omega
theorem hx2_hex2 (a b : UInt8) (ha : 0 ≤ hexv a) (hb : 0 ≤ hexv b) : hx2 (hex2 a b) = [a, b] := by
  have h1 := hexv_lt a
  have h2 := hexv_lt b
  have e : (hex2 a b).toNat = 16 * (hexv a).toNat + (hexv b).toNat := by
    unfold hex2; simp; omega
  unfold hx2
  rw [e, show (16 * (hexv a).toNat + (hexv b).toNat) / 16 = (hexv a).toNat by omega, show (16 * (hexv a).toNat + (hexv b).toNat) % 16 = (hexv b).toNat by omega, hd_hexv a ha, hd_hexv b hb]
theorem pairs_hx2 : ∀ d : List UInt8, pairs (d.flatMap hx2) = d
  | [] => rfl
  | u :: r => by
    simp only [List.flatMap_cons]
    show hex2 _ _ :: pairs (r.flatMap hx2) = _
    rw [hex2_hx2, pairs_hx2 r]
theorem hx2_pairs : ∀ (l : List UInt8), l.length % 2 = 0 → (∀ c ∈ l, 0 ≤ hexv c) → (pairs l).flatMap hx2 = l
  | [], _, _ => rfl
  | [a], h, _ => by simp at h
  | a :: b :: r, h, hg => by
    simp only [pairs, List.flatMap_cons]
    rw [hx2_hex2 a b (hg a (by simp)) (hg b (by simp)), hx2_pairs r (by simp only [List.length_cons] at h; omega) (fun c hc => hg c (by simp [hc]))]
    rfl
theorem hx2_good (d : List UInt8) : ∀ c ∈ d.flatMap hx2, 0 ≤ hexv c := fun c hc => by
  rw [List.mem_flatMap] at hc
  obtain ⟨u, _, hu⟩ := hc
  have := u.toNat_lt
  simp [hx2] at hu
  rcases hu with rfl | rfl
  · rw [hexv_hd _ (by omega)]; omega
  · rw [hexv_hd _ (by omega)]; omega
theorem hexs_ne (d : List UInt8) : d.flatMap hx2 ≠ [45] := fun e => by
  have := hx2_good d 45 (by rw [e]; simp)
  exact absurd this (by decide)
theorem unhexL_hexL (d : List UInt8) : unhexL (hexL d) = some d := by
  unfold hexL
  split
  · rename_i h; subst h; rfl
  · rename_i h
    unfold unhexL
    rw [if_neg (hexs_ne d), if_neg, pairs_hx2]
    have hl := hexs_length d
    have hd0 : d.length ≠ 0 := fun e => h (List.length_eq_zero_iff.1 e)
    rintro (h' | h' | h')
    · rw [h'] at hl; simp at hl; omega
    · omega
    · apply h'
      rw [List.all_eq_true]
      intro c hc
      simpa using hx2_good d c hc
theorem hexL_unhexL {l d : List UInt8} (h : unhexL l = some d) : hexL d = l := by
  unfold unhexL at h
  split at h
  · rename_i e; injection h with h; subst h; rw [e]; rfl
  · split at h
    · cases h
    · rename_i h2
      injection h with h; subst h
      simp only [not_or, Decidable.not_not] at h2
      obtain ⟨h3, h4, h5⟩ := h2
      rw [List.all_eq_true] at h5
      have h6 : pairs l ≠ [] := fun e => by
        have := pairs_length l
        rw [e] at this
        have h7 : l.length ≠ 0 := fun e => h3 (List.length_eq_zero_iff.1 e)
        simp at this; omega
      unfold hexL
      rw [if_neg h6, hx2_pairs l (by omega) (fun c hc => by simpa using h5 c hc)]
/-! what a word does not hold -/
theorem itoa_free (n : Int) (hn : InR n) (c : UInt8) (hc : c ∈ itoa n) : c = 45 ∨ (48 ≤ c.toNat ∧ c.toNat ≤ 57) := by
  obtain ⟨s, hs, h1, h2, h3, h4, h5⟩ := itoa_shape n hn
  by_cases hv0 : n < 0
  · rw [if_pos hv0] at hs; subst hs
    have h4 := h4 hv0
    cases hi : itoa n with
    | nil => rw [hi] at hc; simp at hc
    | cons a b =>
      rw [hi] at hc h3 h4
      simp at h4; subst h4
      rcases List.mem_cons.1 hc with rfl | hc
      · exact .inl rfl
      · exact .inr (digitVal_mem (by simpa using h3) c hc)
  · rw [if_neg hv0] at hs; subst hs
    exact .inr (digitVal_mem h3 c (by simpa using hc))
theorem itoa_no (n : Int) (hn : InR n) (c : UInt8) (h : c.toNat < 45) : c ∉ itoa n := fun hc => by
  rcases itoa_free n hn c hc with rfl | h2
  · simp at h
  · omega
theorem hexL_no (d : List UInt8) (c : UInt8) (h : c.toNat < 45) : c ∉ hexL d := fun hc => by
  unfold hexL at hc
  split at hc
  · simp at hc; subst hc; simp at h
  · have := hx2_good d c hc
    unfold hexv at this
    split at this
    · omega
    · split at this <;> omega
theorem words_no (k : Nat) (hk : k < 8) (c : UInt8) (h : c.toNat < 45) : c ∉ words[k]?.getD [] := fun hc => by
  have key : ∀ k : Fin 8, (words[k.val]?.getD []).all (fun c => decide (45 ≤ c.toNat)) = true := by decide
  have := key ⟨k, hk⟩
  rw [List.all_eq_true] at this
  have := this c hc
  simp at this; omega
/-! lines -/
structure LineOk (it : It) : Prop where
  k0 : 0 ≤ it.1
  k8 : it.1 < 8
  n0 : it.1 = 0 → it.2.1 = 0
  d0 : it.1 ≠ 0 → it.2.2 = []
theorem lineP_ok {it : It} (h : (lineP it).2 = 0) : LineOk it ∧ (lineP it).1 = (words[it.1.toNat]?.getD []) ++ 32 :: (if it.1 = 0 then hexL it.2.2 else itoa it.2.1) := by
  unfold lineP at h ⊢
  split at h
  · simp at h
  · rename_i h1
    split at h
    · simp at h
    · rename_i h2
      rw [if_neg h1, if_neg h2]
      refine ⟨⟨by omega, by omega, fun h3 => ?_, fun h3 => ?_⟩, rfl⟩
      · apply Decidable.byContradiction; intro h4; exact h2 (.inl ⟨h3, h4⟩)
      · apply Decidable.byContradiction; intro h4; exact h2 (.inr ⟨h3, h4⟩)
theorem lineP_of {it : It} (h : LineOk it) : lineP it = ((words[it.1.toNat]?.getD []) ++ 32 :: (if it.1 = 0 then hexL it.2.2 else itoa it.2.1), 0) := by
  unfold lineP
  rw [if_neg (by have := h.k0; have := h.k8; omega), if_neg]
  rintro (⟨h1, h2⟩ | ⟨h1, h2⟩)
  · exact h2 (h.n0 h1)
  · exact h2 (h.d0 h1)
theorem body_no (it : It) (hn : InR it.2.1) (c : UInt8) (h : c.toNat < 45) : c ∉ (if it.1 = 0 then hexL it.2.2 else itoa it.2.1) := by
  split
  · exact hexL_no _ c h
  · exact itoa_no _ hn c h
theorem lineP_no10 {it : It} (h : (lineP it).2 = 0) (hn : InR it.2.1) : (10 : UInt8) ∉ (lineP it).1 := by
  obtain ⟨h1, h2⟩ := lineP_ok h
  rw [h2]
  simp only [List.mem_append, List.mem_cons, not_or]
  exact ⟨words_no _ (by have := h1.k0; have := h1.k8; omega) _ (by decide), by decide, body_no it hn _ (by decide)⟩
theorem lineL_lineP {it : It} (h : (lineP it).2 = 0) (hn : InR it.2.1) : lineL (lineP it).1 = some it := by
  obtain ⟨h1, h2⟩ := lineP_ok h
  obtain ⟨k, n, d⟩ := it
  have hk0 := h1.k0
  have hk8 := h1.k8
  have hb := body_no (k, n, d) hn 32 (by decide)
  dsimp only at hk0 hk8 h2 hn hb
  have hs : splitc 32 (lineP (k, n, d)).1 = [words[k.toNat]?.getD [], if k = 0 then hexL d else itoa n] := by
    rw [h2, splitc_hit 32 _ _ (words_no _ (by omega) _ (by decide)), splitc_none 32 _ hb]
  unfold lineL
  rw [hs]
  dsimp only
  by_cases h0 : k = 0
  · have hn0 := h1.n0 h0
    dsimp only at hn0
    subst h0
    subst hn0
    rw [if_pos rfl, tailL_zero (by rfl), unhexL_hexL]; rfl
  · have hd0 := h1.d0 h0
    dsimp only at hd0
    subst hd0
    rw [if_neg h0, tailL_hit (i := k.toNat) (by omega) (by omega) ?_, num_itoa n hn]
    · simp; omega
    · have hlt : k.toNat < words.length := by have : words.length = 8 := rfl; omega
      rw [List.getElem?_eq_getElem hlt]; simp
theorem lineP_lineL {l : List UInt8} {it : It} (h : lineL l = some it) : lineP it = (l, 0) ∧ InR it.2.1 := by
  refine ⟨?_, (lineL_ok h).1⟩
  unfold lineL at h
  split at h
  · rename_i k r hs
    have hl : l = k ++ 32 :: r := by
      have := joinc_splitc 32 l
      rw [hs] at this
      simp only [joinc] at this
      exact this.symm
    unfold tailL at h
    split at h
    · rename_i hk
      rw [Option.map_eq_some_iff] at h
      obtain ⟨d, hd, rfl⟩ := h
      rw [lineP_of ⟨by simp, by simp, fun _ => rfl, fun e => absurd rfl e⟩]
      simp only [if_pos, hexL_unhexL hd, hl, hk]
      rfl
    · rename_i hk
      split at h
      · rename_i hm
        rw [Option.map_eq_some_iff] at h
        obtain ⟨n, hn, rfl⟩ := h
        have h8 : words.idxOf k < 8 := List.idxOf_lt_length_of_mem hm
        have h8' : words.idxOf k < words.length := List.idxOf_lt_length_of_mem hm
        have hw : words[words.idxOf k]? = some k := (List.getElem?_eq_getElem h8').trans (congrArg some (List.getElem_idxOf h8'))
        have h0 : words.idxOf k ≠ 0 := fun e => hk (by
          rw [e] at hw
          have : words[0]? = some words[0] := rfl
          rw [this] at hw; injection hw with hw; exact hw.symm)
        rw [lineP_of ⟨by simp, by simp; omega, fun e => by simp at e; omega, fun _ => rfl⟩]
        simp only [Int.toNat_natCast, hw, Option.getD_some]
        rw [if_neg (by omega), hl, ← (num_some.1 hn).2]
      · cases h
  · cases h
/-! the head -/
theorem mapM_itoa : ∀ ns : List Int, (∀ n ∈ ns, InR n) → (ns.map itoa).mapM num = some ns
  | [], _ => rfl
  | n :: r, h => by
    simp only [List.map_cons, List.mapM_cons, num_itoa n (h n (by simp)), mapM_itoa r (fun x hx => h x (by simp [hx]))]
    rfl
theorem mapM_num : ∀ {ls : List (List UInt8)} {ns : List Int}, ls.mapM num = some ns → ls = ns.map itoa ∧ ∀ n ∈ ns, InR n
  | [], ns, h => by simp at h; subst h; simp
  | l :: r, ns, h => by
    simp only [List.mapM_cons, Option.bind_eq_bind, Option.bind_eq_some_iff, Option.pure_def, Option.some.injEq] at h
    obtain ⟨n, hn, ms, hms, rfl⟩ := h
    obtain ⟨h1, h2⟩ := num_some.1 hn
    obtain ⟨h3, h4⟩ := mapM_num hms
    refine ⟨by rw [List.map_cons, ← h2, ← h3], fun x hx => ?_⟩
    rcases List.mem_cons.1 hx with rfl | hx
    · exact h1
    · exact h4 x hx
theorem headT_join {ns : List Int} (h : CfgOk ns) : headT ns = joinc 32 (sender :: ns.map itoa) := by
  have h1 := h.len
  have h2 := h.head
  match ns, h1, h2 with
  | [a0, a1, a2, a3, a4, a5, a6, a7], _, h2 =>
    have e : itoa a0 = decDigits a0.toNat := by
      unfold itoa
      rw [if_neg (by simp at h2; omega)]
    simp [headT, num32, joinc, sender, e]
theorem head_free {ns : List Int} (h : CfgOk ns) : ∀ a ∈ sender :: ns.map itoa, (32 : UInt8) ∉ a ∧ (10 : UInt8) ∉ a := fun a ha => by
  rcases List.mem_cons.1 ha with rfl | ha
  · constructor <;> decide
  · obtain ⟨n, hn, rfl⟩ := List.mem_map.1 ha
    exact ⟨itoa_no n (h.all n hn) _ (by decide), itoa_no n (h.all n hn) _ (by decide)⟩
theorem joinc_mem {c x : UInt8} : ∀ {ls : List (List UInt8)}, x ∈ joinc c ls → x = c ∨ ∃ a ∈ ls, x ∈ a
  | [], h => by simp [joinc] at h
  | [a], h => .inr ⟨a, by simp, h⟩
  | a :: b :: r, h => by
    simp only [joinc, List.mem_append, List.mem_cons] at h
    rcases h with h | h | h
    · exact .inr ⟨a, by simp, h⟩
    · exact .inl h
    · rcases joinc_mem h with h | ⟨y, hy, hx⟩
      · exact .inl h
      · exact .inr ⟨y, by simp [hy], hx⟩
theorem headT_no10 {ns : List Int} (h : CfgOk ns) : (10 : UInt8) ∉ headT ns := fun hm => by
  rw [headT_join h] at hm
  rcases joinc_mem hm with e | ⟨a, ha, hx⟩
  · exact absurd e (by decide)
  · exact (head_free h a ha).2 hx
theorem headL_headT {ns : List Int} (h : CfgOk ns) : headL (headT ns) = some ns := by
  have hs : splitc 32 (headT ns) = sender :: ns.map itoa := by
    rw [headT_join h]
    exact splitc_joinc 32 _ (by simp) (fun a ha => (head_free h a ha).1)
  unfold headL
  rw [hs, if_neg (by simp [h.len]), List.drop_one, List.tail_cons, mapM_itoa ns h.all]
  dsimp only
  rw [if_neg (by have := h.head; omega)]
theorem headT_headL {l : List UInt8} {ns : List Int} (h : headL l = some ns) : CfgOk ns ∧ headT ns = l := by
  unfold headL at h
  split at h
  · cases h
  · rename_i h1
    simp only [not_or, Decidable.not_not] at h1
    obtain ⟨h2, h3⟩ := h1
    split at h
    · cases h
    · rename_i ms hms
      split at h
      · cases h
      · rename_i h4
        injection h with h; subst h
        obtain ⟨h5, h6⟩ := mapM_num hms
        have h7 : splitc 32 l = sender :: ms.map itoa := by
          cases hs : splitc 32 l with
          | nil => rw [hs] at h3; simp at h3
          | cons a r =>
            rw [hs] at h3 h5
            simp at h3 h5
            rw [h3, h5]
        have h8 : CfgOk ms := by
          refine ⟨?_, by omega, h6⟩
          rw [h7] at h2; simpa using h2
        refine ⟨h8, ?_⟩
        rw [headT_join h8, ← h7, joinc_splitc]
/-! the whole -/
theorem join_lines : ∀ (a : List UInt8) (ls : List (List UInt8)), joinc 10 (a :: ls) ++ [10] = a ++ [10] ++ ls.flatMap (· ++ [10])
  | a, [] => by simp [joinc]
  | a, b :: r => by
    have := join_lines b r
    simp only [joinc, List.append_assoc, List.cons_append, List.flatMap_cons] at this ⊢
    rw [this]
    simp
theorem flat_lineN (its : List It) : its.flatMap lineN = (its.map fun it => (lineP it).1).flatMap (· ++ [10]) := by
  induction its with
  | nil => rfl
  | cons x r ih => simp only [List.flatMap_cons, List.map_cons, ih, lineN]
theorem mapM_lines : ∀ its : List It, (∀ it ∈ its, (lineP it).2 = 0 ∧ InR it.2.1) → (its.map fun it => (lineP it).1).mapM lineL = some its
  | [], _ => rfl
  | x :: r, h => by
    simp only [List.map_cons, List.mapM_cons, lineL_lineP (h x (by simp)).1 (h x (by simp)).2, mapM_lines r (fun y hy => h y (by simp [hy]))]
    rfl
theorem mapM_lineL : ∀ {ls : List (List UInt8)} {its : List It}, ls.mapM lineL = some its → ls = its.map (fun it => (lineP it).1) ∧ ∀ it ∈ its, (lineP it).2 = 0 ∧ InR it.2.1
  | [], its, h => by simp at h; subst h; simp
  | l :: r, its, h => by
    simp only [List.mapM_cons, Option.bind_eq_bind, Option.bind_eq_some_iff, Option.pure_def, Option.some.injEq] at h
    obtain ⟨n, hn, ms, hms, rfl⟩ := h
    obtain ⟨h1, h2⟩ := lineP_lineL hn
    obtain ⟨h3, h4⟩ := mapM_lineL hms
    refine ⟨by rw [List.map_cons, h1, ← h3], fun x hx => ?_⟩
    rcases List.mem_cons.1 hx with rfl | hx
    · exact ⟨by rw [h1], h2⟩
    · exact h4 x hx
theorem printL_ok {ns : List Int} {its : List It} (h : (printL ns its).2 = 0) : its.length ≤ 4096 ∧ (∀ it ∈ its, (lineP it).2 = 0) ∧ (printL ns its).1 = headT ns ++ [10] ++ its.flatMap lineN := by
  unfold printL at h ⊢
  split at h
  · simp at h
  · rename_i h1
    split at h
    · rename_i it hf
      exfalso
      have := List.find?_some hf
      simp at this
      exact this h
    · rename_i hf
      rw [if_neg h1]
      refine ⟨by omega, fun it hit => ?_, rfl⟩
      have := List.find?_eq_none.1 hf it hit
      simpa using this
theorem printL_of {ns : List Int} {its : List It} (hl : its.length ≤ 4096) (h : ∀ it ∈ its, (lineP it).2 = 0) : printL ns its = (headT ns ++ [10] ++ its.flatMap lineN, 0) := by
  unfold printL
  rw [if_neg (by omega), find_ok (fun j x hx => h x (List.mem_of_getElem? hx))]
/-- WHAT IS PRINTED SAYS WHAT IT WAS -/
theorem parse_print {ns : List Int} {its : List It} (hc : CfgOk ns) (hn : ∀ it ∈ its, InR it.2.1) (h : (printL ns its).2 = 0) : parseL (printL ns its).1 = (ns, its, 0, 0) := by
  obtain ⟨h1, h2, h3⟩ := printL_ok h
  have h4 : (printL ns its).1 = joinc 10 (headT ns :: its.map fun it => (lineP it).1) ++ [10] := by
    rw [h3, flat_lineN, join_lines]
  have h5 : splitc 10 ((printL ns its).1.take ((printL ns its).1.length - 1)) = headT ns :: its.map fun it => (lineP it).1 := by
    rw [h4]
    simp only [List.length_append, List.length_singleton, Nat.add_sub_cancel, List.take_left']
    refine splitc_joinc 10 _ (by simp) fun a ha => ?_
    rcases List.mem_cons.1 ha with rfl | ha
    · exact headT_no10 hc
    · obtain ⟨it, hit, rfl⟩ := List.mem_map.1 ha
      exact lineP_no10 (h2 it hit) (hn it hit)
  refine parseL_ok (by rw [h4]; simp) h5 (by simp; omega) rfl (headL_headT hc) ?_
  exact mapM_lines its fun it hit => ⟨h2 it hit, hn it hit⟩
/-- WHAT IS READ IS PRINTED AS IT STOOD -/
theorem print_parse {t : List UInt8} (h : (parseL t).2.2.2 = 0) : CfgOk (parseL t).1 ∧ (parseL t).2.2.1 = 0 ∧ printL (parseL t).1 (parseL t).2.1 = (t, 0) := by
  unfold parseL at h ⊢
  split at h
  · simp at h
  · rename_i h1
    rw [if_neg h1]
    dsimp only at h ⊢
    split at h
    · simp at h
    · rename_i h2
      rw [if_neg h2]
      split at h
      · simp at h
      · rename_i ns hns
        split at h
        · simp at h
        · rename_i xs hxs
          dsimp only
          obtain ⟨h3, h4⟩ := headT_headL hns
          obtain ⟨h5, h6⟩ := mapM_lineL hxs
          refine ⟨h3, rfl, ?_⟩
          have hlen := mapM_length lineL _ _ hxs
          rw [List.length_drop] at hlen
          rw [printL_of (by omega) (fun it hit => (h6 it hit).1), flat_lineN, ← h5, h4]
          have h7 : t = t.take (t.length - 1) ++ [10] := by
            simp only [ne_eq, Decidable.not_not] at h1
            have ht : t ≠ [] := fun e => by rw [e] at h1; simp at h1
            have := List.dropLast_concat_getLast ht
            rw [List.getLast?_eq_some_getLast ht] at h1
            rw [Option.some.inj h1] at this
            rw [← List.dropLast_eq_take]; exact this.symm
          have h8 := joinc_splitc 10 (t.take (t.length - 1))
          cases hs : splitc 10 (t.take (t.length - 1)) with
          | nil => exact absurd hs (splitc_ne _ _)
          | cons a r =>
            rw [hs] at h8
            simp only [List.getElem?_cons_zero, Option.getD_some, List.drop_one, List.tail_cons]
            rw [← join_lines, h8, ← h7]
theorem parse_bad {t : List UInt8} (h : (parseL t).2.2.2 ≠ 0) : (parseL t).1 = [] ∧ (parseL t).2.1 = [] := by
  unfold parseL at h ⊢
  split at h
  · rename_i h1; rw [if_pos h1]; exact ⟨rfl, rfl⟩
  · rename_i h1
    rw [if_neg h1]
    dsimp only at h ⊢
    split at h
    · rename_i h2; rw [if_pos h2]; exact ⟨rfl, rfl⟩
    · rename_i h2
      rw [if_neg h2]
      split at h
      · exact ⟨rfl, rfl⟩
      · rename_i ns hns
        split at h
        · exact ⟨rfl, rfl⟩
        · simp at h
end Go.Scr
set_option maxHeartbeats 1000000
namespace Go.Proofs.YtinbfghmnfldjaaDoor
open Go Go.X Go.Shelf Go.Scr
theorem go15 : Goes Go.Proofs.Tryd.prog 15 := enters_of Go.Proofs.Tryd.func15 (by kernel_rfl) rfl
theorem p_ParseE (t : List UInt8) (hl : t.length ≤ 4000000) (ns : List Int) (its : List It) (i e : Int) (h : parseL t = (ns, its, i, e)) (w : World) (hG : G w) : Calls Go.Proofs.Tryd.prog 6 #[.string (S t)] w (Post w [] (RW fun r Γ => ∃ a c zs, r = .tuple #[headV ns, .slice a zs.length c, .int .i64 i, .int .i64 e] ∧ zs.map (·.1) = its ∧ Γ = [own 36 3 a zs.length c (zcells zs), big (zs.map zch)])) := by
  have := p_Parse t hl w hG
  unfold ParseR at this
  rw [h] at this
  exact this

theorem ItsOk.keep {w w' : World} {zs : List Zt} {Γ : List Ch} (h : ItsOk w zs) (hw : Sep w (fps []) w' Γ) : ItsOk w' zs := fun i z hi => by
  obtain ⟨h1, h2, h3⟩ := h i z hi
  exact ⟨h1, h2, h3.keep hw.keep (fun _ _ _ ⟨c, hc, _⟩ => by simp at hc)⟩

theorem l_ScriptBack (ns : List Int) (h : CfgOk ns) (zs : List Zt) (a : Option Addr) (c : Nat) (t : List UInt8) (ht : t.length ≤ 4000000) (w : World) (hG : G w) (hl : zs.length ≤ 4294967280) (hr : Rs w a (zcells zs)) (hz : ItsOk w zs) (hp : (printL ns (zs.map (·.1))).2 = 0 → (printL ns (zs.map (·.1))).1.length ≤ 4000000) : Pur Go.Proofs.Tryd.prog 4 [headV ns, .slice a zs.length c, .string (S t)] (.bool true) w := by
  haveI hrd : ∀ Γ, Rd w (fps []) Γ a (zcells zs) := fun Γ => Rd.old0 hr Γ
  refine pur_of Go.Proofs.Tryd.func4 rfl Go.Proofs.Tryd.ntmps4 rfl ?_
  change C _ _ _ _ _ _ _ ⟨[(0, _), (1, _), (2, _)], []⟩ _
  refine C.regS ?_
  refine L.bxa rfl ?_; intro b3
  refine L.yl (Y.as rfl) ?_
  refine L.nil ?_
  refine C.seq ?_
  refine C.regS ?_
  refine L.callP go5 rfl (fun w hw => l_known w (hG.sep hw)) ?_
  first | refine L.yl (Y.notP rfl) ?_ | refine L.yl (Y.not rfl) ?_
  refine L.nil ?_
  refine C.condFf rfl ?_
  refine C.skip ?_
  refine Then.n ?_
  refine C.cut (fun (_:Unit) => [(2, .string (S t))]) [] (fun _ => []) (fun _ => True) ?_ ?_
  ·
    refine C.regS ?_
    refine L.yl (Y.lda (vs := [_, _, _, _, _, _, _, _]) ag25 rfl rfl) ?_
    refine L.yl (Y.mv rfl) ?_
    refine L.callP go14 rfl (fun w hw => p_Print ns h zs a c w (hG.sep hw) hl (hr.keep hw.keep (fun _ _ _ ⟨c, hc, _⟩ => by simp at hc)) (hz.keep hw)) ?_
    refine L.yl (Y.mv rfl) ?_
    refine L.yl (Y.extL rfl rfl) ?_
    refine L.yl (Y.extL rfl rfl) ?_
    refine L.yl (Y.as rfl) ?_
    refine L.yl (Y.as rfl) ?_
    refine L.nil ?_
    refine C.regS ?_
    refine L.yl (Y.mv rfl) ?_
    refine L.yl (Y.eqi rfl rfl) ?_
    refine L.nil ?_
    refine C.condP rfl (fun hc2 => ?_) (fun hc2 => ?_)
    ·
      have hpp := parse_print h (fun it hit => by obtain ⟨z, hz1, rfl⟩ := List.mem_map.1 hit; obtain ⟨j, hj⟩ := List.getElem?_of_mem hz1; exact (hz j z hj).1) hc2
      have hp2 := hp hc2
      refine C.regS ?_
      refine L.yl (Y.mv rfl) ?_
      refine L.callW (Γf := []) go6 rfl (.refl _) (fun w hw hf => p_ParseE _ hp2 _ _ _ _ hpp w (hG.sep hw)) ?_
      rintro _ _ ⟨a32, c32, ms, rfl, hms, rfl⟩
      refine L.apc ?_
      refine L.yl (Y.mv rfl) ?_
      refine L.yl (Y.extL rfl rfl) ?_
      refine L.yl (Y.extL rfl rfl) ?_
      refine L.yl (Y.extL rfl rfl) ?_
      refine L.yl (Y.extL rfl rfl) ?_
      refine L.al (zs := [.int .u32 0, .int .i64 0, .int .i64 0, .int .i64 0, .int .i64 0, .int .i64 0, .int .i64 0, .int .i64 0]) zr25 rfl ?_; intro b9
      refine L.sta (vs := [_, _, _, _, _, _, _, _]) ag25 rfl rfl rfl rfl rfl ?_
      refine L.yl (Y.as rfl) ?_
      refine L.yl (Y.as rfl) ?_
      refine L.yl (Y.as rfl) ?_
      refine L.nil ?_
      refine C.seq ?_
      refine C.regS ?_
      refine L.yl (Y.mv rfl) ?_
      refine L.yl (Y.nei rfl rfl) ?_
      rw [decide_eq_false (show ¬ ((0:Int) ≠ 0) by omega)]
      refine L.yl (Y.mv rfl) ?_
      refine L.gOn (t := 39) rfl rfl ?_
      refine L.yl (Y.mv rfl) ?_
      refine L.gOn (t := 39) rfl rfl ?_
      refine L.yl (Y.nei rfl rfl) ?_
      rw [decide_eq_false (show ¬ ((0:Int) ≠ 0) by omega)]
      refine L.yl (Y.pickF rfl rfl) ?_
      refine L.yl (Y.mv rfl) ?_
      refine L.gOn (t := 43) rfl rfl ?_
      refine L.yl (Y.lda (vs := [_, _, _, _, _, _, _, _]) ag25 rfl rfl) ?_
      refine L.gOn (t := 43) rfl rfl ?_
      refine L.yl (Y.lda (vs := [_, _, _, _, _, _, _, _]) ag25 rfl rfl) ?_
      refine L.gOn (t := 43) rfl rfl ?_
      refine L.neSt int25 rfl rfl rfl rfl (ints8 _ _) (fun b hb => ?_)
      obtain rfl : b = false := hb.2 rfl
      refine L.yl (Y.pickF rfl rfl) ?_
      refine L.yl (Y.mv rfl) ?_
      refine L.gOn (t := 48) rfl rfl ?_
      refine L.yl (Y.mv rfl) ?_
      refine L.gOn (t := 48) rfl rfl ?_
      refine L.yl (Y.len ⟨_, Go.Proofs.Tryd.underlying26⟩ rfl) ?_
      refine L.gOn (t := 48) rfl rfl ?_
      refine L.yl (Y.mv rfl) ?_
      refine L.gOn (t := 48) rfl rfl ?_
      refine L.yl (Y.len ⟨_, Go.Proofs.Tryd.underlying26⟩ rfl) ?_
      refine L.gOn (t := 48) rfl rfl ?_
      refine L.yl (Y.nei rfl rfl) ?_
      have hmz : ms.length = zs.length := by have := congrArg List.length hms; simpa using this
      rw [decide_eq_false (show ¬ ((ms.length : Int) ≠ (zs.length : Int)) by omega)]
      refine L.yl (Y.pickF rfl rfl) ?_
      refine L.nil ?_
      refine C.condFf rfl ?_
      refine C.skip ?_
      refine Then.n ?_
      refine C.regS ?_
      refine L.yl (Y.as rfl) ?_
      refine L.nil ?_
      refine C.block ?_
      refine C.loop (fun (i:Nat) => [(1, .slice a zs.length c), (2, .string (S t)), (10, .slice a32 ms.length c32), (13, .int .i64 i)]) (fun i => [own 36 3 a32 ms.length c32 (zcells ms), big (ms.map zch)]) (fun i => i ≤ zs.length) (fun i => zs.length - i) 0 ?_ ?_ ?_ ?_
      · repeat (first | exact trivial | refine ⟨rfl, ?_⟩)
      · first | exact .of (.refl _) | exact inferInstance | (dsimp only; exact inferInstance)
      · exact Nat.zero_le _
      · rintro i hI1
        try dsimp only
        refine C.seq ?_
        refine C.regS ?_
        refine L.yl (Y.mv rfl) ?_
        refine L.yl (Y.mv rfl) ?_
        refine L.yl (Y.len ⟨_, Go.Proofs.Tryd.underlying26⟩ rfl) ?_
        refine L.yl (Y.lss rfl rfl) ?_
        refine L.nil ?_
        refine C.condP rfl (fun hc4 => ?_) (fun hc4 => ?_)
        ·
          refine C.skip ?_
          refine Then.n ?_
          refine C.seq ?_
          refine C.block ?_
          obtain ⟨⟨⟨k0, n0, d0⟩, za, zq⟩, hz0⟩ : ∃ u, zs[i]? = some u := ⟨_, List.getElem?_eq_getElem (by omega)⟩
          have hzi : (zs.map (·.1))[i]? = some (k0, n0, d0) := by rw [List.getElem?_map, hz0]; rfl
          obtain ⟨hz1, hz2, hz3⟩ := hz i _ hz0
          dsimp only at hz1 hz2 hz3
          obtain ⟨⟨⟨k1, n1, d1⟩, zb, zr⟩, hy0⟩ : ∃ u, ms[i]? = some u := ⟨_, List.getElem?_eq_getElem (by omega)⟩
          have hyi : (ms.map (·.1))[i]? = some (k1, n1, d1) := by rw [List.getElem?_map, hy0]; rfl
          obtain ⟨rfl, rfl, rfl⟩ : k1 = k0 ∧ n1 = n0 ∧ d1 = d0 := by rw [hms, hzi] at hyi; simpa [eq_comm] using hyi
          have hbig : ∀ w, (big (ms.map zch)).on w → Rs w zb (byteL d1) := fun w hb => by
            have hb : X.Holds w (ms.map zch) := hb
            exact own_rs (hb.on (zch ((k1, n1, d1), zb, zr)) (List.mem_map.2 ⟨_, List.mem_of_getElem? hy0, rfl⟩))
          refine C.drwS (.y 0 (.y 1 (.y 2 (.y 3 (.y 4 (.y 5 (.y 6 (.y 7 (.h 8 (.h 9 (.y 10 (.fin)))))))))))) mixo (by kernel_rfl) ?_
          refine V.yl rfl (Y.mv rfl) ?_
          refine V.yl rfl (Y.mv rfl) ?_
          refine V.yl rfl (Y.ix slt26 rfl rfl (by rw [zcells_length]) (by omega) (by omega)) ?_
          refine V.yl rfl (Y.ldsa (vs := zc ((k1, n1, d1), zb, zr)) ag36 rfl rfl (by decide) (fun j v hj => by rw [show ((i:Int).toNat * 3 + j) = i * 3 + j from rfl, zcells_get ms i j _ hy0 (by have := (List.getElem?_eq_some_iff.1 hj).1; exact this)]; exact hj)) ?_
          refine V.yl rfl (Y.mv rfl) ?_
          refine V.yl rfl (Y.mv rfl) ?_
          refine V.yl rfl (Y.ix slt26 rfl rfl (by rw [zcells_length]) (by omega) (by omega)) ?_
          refine V.yl rfl (Y.ldsa (vs := zc ((k1, n1, d1), za, zq)) ag36 rfl rfl (by decide) (fun j v hj => by rw [show ((i:Int).toNat * 3 + j) = i * 3 + j from rfl, zcells_get zs i j _ hz0 (by have := (List.getElem?_eq_some_iff.1 hj).1; exact this)]; exact hj)) ?_
          refine V.hv rfl ?_
          refine L.apc ?_
          refine L.callP go15 rfl (fun w hw => l_to k1 n1 za d1.length zq w) ?_
          refine L.nil ?_
          refine V.on ?_
          refine V.hv rfl ?_
          refine L.apc ?_
          refine L.callP go13 rfl (fun w hw => l_same k1 n1 k1 n1 d1 d1 zb za zr zq (by omega) w (hbig w (hw.holds.on (big (ms.map zch)) (by simp))) (hz3.keep hw.keep (fun _ _ _ ⟨c, hc, _⟩ => by simp at hc))) ?_
          rw [decide_eq_true rfl]
          refine L.nil ?_
          refine V.on ?_
          first | refine V.yl rfl (Y.notP rfl) ?_ | refine V.yl rfl (Y.not rfl) ?_
          refine V.fin ?_
          refine C.condFf rfl ?_
          refine C.skip ?_
          refine InBlo.n ?_
          refine Then.n ?_
          refine C.reg ?_
          refine L.yl (Y.mv rfl) ?_
          first | refine L.yl (Y.add rfl rfl (by omega)) ?_ | refine L.yl (Y.addW rfl rfl) ?_
          refine L.yl (Y.as rfl) ?_
          refine L.nil ?_
          exact ⟨i + 1, (by repeat (first | exact trivial | refine ⟨rfl, ?_⟩ | refine ⟨congrArg some (by simp), ?_⟩ | refine ⟨congrArg some (by simp; omega), ?_⟩)), rfl, (by first | exact inferInstance | (dsimp only; exact inferInstance)), by omega, (by first | omega | (dsimp only; omega))⟩
        ·
          refine C.exit ?_
          refine Then.x ?_
          refine Then.x ?_
          refine InBlo.x ?_
          refine Then.n ?_
          exact ⟨(), (by repeat (first | exact trivial | refine ⟨rfl, ?_⟩ | refine ⟨congrArg some (by simp), ?_⟩ | refine ⟨congrArg some (by simp; omega), ?_⟩)), rfl, (by first | exact inferInstance | (dsimp only; exact inferInstance)), trivial⟩
    ·
      refine C.skip ?_
      refine Then.n ?_
      exact ⟨(), (by repeat (first | exact trivial | refine ⟨rfl, ?_⟩ | refine ⟨congrArg some (by simp), ?_⟩ | refine ⟨congrArg some (by simp; omega), ?_⟩)), rfl, (by first | exact inferInstance | (dsimp only; exact inferInstance)), trivial⟩
  · rintro ⟨⟩ hI
    refine C.regS ?_
    refine L.yl (Y.mv rfl) ?_
    refine L.callW (Γf := []) go6 rfl (.refl _) (fun w hw hf => p_Parse t ht w (hG.sep hw)) ?_
    rintro _ _ ⟨a74, c74, ys, rfl, hys, rfl⟩
    refine L.apc ?_
    refine L.yl (Y.mv rfl) ?_
    refine L.yl (Y.extL rfl rfl) ?_
    refine L.yl (Y.extL rfl rfl) ?_
    refine L.yl (Y.extL rfl rfl) ?_
    refine L.yl (Y.extL rfl rfl) ?_
    refine L.al (zs := [.int .u32 0, .int .i64 0, .int .i64 0, .int .i64 0, .int .i64 0, .int .i64 0, .int .i64 0, .int .i64 0]) zr25 rfl ?_; intro b14
    refine L.sta (vs := [_, _, _, _, _, _, _, _]) ag25 rfl rfl rfl rfl rfl ?_
    refine L.yl (Y.as rfl) ?_
    refine L.yl (Y.as rfl) ?_
    refine L.yl (Y.as rfl) ?_
    refine L.nil ?_
    refine C.seq ?_
    refine C.regS ?_
    refine L.yl (Y.mv rfl) ?_
    refine L.yl (Y.nei rfl rfl) ?_
    refine L.nil ?_
    refine C.condP rfl (fun hc6 => ?_) (fun hc6 => ?_)
    ·
      obtain ⟨hb1, hb2⟩ := parse_bad hc6
      have hy0 : ys.length = 0 := by have := congrArg List.length hys; rw [hb2] at this; simpa using this
      refine C.regS ?_
      refine L.yl (Y.lda (vs := [_, _, _, _, _, _, _, _]) ag25 rfl rfl) ?_
      refine L.yl (Y.bdL (cs := [_, _, _, _, _, _, _, _]) zr25 bd25 rfl rfl rfl) ?_
      refine L.eqSt int25 rfl rfl rfl rfl (ints8 (parseL t).1 []) (fun b hb => ?_)
      obtain rfl : b = true := hb.2 (by rw [hb1]; rfl)
      refine L.yl (Y.mv rfl) ?_
      refine L.gOn (t := 84) rfl rfl ?_
      refine L.yl (Y.mv rfl) ?_
      refine L.gOn (t := 84) rfl rfl ?_
      refine L.yl (Y.len ⟨_, Go.Proofs.Tryd.underlying26⟩ rfl) ?_
      refine L.gOn (t := 84) rfl rfl ?_
      refine L.yl (Y.eqi rfl rfl) ?_
      rw [decide_eq_true (show (ys.length : Int) = 0 by omega)]
      refine L.yl (Y.pickT rfl rfl) ?_
      refine L.yl (Y.mv rfl) ?_
      refine L.gOn (t := 89) rfl rfl ?_
      refine L.callP go5 rfl (fun w hw => l_known w (hG.sep hw)) ?_
      refine L.yl (Y.pickT rfl rfl) ?_
      refine L.yl (Y.as rfl) ?_
      refine L.nil ?_
      refine C.ret ?_
      refine Then.r ?_
      refine FnPost.r1 Go.Proofs.Tryd.results4 rfl ?_
      exact rfl
    ·
      obtain ⟨hq1, hq2, hq3⟩ := print_parse (Decidable.not_not.1 hc6)
      refine C.skip ?_
      refine Then.n ?_
      refine C.regS ?_
      refine L.yl (Y.lda (vs := [_, _, _, _, _, _, _, _]) ag25 rfl rfl) ?_
      refine L.yl (Y.mv rfl) ?_
      refine L.callP go14 rfl (fun w hw => p_Print (parseL t).1 hq1 ys a74 c74 w (hG.sep hw) (by have h5 := parseL_count t; rw [← hys, List.length_map] at h5; omega) (own_rs (hw.holds.on (own 36 3 a74 ys.length c74 (zcells ys)) (by simp))) (its_of_big ht hys (hw.holds.on (big (ys.map zch)) (by simp)))) ?_
      rw [hys, hq3]
      refine L.yl (Y.mv rfl) ?_
      refine L.yl (Y.extL rfl rfl) ?_
      refine L.yl (Y.extL rfl rfl) ?_
      refine L.yl (Y.as rfl) ?_
      refine L.yl (Y.as rfl) ?_
      refine L.nil ?_
      refine C.regS ?_
      refine L.yl (Y.mv rfl) ?_
      refine L.yl (Y.eqi rfl rfl) ?_
      rw [decide_eq_true (show (0:Int) = 0 from rfl)]
      refine L.yl (Y.mv rfl) ?_
      refine L.gOn (t := 100) rfl rfl ?_
      refine L.yl (Y.mv rfl) ?_
      refine L.gOn (t := 100) rfl rfl ?_
      refine L.yl (Y.mv rfl) ?_
      refine L.gOn (t := 100) rfl rfl ?_
      refine L.yl (Y.eqs rfl rfl) ?_
      rw [decide_eq_true (show t = t from rfl)]
      refine L.yl (Y.pickT rfl rfl) ?_
      refine L.yl (Y.mv rfl) ?_
      refine L.gOn (t := 105) rfl rfl ?_
      refine L.callP go5 rfl (fun w hw => l_known w (hG.sep hw)) ?_
      refine L.yl (Y.pickT rfl rfl) ?_
      refine L.yl (Y.as rfl) ?_
      refine L.nil ?_
      refine C.ret ?_
      refine FnPost.r1 Go.Proofs.Tryd.results4 rfl ?_
      exact rfl
end Go.Proofs.YtinbfghmnfldjaaDoor
namespace Go.Proofs.YtinbfghmnfldjaaDoor
open Go Go.X Go.Scr Go.ChangeMaps Go.ChangeShapes Go.WideShapes Go.ChangeAt Go.RowKit
theorem bulk_one {H : Type} (d : DataW H) : 1 ≤ Rows.uptoBulk d := by
  cases d with
  | lit l => cases l <;> simp [Rows.uptoBulk]
  | nil => simp [Rows.uptoBulk]
  | ptr d => simp [Rows.uptoBulk]
  | slice elems spare => simp [Rows.uptoBulk]
  | agg parts => simp [Rows.uptoBulk]
  | iface t d => simp [Rows.uptoBulk]
  | map entries => simp [Rows.uptoBulk]
  | held h => simp [Rows.uptoBulk]
theorem bulk_length {H : Type} : ∀ l : List (DataW H), l.length ≤ Rows.uptoBulkAll l
  | [] => by simp [Rows.uptoBulkAll]
  | d :: r => by have := bulk_one d; have := bulk_length r; simp only [Rows.uptoBulkAll, List.length_cons]; omega
theorem cells3 : Go.Proofs.Tryd.prog.cellsOf 3 = 1 := by kernel_rfl
theorem cells23 : Go.Proofs.Tryd.prog.cellsOf 23 = 1 := by kernel_rfl
theorem cells5 : Go.Proofs.Tryd.prog.cellsOf 5 = 1 := by kernel_rfl
theorem cells34 : Go.Proofs.Tryd.prog.cellsOf 34 = 1 := by kernel_rfl
theorem cells25 : Go.Proofs.Tryd.prog.cellsOf 25 = 8 := by kernel_rfl
theorem cells36 : Go.Proofs.Tryd.prog.cellsOf 36 = 3 := by kernel_rfl
theorem laidOut : laidOutB Go.Proofs.Tryd.prog = true := by kernel_rfl
theorem inR_wf {n : Int} (h : (Lit.int .i64 n).wf = true) : InR n := by
  have : -9223372036854775808 ≤ n ∧ n ≤ 9223372036854775807 := by simpa [Lit.wf, IntKind.min, IntKind.max, IntKind.signed, IntKind.bits] using h
  exact this
section
variable {H : Type} {enc : TypeId × Value → H} {w : World} {base : Nat} {sp : Nat → Bool} {held : Bool}
theorem open_i64 {n : Nat} {c : Value} {xs : List (DataW H × List MemPlace)} {i : Nat} (hi : i < xs.length) (h : DataW.trod enc Go.Proofs.Tryd.prog w base sp held n 3 [c] = xs[i]?) : ∃ v, c = .int .i64 v ∧ InR v := by
  rw [List.getElem?_eq_getElem hi] at h
  obtain ⟨v, hv, _, hwf⟩ := DataW.trod_int Go.Proofs.Tryd.underlying3 h
  injection hv with hv _
  exact ⟨v, hv, inR_wf hwf⟩
set_option maxRecDepth 100000 in
theorem open_cfg {fuel : Nat} {cs : List Value} {x : DataW H × List MemPlace} (h : DataW.trod enc Go.Proofs.Tryd.prog w base sp held fuel 25 cs = some x) : ∃ ns, CfgOk ns ∧ cs = headCs ns := by
  obtain ⟨xs, n, rfl, rfl, hl, hxs, hf⟩ := DataW.trod_struct Go.Proofs.Tryd.underlying25 h
  rw [cells25] at hl
  have hxs : xs.length = 8 := hxs
  match cs, hl with
  | [c0, c1, c2, c3, c4, c5, c6, c7], _ =>
    have h0 : DataW.trod enc Go.Proofs.Tryd.prog w base sp held n 23 (([c0, c1, c2, c3, c4, c5, c6, c7].drop 0).take (Go.Proofs.Tryd.prog.cellsOf 23)) = xs[0]? := hf 0 _ rfl
    rw [cells23] at h0
    replace h0 : DataW.trod enc Go.Proofs.Tryd.prog w base sp held n 23 [c0] = xs[0]? := h0
    have h1 : DataW.trod enc Go.Proofs.Tryd.prog w base sp held n 3 (([c0, c1, c2, c3, c4, c5, c6, c7].drop 1).take (Go.Proofs.Tryd.prog.cellsOf 3)) = xs[1]? := hf 1 _ rfl
    rw [cells3] at h1
    replace h1 : DataW.trod enc Go.Proofs.Tryd.prog w base sp held n 3 [c1] = xs[1]? := h1
    have h2 : DataW.trod enc Go.Proofs.Tryd.prog w base sp held n 3 (([c0, c1, c2, c3, c4, c5, c6, c7].drop 2).take (Go.Proofs.Tryd.prog.cellsOf 3)) = xs[2]? := hf 2 _ rfl
    rw [cells3] at h2
    replace h2 : DataW.trod enc Go.Proofs.Tryd.prog w base sp held n 3 [c2] = xs[2]? := h2
    have h3 : DataW.trod enc Go.Proofs.Tryd.prog w base sp held n 3 (([c0, c1, c2, c3, c4, c5, c6, c7].drop 3).take (Go.Proofs.Tryd.prog.cellsOf 3)) = xs[3]? := hf 3 _ rfl
    rw [cells3] at h3
    replace h3 : DataW.trod enc Go.Proofs.Tryd.prog w base sp held n 3 [c3] = xs[3]? := h3
    have h4 : DataW.trod enc Go.Proofs.Tryd.prog w base sp held n 3 (([c0, c1, c2, c3, c4, c5, c6, c7].drop 4).take (Go.Proofs.Tryd.prog.cellsOf 3)) = xs[4]? := hf 4 _ rfl
    rw [cells3] at h4
    replace h4 : DataW.trod enc Go.Proofs.Tryd.prog w base sp held n 3 [c4] = xs[4]? := h4
    have h5 : DataW.trod enc Go.Proofs.Tryd.prog w base sp held n 3 (([c0, c1, c2, c3, c4, c5, c6, c7].drop 5).take (Go.Proofs.Tryd.prog.cellsOf 3)) = xs[5]? := hf 5 _ rfl
    rw [cells3] at h5
    replace h5 : DataW.trod enc Go.Proofs.Tryd.prog w base sp held n 3 [c5] = xs[5]? := h5
    have h6 : DataW.trod enc Go.Proofs.Tryd.prog w base sp held n 3 (([c0, c1, c2, c3, c4, c5, c6, c7].drop 6).take (Go.Proofs.Tryd.prog.cellsOf 3)) = xs[6]? := hf 6 _ rfl
    rw [cells3] at h6
    replace h6 : DataW.trod enc Go.Proofs.Tryd.prog w base sp held n 3 [c6] = xs[6]? := h6
    have h7 : DataW.trod enc Go.Proofs.Tryd.prog w base sp held n 3 (([c0, c1, c2, c3, c4, c5, c6, c7].drop 7).take (Go.Proofs.Tryd.prog.cellsOf 3)) = xs[7]? := hf 7 _ rfl
    rw [cells3] at h7
    replace h7 : DataW.trod enc Go.Proofs.Tryd.prog w base sp held n 3 [c7] = xs[7]? := h7
    rw [List.getElem?_eq_getElem (by omega)] at h0
    obtain ⟨a0, e0, _, hwf⟩ := DataW.trod_int Go.Proofs.Tryd.underlying23 h0
    injection e0 with e0 _
    subst e0
    have hr0 : 0 ≤ a0 ∧ a0 ≤ 4294967295 := by simpa [Lit.wf, IntKind.min, IntKind.max, IntKind.signed, IntKind.bits] using hwf
    obtain ⟨a1, rfl, k1⟩ := open_i64 (by omega) h1
    obtain ⟨a2, rfl, k2⟩ := open_i64 (by omega) h2
    obtain ⟨a3, rfl, k3⟩ := open_i64 (by omega) h3
    obtain ⟨a4, rfl, k4⟩ := open_i64 (by omega) h4
    obtain ⟨a5, rfl, k5⟩ := open_i64 (by omega) h5
    obtain ⟨a6, rfl, k6⟩ := open_i64 (by omega) h6
    obtain ⟨a7, rfl, k7⟩ := open_i64 (by omega) h7
    refine ⟨[a0, a1, a2, a3, a4, a5, a6, a7], ⟨rfl, hr0, fun n hn => ?_⟩, rfl⟩
    simp only [List.mem_cons, List.mem_nil_iff, or_false] at hn
    rcases hn with rfl | rfl | rfl | rfl | rfl | rfl | rfl | rfl
    · unfold InR; omega
    all_goals assumption
/-- what an operation reads as -/
def OpR (w : World) (z : Zt) (d : DataW H) : Prop := InR z.1.2.1 ∧ Rs w z.2.1 (byteL z.1.2.2) ∧ z.1.2.2.length ≤ Rows.uptoBulk d
set_option maxRecDepth 100000 in
theorem open_op (n : Nat) (cs : List Value) (y : DataW H × List MemPlace) (h : DataW.trod enc Go.Proofs.Tryd.prog w base sp held n 36 cs = some y) : ∃ z : Zt, cs = zc z ∧ OpR w z y.1 := by
  obtain ⟨xs, n, rfl, rfl, hl, hxs, hf⟩ := DataW.trod_struct Go.Proofs.Tryd.underlying36 h
  rw [cells36] at hl
  have hxs : xs.length = 3 := hxs
  match cs, hl, xs, hxs with
  | [c0, c1, c2], _, [x0, x1, x2], _ =>
    have h0 : DataW.trod enc Go.Proofs.Tryd.prog w base sp held n 3 (([c0, c1, c2].drop 0).take (Go.Proofs.Tryd.prog.cellsOf 3)) = [x0, x1, x2][0]? := hf 0 _ rfl
    rw [cells3] at h0
    replace h0 : DataW.trod enc Go.Proofs.Tryd.prog w base sp held n 3 [c0] = [x0, x1, x2][0]? := h0
    have h1 : DataW.trod enc Go.Proofs.Tryd.prog w base sp held n 3 (([c0, c1, c2].drop 1).take (Go.Proofs.Tryd.prog.cellsOf 3)) = [x0, x1, x2][1]? := hf 1 _ rfl
    rw [cells3] at h1
    replace h1 : DataW.trod enc Go.Proofs.Tryd.prog w base sp held n 3 [c1] = [x0, x1, x2][1]? := h1
    have h2 : DataW.trod enc Go.Proofs.Tryd.prog w base sp held n 34 (([c0, c1, c2].drop 2).take (Go.Proofs.Tryd.prog.cellsOf 34)) = [x0, x1, x2][2]? := hf 2 _ rfl
    rw [cells34] at h2
    replace h2 : DataW.trod enc Go.Proofs.Tryd.prog w base sp held n 34 [c2] = [x0, x1, x2][2]? := h2
    obtain ⟨a0, rfl, k0⟩ := open_i64 (xs := [x0, x1, x2]) (by simp) h0
    obtain ⟨a1, rfl, k1⟩ := open_i64 (xs := [x0, x1, x2]) (by simp) h1
    obtain ⟨a, l, c, e, hr, hd⟩ := open_bytes (x := x2) Go.Proofs.Tryd.underlying34 Go.Proofs.Tryd.underlying5 cells5 h2
    injection e with e _
    subst e
    refine ⟨((a0, a1, l), a, c), rfl, k1, hr, ?_⟩
    simp only [Rows.uptoBulk, List.map_cons, List.map_nil, Rows.uptoBulkAll]
    rcases hd with ⟨hd, rfl⟩ | ⟨ds, sp, hd, hdl⟩
    · simp
    · have := bulk_length ds
      rw [hd]
      simp only [Rows.uptoBulk]
      omega
end
theorem sum_len {H : Type} {w : World} : ∀ {zs : List Zt} {ds : List (DataW H)}, All2 (OpR w) zs ds → (zs.map fun z => z.1.2.2.length).sum ≤ Rows.uptoBulkAll ds
  | [], [], _ => by simp
  | z :: zs, d :: ds, h => by
    have h1 := sum_len h.2
    have h2 := h.1.2.2
    simp only [List.map_cons, List.sum_cons, Rows.uptoBulkAll]
    omega
  | [], _ :: _, h => h.elim
  | _ :: _, [], h => h.elim
theorem lines_len : ∀ zs : List Zt, (∀ z ∈ zs, InR z.1.2.1) → ((zs.map (·.1)).flatMap lineN).length ≤ 2 * (zs.map fun z => z.1.2.2.length).sum + 41 * zs.length
  | [], _ => by simp
  | z :: zs, h => by
    have h1 := lines_len zs (fun y hy => h y (by simp [hy]))
    have h2 := lineP_length z.1 (h z (by simp))
    simp only [List.map_cons, List.flatMap_cons, List.length_append, lineN, List.sum_cons, List.length_cons, List.length_nil]
    omega
theorem mem_len : ∀ (zs : List Zt) (z : Zt), z ∈ zs → z.1.2.2.length ≤ (zs.map fun z => z.1.2.2.length).sum
  | [], z, h => by simp at h
  | y :: zs, z, h => by
    simp only [List.map_cons, List.sum_cons]
    rcases List.mem_cons.1 h with rfl | h
    · omega
    · have := mem_len zs z h; omega
namespace scriptBack
set_option maxRecDepth 100000 in
theorem contract (H : Type) (enc : TypeId × Value → H) (W : World) (base : Nat) (args : Array Value) (ds gs : List (DataW H)) (before : List MemPlace)
    (hval : ∀ (j : Nat) t v, Go.Proofs.Tryd.f4.params[j]? = some t → args[j]? = some v → Value.okWide Go.Proofs.Tryd.prog W .any base t v)
    (hW : DataW.Whole enc Go.Proofs.Tryd.prog Go.Proofs.Tryd.f4.params.toList Rows.scriptBackSpec.vars false W args.toList ds gs before) (hk : Rows.uptoSmall H (ds ++ gs) = true) (hL : laidMetH Go.Proofs.Tryd.prog Rows.scriptBackUptoRow.laid W) (hS : W.ShapedOpen Go.Proofs.Tryd.prog) :
    Calls Go.Proofs.Tryd.prog 4 args W fun e W' => ∃ v, e = .returned v ∧ Rows.scriptBackSpec.post enc Go.Proofs.Tryd.prog Go.Proofs.Tryd.f4 false true false false W args v W' := by
  have hW' := hW
  obtain ⟨p, q, hA0, hV, rfl, hfz, hnd⟩ := hW
  have hA : DataW.TrodAll enc Go.Proofs.Tryd.prog W 0 (fun _ => true) true Go.Proofs.Tryd.f4.params.toList args.toList ds p := hA0
  rw [Go.Proofs.Tryd.params4] at hA hval
  obtain ⟨v0, vs0, d0, ds0, p0, q0, hargs, rfl, rfl, h0, r0⟩ := trodAll_cons hA
  obtain ⟨v1, vs1, d1, ds1, p1, q1, rfl, rfl, rfl, h1, r1⟩ := trodAll_cons r0
  obtain ⟨v2, vs2, d2, ds2, p2, q2, rfl, rfl, rfl, h2, r2⟩ := trodAll_cons r1
  obtain ⟨rfl, rfl, rfl⟩ := trodAll_nil r2
  obtain rfl : args = #[v0, v1, v2] := by cases args; simp_all
  obtain ⟨rfl, rfl⟩ := trodVars_none hV
  obtain ⟨s2, rfl, rfl, rfl, hs2⟩ := open_string Go.Proofs.Tryd.underlying9 (hval 2 9 v2 rfl rfl) h2
  have ho0 := hval 0 25 v0 rfl rfl
  have ho1 := hval 1 26 v1 rfl rfl
  clear hA0
  simp only [List.append_nil] at hk
  obtain ⟨cs0, rfl⟩ : ∃ cs, v0 = .agg cs := by
    unfold Value.okWide at ho0
    rw [Go.Proofs.Tryd.underlying25] at ho0
    obtain ⟨cs, rfl, _⟩ := ho0
    exact ⟨cs, rfl⟩
  obtain ⟨f0, hf0⟩ := h0
  obtain ⟨ns, hns, hcs⟩ := open_cfg hf0
  obtain rfl : cs0 = (headCs ns).toArray := by
    have : cs0.toList = headCs ns := hcs
    rw [← this]
  have hv1 : v1.cells.toList = [v1] := by
    unfold Value.okWide at ho1
    rw [Go.Proofs.Tryd.underlying26] at ho1
    cases v1 <;> first | rfl | (exfalso; simp [Cell.okWide, Cell.ok, Go.Proofs.Tryd.underlying26] at ho1)
  obtain ⟨f1, hf1⟩ := h1
  rw [hv1] at hf1
  obtain ⟨a, zs, c, e1, hr, hd⟩ := open_slice Go.Proofs.Tryd.underlying26 cells36 zc (fun _ => rfl) (OpR W) open_op hf1
  injection e1 with e1 _
  subst e1
  have hb : Rows.uptoBulk d1 + s2.data.toList.length ≤ 1048576 := by
    have := of_decide_eq_true hk
    simp only [Rows.uptoBulkAll, Rows.uptoBulk] at this
    omega
  obtain ⟨hsum, hall⟩ : (zs.map fun z => z.1.2.2.length).sum ≤ Rows.uptoBulk d1 ∧ zs.length ≤ Rows.uptoBulk d1 ∧ ∀ (i : Nat) (z : Zt), zs[i]? = some z → InR z.1.2.1 ∧ Rs W z.2.1 (byteL z.1.2.2) := by
    rcases hd with ⟨_, rfl⟩ | ⟨es, sp, rfl, hd⟩
    · simp
    · have h1 := sum_len hd
      have h2 := bulk_length es
      have h3 : zs.length = es.length := hd.length
      refine ⟨by simp only [Rows.uptoBulk]; omega, by simp only [Rows.uptoBulk]; omega, fun i z hz => ?_⟩
      obtain ⟨d, _, hR⟩ := hd.get i z hz
      exact ⟨hR.1, hR.2.1⟩
  have hn : ∀ z ∈ zs, InR z.1.2.1 := fun z hz => by
    obtain ⟨i, hi⟩ := List.getElem?_of_mem hz
    exact (hall.2 i z hi).1
  have hz : ItsOk W zs := fun i z hi => by
    refine ⟨(hall.2 i z hi).1, ?_, (hall.2 i z hi).2⟩
    have := mem_len zs z (List.mem_of_getElem? hi)
    omega
  have hp : (printL ns (zs.map (·.1))).2 = 0 → (printL ns (zs.map (·.1))).1.length ≤ 4000000 := fun h => by
    obtain ⟨h1, h2, h3⟩ := printL_ok h
    have h4 := headT_length ns hns
    have h5 := lines_len zs hn
    rw [List.length_map] at h1
    rw [h3]
    simp only [List.length_append, List.length_singleton]
    omega
  have hwalk := l_ScriptBack ns hns zs a c s2.data.toList (by omega) W (g_of hL hS) (by omega) hr hz hp
  rw [← Go.X.S_list] at hwalk
  refine Calls.mono hwalk fun e W' ⟨he, hg⟩ => ?_
  subst he
  refine ⟨_, rfl, law_end laidOut (fun t ht => ?_) hW' rfl rfl hg (by kernel_rfl) Go.Proofs.Tryd.underlying4⟩
  rw [Go.Proofs.Tryd.params4] at ht
  simp only [List.mem_cons, List.mem_nil_iff, or_false] at ht
  rcases ht with rfl | rfl | rfl
  · exact ⟨by kernel_rfl, of_decide_eq_true (by kernel_rfl)⟩
  · exact ⟨by kernel_rfl, of_decide_eq_true (by kernel_rfl)⟩
  · exact ⟨by kernel_rfl, of_decide_eq_true (by kernel_rfl)⟩
end scriptBack
end Go.Proofs.YtinbfghmnfldjaaDoor
namespace Go.Proofs.YtinbfghmnfldjaaDoor
open Go Go.ChangeMaps Go.ChangeShapes Go.WideShapes Go.ChangeAt Go.RowKit
theorem own : ownKnob Go.Proofs.Tryd.prog.godebug = none := by kernel_rfl
/-- how many blocks the settled world has -/
noncomputable abbrev low : Nat := (World.holding Go.Proofs.Tryd.prog default ⟨#[], #[], []⟩).heap.size
abbrev rngS : ByteArray := ⟨#[118, 97, 108, 117, 101, 32, 111, 117, 116, 32, 111, 102, 32, 114, 97, 110, 103, 101]⟩
abbrev synS : ByteArray := ⟨#[105, 110, 118, 97, 108, 105, 100, 32, 115, 121, 110, 116, 97, 120]⟩
def dB32 : List Int := [0, 1, 28, 2, 29, 14, 24, 3, 30, 22, 20, 15, 25, 17, 4, 8, 31, 27, 13, 23, 21, 19, 16, 7, 26, 12, 18, 6, 11, 5, 10, 9]
def dB64 : List Int := [0, 1, 56, 2, 57, 49, 28, 3, 61, 58, 42, 50, 38, 29, 17, 4, 62, 47, 59, 36, 45, 43, 51, 22, 53, 39, 33, 30, 24, 18, 12, 5, 63, 55, 48, 27, 60, 41, 37, 16, 46, 35, 44, 21, 52, 32, 23, 11, 54, 26, 40, 15, 34, 20, 31, 10, 25, 14, 19, 9, 13, 8, 7, 6]
def acc : List Int := [128, 191, 160, 191, 128, 159, 144, 191, 128, 143, 0, 0, 0, 0, 0, 0, 0, 0, 0, 0, 0, 0, 0, 0, 0, 0, 0, 0, 0, 0, 0, 0]
/-- a world that holds what the row lists -/
noncomputable def laidWorld (os : Os) : World :=
  let w0 := World.holding Go.Proofs.Tryd.prog os ⟨#[.cells #[.string synS] 125, .cells #[.string rngS] 125], #[], []⟩
  let put (h : Array Obj) (g : Nat) (cs : Array Value) : Array Obj := h.modify g fun
    | .cells _ t frozen => .cells cs t frozen
    | o => o
  let h0 := put w0.heap 0 (Go.X.strL Go.Scr.words).toArray
  let h2 := put h0 2 #[.iface 123 (.pointer (some ⟨low, 0, none⟩))]
  let h3 := put h2 3 #[.iface 123 (.pointer (some ⟨low + 1, 0, none⟩))]
  let h4 := put h3 4 (Lib.pow10Tab.map fun z => Value.int .u64 z).toArray
  let h5 := put h4 5 (Lib.firstTab.map fun z => Value.int .u8 z).toArray
  let h6 := put h5 6 (acc.map fun z => Value.int .u8 z).toArray
  let h7 := put h6 7 (dB32.map fun z => Value.int .u8 z).toArray
  let h8 := put h7 8 (dB64.map fun z => Value.int .u8 z).toArray
  { w0 with heap := h8 }
set_option maxRecDepth 100000 in
theorem laid_met (os : Os) (args : Array Value) : laidMet Go.Proofs.Tryd.prog Rows.scriptParsesUptoRow.laid ((laidWorld os).forCall (fun _ _ => 0) ⟨#[], args, []⟩).memory :=
  laidMet_of_run' 8 (by kernel_rfl) (by kernel_rfl)
end Go.Proofs.YtinbfghmnfldjaaDoor
