/- For every Piece the law ReplyNone returns true, and the Piece reads behind the call as it read before; no condition. -/
import Derived.Test.YtcbhcdcobgdddaaGreatRows
import Derived.WalkKit
import Derived.ChangeMaps5
import Derived.Deep.DeepHandedRow
import Derived.JoinedCond
import Derived.Test.YtcbhcdcobgdddaaGreatX5
set_option linter.unusedSimpArgs false
set_option linter.unusedVariables false
namespace Go.Proofs.YtcbhcdcobgdddaaGreat
open Go Go.X Go.Rep Go.ChangeMaps Go.ChangeShapes Go.WideShapes Go.ChangeAt Go.RowKit
theorem ownKn : ownKnob Go.Proofs.Tryz.prog.godebug = none := by kernel_rfl
theorem cells4 : Go.Proofs.Tryz.prog.cellsOf 4 = 1 := by kernel_rfl
theorem cells22 : Go.Proofs.Tryz.prog.cellsOf 22 = 1 := by kernel_rfl
theorem cells5 : Go.Proofs.Tryz.prog.cellsOf 5 = 1 := by kernel_rfl
theorem cells31 : Go.Proofs.Tryz.prog.cellsOf 31 = 1 := by kernel_rfl
theorem cells33 : Go.Proofs.Tryz.prog.cellsOf 33 = 5 := by kernel_rfl
theorem laidOut : laidOutB Go.Proofs.Tryz.prog = true := by kernel_rfl
section
variable {H : Type} {enc : TypeId × Value → H} {w : World} {base : Nat} {sp : Nat → Bool} {held : Bool}
theorem open_u32 {n : Nat} {c : Value} {xs : List (DataW H × List MemPlace)} {i : Nat} (hi : i < xs.length) (h : DataW.trod enc Go.Proofs.Tryz.prog w base sp held n 22 [c] = xs[i]?) : ∃ v, c = .int .u32 v ∧ 0 ≤ v ∧ v < 4294967296 := by
  rw [List.getElem?_eq_getElem hi] at h
  obtain ⟨v, hv, _, hwf⟩ := DataW.trod_int Go.Proofs.Tryz.underlying22 h
  injection hv with hv _
  have : 0 ≤ v ∧ v ≤ 4294967295 := by simpa [Lit.wf, IntKind.min, IntKind.max, IntKind.signed, IntKind.bits] using hwf
  exact ⟨v, hv, by omega, by omega⟩
theorem open_bool1 {n : Nat} {c : Value} {xs : List (DataW H × List MemPlace)} {i : Nat} (hi : i < xs.length) (h : DataW.trod enc Go.Proofs.Tryz.prog w base sp held n 4 [c] = xs[i]?) : ∃ v, c = .bool v := by
  rw [List.getElem?_eq_getElem hi] at h
  obtain ⟨v, hv, _⟩ := DataW.trod_bool Go.Proofs.Tryz.underlying4 h
  injection hv with hv _
  exact ⟨v, hv⟩
set_option maxRecDepth 100000 in
theorem open_piece {fuel : Nat} {cs : List Value} {x : DataW H × List MemPlace} (h : DataW.trod enc Go.Proofs.Tryz.prog w base sp held fuel 33 cs = some x) : ∃ (p : Pc) (a : Option Addr) (c : Nat), cs = pcCs p a c ∧ PcT p ∧ Rs w a (byteL p.body) := by
  obtain ⟨xs, n, rfl, rfl, hl, hxs, hf⟩ := DataW.trod_struct Go.Proofs.Tryz.underlying33 h
  rw [cells33] at hl
  have hxs : xs.length = 5 := hxs
  match cs, hl, xs, hxs with
  | [c0, c1, c2, c3, c4], _, [x0, x1, x2, x3, x4], _ =>
    have h0 : DataW.trod enc Go.Proofs.Tryz.prog w base sp held n 4 (([c0, c1, c2, c3, c4].drop 0).take (Go.Proofs.Tryz.prog.cellsOf 4)) = [x0, x1, x2, x3, x4][0]? := hf 0 _ rfl
    rw [cells4] at h0
    replace h0 : DataW.trod enc Go.Proofs.Tryz.prog w base sp held n 4 [c0] = [x0, x1, x2, x3, x4][0]? := h0
    have h1 : DataW.trod enc Go.Proofs.Tryz.prog w base sp held n 22 (([c0, c1, c2, c3, c4].drop 1).take (Go.Proofs.Tryz.prog.cellsOf 22)) = [x0, x1, x2, x3, x4][1]? := hf 1 _ rfl
    rw [cells22] at h1
    replace h1 : DataW.trod enc Go.Proofs.Tryz.prog w base sp held n 22 [c1] = [x0, x1, x2, x3, x4][1]? := h1
    have h2 : DataW.trod enc Go.Proofs.Tryz.prog w base sp held n 4 (([c0, c1, c2, c3, c4].drop 2).take (Go.Proofs.Tryz.prog.cellsOf 4)) = [x0, x1, x2, x3, x4][2]? := hf 2 _ rfl
    rw [cells4] at h2
    replace h2 : DataW.trod enc Go.Proofs.Tryz.prog w base sp held n 4 [c2] = [x0, x1, x2, x3, x4][2]? := h2
    have h3 : DataW.trod enc Go.Proofs.Tryz.prog w base sp held n 22 (([c0, c1, c2, c3, c4].drop 3).take (Go.Proofs.Tryz.prog.cellsOf 22)) = [x0, x1, x2, x3, x4][3]? := hf 3 _ rfl
    rw [cells22] at h3
    replace h3 : DataW.trod enc Go.Proofs.Tryz.prog w base sp held n 22 [c3] = [x0, x1, x2, x3, x4][3]? := h3
    have h4 : DataW.trod enc Go.Proofs.Tryz.prog w base sp held n 31 (([c0, c1, c2, c3, c4].drop 4).take (Go.Proofs.Tryz.prog.cellsOf 31)) = [x0, x1, x2, x3, x4][4]? := hf 4 _ rfl
    rw [cells31] at h4
    replace h4 : DataW.trod enc Go.Proofs.Tryz.prog w base sp held n 31 [c4] = [x0, x1, x2, x3, x4][4]? := h4
    obtain ⟨b0, rfl⟩ := open_bool1 (xs := [x0, x1, x2, x3, x4]) (by simp) h0
    obtain ⟨n0, rfl, k1⟩ := open_u32 (xs := [x0, x1, x2, x3, x4]) (by simp) h1
    obtain ⟨b1, rfl⟩ := open_bool1 (xs := [x0, x1, x2, x3, x4]) (by simp) h2
    obtain ⟨n1, rfl, k3⟩ := open_u32 (xs := [x0, x1, x2, x3, x4]) (by simp) h3
    obtain ⟨a, l, c, e, hr, _⟩ := open_bytes (x := x4) Go.Proofs.Tryz.underlying31 Go.Proofs.Tryz.underlying5 cells5 h4
    injection e with e _
    subst e
    exact ⟨⟨b0, n0, b1, n1, l⟩, a, c, rfl, ⟨k1, k3⟩, hr⟩
end
namespace replyNone
set_option maxRecDepth 100000 in
theorem contract (H : Type) (enc : TypeId × Value → H) (W : World) (base : Nat) (args : Array Value) (ds gs : List (DataW H)) (before : List MemPlace)
    (hval : ∀ (j : Nat) t v, Go.Proofs.Tryz.f5.params[j]? = some t → args[j]? = some v → Value.okWide Go.Proofs.Tryz.prog W .any base t v)
    (hW : DataW.Whole enc Go.Proofs.Tryz.prog Go.Proofs.Tryz.f5.params.toList Rows.replyNoneSpec.vars false W args.toList ds gs before) :
    Calls Go.Proofs.Tryz.prog 5 args W fun e W' => ∃ v, e = .returned v ∧ Rows.replyNoneSpec.post enc Go.Proofs.Tryz.prog Go.Proofs.Tryz.f5 false true false false W args v W' := by
  have hW' := hW
  obtain ⟨p, q, hA0, hV, rfl, hfz, hnd⟩ := hW
  have hA : DataW.TrodAll enc Go.Proofs.Tryz.prog W 0 (fun _ => true) true Go.Proofs.Tryz.f5.params.toList args.toList ds p := hA0
  rw [Go.Proofs.Tryz.params5] at hA hval
  obtain ⟨v0, vs0, d0, ds0, p0, q0, hargs, rfl, rfl, h0, r0⟩ := trodAll_cons hA
  obtain ⟨rfl, rfl, rfl⟩ := trodAll_nil r0
  obtain rfl : args = #[v0] := by cases args; simp_all
  obtain ⟨rfl, rfl⟩ := trodVars_none hV
  have ho0 := hval 0 33 v0 rfl rfl
  clear hA0
  obtain ⟨cs0, rfl⟩ : ∃ cs, v0 = .agg cs := by
    unfold Value.okWide at ho0
    rw [Go.Proofs.Tryz.underlying33] at ho0
    obtain ⟨cs, rfl, _⟩ := ho0
    exact ⟨cs, rfl⟩
  obtain ⟨f0, hf0⟩ := h0
  obtain ⟨pc, a, c, hcs, hT, hR⟩ := open_piece hf0
  obtain rfl : cs0 = (pcCs pc a c).toArray := by
    have : cs0.toList = pcCs pc a c := hcs
    rw [← this]
  have hwalk := l_ReplyNone pc a c hT W hR
  refine Calls.mono hwalk fun e W' hpost => ?_
  obtain ⟨v, Γ', rfl, ⟨Δ, hwk, rfl, rfl⟩, hs⟩ := hpost
  have hkeep : Keep (fun _ => False) W W' := hs.keep.mono fun b hb _ => by obtain ⟨c, hc, _⟩ := ‹fps [] b›; simp at hc
  refine ⟨_, rfl, law_end laidOut (fun t ht => ?_) hW' rfl rfl hkeep (by kernel_rfl) Go.Proofs.Tryz.underlying4⟩
  rw [Go.Proofs.Tryz.params5] at ht
  simp only [List.mem_cons, List.mem_nil_iff, or_false] at ht
  subst ht
  exact ⟨by kernel_rfl, of_decide_eq_true (by kernel_rfl)⟩
abbrev wit : Array Value := #[.agg #[.bool false, .int .u32 0, .bool false, .int .u32 0, .slice none 0 0]]
theorem reads (os : Os) {H : Type} (enc : TypeId × Value → H) : ∃ places, DataW.whole enc Go.Proofs.Tryz.prog ((World.holding Go.Proofs.Tryz.prog os ⟨#[], #[], []⟩).forCall (fun _ _ => 0) ⟨#[], wit, []⟩).memory Go.Proofs.Tryz.f5.params.toList Rows.replyNoneSpec.vars false wit.toList 8 = some ([.agg [.lit (.bool false), .lit (.int .u32 0), .lit (.bool false), .lit (.int .u32 0), .nil]], [], places) :=
  ⟨[], by kernel_rfl⟩
set_option maxRecDepth 100000 in
theorem lifted (os : Os) (started : os.Started) (H : Type) (enc : TypeId × Value → H) (F : Stop.Interp) :
    ReturnsInHanded {} Go.Proofs.Tryz.checked os 5 .any ((OpenSpec.ofChange Rows.replyNoneSpec).preRow enc Go.Proofs.Tryz.prog Go.Proofs.Tryz.f5 Rows.replyNoneRow.domain false Rows.replyNoneRow.laid) (((OpenSpec.ofChange Rows.replyNoneSpec).at F).post enc Go.Proofs.Tryz.prog Go.Proofs.Tryz.f5 false true false false) := by
  obtain ⟨places, hx⟩ := reads os enc
  refine returnsInHanded_of_row (C := Go.Proofs.Tryz.checked) (s := OpenSpec.ofChange Rows.replyNoneSpec) ownKn started (by kernel_rfl) Go.Proofs.Tryz.func5
    (witness_row_at (enc := enc) (C := Go.Proofs.Tryz.checked) false (World.holding Go.Proofs.Tryz.prog os ⟨#[], #[], []⟩) wit rfl (by kernel_rfl) (by kernel_rfl) (by kernel_rfl)
      (OpenSpec.preRow_of_cond 8 hx (by kernel_rfl) (fun k hk => by cases hk) (by kernel_rfl) (laidMet_nil _ _))) ?_
  intro W base args ds gs before hval hW _ hcond _ hL hS _
  exact contract H enc W base args ds gs before hval hW
theorem said : Rows.ReplyNoneSaid :=
  OpenClaim.holds_of_cond 5 Go.Proofs.Tryz.f5 rfl rfl rfl rfl rfl rfl rfl ⟨rfl, rfl, rfl, rfl, rfl⟩ rfl rfl rfl rfl rfl (by kernel_rfl) Go.Proofs.Tryz.func5 (by kernel_rfl)
    (of_decide_eq_true (by kernel_rfl)) (by unfold Func.isWrapper; first | (rw [if_pos (by decide +kernel)]; kernel_rfl) | (rw [if_neg (by decide +kernel)]; exact ⟨rfl, rfl⟩))
    (fun os started H enc _ F => by rw [OpenClaim.pre_eq_preRow]; exact lifted os started H enc F)
end replyNone
end Go.Proofs.YtcbhcdcobgdddaaGreat
