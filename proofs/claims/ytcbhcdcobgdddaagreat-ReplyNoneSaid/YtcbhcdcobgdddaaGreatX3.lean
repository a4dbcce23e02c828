/- Lemmas for the claim: a calculus of steps over the given program, plain laws, and the contracts of its functions. -/
import Derived.Test.YtcbhcdcobgdddaaGreatProg
import Derived.Shelf.Abstract
import Derived.Test.YtcbhcdcobgdddaaGreatX2
set_option linter.unusedSimpArgs false
set_option linter.unusedVariables false
set_option maxHeartbeats 1000000
namespace Go.Proofs.YtcbhcdcobgdddaaGreat
open Go Go.X Go.Rep Go.Shelf
theorem fl46_1 : Fld Go.Proofs.Tryz.prog 46 1 1 := ⟨_, _, Go.Proofs.Tryz.underlying46, rfl, rfl, _, (by kernel_rfl : (Go.Proofs.Tryz.prog.info? 22).map (·.size) = some 1), by decide⟩
theorem litH (k : Int) (hk : 0 ≤ k ∧ k ≤ 255) (n : Nat) (hn : n ≤ 400) : cellsL [Value.int .u8 (IntKind.u8.wrap k), Value.int .u8 (IntKind.u8.wrap ((n : Int) / 4))] = byteL [UInt8.ofNat k.toNat, UInt8.ofNat (n / 4)] := by
  rw [u8_of k hk, u8_of ((n : Int) / 4) (by omega), show ((n : Int) / 4).toNat = n / 4 by omega]; rfl
theorem seg_form (s : Seg) (oa : Option Addr) (oc : Nat) (ba : Option Addr) (bc : Nat) (opt : List UInt8) (pa : Option Addr) (pc : Nat) (check : Nat) (hk : 0 ≤ s.kind ∧ s.kind ≤ 255) (hn : 0 ≤ s.num ∧ s.num < 4294967296) (ho : opt.length ≤ 400) (hb : s.body.length ≤ 65536) (hc : check < 65536) (w : World) (h1 : Rs w pa (byteL opt)) (h2 : Rs w ba (byteL s.body)) : Calls Go.Proofs.Tryz.prog 82 #[.agg (segCs s oa oc ba bc).toArray, .slice pa opt.length pc, .int .u16 check] w (Post w [] (RW fun r Γ => ∃ a1 c1, r = .slice a1 (formB s opt check).length c1 ∧ Γ = [own 5 1 a1 (formB s opt check).length c1 (byteL (formB s opt check))])) := by
  refine spec_of Go.Proofs.Tryz.func82 rfl Go.Proofs.Tryz.ntmps82 rfl (Holds.nil w) ?_
  change C _ _ _ _ _ _ _ ⟨[(0, _), (1, _), (2, _)], []⟩ _
  refine C.regS ?_
  refine L.bxa rfl ?_; intro b3
  refine L.yl (Y.as rfl) ?_
  refine L.nil ?_
  refine C.regS ?_
  refine L.al (zs := [.slice none 0 0]) zr167 rfl ?_; intro b7
  refine L.nil ?_
  refine C.regS ?_
  first | refine L.yl (Y.fa0 fl46_0 rfl) ?_ | refine L.yl (Y.fa fl46_0 rfl) ?_ | refine L.yl (Y.fas fl46_0 rfl (by simp; omega)) ?_
  refine L.yl (Y.ld sc3 rfl rfl) ?_
  refine L.yl (Y.cvW Go.Proofs.Tryz.underlying5 ⟨_, Go.Proofs.Tryz.underlying3⟩ rfl) ?_
  refine L.yl (Y.mv rfl) ?_
  refine L.yl (Y.len ⟨_, Go.Proofs.Tryz.underlying31⟩ rfl) ?_
  refine L.yl (Y.quo rfl rfl (by omega) (by omega)) ?_
  refine L.yl (Y.cvW Go.Proofs.Tryz.underlying5 ⟨_, Go.Proofs.Tryz.underlying3⟩ rfl) ?_
  refine L.bsl elt31 rfl rfl rfl (by decide) ?_; intro b15
  rw [litH _ hk _ ho]
  refine L.nil0 5 1 _ ?_
  refine L.callF (Γf := [blk b7 [.slice none 0 0] 167, own 5 1 none 0 0 []]) go128 rfl (fun w2 hw2 hf => oc_wAll b7 none 0 ([]) (some ⟨b15, 0, none⟩) [UInt8.ofNat s.kind.toNat, UInt8.ofNat (opt.length / 4)] 2 (by first | omega | (simp [beB_length]; done) | (simp [beB_length]; omega)) w2 hf (by have := hw2.rk_own (Γf := [blk b7 [.slice none 0 0] 167, own 5 1 none 0 0 []]) (Γr := _) (a := some ⟨b15, 0, none⟩) (t := 5) (sz := 1) (n := 2) (c := 2) (xs := byteL [UInt8.ofNat s.kind.toNat, UInt8.ofNat (opt.length / 4)]) inferInstance inferInstance; exact this)) ?_
  rintro _ _ ⟨rfl, a16, c16, rfl⟩
  refine L.apc ?_
  rw [List.nil_append]
  refine L.nil ?_
  refine C.regS ?_
  refine L.yl (Y.mv rfl) ?_
  refine L.callF (Γf := [blk b7 [.slice a16 ([UInt8.ofNat s.kind.toNat, UInt8.ofNat (opt.length / 4)]).length c16] 167, own 5 1 a16 ([UInt8.ofNat s.kind.toNat, UInt8.ofNat (opt.length / 4)]).length c16 (byteL ([UInt8.ofNat s.kind.toNat, UInt8.ofNat (opt.length / 4)]))]) go129 rfl (fun w2 hw2 hf => oc_wTwo b7 a16 c16 ([UInt8.ofNat s.kind.toNat, UInt8.ofNat (opt.length / 4)]) _ (by omega) (by first | omega | (simp [beB_length]; done) | (simp [beB_length]; omega)) w2 hf) ?_
  rintro _ _ ⟨rfl, a18, c18, rfl⟩
  refine L.apc ?_
  refine L.nil ?_
  refine C.regS ?_
  first | refine L.yl (Y.fa0 fl46_1 rfl) ?_ | refine L.yl (Y.fa fl46_1 rfl) ?_ | refine L.yl (Y.fas fl46_1 rfl (by simp; omega)) ?_
  refine L.yl (Y.ld sc22 rfl rfl) ?_
  rw [u32_of s.num hn]
  refine L.callF (Γf := [blk b7 [.slice a18 ([UInt8.ofNat s.kind.toNat, UInt8.ofNat (opt.length / 4)] ++ beB check 2).length c18] 167, own 5 1 a18 ([UInt8.ofNat s.kind.toNat, UInt8.ofNat (opt.length / 4)] ++ beB check 2).length c18 (byteL ([UInt8.ofNat s.kind.toNat, UInt8.ofNat (opt.length / 4)] ++ beB check 2))]) go130 rfl (fun w2 hw2 hf => oc_wFour b7 a18 c18 ([UInt8.ofNat s.kind.toNat, UInt8.ofNat (opt.length / 4)] ++ beB check 2) _ (by omega) (by first | omega | (simp [beB_length]; done) | (simp [beB_length]; omega)) w2 hf) ?_
  rintro _ _ ⟨rfl, a21, c21, rfl⟩
  refine L.apc ?_
  refine L.nil ?_
  refine C.regS ?_
  refine L.yl (Y.mv rfl) ?_
  refine L.callF (Γf := [blk b7 [.slice a21 ([UInt8.ofNat s.kind.toNat, UInt8.ofNat (opt.length / 4)] ++ beB check 2 ++ beB s.num.toNat 4).length c21] 167, own 5 1 a21 ([UInt8.ofNat s.kind.toNat, UInt8.ofNat (opt.length / 4)] ++ beB check 2 ++ beB s.num.toNat 4).length c21 (byteL ([UInt8.ofNat s.kind.toNat, UInt8.ofNat (opt.length / 4)] ++ beB check 2 ++ beB s.num.toNat 4))]) go128 rfl (fun w2 hw2 hf => oc_wAll b7 a21 c21 ([UInt8.ofNat s.kind.toNat, UInt8.ofNat (opt.length / 4)] ++ beB check 2 ++ beB s.num.toNat 4) pa opt pc (by first | omega | (simp [beB_length]; done) | (simp [beB_length]; omega)) w2 hf (hw2.rk_old (Γf := [blk b7 [.slice a21 ([UInt8.ofNat s.kind.toNat, UInt8.ofNat (opt.length / 4)] ++ beB check 2 ++ beB s.num.toNat 4).length c21] 167, own 5 1 a21 ([UInt8.ofNat s.kind.toNat, UInt8.ofNat (opt.length / 4)] ++ beB check 2 ++ beB s.num.toNat 4).length c21 (byteL ([UInt8.ofNat s.kind.toNat, UInt8.ofNat (opt.length / 4)] ++ beB check 2 ++ beB s.num.toNat 4))]) (Γr := _) inferInstance h1 (fun _ _ _ ⟨c, hc, _⟩ => by simp at hc))) ?_
  rintro _ _ ⟨rfl, a23, c23, rfl⟩
  refine L.apc ?_
  refine L.nil ?_
  refine C.regS ?_
  first | refine L.yl (Y.fa0 fl46_3 rfl) ?_ | refine L.yl (Y.fa fl46_3 rfl) ?_ | refine L.yl (Y.fas fl46_3 rfl (by simp; omega)) ?_
  refine L.yl (Y.ld sc31 rfl rfl) ?_
  refine L.callF (Γf := [blk b7 [.slice a23 ([UInt8.ofNat s.kind.toNat, UInt8.ofNat (opt.length / 4)] ++ beB check 2 ++ beB s.num.toNat 4 ++ opt).length c23] 167, own 5 1 a23 ([UInt8.ofNat s.kind.toNat, UInt8.ofNat (opt.length / 4)] ++ beB check 2 ++ beB s.num.toNat 4 ++ opt).length c23 (byteL ([UInt8.ofNat s.kind.toNat, UInt8.ofNat (opt.length / 4)] ++ beB check 2 ++ beB s.num.toNat 4 ++ opt))]) go128 rfl (fun w2 hw2 hf => oc_wAll b7 a23 c23 ([UInt8.ofNat s.kind.toNat, UInt8.ofNat (opt.length / 4)] ++ beB check 2 ++ beB s.num.toNat 4 ++ opt) ba s.body bc (by first | omega | (simp [beB_length]; done) | (simp [beB_length]; omega)) w2 hf (hw2.rk_old (Γf := [blk b7 [.slice a23 ([UInt8.ofNat s.kind.toNat, UInt8.ofNat (opt.length / 4)] ++ beB check 2 ++ beB s.num.toNat 4 ++ opt).length c23] 167, own 5 1 a23 ([UInt8.ofNat s.kind.toNat, UInt8.ofNat (opt.length / 4)] ++ beB check 2 ++ beB s.num.toNat 4 ++ opt).length c23 (byteL ([UInt8.ofNat s.kind.toNat, UInt8.ofNat (opt.length / 4)] ++ beB check 2 ++ beB s.num.toNat 4 ++ opt))]) (Γr := _) inferInstance h2 (fun _ _ _ ⟨c, hc, _⟩ => by simp at hc))) ?_
  rintro _ _ ⟨rfl, a26, c26, rfl⟩
  refine L.apc ?_
  refine L.nil ?_
  refine C.regS ?_
  refine L.callF (Γf := [blk b7 [.slice a26 ([UInt8.ofNat s.kind.toNat, UInt8.ofNat (opt.length / 4)] ++ beB check 2 ++ beB s.num.toNat 4 ++ opt ++ s.body).length c26] 167, own 5 1 a26 ([UInt8.ofNat s.kind.toNat, UInt8.ofNat (opt.length / 4)] ++ beB check 2 ++ beB s.num.toNat 4 ++ opt ++ s.body).length c26 (byteL ([UInt8.ofNat s.kind.toNat, UInt8.ofNat (opt.length / 4)] ++ beB check 2 ++ beB s.num.toNat 4 ++ opt ++ s.body))]) go127 rfl (fun w hw hf => oc_wBytes b7 a26 c26 ([UInt8.ofNat s.kind.toNat, UInt8.ofNat (opt.length / 4)] ++ beB check 2 ++ beB s.num.toNat 4 ++ opt ++ s.body) (by simp [beB_length]; omega) w hf) ?_
  rintro _ _ ⟨a27, c27, rfl, rfl⟩
  refine L.apc ?_
  refine L.yl (Y.as rfl) ?_
  refine L.nil ?_
  refine C.ret ?_
  refine FnPost.r1 Go.Proofs.Tryz.results82 rfl ?_
  have e : formB s opt check = [UInt8.ofNat s.kind.toNat, UInt8.ofNat (opt.length / 4)] ++ beB check 2 ++ beB s.num.toNat 4 ++ opt ++ s.body := rfl
  rw [e]
  exact ⟨[own 5 1 a27 ([UInt8.ofNat s.kind.toNat, UInt8.ofNat (opt.length / 4)] ++ beB check 2 ++ beB s.num.toNat 4 ++ opt ++ s.body).length c27 (byteL ([UInt8.ofNat s.kind.toNat, UInt8.ofNat (opt.length / 4)] ++ beB check 2 ++ beB s.num.toNat 4 ++ opt ++ s.body))], inferInstance, a27, c27, rfl, rfl⟩
end Go.Proofs.YtcbhcdcobgdddaaGreat
set_option maxHeartbeats 1000000
namespace Go.Proofs.YtcbhcdcobgdddaaGreat
open Go Go.X Go.Rep Go.Shelf
theorem go66 : Goes Go.Proofs.Tryz.prog 66 := enters_of Go.Proofs.Tryz.func66 (by kernel_rfl) rfl
theorem go81 : Goes Go.Proofs.Tryz.prog 81 := enters_of Go.Proofs.Tryz.func81 (by kernel_rfl) rfl
theorem go82 : Goes Go.Proofs.Tryz.prog 82 := enters_of Go.Proofs.Tryz.func82 (by kernel_rfl) rfl
theorem go83 : Goes Go.Proofs.Tryz.prog 83 := enters_of Go.Proofs.Tryz.func83 (by kernel_rfl) rfl
theorem seg_Encode (s : Seg) (oa : Option Addr) (oc : Nat) (ba : Option Addr) (bc : Nat) (ht : OptT s.opt) (hn : 0 ≤ s.num ∧ s.num < 4294967296) (hl : s.opt.blocks.length ≤ 65536) (hb : s.body.length ≤ 65536) (w : World) (h1 : Rs w oa (bkL s.opt.blocks)) (h2 : Rs w ba (byteL s.body)) : Calls Go.Proofs.Tryz.prog 31 #[.agg (segCs s oa oc ba bc).toArray] w (Post w [] (RW fun r Γ => ∃ a1 c1, r = .tuple #[.slice a1 (encS s).length c1, .int .i64 (chkS s)] ∧ Γ = [own 5 1 a1 (encS s).length c1 (byteL (encS s))])) := by
  refine spec_of Go.Proofs.Tryz.func31 rfl Go.Proofs.Tryz.ntmps31 rfl (Holds.nil w) ?_
  change C _ _ _ _ _ _ _ ⟨[(0, _)], []⟩ _
  refine C.regS ?_
  refine L.bxa rfl ?_; intro b1
  refine L.yl (Y.as rfl) ?_
  refine L.yl (Y.as rfl) ?_
  refine L.nil ?_
  refine C.seq ?_
  refine C.regS ?_
  refine L.yl (Y.lda (vs := [_, _, _, _, _, _, _, _, _, _, _]) ag46 rfl rfl) ?_
  refine L.callP go66 rfl (fun w hw => seg_Check s oa oc ba bc hl w) ?_
  refine L.yl (Y.as rfl) ?_
  refine L.nil ?_
  refine C.regS ?_
  refine L.yl (Y.mv rfl) ?_
  refine L.yl (Y.nei rfl rfl) ?_
  refine L.nil ?_
  refine C.condP rfl (fun hc1 => ?_) (fun hc1 => ?_)
  ·
    refine C.nil0 5 1 ?_
    refine C.regS ?_
    refine L.yl (Y.mv rfl) ?_
    refine L.yl (Y.as rfl) ?_
    refine L.yl (Y.as rfl) ?_
    refine L.nil ?_
    refine C.ret ?_
    refine Then.r ?_
    refine FnPost.r2 Go.Proofs.Tryz.results31 rfl rfl ?_
    have e : encS s = [] := if_neg hc1
    rw [e]
    exact ⟨[own 5 1 none 0 0 []], inferInstance, none, 0, rfl, rfl⟩
  ·
    have hc0 : chkS s = 0 := Decidable.not_not.1 hc1
    have hkd := chkS_kind hc0
    have hkr : 0 ≤ s.kind ∧ s.kind ≤ 255 := by omega
    have ho0 := chkS_opt hc0
    have hok := chkO_ok ho0
    have hel := encO_length hok
    have hsz := hok.size
    have hbd := chkS_body hc0
    have hsl := sumN_lt (formB s (encO s.opt) 0)
    refine C.skip ?_
    refine Then.n ?_
    refine C.regS ?_
    first | refine L.yl (Y.fa0 fl46_2 rfl) ?_ | refine L.yl (Y.fa fl46_2 rfl) ?_ | refine L.yl (Y.fas fl46_2 rfl (by simp; omega)) ?_
    refine L.yl (Y.lda (vs := [_, _, _, _, _, _, _, _]) ag44 rfl rfl) ?_
    refine L.callFW (Γf := []) go81 rfl (fun w2 hw2 hf => opt_Encode s.opt ht oa oc hl w2 (h1.keep hw2.keep (fun _ _ _ ⟨c, hc, _⟩ => by simp at hc))) ?_
    rintro _ _ ⟨a15, c15, rfl, rfl⟩
    refine L.apc ?_
    rw [show encR s.opt = encO s.opt from if_pos ho0, ho0]
    refine L.yl (Y.mv rfl) ?_
    refine L.yl (Y.extL rfl rfl) ?_
    refine L.yl (Y.extL rfl rfl) ?_
    refine L.yl (Y.as rfl) ?_
    refine L.yl (Y.as rfl) ?_
    refine L.nil ?_
    refine C.seq ?_
    refine C.regS ?_
    refine L.yl (Y.mv rfl) ?_
    refine L.yl (Y.nei rfl rfl) ?_
    refine L.nil ?_
    refine C.condF rfl (by omega) ?_
    refine C.skip ?_
    refine Then.n ?_
    refine C.drwFS (Δ := []) (.y 0 (.y 1 (.y 2 (.y 3 (.h 4 (.h 5 (.h 6 (.h 7 (.y 8 (.y 9 (.fin))))))))))) mixo (by kernel_rfl) ?_
    refine V.yl rfl (Y.lda (vs := [_, _, _, _, _, _, _, _, _, _, _]) ag46 rfl rfl) ?_
    refine V.yl rfl (Y.mv rfl) ?_
    refine V.yl rfl (Y.lda (vs := [_, _, _, _, _, _, _, _, _, _, _]) ag46 rfl rfl) ?_
    refine V.yl rfl (Y.mv rfl) ?_
    refine V.hv rfl ?_
    refine L.apc ?_
    refine L.callFW (Γf := []) go82 rfl (fun w2 hw2 hf => seg_form s oa oc ba bc (encO s.opt) a15 c15 0 hkr hn (by omega) hb (by omega) w2 (own_rs (hw2.holds.on (own 5 1 a15 (encO s.opt).length c15 (byteL (encO s.opt))) (by simp))) (h2.keep hw2.keep (fun _ _ _ ⟨c, hc, _⟩ => by simp at hc))) ?_
    rintro _ _ ⟨a25, c25, rfl, rfl⟩
    refine L.apc ?_
    refine L.nil ?_
    refine V.on ?_
    refine V.hv rfl ?_
    refine L.apc ?_
    refine L.bs1 elt175 rfl rfl ?_; intro b26
    refine L.nil ?_
    refine V.on ?_
    refine V.hv rfl ?_
    refine L.apc ?_
    refine L.callFW (Γf := [own 31 1 (some ⟨b26, 0, none⟩) 1 1 [.slice a25 (formB s (encO s.opt) 0).length c25]]) go83 rfl (fun w2 hw2 hf => sum_Check a25 (formB s (encO s.opt) 0) c25 (by simp [formB, headB, beB_length]; omega) _ _ w2 hf (by have := hw2.rk_own (Γf := [own 31 1 (some ⟨b26, 0, none⟩) 1 1 [.slice a25 (formB s (encO s.opt) 0).length c25]]) (Γr := _) (a := a25) (t := 5) (sz := 1) (n := (formB s (encO s.opt) 0).length) (c := c25) (xs := byteL (formB s (encO s.opt) 0)) inferInstance inferInstance; exact this)) ?_
    rintro _ _ ⟨rfl, rfl⟩
    refine L.apc ?_
    refine L.nil ?_
    refine V.on ?_
    refine V.hv rfl ?_
    refine L.apc ?_
    refine L.callFW (Γf := []) go82 rfl (fun w2 hw2 hf => seg_form s oa oc ba bc (encO s.opt) a15 c15 (65535 - sumN (formB s (encO s.opt) 0)) hkr hn (by omega) hb (by omega) w2 (own_rs (hw2.holds.on (own 5 1 a15 (encO s.opt).length c15 (byteL (encO s.opt))) (by simp))) (h2.keep hw2.keep (fun _ _ _ ⟨c, hc, _⟩ => by simp at hc))) ?_
    rintro _ _ ⟨a28, c28, rfl, rfl⟩
    refine L.apc ?_
    refine L.nil ?_
    refine V.on ?_
    refine V.yl rfl (Y.as rfl) ?_
    refine V.yl rfl (Y.as rfl) ?_
    refine V.fin ?_
    refine C.ret ?_
    refine FnPost.r2 Go.Proofs.Tryz.results31 rfl rfl ?_
    have e : encS s = formB s (encO s.opt) (65535 - sumN (formB s (encO s.opt) 0)) := if_pos hc0
    rw [e, hc0]
    exact ⟨[own 5 1 a28 (formB s (encO s.opt) (65535 - sumN (formB s (encO s.opt) 0))).length c28 (byteL (formB s (encO s.opt) (65535 - sumN (formB s (encO s.opt) 0))))], inferInstance, a28, c28, rfl, rfl⟩
end Go.Proofs.YtcbhcdcobgdddaaGreat
set_option maxHeartbeats 1000000
namespace Go.Proofs.YtcbhcdcobgdddaaGreat
open Go Go.X Go.Rep Go.Shelf
theorem bd46 : ∃ fs, Go.Proofs.Tryz.prog.underlying 46 = some (.struct fs) ∧ fs.toList.mapM (fun f => (Go.Proofs.Tryz.prog.info? f.type).map fun i => (f.offset, i.size)) = some [(0, 1), (1, 1), (2, 8), (10, 1)] := ⟨_, Go.Proofs.Tryz.underlying46, by kernel_rfl⟩
theorem go57 : Goes Go.Proofs.Tryz.prog 57 := enters_of Go.Proofs.Tryz.func57 (by kernel_rfl) rfl
theorem go64 : Goes Go.Proofs.Tryz.prog 64 := enters_of Go.Proofs.Tryz.func64 (by kernel_rfl) rfl
theorem go65 : Goes Go.Proofs.Tryz.prog 65 := enters_of Go.Proofs.Tryz.func65 (by kernel_rfl) rfl
theorem zr46 : Zr Go.Proofs.Tryz.prog 46 (.agg #[.int .i64 0, .int .u32 0, .int .i64 0, .bool false, .bool false, .int .u32 0, .int .u32 0, .bool false, .int .i64 0, .slice none 0 0, .slice none 0 0]) := by unfold Zr; kernel_rfl
theorem putO_len (o : Opts) (k : Nat) (b : List UInt8) (h : o.blocks.length ≤ 65536) (hb : b.length ≤ 65536) : (putO o k b).blocks.length ≤ 65536 := by
  unfold putO
  split
  · exact h
  · split
    · exact h
    · split
      · exact h
      · split
        · exact h
        · split
          · dsimp only; rw [blks_length]; omega
          · exact h
theorem parseG_len (b : List UInt8) (hb : b.length ≤ 65536) : ∀ (f i : Nat) (o : Opts), o.blocks.length ≤ 65536 → (parseG b f i o).1.blocks.length ≤ 65536
  | 0, i, o, h => h
  | f + 1, i, o, h => by
    unfold parseG
    split
    · exact h
    · split
      · exact h
      · split
        · exact parseG_len b hb f _ o h
        · split
          · simp [Opts.zero]
          · split
            · simp [Opts.zero]
            · split
              · simp [Opts.zero]
              · split
                · exact parseG_len b hb f _ _ (putO_len o _ _ h (by rw [List.length_take, List.length_drop]; omega))
                · simp [Opts.zero]
theorem parseO_len (b : List UInt8) : (parseO b).1.blocks.length ≤ 65536 := by
  unfold parseO
  split
  · simp [Opts.zero]
  · exact parseG_len b (by omega) _ _ _ (by simp [Opts.zero])
theorem seg_Decode (a : Option Addr) (b : List UInt8) (c : Nat) (hbl : b.length ≤ 4294967296) (w : World) (h : Rs w a (byteL b)) : Calls Go.Proofs.Tryz.prog 27 #[.slice a b.length c] w (Post w [] (RW fun r Γ => ∃ oa oc ba bc, r = .tuple #[.agg (segCs (decT b).1 oa oc ba bc).toArray, .int .i64 (decT b).2] ∧ Γ = [own 51 2 oa (decT b).1.opt.blocks.length oc (bkL (decT b).1.opt.blocks), own 5 1 ba (decT b).1.body.length bc (byteL (decT b).1.body)])) := by
  have hrd : ∀ Γ, Rd w (fps []) Γ a (byteL b) := fun Γ => Rd.old0 h Γ
  obtain ⟨R, hRR⟩ : ∃ R, decT b = R := ⟨_, rfl⟩
  rw [hRR]
  unfold decT at hRR
  dsimp only at hRR
  refine spec_of Go.Proofs.Tryz.func27 rfl Go.Proofs.Tryz.ntmps27 rfl (Holds.nil w) ?_
  change C _ _ _ _ _ _ _ ⟨[(0, _)], []⟩ _
  refine C.regS ?_
  refine L.al (zs := [.int .i64 0, .int .u32 0, .int .i64 0, .bool false, .bool false, .int .u32 0, .int .u32 0, .bool false, .int .i64 0, .slice none 0 0, .slice none 0 0]) zr46 rfl ?_; intro b2
  refine L.yl (Y.as rfl) ?_
  refine L.nil ?_
  refine C.seq ?_
  refine C.block ?_
  refine C.regS ?_
  refine L.yl (Y.mv rfl) ?_
  refine L.yl (Y.len ⟨_, Go.Proofs.Tryz.underlying31⟩ rfl) ?_
  refine L.yl (Y.lss rfl rfl) ?_
  refine L.yl (Y.as rfl) ?_
  refine L.nil ?_
  refine C.condP rfl (fun hc1 => ?_) (fun hc1 => ?_)
  ·
    rw [if_pos (show b.length < 8 by omega)] at hRR
    refine C.regS ?_
    refine L.yl (Y.bdL (cs := [_, _, _, _, _, _, _, _, _, _, _]) zr46 bd46 rfl rfl rfl) ?_
    refine L.sta (vs := [_, _, _, _, _, _, _, _, _, _, _]) ag46 rfl rfl rfl rfl rfl ?_
    refine L.yl (Y.as rfl) ?_
    refine L.nil ?_
    refine C.nil0 51 2 ?_
    refine C.nil0 5 1 ?_
    refine C.ret ?_
    refine InBlo.r ?_
    refine Then.r ?_
    refine FnPost.rg (xs := [.cell 2 46, .tmp 3]) (congrArg Array.toList Go.Proofs.Tryz.results27) (ra_ag (us := [_, _, _, _, _, _, _, _, _, _, _]) rfl ag46 rfl (ra_tmp rfl ra_nil)) ?_
    subst hRR
    exact ⟨[own 51 2 none 0 0 [], own 5 1 none 0 0 []], inferInstance, none, 0, none, 0, rfl, rfl⟩
  ·
    rw [if_neg (show ¬ b.length < 8 by omega)] at hRR
    refine C.regS ?_
    refine L.yl (Y.mv rfl) ?_
    refine L.yl (Y.len ⟨_, Go.Proofs.Tryz.underlying31⟩ rfl) ?_
    refine L.yl (Y.gtr rfl rfl) ?_
    refine L.yl (Y.as rfl) ?_
    refine L.nil ?_
    refine C.condP rfl (fun hc2 => ?_) (fun hc2 => ?_)
    ·
      rw [if_pos (show 2096 < b.length by omega)] at hRR
      refine C.regS ?_
      refine L.yl (Y.bdL (cs := [_, _, _, _, _, _, _, _, _, _, _]) zr46 bd46 rfl rfl rfl) ?_
      refine L.sta (vs := [_, _, _, _, _, _, _, _, _, _, _]) ag46 rfl rfl rfl rfl rfl ?_
      refine L.yl (Y.as rfl) ?_
      refine L.nil ?_
      refine C.nil0 51 2 ?_
      refine C.nil0 5 1 ?_
      refine C.ret ?_
      refine InBlo.r ?_
      refine Then.r ?_
      refine FnPost.rg (xs := [.cell 2 46, .tmp 3]) (congrArg Array.toList Go.Proofs.Tryz.results27) (ra_ag (us := [_, _, _, _, _, _, _, _, _, _, _]) rfl ag46 rfl (ra_tmp rfl ra_nil)) ?_
      subst hRR
      exact ⟨[own 51 2 none 0 0 [], own 5 1 none 0 0 []], inferInstance, none, 0, none, 0, rfl, rfl⟩
    ·
      rw [if_neg (show ¬ 2096 < b.length by omega)] at hRR
      refine C.regS ?_
      refine L.yl (Y.mv rfl) ?_
      refine L.callP go57 rfl (fun w hw => sum_Fine a b c (by omega) w ((hrd _).rd w hw)) ?_
      first | refine L.yl (Y.notP rfl) ?_ | refine L.yl (Y.not rfl) ?_
      refine L.yl (Y.as rfl) ?_
      refine L.nil ?_
      refine C.condP rfl (fun hc3 => ?_) (fun hc3 => ?_)
      ·
        rw [if_pos hc3] at hRR
        refine C.regS ?_
        refine L.yl (Y.bdL (cs := [_, _, _, _, _, _, _, _, _, _, _]) zr46 bd46 rfl rfl rfl) ?_
        refine L.sta (vs := [_, _, _, _, _, _, _, _, _, _, _]) ag46 rfl rfl rfl rfl rfl ?_
        refine L.yl (Y.as rfl) ?_
        refine L.nil ?_
        refine C.nil0 51 2 ?_
        refine C.nil0 5 1 ?_
        refine C.ret ?_
        refine InBlo.r ?_
        refine Then.r ?_
        refine FnPost.rg (xs := [.cell 2 46, .tmp 3]) (congrArg Array.toList Go.Proofs.Tryz.results27) (ra_ag (us := [_, _, _, _, _, _, _, _, _, _, _]) rfl ag46 rfl (ra_tmp rfl ra_nil)) ?_
        subst hRR
        exact ⟨[own 51 2 none 0 0 [], own 5 1 none 0 0 []], inferInstance, none, 0, none, 0, rfl, rfl⟩
      ·
        rw [if_neg hc3] at hRR
        obtain ⟨u0, hu0⟩ : ∃ u, b[0]? = some u := ⟨_, List.getElem?_eq_getElem (by omega)⟩
        obtain ⟨u1, hu1⟩ : ∃ u, b[1]? = some u := ⟨_, List.getElem?_eq_getElem (by omega)⟩
        rw [getD_of hu0, getD_of hu1] at hRR
        have hlt0 := u0.toNat_lt
        have hlt1 := u1.toNat_lt
        refine C.skip ?_
        refine InBlo.n ?_
        refine Then.n ?_
        refine C.regS ?_
        refine L.yl (Y.mv rfl) ?_
        refine L.callF (Γf := []) go58 rfl (fun w2 hw2 hf => oc_NewReader a b c (by omega) w2 ((hrd _).rd w2 hw2)) ?_
        rintro _ _ ⟨br, ar, cr, rfl, rfl⟩
        refine L.apc ?_
        refine L.yl (Y.as rfl) ?_
        refine L.nil ?_
        refine C.regS ?_
        refine L.al (zs := [.int .i64 0, .int .u32 0, .int .i64 0, .bool false, .bool false, .int .u32 0, .int .u32 0, .bool false, .int .i64 0, .slice none 0 0, .slice none 0 0]) zr46 rfl ?_; intro b5
        refine L.nil ?_
        refine C.regS ?_
        refine L.yl (Y.mv rfl) ?_
        refine L.callF (Γf := [blk br [.slice ar b.length cr, .int .i64 (((0 : Nat) : Int))] 149, own 5 1 ar b.length cr (byteL b)]) go59 rfl (fun w hw hf => oc_One br ar cr b (0) (by omega) w hf) ?_
        rintro _ _ ⟨rfl, rfl⟩
        refine L.apc ?_
        rw [rdV_one hu0, rdE_ok (show 0 + 1 ≤ b.length by omega), show rdI b 0 1 = 1 from rdI_okN (by omega)]
        refine L.yl (Y.mv rfl) ?_
        refine L.yl (Y.extL rfl rfl) ?_
        refine L.yl (Y.extL rfl rfl) ?_
        refine L.yl (Y.as rfl) ?_
        refine L.yl (Y.as rfl) ?_
        refine L.nil ?_
        refine C.regS ?_
        refine L.yl (Y.mv rfl) ?_
        refine L.callF (Γf := [blk br [.slice ar b.length cr, .int .i64 (((1 : Nat) : Int))] 149, own 5 1 ar b.length cr (byteL b)]) go59 rfl (fun w hw hf => oc_One br ar cr b (1) (by omega) w hf) ?_
        rintro _ _ ⟨rfl, rfl⟩
        refine L.apc ?_
        rw [rdV_one hu1, rdE_ok (show 1 + 1 ≤ b.length by omega), show rdI b 1 1 = 2 from rdI_okN (by omega)]
        refine L.yl (Y.mv rfl) ?_
        refine L.yl (Y.extL rfl rfl) ?_
        refine L.yl (Y.extL rfl rfl) ?_
        refine L.yl (Y.as rfl) ?_
        refine L.yl (Y.as rfl) ?_
        refine L.nil ?_
        refine C.regS ?_
        refine L.yl (Y.mv rfl) ?_
        first | refine L.yl (Y.cvI Go.Proofs.Tryz.underlying3 ⟨_, Go.Proofs.Tryz.underlying5⟩ rfl (by omega)) ?_ | refine L.yl (Y.cvW Go.Proofs.Tryz.underlying3 ⟨_, Go.Proofs.Tryz.underlying5⟩ rfl) ?_
        first | refine L.yl (Y.fa0 fl46_0 rfl) ?_ | refine L.yl (Y.fa fl46_0 rfl) ?_ | refine L.yl (Y.fas fl46_0 rfl (by simp; omega)) ?_
        refine L.st sc3 rfl rfl rfl ?_
        refine L.nil ?_
        refine C.seq ?_
        refine C.regS ?_
        refine L.yl (Y.lda (vs := [_, _, _, _, _, _, _, _, _, _, _]) ag46 rfl rfl) ?_
        refine L.callP go60 rfl (fun w hw => seg_kind (⟨u0.toNat, 0, Opts.zero, []⟩ : Seg) none 0 none 0 w) ?_
        refine L.yl (Y.as rfl) ?_
        refine L.nil ?_
        refine C.regS ?_
        refine L.yl (Y.mv rfl) ?_
        refine L.yl (Y.nei rfl rfl) ?_
        refine L.nil ?_
        refine C.condP rfl (fun hc4 => ?_) (fun hc4 => ?_)
        ·
          have hk8 : ¬ (u0.toNat = 1 ∨ u0.toNat = 2) := fun h => hc4 (by unfold kindE; rw [if_neg]; simp; omega)
          rw [if_pos (show u0.toNat ≠ 1 ∧ u0.toNat ≠ 2 by omega)] at hRR
          rw [show kindE ((u0.toNat : Nat) : Int) = 8 from by unfold kindE; rw [if_pos (by omega)]]
          refine C.regS ?_
          refine L.yl (Y.bdL (cs := [_, _, _, _, _, _, _, _, _, _, _]) zr46 bd46 rfl rfl rfl) ?_
          refine L.yl (Y.mv rfl) ?_
          refine L.sta (vs := [_, _, _, _, _, _, _, _, _, _, _]) ag46 rfl rfl rfl rfl rfl ?_
          refine L.yl (Y.as rfl) ?_
          refine L.nil ?_
          refine C.nil0 51 2 ?_
          refine C.nil0 5 1 ?_
          refine C.ret ?_
          refine Then.r ?_
          refine FnPost.rg (xs := [.cell 2 46, .tmp 3]) (congrArg Array.toList Go.Proofs.Tryz.results27) (ra_ag (us := [_, _, _, _, _, _, _, _, _, _, _]) rfl ag46 rfl (ra_tmp rfl ra_nil)) ?_
          subst hRR
          exact ⟨[own 51 2 none 0 0 [], own 5 1 none 0 0 []], inferInstance, none, 0, none, 0, rfl, rfl⟩
        ·
          have hk8 : u0.toNat = 1 ∨ u0.toNat = 2 := by
            have h := Decidable.not_not.1 hc4
            unfold kindE at h
            try dsimp only at h
            split at h <;> omega
          rw [if_neg (show ¬ (u0.toNat ≠ 1 ∧ u0.toNat ≠ 2) by omega)] at hRR
          refine C.skip ?_
          refine Then.n ?_
          refine C.seq ?_
          refine C.regS ?_
          refine L.yl (Y.mv rfl) ?_
          first | refine L.yl (Y.cvI Go.Proofs.Tryz.underlying3 ⟨_, Go.Proofs.Tryz.underlying5⟩ rfl (by omega)) ?_ | refine L.yl (Y.cvW Go.Proofs.Tryz.underlying3 ⟨_, Go.Proofs.Tryz.underlying5⟩ rfl) ?_
          first | refine L.yl (Y.mul rfl rfl (by omega)) ?_ | refine L.yl (Y.mulW rfl rfl) ?_
          refine L.yl (Y.gtr rfl rfl) ?_
          refine L.nil ?_
          refine C.condP rfl (fun hc5 => ?_) (fun hc5 => ?_)
          ·
            rw [if_pos (show 40 < u1.toNat * 4 by omega)] at hRR
            refine C.regS ?_
            refine L.yl (Y.bdL (cs := [_, _, _, _, _, _, _, _, _, _, _]) zr46 bd46 rfl rfl rfl) ?_
            refine L.sta (vs := [_, _, _, _, _, _, _, _, _, _, _]) ag46 rfl rfl rfl rfl rfl ?_
            refine L.yl (Y.as rfl) ?_
            refine L.nil ?_
            refine C.nil0 51 2 ?_
            refine C.nil0 5 1 ?_
            refine C.ret ?_
            refine Then.r ?_
            refine FnPost.rg (xs := [.cell 2 46, .tmp 3]) (congrArg Array.toList Go.Proofs.Tryz.results27) (ra_ag (us := [_, _, _, _, _, _, _, _, _, _, _]) rfl ag46 rfl (ra_tmp rfl ra_nil)) ?_
            subst hRR
            exact ⟨[own 51 2 none 0 0 [], own 5 1 none 0 0 []], inferInstance, none, 0, none, 0, rfl, rfl⟩
          ·
            rw [if_neg (show ¬ 40 < u1.toNat * 4 by omega)] at hRR
            refine C.skip ?_
            refine Then.n ?_
            refine C.regS ?_
            refine L.yl (Y.mv rfl) ?_
            refine L.callF (Γf := [blk br [.slice ar b.length cr, .int .i64 (((2 : Nat) : Int))] 149, own 5 1 ar b.length cr (byteL b)]) go61 rfl (fun w hw hf => oc_Two br ar cr b (2) (by omega) w hf) ?_
            rintro _ _ ⟨rfl, rfl⟩
            refine L.apc ?_
            rw [show rdI b 2 2 = 4 from rdI_okN (by omega)]
            refine L.nil ?_
            refine C.regS ?_
            refine L.yl (Y.mv rfl) ?_
            refine L.callF (Γf := [blk br [.slice ar b.length cr, .int .i64 (((4 : Nat) : Int))] 149, own 5 1 ar b.length cr (byteL b)]) go62 rfl (fun w hw hf => oc_Four br ar cr b (4) (by omega) w hf) ?_
            rintro _ _ ⟨rfl, rfl⟩
            refine L.apc ?_
            rw [show rdI b 4 4 = 8 from rdI_okN (by omega)]
            refine L.yl (Y.mv rfl) ?_
            refine L.yl (Y.extL rfl rfl) ?_
            refine L.yl (Y.extL rfl rfl) ?_
            first | refine L.yl (Y.fa0 fl46_1 rfl) ?_ | refine L.yl (Y.fa fl46_1 rfl) ?_ | refine L.yl (Y.fas fl46_1 rfl (by simp; omega)) ?_
            refine L.st sc22 rfl rfl rfl ?_
            refine L.nil ?_
            refine C.regS ?_
            refine L.yl (Y.mv rfl) ?_
            refine L.yl (Y.mv rfl) ?_
            first | refine L.yl (Y.cvI Go.Proofs.Tryz.underlying3 ⟨_, Go.Proofs.Tryz.underlying5⟩ rfl (by omega)) ?_ | refine L.yl (Y.cvW Go.Proofs.Tryz.underlying3 ⟨_, Go.Proofs.Tryz.underlying5⟩ rfl) ?_
            first | refine L.yl (Y.mul rfl rfl (by omega)) ?_ | refine L.yl (Y.mulW rfl rfl) ?_
            rw [show ((u1.toNat : Int) * 4) = ((u1.toNat * 4 : Nat) : Int) by omega]
            refine L.callF (Γf := [blk br [.slice ar b.length cr, .int .i64 (((8 : Nat) : Int))] 149, own 5 1 ar b.length cr (byteL b)]) go63 rfl (fun w hw hf => oc_Take br ar cr b 8 (u1.toNat * 4) (by omega) (by omega) (by omega) w hf) ?_
            rintro _ _ ⟨ta, tc, rfl, rfl⟩
            refine L.apc ?_
            refine L.yl (Y.mv rfl) ?_
            refine L.yl (Y.extL rfl rfl) ?_
            refine L.yl (Y.extL rfl rfl) ?_
            refine L.yl (Y.as rfl) ?_
            refine L.yl (Y.as rfl) ?_
            refine L.nil ?_
            refine C.seq ?_
            refine C.regS ?_
            refine L.yl (Y.mv rfl) ?_
            refine L.yl (Y.nei rfl rfl) ?_
            refine L.nil ?_
            refine C.condP rfl (fun hc6 => ?_) (fun hc6 => ?_)
            ·
              have hs2 : ¬ 8 + u1.toNat * 4 ≤ b.length := fun h => hc6 (rdE_ok h)
              rw [if_pos (show b.length < 8 + u1.toNat * 4 by omega)] at hRR
              rw [rdE_no hs2]
              refine C.regS ?_
              refine L.yl (Y.bdL (cs := [_, _, _, _, _, _, _, _, _, _, _]) zr46 bd46 rfl rfl rfl) ?_
              refine L.yl (Y.mv rfl) ?_
              refine L.sta (vs := [_, _, _, _, _, _, _, _, _, _, _]) ag46 rfl rfl rfl rfl rfl ?_
              refine L.yl (Y.as rfl) ?_
              refine L.nil ?_
              refine C.nil0 51 2 ?_
              refine C.nil0 5 1 ?_
              refine C.ret ?_
              refine Then.r ?_
              refine FnPost.rg (xs := [.cell 2 46, .tmp 3]) (congrArg Array.toList Go.Proofs.Tryz.results27) (ra_ag (us := [_, _, _, _, _, _, _, _, _, _, _]) rfl ag46 rfl (ra_tmp rfl ra_nil)) ?_
              subst hRR
              exact ⟨[own 51 2 none 0 0 [], own 5 1 none 0 0 []], inferInstance, none, 0, none, 0, rfl, rfl⟩
            ·
              have hs2 : 8 + u1.toNat * 4 ≤ b.length := (rdE_iff b 8 (u1.toNat * 4)).1 (Decidable.not_not.1 hc6)
              rw [if_neg (show ¬ b.length < 8 + u1.toNat * 4 by omega)] at hRR
              have htl := tkB_len hs2
              rw [show rdI b 8 (u1.toNat * 4) = 8 + u1.toNat * 4 from rdI_okN hs2]
              rw [tkB_ok hs2] at *
              refine C.skip ?_
              refine Then.n ?_
              refine C.seq ?_
              refine C.regS ?_
              refine L.yl (Y.mv rfl) ?_
              refine L.callFW (Γf := []) go64 rfl (fun w2 hw2 hf => opt_Parse ta ((b.drop 8).take (u1.toNat * 4)) tc (by rw [List.length_take]; omega) w2 (own_rs (hw2.holds.on (own 5 1 ta ((b.drop 8).take (u1.toNat * 4)).length tc (byteL ((b.drop 8).take (u1.toNat * 4)))) (by simp)))) ?_
              rintro _ _ ⟨oa, oc, rfl, rfl⟩
              refine L.apc ?_
              refine L.yl (Y.mv rfl) ?_
              refine L.yl (Y.extL rfl rfl) ?_
              refine L.yl (Y.extL rfl rfl) ?_
              first | refine L.yl (Y.fa0 fl46_2 rfl) ?_ | refine L.yl (Y.fa fl46_2 rfl) ?_ | refine L.yl (Y.fas fl46_2 rfl (by simp; omega)) ?_
              refine L.sta (vs := [_, _, _, _, _, _, _, _]) ag44 rfl rfl rfl rfl rfl ?_
              refine L.yl (Y.as rfl) ?_
              refine L.nil ?_
              refine C.regS ?_
              refine L.yl (Y.mv rfl) ?_
              refine L.yl (Y.nei rfl rfl) ?_
              refine L.nil ?_
              refine C.condP rfl (fun hc7 => ?_) (fun hc7 => ?_)
              ·
                rw [if_pos hc7] at hRR
                refine C.regS ?_
                refine L.yl (Y.bdL (cs := [_, _, _, _, _, _, _, _, _, _, _]) zr46 bd46 rfl rfl rfl) ?_
                refine L.yl (Y.mv rfl) ?_
                refine L.sta (vs := [_, _, _, _, _, _, _, _, _, _, _]) ag46 rfl rfl rfl rfl rfl ?_
                refine L.yl (Y.as rfl) ?_
                refine L.nil ?_
                refine C.nil0 51 2 ?_
                refine C.nil0 5 1 ?_
                refine C.ret ?_
                refine Then.r ?_
                refine FnPost.rg (xs := [.cell 2 46, .tmp 3]) (congrArg Array.toList Go.Proofs.Tryz.results27) (ra_ag (us := [_, _, _, _, _, _, _, _, _, _, _]) rfl ag46 rfl (ra_tmp rfl ra_nil)) ?_
                subst hRR
                exact ⟨[own 51 2 none 0 0 [], own 5 1 none 0 0 []], inferInstance, none, 0, none, 0, rfl, rfl⟩
              ·
                rw [if_neg hc7] at hRR
                refine C.skip ?_
                refine Then.n ?_
                refine C.regS ?_
                refine L.yl (Y.mv rfl) ?_
                refine L.callF (Γf := [blk br [.slice ar b.length cr, .int .i64 (((8 + u1.toNat * 4 : Nat) : Int))] 149, own 5 1 ar b.length cr (byteL b)]) go65 rfl (fun w hw hf => oc_Rest br ar cr b (8 + u1.toNat * 4) (by omega) (by omega) w hf) ?_
                rintro _ _ ⟨ba, bc, rfl, rfl⟩
                refine L.apc ?_
                first | refine L.yl (Y.fa0 fl46_3 rfl) ?_ | refine L.yl (Y.fa fl46_3 rfl) ?_ | refine L.yl (Y.fas fl46_3 rfl (by simp; omega)) ?_
                refine L.st sc31 rfl rfl rfl ?_
                refine L.nil ?_
                refine C.seq ?_
                refine C.regS ?_
                refine L.yl (Y.lda (vs := [_, _, _, _, _, _, _, _, _, _, _]) ag46 rfl rfl) ?_
                refine L.callP go66 rfl (fun w hw => seg_Check (⟨u0.toNat, rdV b 4 4, (parseO ((b.drop 8).take (u1.toNat * 4))).1, b.drop (8 + u1.toNat * 4)⟩ : Seg) oa oc ba bc (by have := parseO_len ((b.drop 8).take (u1.toNat * 4)); dsimp only; omega) w) ?_
                refine L.yl (Y.as rfl) ?_
                refine L.nil ?_
                refine C.regS ?_
                refine L.yl (Y.mv rfl) ?_
                refine L.yl (Y.nei rfl rfl) ?_
                refine L.nil ?_
                refine C.condP rfl (fun hc8 => ?_) (fun hc8 => ?_)
                ·
                  rw [if_pos hc8] at hRR
                  refine C.regS ?_
                  refine L.yl (Y.bdL (cs := [_, _, _, _, _, _, _, _, _, _, _]) zr46 bd46 rfl rfl rfl) ?_
                  refine L.yl (Y.mv rfl) ?_
                  refine L.sta (vs := [_, _, _, _, _, _, _, _, _, _, _]) ag46 rfl rfl rfl rfl rfl ?_
                  refine L.yl (Y.as rfl) ?_
                  refine L.nil ?_
                  refine C.nil0 51 2 ?_
                  refine C.nil0 5 1 ?_
                  refine C.ret ?_
                  refine Then.r ?_
                  refine FnPost.rg (xs := [.cell 2 46, .tmp 3]) (congrArg Array.toList Go.Proofs.Tryz.results27) (ra_ag (us := [_, _, _, _, _, _, _, _, _, _, _]) rfl ag46 rfl (ra_tmp rfl ra_nil)) ?_
                  subst hRR
                  exact ⟨[own 51 2 none 0 0 [], own 5 1 none 0 0 []], inferInstance, none, 0, none, 0, rfl, rfl⟩
                ·
                  rw [if_neg hc8] at hRR
                  refine C.skip ?_
                  refine Then.n ?_
                  refine C.regS ?_
                  refine L.yl (Y.lda (vs := [_, _, _, _, _, _, _, _, _, _, _]) ag46 rfl rfl) ?_
                  refine L.sta (vs := [_, _, _, _, _, _, _, _, _, _, _]) ag46 rfl rfl rfl rfl rfl ?_
                  refine L.yl (Y.as rfl) ?_
                  refine L.nil ?_
                  refine C.ret ?_
                  refine FnPost.rg (xs := [.cell 2 46, .tmp 3]) (congrArg Array.toList Go.Proofs.Tryz.results27) (ra_ag (us := [_, _, _, _, _, _, _, _, _, _, _]) rfl ag46 rfl (ra_tmp rfl ra_nil)) ?_
                  subst hRR
                  exact ⟨[own 51 2 oa (parseO ((b.drop 8).take (u1.toNat * 4))).1.blocks.length oc (bkL (parseO ((b.drop 8).take (u1.toNat * 4))).1.blocks), own 5 1 ba (b.drop (8 + u1.toNat * 4)).length bc (byteL (b.drop (8 + u1.toNat * 4)))], inferInstance, oa, oc, ba, bc, rfl, rfl⟩
end Go.Proofs.YtcbhcdcobgdddaaGreat
set_option maxHeartbeats 1000000
namespace Go.Proofs.YtcbhcdcobgdddaaGreat
open Go Go.X Go.Rep Go.Shelf
theorem fl147_0 : Fld Go.Proofs.Tryz.prog 147 0 0 := ⟨_, _, Go.Proofs.Tryz.underlying147, rfl, rfl, _, (by kernel_rfl : (Go.Proofs.Tryz.prog.info? 29).map (·.size) = some 1), by decide⟩
theorem sc109 : Sc Go.Proofs.Tryz.prog 109 := ⟨_, Go.Proofs.Tryz.underlying109, rfl, by kernel_rfl⟩
theorem sc134 : Sc Go.Proofs.Tryz.prog 134 := ⟨_, Go.Proofs.Tryz.underlying134, rfl, by kernel_rfl⟩
theorem sc29 : Sc Go.Proofs.Tryz.prog 29 := ⟨_, Go.Proofs.Tryz.underlying29, rfl, by kernel_rfl⟩
theorem slt29 : SlT Go.Proofs.Tryz.prog 29 35 2 := ⟨Go.Proofs.Tryz.underlying29, by kernel_rfl, by decide⟩
theorem so_Search (n : Nat) (hn : n ≤ 4611686018427387903) (fv : Value) (p : Nat → Bool) (G : List Ch) (hfv : ∀ k, k < n → ∀ w, X.Holds w G → CallV Go.Proofs.Tryz.prog fv [.int .i64 k] w (Post w G (fun r Γ => r = .bool (p k) ∧ Γ = G))) (w : World) (hw : X.Holds w G) : Calls Go.Proofs.Tryz.prog 142 #[.int .i64 n, fv] w (Post w G (fun r Γ => r = .int .i64 (srchF p (n + 1) 0 n : Nat) ∧ Γ = G)) := by
  refine spec_of Go.Proofs.Tryz.func142 rfl Go.Proofs.Tryz.ntmps142 rfl hw ?_
  change C _ _ _ _ _ _ _ ⟨[(0, _), (1, _)], []⟩ _
  refine C.regS ?_
  refine L.yl (Y.as rfl) ?_
  refine L.nil ?_
  refine C.regS ?_
  refine L.yl (Y.mv rfl) ?_
  refine L.yl (Y.as rfl) ?_
  refine L.yl (Y.as rfl) ?_
  refine L.nil ?_
  refine C.seq ?_
  refine C.block ?_
  refine C.loop (σ := Nat × Nat × Nat) (fun (i, j, f) => [(1, fv), (5, .int .i64 i), (6, .int .i64 j)]) (fun _ => G) (fun (i, j, f) => i ≤ j ∧ j ≤ n ∧ j < i + f ∧ srchF p f i j = srchF p (n + 1) 0 n) (fun (i, j, f) => j - i) (0, n, n + 1) ?_ ?_ ?_ ?_
  · repeat (first | exact trivial | refine ⟨rfl, ?_⟩)
  · exact .of (.refl _)
  · exact ⟨Nat.zero_le _, Nat.le_refl _, by omega, rfl⟩
  · rintro ⟨i, j, f⟩ ⟨hI1, hI2, hI3, hI4⟩
    obtain ⟨f, rfl⟩ : ∃ f0, f = f0 + 1 := ⟨f - 1, by omega⟩
    simp only [srchF] at hI4
    try dsimp only
    refine C.seq ?_
    refine C.regS ?_
    refine L.yl (Y.mv rfl) ?_
    refine L.yl (Y.mv rfl) ?_
    refine L.yl (Y.lss rfl rfl) ?_
    refine L.nil ?_
    refine C.condP rfl (fun hc1 => ?_) (fun hc1 => ?_)
    ·
      rw [if_pos (show i < j by omega)] at hI4
      refine C.skip ?_
      refine Then.n ?_
      refine C.block ?_
      refine C.regS ?_
      refine L.yl (Y.mv rfl) ?_
      refine L.yl (Y.mv rfl) ?_
      first | refine L.yl (Y.add rfl rfl (by omega)) ?_ | refine L.yl (Y.addW rfl rfl) ?_
      rw [show ((i : Int) + (j : Int)) = ((i + j : Nat) : Int) from rfl]
      refine L.yl (Y.cvW Go.Proofs.Tryz.underlying181 ⟨_, Go.Proofs.Tryz.underlying3⟩ rfl) ?_
      refine L.yl (Y.shr rfl rfl (by omega)) ?_
      first | refine L.yl (Y.cvI Go.Proofs.Tryz.underlying3 ⟨_, Go.Proofs.Tryz.underlying181⟩ rfl (by omega)) ?_ | refine L.yl (Y.cvW Go.Proofs.Tryz.underlying3 ⟨_, Go.Proofs.Tryz.underlying181⟩ rfl) ?_
      rw [shr1 (i + j) (by omega)]
      refine L.yl (Y.as rfl) ?_
      refine L.nil ?_
      refine C.regS ?_
      refine L.yl (Y.mv rfl) ?_
      refine L.yl (Y.mv rfl) ?_
      refine L.callV (fv := fv) (Γf := G) (Γr := []) rfl rfl (.of_eq (List.append_nil _).symm) (fun w2 hw2 hf => hfv ((i + j) / 2) (by omega) w2 hf) ?_
      rintro _ _ ⟨rfl, rfl⟩
      rw [List.append_nil]
      first | refine L.yl (Y.notP rfl) ?_ | refine L.yl (Y.not rfl) ?_
      refine L.nil ?_
      refine C.cond rfl (fun hc2 => ?_) (fun hc2 => ?_)
      ·
        rw [if_neg (by simpa using hc2)] at hI4
        refine C.reg ?_
        refine L.yl (Y.mv rfl) ?_
        first | refine L.yl (Y.add rfl rfl (by omega)) ?_ | refine L.yl (Y.addW rfl rfl) ?_
        refine L.yl (Y.as rfl) ?_
        refine L.nil ?_
        refine InBlo.n ?_
        exact ⟨((i + j) / 2 + 1, j, f), (by repeat (first | exact trivial | refine ⟨rfl, ?_⟩ | refine ⟨congrArg some (by simp), ?_⟩ | refine ⟨congrArg some (by simp; omega), ?_⟩)), rfl, .of (.refl _), ⟨by dsimp only; omega, hI2, by dsimp only; omega, hI4⟩, by dsimp only; omega⟩
      ·
        rw [if_pos (by simpa using hc2)] at hI4
        refine C.reg ?_
        refine L.yl (Y.mv rfl) ?_
        refine L.yl (Y.as rfl) ?_
        refine L.nil ?_
        refine InBlo.n ?_
        exact ⟨(i, (i + j) / 2, f), (by repeat (first | exact trivial | refine ⟨rfl, ?_⟩ | refine ⟨congrArg some (by simp), ?_⟩ | refine ⟨congrArg some (by simp; omega), ?_⟩)), rfl, .of (.refl _), ⟨by dsimp only; omega, by dsimp only; omega, by dsimp only; omega, hI4⟩, by dsimp only; omega⟩
    ·
      have hR : i = srchF p (n + 1) 0 n := by rw [if_neg (show ¬ i < j by omega)] at hI4; exact hI4
      refine C.exit ?_
      refine Then.x ?_
      refine Then.x ?_
      refine InBlo.x ?_
      refine Then.n ?_
      refine C.regS ?_
      refine L.yl (Y.mv rfl) ?_
      refine L.yl (Y.as rfl) ?_
      refine L.nil ?_
      refine C.ret ?_
      refine FnPost.r1 Go.Proofs.Tryz.results142 rfl ?_
      exact ⟨by rw [hR], rfl⟩
theorem ru_first1 (p : Nat) (a : Option Addr) (c : Nat) (l : List Sp) (hl : l.length ≤ 4294967296) (bs : Nat) (cs : List Value) (ts : TypeId) (hf : Value) (hf1 : hf.oneCell' = true) (q : Sp → Bool) (hq : ∀ x w, X.Holds w [blk bs cs ts] → CallV Go.Proofs.Tryz.prog hf [spV x] w (Post w [blk bs cs ts] (fun r Γ => r = .bool (q x) ∧ Γ = [blk bs cs ts]))) (b2 b3 : Nat) (k : Nat) (hk : k < l.length) (w : World) (hw : X.Holds w [blk b3 [hf] 134, blk b2 [.pointer (some ⟨p, 0, none⟩)] 109, blk p [.slice a l.length c] 147, own 35 2 a l.length c (spL l), blk bs cs ts]) : Calls Go.Proofs.Tryz.prog 143 #[.int .i64 k, .pointer (some ⟨b3, 0, none⟩), .pointer (some ⟨b2, 0, none⟩)] w (Post w [blk b3 [hf] 134, blk b2 [.pointer (some ⟨p, 0, none⟩)] 109, blk p [.slice a l.length c] 147, own 35 2 a l.length c (spL l), blk bs cs ts] (RW fun r Γ => r = .bool (q (l.getD k (0, 0))) ∧ Γ = [blk b3 [hf] 134, blk b2 [.pointer (some ⟨p, 0, none⟩)] 109, blk p [.slice a l.length c] 147, own 35 2 a l.length c (spL l), blk bs cs ts])) := by
  obtain ⟨x0, hx0⟩ : ∃ u, l[k]? = some u := ⟨_, List.getElem?_eq_getElem hk⟩
  have hgd : l.getD k (0, 0) = x0 := by simp [List.getD, hx0]
  refine spec_of Go.Proofs.Tryz.func143 rfl Go.Proofs.Tryz.ntmps143 rfl hw ?_
  change C _ _ _ _ _ _ _ ⟨[(0, _), (1, _), (2, _)], []⟩ _
  refine C.regS ?_
  refine L.yl (Y.as rfl) ?_
  refine L.nil ?_
  refine C.drwFS (Δ := [blk bs cs ts]) (.y 0 (.y 1 (.y 2 (.y 3 (.y 4 (.y 5 (.y 6 (.y 7 (.h 8 (.y 9 (.fin))))))))))) mixo (by kernel_rfl) ?_
  refine V.yl rfl (Y.ld sc134 rfl rfl) ?_
  refine V.yl rfl (Y.ld sc109 rfl rfl) ?_
  refine V.yl rfl (Y.nck rfl) ?_
  first | refine V.yl rfl (Y.fa0 fl147_0 rfl) ?_ | refine V.yl rfl (Y.fa fl147_0 rfl) ?_ | refine V.yl rfl (Y.fas fl147_0 rfl (by simp; omega)) ?_
  refine V.yl rfl (Y.ld sc29 rfl rfl) ?_
  refine V.yl rfl (Y.mv rfl) ?_
  refine V.yl rfl (Y.ix slt29 rfl rfl (by rw [spL_length]) (by omega) (by omega)) ?_
  refine V.yl rfl (Y.ldsa (vs := spCs x0) ag35 rfl rfl (by decide) (fun j v hj => by rw [show ((k:Int).toNat * 2 + j) = k * 2 + j from rfl, spL_get l k j _ hx0 (by have := (List.getElem?_eq_some_iff.1 hj).1; exact this)]; exact hj)) ?_
  refine V.hv rfl ?_
  refine L.apc ?_
  refine L.callV (fv := hf) (Γf := [blk bs cs ts]) (Γr := _) rfl rfl (Fr.perm (Γ := _) (Γf := [blk bs cs ts])) (fun w2 hw2 hf2 => hq x0 w2 hf2) ?_
  rintro _ _ ⟨rfl, rfl⟩
  refine L.apc ?_
  refine L.nil ?_
  refine V.on ?_
  refine V.yl rfl (Y.as rfl) ?_
  refine V.fin ?_
  refine C.ret ?_
  refine FnPost.r1 Go.Proofs.Tryz.results143 rfl ?_
  exact ⟨[blk b3 [hf] 134, blk b2 [.pointer (some ⟨p, 0, none⟩)] 109, blk p [.slice a l.length c] 147, own 35 2 a l.length c (spL l), blk bs cs ts], inferInstance, by rw [hgd], rfl⟩
end Go.Proofs.YtcbhcdcobgdddaaGreat
set_option maxHeartbeats 1000000
namespace Go.Proofs.YtcbhcdcobgdddaaGreat
open Go Go.X Go.Rep Go.Shelf
theorem bd147 : ∃ fs, Go.Proofs.Tryz.prog.underlying 147 = some (.struct fs) ∧ fs.toList.mapM (fun f => (Go.Proofs.Tryz.prog.info? f.type).map fun i => (f.offset, i.size)) = some [(0, 1)] := ⟨_, Go.Proofs.Tryz.underlying147, by kernel_rfl⟩
theorem go114 : Goes Go.Proofs.Tryz.prog 114 := enters_of Go.Proofs.Tryz.func114 (by kernel_rfl) rfl
theorem go137 : Goes Go.Proofs.Tryz.prog 137 := enters_of Go.Proofs.Tryz.func137 (by kernel_rfl) rfl
theorem go138 : Goes Go.Proofs.Tryz.prog 138 := enters_of Go.Proofs.Tryz.func138 (by kernel_rfl) rfl
theorem go142 : Goes Go.Proofs.Tryz.prog 142 := enters_of Go.Proofs.Tryz.func142 (by kernel_rfl) rfl
theorem go143 : Goes Go.Proofs.Tryz.prog 143 := enters_of Go.Proofs.Tryz.func143 (by kernel_rfl) rfl
theorem go146 : Goes Go.Proofs.Tryz.prog 146 := enters_of Go.Proofs.Tryz.func146 (by kernel_rfl) rfl
theorem zr147 : Zr Go.Proofs.Tryz.prog 147 (.agg #[.slice none 0 0]) := by unfold Zr; kernel_rfl
theorem ru_first (p : Nat) (a : Option Addr) (c : Nat) (l : List Sp) (hl : l.length ≤ 4294967296) (bs : Nat) (cs : List Value) (ts : TypeId) (hf : Value) (hf1 : hf.oneCell' = true) (q : Sp → Bool) (hq : ∀ x w, X.Holds w [blk bs cs ts] → CallV Go.Proofs.Tryz.prog hf [spV x] w (Post w [blk bs cs ts] (fun r Γ => r = .bool (q x) ∧ Γ = [blk bs cs ts]))) (w : World) (hw : X.Holds w [blk p [.slice a l.length c] 147, own 35 2 a l.length c (spL l), blk bs cs ts]) : Calls Go.Proofs.Tryz.prog 114 #[.pointer (some ⟨p, 0, none⟩), hf] w (Post w [blk p [.slice a l.length c] 147, own 35 2 a l.length c (spL l), blk bs cs ts] (RW fun r Γ => r = .int .i64 (firstI l q : Nat) ∧ Γ = [blk p [.slice a l.length c] 147, own 35 2 a l.length c (spL l), blk bs cs ts])) := by
  refine spec_of Go.Proofs.Tryz.func114 rfl Go.Proofs.Tryz.ntmps114 rfl hw ?_
  change C _ _ _ _ _ _ _ ⟨[(0, _), (1, _)], []⟩ _
  refine C.regS ?_
  refine L.bx rfl rfl ?_; intro b2
  refine L.bx rfl hf1 ?_; intro b3
  refine L.yl (Y.as rfl) ?_
  refine L.nil ?_
  refine C.seq ?_
  refine C.regS ?_
  refine L.yl (Y.ld sc109 rfl rfl) ?_
  first | refine L.yl (Y.eqpS ⟨_, Go.Proofs.Tryz.underlying109⟩ rfl) ?_ | refine L.yl (Y.eqpN ⟨_, Go.Proofs.Tryz.underlying109⟩ rfl) ?_
  refine L.nil ?_
  refine C.condFf rfl ?_
  refine C.skip ?_
  refine Then.n ?_
  refine C.regS ?_
  refine L.yl (Y.ld sc109 rfl rfl) ?_
  refine L.yl (Y.nck rfl) ?_
  first | refine L.yl (Y.fa0 fl147_0 rfl) ?_ | refine L.yl (Y.fa fl147_0 rfl) ?_ | refine L.yl (Y.fas fl147_0 rfl (by simp; omega)) ?_
  refine L.yl (Y.ld sc29 rfl rfl) ?_
  refine L.yl (Y.len ⟨_, Go.Proofs.Tryz.underlying29⟩ rfl) ?_
  refine L.yl (Y.mkf (cv := #[_, _]) rfl) ?_
  refine L.callF (Γf := [blk b3 [hf] 134, blk b2 [.pointer (some ⟨p, 0, none⟩)] 109, blk p [.slice a l.length c] 147, own 35 2 a l.length c (spL l), blk bs cs ts]) go142 rfl (fun w2 hw2 hf2 => so_Search l.length (by omega) _ (fun k => q (l.getD k (0, 0))) [blk b3 [hf] 134, blk b2 [.pointer (some ⟨p, 0, none⟩)] 109, blk p [.slice a l.length c] 147, own 35 2 a l.length c (spL l), blk bs cs ts] (fun k hk w3 hw3 => CallV.of (args := [.int .i64 k]) (cap := [.pointer (some ⟨b3, 0, none⟩), .pointer (some ⟨b2, 0, none⟩)]) go143 (of_rw (ru_first1 p a c l hl bs cs ts hf hf1 q hq b2 b3 k hk w3 hw3))) w2 hf2) ?_
  rintro _ _ ⟨rfl, rfl⟩
  refine L.apc ?_
  refine L.yl (Y.as rfl) ?_
  refine L.nil ?_
  refine C.ret ?_
  refine FnPost.r1 Go.Proofs.Tryz.results114 rfl ?_
  exact ⟨[blk p [.slice a l.length c] 147, own 35 2 a l.length c (spL l), blk bs cs ts], inferInstance, rfl, rfl⟩
theorem ru_add1 (s : Sp) (bs : Nat) (x : Sp) (w : World) (hw : X.Holds w [blk bs (spCs s) 35]) : Calls Go.Proofs.Tryz.prog 115 #[spV x, .pointer (some ⟨bs, 0, none⟩)] w (Post w [blk bs (spCs s) 35] (RW fun r Γ => r = .bool (decide (s.1 ≤ x.2)) ∧ Γ = [blk bs (spCs s) 35])) := by
  refine spec_of Go.Proofs.Tryz.func115 rfl Go.Proofs.Tryz.ntmps115 rfl hw ?_
  change C _ _ _ _ _ _ _ ⟨[(0, _), (1, _)], []⟩ _
  refine C.regS ?_
  refine L.bxa rfl ?_; intro b2
  refine L.yl (Y.as rfl) ?_
  refine L.nil ?_
  refine C.regS ?_
  first | refine L.yl (Y.fa0 fl35_1 rfl) ?_ | refine L.yl (Y.fa fl35_1 rfl) ?_ | refine L.yl (Y.fas fl35_1 rfl (by simp; omega)) ?_
  refine L.yl (Y.ld sc3 rfl rfl) ?_
  first | refine L.yl (Y.fa0 fl35_0 rfl) ?_ | refine L.yl (Y.fa fl35_0 rfl) ?_ | refine L.yl (Y.fas fl35_0 rfl (by simp; omega)) ?_
  refine L.yl (Y.ld sc3 rfl rfl) ?_
  refine L.yl (Y.geq rfl rfl) ?_
  refine L.yl (Y.as rfl) ?_
  refine L.nil ?_
  refine C.ret ?_
  refine FnPost.r1 Go.Proofs.Tryz.results115 rfl ?_
  exact ⟨[blk bs (spCs s) 35], inferInstance, rfl, rfl⟩
theorem ru_add2 (s : Sp) (bs : Nat) (x : Sp) (w : World) (hw : X.Holds w [blk bs (spCs s) 35]) : Calls Go.Proofs.Tryz.prog 116 #[spV x, .pointer (some ⟨bs, 0, none⟩)] w (Post w [blk bs (spCs s) 35] (RW fun r Γ => r = .bool (decide (s.2 < x.1)) ∧ Γ = [blk bs (spCs s) 35])) := by
  refine spec_of Go.Proofs.Tryz.func116 rfl Go.Proofs.Tryz.ntmps116 rfl hw ?_
  change C _ _ _ _ _ _ _ ⟨[(0, _), (1, _)], []⟩ _
  refine C.regS ?_
  refine L.bxa rfl ?_; intro b2
  refine L.yl (Y.as rfl) ?_
  refine L.nil ?_
  refine C.regS ?_
  first | refine L.yl (Y.fa0 fl35_0 rfl) ?_ | refine L.yl (Y.fa fl35_0 rfl) ?_ | refine L.yl (Y.fas fl35_0 rfl (by simp; omega)) ?_
  refine L.yl (Y.ld sc3 rfl rfl) ?_
  first | refine L.yl (Y.fa0 fl35_1 rfl) ?_ | refine L.yl (Y.fa fl35_1 rfl) ?_ | refine L.yl (Y.fas fl35_1 rfl (by simp; omega)) ?_
  refine L.yl (Y.ld sc3 rfl rfl) ?_
  refine L.yl (Y.gtr rfl rfl) ?_
  refine L.yl (Y.as rfl) ?_
  refine L.nil ?_
  refine C.ret ?_
  refine FnPost.r1 Go.Proofs.Tryz.results116 rfl ?_
  exact ⟨[blk bs (spCs s) 35], inferInstance, rfl, rfl⟩
theorem ru_run1 (o : Int) (bs : Nat) (x : Sp) (w : World) (hw : X.Holds w [blk bs [.int .i64 o] 3]) : Calls Go.Proofs.Tryz.prog 146 #[spV x, .pointer (some ⟨bs, 0, none⟩)] w (Post w [blk bs [.int .i64 o] 3] (RW fun r Γ => r = .bool (decide (o < x.2)) ∧ Γ = [blk bs [.int .i64 o] 3])) := by
  refine spec_of Go.Proofs.Tryz.func146 rfl Go.Proofs.Tryz.ntmps146 rfl hw ?_
  change C _ _ _ _ _ _ _ ⟨[(0, _), (1, _)], []⟩ _
  refine C.regS ?_
  refine L.bxa rfl ?_; intro b2
  refine L.yl (Y.as rfl) ?_
  refine L.nil ?_
  refine C.regS ?_
  first | refine L.yl (Y.fa0 fl35_1 rfl) ?_ | refine L.yl (Y.fa fl35_1 rfl) ?_ | refine L.yl (Y.fas fl35_1 rfl (by simp; omega)) ?_
  refine L.yl (Y.ld sc3 rfl rfl) ?_
  refine L.yl (Y.ld sc3 rfl rfl) ?_
  refine L.yl (Y.gtr rfl rfl) ?_
  refine L.yl (Y.as rfl) ?_
  refine L.nil ?_
  refine C.ret ?_
  refine FnPost.r1 Go.Proofs.Tryz.results146 rfl ?_
  exact ⟨[blk bs [.int .i64 o] 3], inferInstance, rfl, rfl⟩
theorem ru_next1 (o : Int) (bs : Nat) (x : Sp) (w : World) (hw : X.Holds w [blk bs [.int .i64 o] 3]) : Calls Go.Proofs.Tryz.prog 137 #[spV x, .pointer (some ⟨bs, 0, none⟩)] w (Post w [blk bs [.int .i64 o] 3] (RW fun r Γ => r = .bool (decide (o < x.2)) ∧ Γ = [blk bs [.int .i64 o] 3])) := by
  refine spec_of Go.Proofs.Tryz.func137 rfl Go.Proofs.Tryz.ntmps137 rfl hw ?_
  change C _ _ _ _ _ _ _ ⟨[(0, _), (1, _)], []⟩ _
  refine C.regS ?_
  refine L.bxa rfl ?_; intro b2
  refine L.yl (Y.as rfl) ?_
  refine L.nil ?_
  refine C.regS ?_
  first | refine L.yl (Y.fa0 fl35_1 rfl) ?_ | refine L.yl (Y.fa fl35_1 rfl) ?_ | refine L.yl (Y.fas fl35_1 rfl (by simp; omega)) ?_
  refine L.yl (Y.ld sc3 rfl rfl) ?_
  refine L.yl (Y.ld sc3 rfl rfl) ?_
  refine L.yl (Y.gtr rfl rfl) ?_
  refine L.yl (Y.as rfl) ?_
  refine L.nil ?_
  refine C.ret ?_
  refine FnPost.r1 Go.Proofs.Tryz.results137 rfl ?_
  exact ⟨[blk bs [.int .i64 o] 3], inferInstance, rfl, rfl⟩
theorem ru_mee1 (s : Sp) (bs : Nat) (x : Sp) (w : World) (hw : X.Holds w [blk bs (spCs s) 35]) : Calls Go.Proofs.Tryz.prog 140 #[spV x, .pointer (some ⟨bs, 0, none⟩)] w (Post w [blk bs (spCs s) 35] (RW fun r Γ => r = .bool (decide (s.1 < x.2)) ∧ Γ = [blk bs (spCs s) 35])) := by
  refine spec_of Go.Proofs.Tryz.func140 rfl Go.Proofs.Tryz.ntmps140 rfl hw ?_
  change C _ _ _ _ _ _ _ ⟨[(0, _), (1, _)], []⟩ _
  refine C.regS ?_
  refine L.bxa rfl ?_; intro b2
  refine L.yl (Y.as rfl) ?_
  refine L.nil ?_
  refine C.regS ?_
  first | refine L.yl (Y.fa0 fl35_1 rfl) ?_ | refine L.yl (Y.fa fl35_1 rfl) ?_ | refine L.yl (Y.fas fl35_1 rfl (by simp; omega)) ?_
  refine L.yl (Y.ld sc3 rfl rfl) ?_
  first | refine L.yl (Y.fa0 fl35_0 rfl) ?_ | refine L.yl (Y.fa fl35_0 rfl) ?_ | refine L.yl (Y.fas fl35_0 rfl (by simp; omega)) ?_
  refine L.yl (Y.ld sc3 rfl rfl) ?_
  refine L.yl (Y.gtr rfl rfl) ?_
  refine L.yl (Y.as rfl) ?_
  refine L.nil ?_
  refine C.ret ?_
  refine FnPost.r1 Go.Proofs.Tryz.results140 rfl ?_
  exact ⟨[blk bs (spCs s) 35], inferInstance, rfl, rfl⟩
theorem ru_New (w : World) : Calls Go.Proofs.Tryz.prog 56 #[] w (Post w [] (fun r Γ => ∃ p, r = .pointer (some ⟨p, 0, none⟩) ∧ Γ = [blk p [.slice none 0 0] 147])) := by
  refine spec_of Go.Proofs.Tryz.func56 rfl Go.Proofs.Tryz.ntmps56 rfl (Holds.nil w) ?_
  change C _ _ _ _ _ _ _ ⟨[], []⟩ _
  refine C.regS ?_
  refine L.yl (Y.as rfl) ?_
  refine L.nil ?_
  refine C.regS ?_
  refine L.yl (Y.bdL (cs := [_]) zr147 bd147 rfl rfl rfl) ?_
  refine L.bxa rfl ?_; intro b2
  refine L.yl (Y.as rfl) ?_
  refine L.nil ?_
  refine C.ret ?_
  refine FnPost.r1 Go.Proofs.Tryz.results56 rfl ?_
  exact ⟨b2, rfl, rfl⟩
def runR (l : List Sp) (o : Int) : Option Sp := match l[firstI l (fun x => decide (o < x.2))]? with
  | some x => if o < x.1 then none else some x
  | none => none
def nextR (l : List Sp) (o : Int) : Sp := match l[firstI l (fun x => decide (o < x.2))]? with
  | some x => fromS x o
  | none => (0, 0)
def gapR (l : List Sp) (o : Int) : Int := match runR l (min (max o 0) 4611686018427387904) with
  | some x => x.2
  | none => min (max o 0) 4611686018427387904
theorem ru_Next (p : Nat) (a : Option Addr) (c : Nat) (l : List Sp) (hl : l.length ≤ 4294967296) (o : Int) (w : World) (hw : X.Holds w [blk p [.slice a l.length c] 147, own 35 2 a l.length c (spL l)]) : Calls Go.Proofs.Tryz.prog 109 #[.pointer (some ⟨p, 0, none⟩), .int .i64 o] w (Post w [blk p [.slice a l.length c] 147, own 35 2 a l.length c (spL l)] (RW fun r Γ => (∃ b, r = .tuple #[spV (nextR l o), .bool b]) ∧ Γ = [blk p [.slice a l.length c] 147, own 35 2 a l.length c (spL l)])) := by
  refine spec_of Go.Proofs.Tryz.func109 rfl Go.Proofs.Tryz.ntmps109 rfl hw ?_
  change C _ _ _ _ _ _ _ ⟨[(0, _), (1, _)], []⟩ _
  refine C.regS ?_
  refine L.bx rfl rfl ?_; intro b3
  refine L.al (zs := [.int .i64 0, .int .i64 0]) zr35 rfl ?_; intro b4
  refine L.yl (Y.as rfl) ?_
  refine L.nil ?_
  refine C.regS ?_
  refine L.yl (Y.mv rfl) ?_
  refine L.yl (Y.mkf (cv := #[_]) rfl) ?_
  refine L.callFW (Γf := [blk p [.slice a l.length c] 147, own 35 2 a l.length c (spL l), blk b3 [.int .i64 o] 3]) go114 rfl (fun w2 hw2 hf2 => ru_first p a c l hl b3 [.int .i64 o] 3 _ rfl (fun x => decide (o < x.2)) (fun x w3 hw3 => CallV.of (args := [spV x]) (cap := [.pointer (some ⟨b3, 0, none⟩)]) go137 (of_rw (ru_next1 _ b3 x w3 hw3))) w2 hf2) ?_
  rintro _ _ ⟨rfl, rfl⟩
  refine L.apc ?_
  have hfi := firstI_le l (fun x => decide (o < x.2))
  refine L.yl (Y.as rfl) ?_
  refine L.nil ?_
  refine C.seq ?_
  refine C.test (firstI l (fun x => decide (o < x.2)) = l.length) ?_ (fun hc1 => ?_) (fun hc1 => ?_)
  ·
    refine L.yl (Y.mv rfl) ?_
    first | refine L.yl (Y.eqpS ⟨_, Go.Proofs.Tryz.underlying109⟩ rfl) ?_ | refine L.yl (Y.eqpN ⟨_, Go.Proofs.Tryz.underlying109⟩ rfl) ?_
    refine L.yl (Y.mv rfl) ?_
    refine L.gOn (t := 12) rfl rfl ?_
    refine L.yl (Y.mv rfl) ?_
    refine L.gOn (t := 12) rfl rfl ?_
    refine L.yl (Y.mv rfl) ?_
    refine L.gOn (t := 12) rfl rfl ?_
    refine L.yl (Y.nck rfl) ?_
    refine L.gOn (t := 12) rfl rfl ?_
    first | refine L.yl (Y.fa0 fl147_0 rfl) ?_ | refine L.yl (Y.fa fl147_0 rfl) ?_ | refine L.yl (Y.fas fl147_0 rfl (by simp; omega)) ?_
    refine L.gOn (t := 12) rfl rfl ?_
    refine L.yl (Y.ld sc29 rfl rfl) ?_
    refine L.gOn (t := 12) rfl rfl ?_
    refine L.yl (Y.len ⟨_, Go.Proofs.Tryz.underlying29⟩ rfl) ?_
    refine L.gOn (t := 12) rfl rfl ?_
    refine L.yl (Y.eqi rfl rfl) ?_
    refine L.yl (Y.pickF rfl rfl) ?_
    refine L.nil ?_
    exact ⟨_, rfl, by first | exact ⟨fun _ => by omega, fun _ => rfl⟩ | (rw [decide_eq_true_iff]; omega) | exact ⟨fun h => by cases h, fun h => by omega⟩ | (simp [*] <;> omega), (by repeat (first | exact Inc.refl _ | refine Inc.cons rfl ?_)), rfl, rfl⟩
  ·
    have hx0 : l[firstI l (fun x => decide (o < x.2))]? = none := List.getElem?_eq_none (by omega)
    refine C.regS ?_
    refine L.yl (Y.bdL (cs := [_, _]) zr35 bd35 rfl rfl rfl) ?_
    refine L.sta (vs := [_, _]) ag35 rfl rfl rfl rfl rfl ?_
    refine L.yl (Y.as rfl) ?_
    refine L.nil ?_
    refine C.ret ?_
    refine Then.r ?_
    refine FnPost.rg (xs := [.cell 4 35, .tmp 5]) (congrArg Array.toList Go.Proofs.Tryz.results109) (ra_ag (us := [_, _]) rfl ag35 rfl (ra_tmp rfl ra_nil)) ?_
    have e : nextR l o = (0, 0) := by unfold nextR; rw [hx0]
    exact ⟨[blk p [.slice a l.length c] 147, own 35 2 a l.length c (spL l)], inferInstance, ⟨_, by rw [e]; rfl⟩, rfl⟩
  ·
    obtain ⟨x0, hx0⟩ : ∃ u, l[firstI l (fun x => decide (o < x.2))]? = some u := ⟨_, List.getElem?_eq_getElem (by omega)⟩
    refine C.skip ?_
    refine Then.n ?_
    refine C.drwBS [b4] (.y 0 (.y 1 (.y 2 (.y 3 (.y 4 (.y 5 (.y 6 (.y 7 (.h 8 (.h 9 (.y 10 (.fin)))))))))))) mixo (by kernel_rfl) ?_
    refine V.yl rfl (Y.mv rfl) ?_
    refine V.yl rfl (Y.nck rfl) ?_
    first | refine V.yl rfl (Y.fa0 fl147_0 rfl) ?_ | refine V.yl rfl (Y.fa fl147_0 rfl) ?_ | refine V.yl rfl (Y.fas fl147_0 rfl (by simp; omega)) ?_
    refine V.yl rfl (Y.ld sc29 rfl rfl) ?_
    refine V.yl rfl (Y.mv rfl) ?_
    refine V.yl rfl (Y.ix slt29 rfl rfl (by rw [spL_length]) (by omega) (by omega)) ?_
    refine V.yl rfl (Y.ldsa (vs := spCs x0) ag35 rfl rfl (by decide) (fun j v hj => by rw [show (((firstI l (fun x => decide (o < x.2)) : Nat) : Int).toNat * 2 + j) = firstI l (fun x => decide (o < x.2)) * 2 + j from rfl, spL_get l _ j _ hx0 (by have := (List.getElem?_eq_some_iff.1 hj).1; exact this)]; exact hj)) ?_
    refine V.yl rfl (Y.ld sc3 rfl rfl) ?_
    refine V.hv rfl ?_
    refine L.apc ?_
    refine L.callP go138 rfl (fun w hw => span_From _ _ _ w) ?_
    refine L.nil ?_
    refine V.on ?_
    refine V.hv rfl ?_
    refine L.apc ?_
    refine L.sta (vs := [_, _]) ag35 rfl rfl rfl rfl rfl ?_
    refine L.nil ?_
    refine V.on ?_
    refine V.yl rfl (Y.as rfl) ?_
    refine V.fin ?_
    refine C.ret ?_
    refine FnPost.rg (xs := [.cell 4 35, .tmp 5]) (congrArg Array.toList Go.Proofs.Tryz.results109) (ra_ag (us := [_, _]) rfl ag35 rfl (ra_tmp rfl ra_nil)) ?_
    have e : nextR l o = fromS x0 o := by unfold nextR; rw [hx0]
    exact ⟨[blk p [.slice a l.length c] 147, own 35 2 a l.length c (spL l)], inferInstance, ⟨_, by rw [e]; rfl⟩, rfl⟩
theorem ru_Run (p : Nat) (a : Option Addr) (c : Nat) (l : List Sp) (hl : l.length ≤ 4294967296) (o : Int) (w : World) (hw : X.Holds w [blk p [.slice a l.length c] 147, own 35 2 a l.length c (spL l)]) : Calls Go.Proofs.Tryz.prog 120 #[.pointer (some ⟨p, 0, none⟩), .int .i64 o] w (Post w [blk p [.slice a l.length c] 147, own 35 2 a l.length c (spL l)] (RW fun r Γ => r = .tuple #[spV ((runR l o).getD (0, 0)), .bool (decide (runR l o ≠ none))] ∧ Γ = [blk p [.slice a l.length c] 147, own 35 2 a l.length c (spL l)])) := by
  have hcs : ∀ x0, l[(firstI l (fun x => decide (o < x.2)))]? = some x0 → (firstI l (fun x => decide (o < x.2))) < l.length := fun x0 h => (List.getElem?_eq_some_iff.1 h).1
  refine spec_of Go.Proofs.Tryz.func120 rfl Go.Proofs.Tryz.ntmps120 rfl hw ?_
  change C _ _ _ _ _ _ _ ⟨[(0, _), (1, _)], []⟩ _
  refine C.regS ?_
  refine L.bx rfl rfl ?_; intro b3
  refine L.al (zs := [.int .i64 0, .int .i64 0]) zr35 rfl ?_; intro b4
  refine L.yl (Y.as rfl) ?_
  refine L.nil ?_
  refine C.regS ?_
  refine L.yl (Y.mv rfl) ?_
  refine L.yl (Y.mkf (cv := #[_]) rfl) ?_
  refine L.callFW (Γf := [blk p [.slice a l.length c] 147, own 35 2 a l.length c (spL l), blk b3 [.int .i64 o] 3]) go114 rfl (fun w2 hw2 hf2 => ru_first p a c l hl b3 [.int .i64 o] 3 _ rfl (fun x => decide (o < x.2)) (fun x w3 hw3 => CallV.of (args := [spV x]) (cap := [.pointer (some ⟨b3, 0, none⟩)]) go146 (of_rw (ru_run1 _ b3 x w3 hw3))) w2 hf2) ?_
  rintro _ _ ⟨rfl, rfl⟩
  refine L.apc ?_
  have hfi := firstI_le l (fun x => decide (o < x.2))
  refine L.byc ((firstI l (fun x => decide (o < x.2))) = l.length) (fun hq => ?_) (fun hq => ?_)
  ·
    have hx0 : l[(firstI l (fun x => decide (o < x.2)))]? = none := List.getElem?_eq_none (by omega)
    refine L.yl (Y.as rfl) ?_
    refine L.nil ?_
    refine C.seq ?_
    refine C.drwS (.y 0 (.y 1 (.y 2 (.y 3 (.y 4 (.y 5 (.y 6 (.y 7 (.y 8 (.y 9 (.y 10 (.y 11 (.y 12 (.y 13 (.y 14 (.y 15 (.y 16 (.y 17 (.y 18 (.y 19 (.y 20 (.y 21 (.y 22 (.fin)))))))))))))))))))))))) mixo (by kernel_rfl) ?_
    refine V.yl rfl (Y.mv rfl) ?_
    first | refine V.yl rfl (Y.eqpS ⟨_, Go.Proofs.Tryz.underlying109⟩ rfl) ?_ | refine V.yl rfl (Y.eqpN ⟨_, Go.Proofs.Tryz.underlying109⟩ rfl) ?_
    refine V.yl rfl (Y.mv rfl) ?_
    refine V.yOnD rfl rfl rfl (by simp <;> omega) (Y.mv rfl) ?_
    refine V.yOnD rfl rfl rfl (by simp <;> omega) (Y.mv rfl) ?_
    refine V.yOnD rfl rfl rfl (by simp <;> omega) (Y.nck rfl) ?_
    first | refine V.yOnD rfl rfl rfl (by simp <;> omega) (Y.fa0 fl147_0 rfl) ?_ | refine V.yOnD rfl rfl rfl (by simp <;> omega) (Y.fa fl147_0 rfl) ?_ | refine V.yOnD rfl rfl rfl (by simp <;> omega) (Y.fas fl147_0 rfl (by simp; omega)) ?_
    refine V.yOnD rfl rfl rfl (by simp <;> omega) (Y.ld sc29 rfl rfl) ?_
    refine V.yOnD rfl rfl rfl (by simp <;> omega) (Y.len ⟨_, Go.Proofs.Tryz.underlying29⟩ rfl) ?_
    refine V.yOnD rfl rfl rfl (by simp <;> omega) (Y.eqi rfl rfl) ?_
    rw [decide_eq_true (show (((firstI l (fun x => decide (o < x.2))) : Nat) : Int) = (l.length : Int) by omega)]
    refine V.yl rfl (Y.pickF rfl rfl) ?_
    refine V.yl rfl (Y.mv rfl) ?_
    refine V.yOff rfl rfl rfl rfl ?_
    refine V.yOff rfl rfl rfl rfl ?_
    refine V.yOff rfl rfl rfl rfl ?_
    refine V.yOff rfl rfl rfl rfl ?_
    refine V.yOff rfl rfl rfl rfl ?_
    refine V.yOff rfl rfl rfl rfl ?_
    refine V.yOff rfl rfl rfl rfl ?_
    refine V.yOff rfl rfl rfl rfl ?_
    refine V.yOff rfl rfl rfl rfl ?_
    refine V.yOff rfl rfl rfl rfl ?_
    refine V.yl rfl (Y.pickT rfl rfl) ?_
    refine V.fin ?_
    refine C.condTt rfl ?_
    refine C.regS ?_
    refine L.yl (Y.bdL (cs := [_, _]) zr35 bd35 rfl rfl rfl) ?_
    refine L.sta (vs := [_, _]) ag35 rfl rfl rfl rfl rfl ?_
    refine L.yl (Y.as rfl) ?_
    refine L.nil ?_
    refine C.ret ?_
    refine Then.r ?_
    refine FnPost.rg (xs := [.cell 4 35, .tmp 5]) (congrArg Array.toList Go.Proofs.Tryz.results120) (ra_ag (us := [_, _]) rfl ag35 rfl (ra_tmp rfl ra_nil)) ?_
    have e : runR l o = none := by unfold runR; rw [hx0]
    rw [e]
    exact ⟨[blk p [.slice a l.length c] 147, own 35 2 a l.length c (spL l)], inferInstance, rfl, rfl⟩
  ·
    obtain ⟨x0, hx0⟩ : ∃ u, l[(firstI l (fun x => decide (o < x.2)))]? = some u := ⟨_, List.getElem?_eq_getElem (by omega)⟩
    refine L.yl (Y.as rfl) ?_
    refine L.nil ?_
    refine C.seq ?_
    refine C.drwS (.y 0 (.y 1 (.y 2 (.y 3 (.y 4 (.y 5 (.y 6 (.y 7 (.y 8 (.y 9 (.y 10 (.y 11 (.y 12 (.y 13 (.y 14 (.y 15 (.y 16 (.y 17 (.y 18 (.y 19 (.y 20 (.y 21 (.y 22 (.fin)))))))))))))))))))))))) mixo (by kernel_rfl) ?_
    refine V.yl rfl (Y.mv rfl) ?_
    first | refine V.yl rfl (Y.eqpS ⟨_, Go.Proofs.Tryz.underlying109⟩ rfl) ?_ | refine V.yl rfl (Y.eqpN ⟨_, Go.Proofs.Tryz.underlying109⟩ rfl) ?_
    refine V.yl rfl (Y.mv rfl) ?_
    refine V.yOnD rfl rfl rfl (by simp <;> omega) (Y.mv rfl) ?_
    refine V.yOnD rfl rfl rfl (by simp <;> omega) (Y.mv rfl) ?_
    refine V.yOnD rfl rfl rfl (by simp <;> omega) (Y.nck rfl) ?_
    first | refine V.yOnD rfl rfl rfl (by simp <;> omega) (Y.fa0 fl147_0 rfl) ?_ | refine V.yOnD rfl rfl rfl (by simp <;> omega) (Y.fa fl147_0 rfl) ?_ | refine V.yOnD rfl rfl rfl (by simp <;> omega) (Y.fas fl147_0 rfl (by simp; omega)) ?_
    refine V.yOnD rfl rfl rfl (by simp <;> omega) (Y.ld sc29 rfl rfl) ?_
    refine V.yOnD rfl rfl rfl (by simp <;> omega) (Y.len ⟨_, Go.Proofs.Tryz.underlying29⟩ rfl) ?_
    refine V.yOnD rfl rfl rfl (by simp <;> omega) (Y.eqi rfl rfl) ?_
    rw [decide_eq_false (show ¬ ((((firstI l (fun x => decide (o < x.2))) : Nat) : Int) = (l.length : Int)) by omega)]
    refine V.yl rfl (Y.pickF rfl rfl) ?_
    refine V.yl rfl (Y.mv rfl) ?_
    refine V.yOnD rfl rfl rfl (by simp <;> omega) (Y.mv rfl) ?_
    refine V.yOnD rfl rfl rfl (by simp <;> omega) (Y.nck rfl) ?_
    first | refine V.yOnD rfl rfl rfl (by simp <;> omega) (Y.fa0 fl147_0 rfl) ?_ | refine V.yOnD rfl rfl rfl (by simp <;> omega) (Y.fa fl147_0 rfl) ?_ | refine V.yOnD rfl rfl rfl (by simp <;> omega) (Y.fas fl147_0 rfl (by simp; omega)) ?_
    refine V.yOnD rfl rfl rfl (by simp <;> omega) (Y.ld sc29 rfl rfl) ?_
    refine V.yOnD rfl rfl rfl (by simp <;> omega) (Y.mv rfl) ?_
    refine V.yOnD rfl rfl rfl (by simp <;> omega) (Y.ix slt29 rfl rfl (by rw [spL_length]) (by omega) (by omega)) ?_
    first | refine V.yOnD rfl rfl rfl (by simp <;> omega) (Y.fa0 fl35_0 rfl) ?_ | refine V.yOnD rfl rfl rfl (by simp <;> omega) (Y.fa fl35_0 rfl) ?_ | refine V.yOnD rfl rfl rfl (by simp <;> omega) (Y.fas fl35_0 rfl (by rw [spL_length]; omega)) ?_
    first | refine V.yOnD rfl rfl rfl (by simp <;> omega) (Y.ld sc3 rfl rfl) ?_ | refine V.yOnD rfl rfl rfl (by simp <;> omega) (Y.lds sc3 rfl (by rw [show ((((firstI l (fun x => decide (o < x.2))) : Nat) : Int).toNat * 2 + 0) = (firstI l (fun x => decide (o < x.2))) * 2 + 0 from rfl, spL_get l _ 0 _ hx0 (by omega)]; rfl)) ?_
    refine V.yOnD rfl rfl rfl (by simp <;> omega) (Y.ld sc3 rfl rfl) ?_
    refine V.yOnD rfl rfl rfl (by simp <;> omega) (Y.gtr rfl rfl) ?_
    refine V.yl rfl (Y.pickF rfl rfl) ?_
    refine V.fin ?_
    refine C.condP rfl (fun hc2 => ?_) (fun hc2 => ?_)
    ·
      refine C.regS ?_
      refine L.yl (Y.bdL (cs := [_, _]) zr35 bd35 rfl rfl rfl) ?_
      refine L.sta (vs := [_, _]) ag35 rfl rfl rfl rfl rfl ?_
      refine L.yl (Y.as rfl) ?_
      refine L.nil ?_
      refine C.ret ?_
      refine Then.r ?_
      refine FnPost.rg (xs := [.cell 4 35, .tmp 5]) (congrArg Array.toList Go.Proofs.Tryz.results120) (ra_ag (us := [_, _]) rfl ag35 rfl (ra_tmp rfl ra_nil)) ?_
      have e : runR l o = none := by unfold runR; rw [hx0]; exact if_pos (by omega)
      rw [e]
      exact ⟨[blk p [.slice a l.length c] 147, own 35 2 a l.length c (spL l)], inferInstance, rfl, rfl⟩
    ·
      refine C.skip ?_
      refine Then.n ?_
      refine C.regS ?_
      refine L.yl (Y.mv rfl) ?_
      refine L.yl (Y.nck rfl) ?_
      first | refine L.yl (Y.fa0 fl147_0 rfl) ?_ | refine L.yl (Y.fa fl147_0 rfl) ?_ | refine L.yl (Y.fas fl147_0 rfl (by simp; omega)) ?_
      refine L.yl (Y.ld sc29 rfl rfl) ?_
      refine L.yl (Y.mv rfl) ?_
      refine L.yl (Y.ix slt29 rfl rfl (by rw [spL_length]) (by omega) (by omega)) ?_
      refine L.yl (Y.ldsa (vs := spCs x0) ag35 rfl rfl (by decide) (fun j v hj => by rw [show (((firstI l (fun x => decide (o < x.2)) : Nat) : Int).toNat * 2 + j) = firstI l (fun x => decide (o < x.2)) * 2 + j from rfl, spL_get l _ j _ hx0 (by have := (List.getElem?_eq_some_iff.1 hj).1; exact this)]; exact hj)) ?_
      refine L.sta (vs := [_, _]) ag35 rfl rfl rfl rfl rfl ?_
      refine L.yl (Y.as rfl) ?_
      refine L.nil ?_
      refine C.ret ?_
      refine FnPost.rg (xs := [.cell 4 35, .tmp 5]) (congrArg Array.toList Go.Proofs.Tryz.results120) (ra_ag (us := [_, _]) rfl ag35 rfl (ra_tmp rfl ra_nil)) ?_
      have e : runR l o = some x0 := by unfold runR; rw [hx0]; exact if_neg (by omega)
      rw [e]
      exact ⟨[blk p [.slice a l.length c] 147, own 35 2 a l.length c (spL l)], inferInstance, rfl, rfl⟩
end Go.Proofs.YtcbhcdcobgdddaaGreat
set_option maxHeartbeats 1000000
namespace Go.Proofs.YtcbhcdcobgdddaaGreat
open Go Go.X Go.Rep Go.Shelf
theorem go120 : Goes Go.Proofs.Tryz.prog 120 := enters_of Go.Proofs.Tryz.func120 (by kernel_rfl) rfl
theorem go144 : Goes Go.Proofs.Tryz.prog 144 := enters_of Go.Proofs.Tryz.func144 (by kernel_rfl) rfl
theorem ru_Gap (p : Nat) (a : Option Addr) (c : Nat) (l : List Sp) (hl : l.length ≤ 4294967296) (o : Int) (w : World) (hw : X.Holds w [blk p [.slice a l.length c] 147, own 35 2 a l.length c (spL l)]) : Calls Go.Proofs.Tryz.prog 72 #[.pointer (some ⟨p, 0, none⟩), .int .i64 o] w (Post w [blk p [.slice a l.length c] 147, own 35 2 a l.length c (spL l)] (RW fun r Γ => r = .int .i64 (gapR l o) ∧ Γ = [blk p [.slice a l.length c] 147, own 35 2 a l.length c (spL l)])) := by
  refine spec_of Go.Proofs.Tryz.func72 rfl Go.Proofs.Tryz.ntmps72 rfl hw ?_
  change C _ _ _ _ _ _ _ ⟨[(0, _), (1, _)], []⟩ _
  refine C.regS ?_
  refine L.yl (Y.as rfl) ?_
  refine L.nil ?_
  refine C.regS ?_
  refine L.yl (Y.mv rfl) ?_
  refine L.yl (Y.max2 rfl rfl) ?_
  refine L.yl (Y.min2 rfl rfl) ?_
  refine L.yl (Y.as rfl) ?_
  refine L.nil ?_
  refine C.seq ?_
  refine C.regS ?_
  refine L.yl (Y.mv rfl) ?_
  refine L.yl (Y.mv rfl) ?_
  refine L.callFW (Γf := [blk p [.slice a l.length c] 147, own 35 2 a l.length c (spL l)]) go120 rfl (fun w hw hf => ru_Run p a c l hl _ w hf) ?_
  rintro _ _ ⟨rfl, rfl⟩
  refine L.apc ?_
  refine L.yl (Y.mv rfl) ?_
  refine L.yl (Y.extL rfl rfl) ?_
  refine L.yl (Y.extL rfl rfl) ?_
  refine L.al (zs := [.int .i64 0, .int .i64 0]) zr35 rfl ?_; intro b5
  refine L.sta (vs := [_, _]) ag35 rfl rfl rfl rfl rfl ?_
  refine L.yl (Y.as rfl) ?_
  refine L.nil ?_
  refine C.regS ?_
  refine L.yl (Y.mv rfl) ?_
  refine L.nil ?_
  refine C.condP rfl (fun hc1 => ?_) (fun hc1 => ?_)
  ·
    refine C.regS ?_
    first | refine L.yl (Y.fa0 fl35_1 rfl) ?_ | refine L.yl (Y.fa fl35_1 rfl) ?_ | refine L.yl (Y.fas fl35_1 rfl (by simp; omega)) ?_
    refine L.yl (Y.ld sc3 rfl rfl) ?_
    refine L.yl (Y.as rfl) ?_
    refine L.nil ?_
    refine C.ret ?_
    refine Then.r ?_
    refine FnPost.r1 Go.Proofs.Tryz.results72 rfl ?_
    obtain ⟨x, hx⟩ : ∃ x, runR l (min (max o 0) 4611686018427387904) = some x := by
      cases h : runR l (min (max o 0) 4611686018427387904) with
      | none => exact absurd h hc1
      | some x => exact ⟨x, rfl⟩
    have e : gapR l o = x.2 := by unfold gapR; rw [hx]
    rw [e, hx]
    exact ⟨[blk p [.slice a l.length c] 147, own 35 2 a l.length c (spL l)], inferInstance, rfl, rfl⟩
  ·
    refine C.skip ?_
    refine Then.n ?_
    refine C.regS ?_
    refine L.yl (Y.mv rfl) ?_
    refine L.yl (Y.as rfl) ?_
    refine L.nil ?_
    refine C.ret ?_
    refine FnPost.r1 Go.Proofs.Tryz.results72 rfl ?_
    have e : gapR l o = min (max o 0) 4611686018427387904 := by unfold gapR; rw [Decidable.not_not.1 hc1]
    rw [e]
    exact ⟨[blk p [.slice a l.length c] 147, own 35 2 a l.length c (spL l)], inferInstance, rfl, rfl⟩
theorem ru_ask (p : Nat) (x y : Int) (w : World) : Pur Go.Proofs.Tryz.prog 113 [.pointer (some ⟨p, 0, none⟩), .agg #[.int .i64 x, .int .i64 y]] (.int .i64 (if May (x, y) then 0 else 3)) w := by
  refine pur_of Go.Proofs.Tryz.func113 rfl Go.Proofs.Tryz.ntmps113 rfl ?_
  change C _ _ _ _ _ _ _ ⟨[(0, _), (1, _)], []⟩ _
  refine C.regS ?_
  refine L.bxa rfl ?_; intro b3
  refine L.yl (Y.as rfl) ?_
  refine L.nil ?_
  refine C.seq ?_
  refine C.block ?_
  refine C.regS ?_
  refine L.yl (Y.mv rfl) ?_
  first | refine L.yl (Y.eqpS ⟨_, Go.Proofs.Tryz.underlying109⟩ rfl) ?_ | refine L.yl (Y.eqpN ⟨_, Go.Proofs.Tryz.underlying109⟩ rfl) ?_
  refine L.yl (Y.as rfl) ?_
  refine L.nil ?_
  refine C.condFf rfl ?_
  refine C.regS ?_
  refine L.yl (Y.lda (vs := [_, _]) ag35 rfl rfl) ?_
  refine L.callP go141 rfl (fun w hw => span_May _ _ w) ?_
  first | refine L.yl (Y.notP rfl) ?_ | refine L.yl (Y.not rfl) ?_
  refine L.yl (Y.as rfl) ?_
  refine L.nil ?_
  refine C.condP rfl (fun hc2 => ?_) (fun hc2 => ?_)
  ·
    refine C.regS ?_
    refine L.yl (Y.as rfl) ?_
    refine L.nil ?_
    refine C.ret ?_
    refine InBlo.r ?_
    refine Then.r ?_
    refine FnPost.r1 Go.Proofs.Tryz.results113 rfl ?_
    rw [if_neg hc2]
  ·
    refine C.skip ?_
    refine InBlo.n ?_
    refine Then.n ?_
    refine C.regS ?_
    refine L.yl (Y.as rfl) ?_
    refine L.nil ?_
    refine C.ret ?_
    refine FnPost.r1 Go.Proofs.Tryz.results113 rfl ?_
    rw [if_pos (Decidable.not_not.1 hc2)]
theorem span_Hull (a : Option Addr) (l : List Sp) (c : Nat) (hl : l.length ≤ 4294967296) (w : World) (h : Rs w a (spL l)) : Pur Go.Proofs.Tryz.prog 118 [.slice a l.length c] (spV (hullS l)) w := by
  haveI hrd : ∀ Γ, Rd w (fps []) Γ a (spL l) := fun Γ => Rd.old0 h Γ
  refine pur_of Go.Proofs.Tryz.func118 rfl Go.Proofs.Tryz.ntmps118 rfl ?_
  change C _ _ _ _ _ _ _ ⟨[(0, _)], []⟩ _
  refine C.regS ?_
  refine L.al (zs := [.int .i64 0, .int .i64 0]) zr35 rfl ?_; intro b2
  refine L.nil ?_
  refine C.regS ?_
  refine L.al (zs := [.int .i64 0, .int .i64 0]) zr35 rfl ?_; intro b3
  refine L.nil ?_
  refine C.seq ?_
  refine C.regS ?_
  refine L.yl (Y.mv rfl) ?_
  refine L.yl (Y.len ⟨_, Go.Proofs.Tryz.underlying29⟩ rfl) ?_
  refine L.yl (Y.mv rfl) ?_
  refine L.nil ?_
  refine C.block ?_
  refine C.loop (σ := Nat × Sp) (fun (i, o) => [(2, .pointer (some ⟨b2, 0, none⟩)), (3, .pointer (some ⟨b3, 0, none⟩)), (6, .slice a l.length c), (7, .int .i64 l.length), (8, .int .i64 i)]) (fun (i, o) => [blk b3 (spCs o) 35, blk b2 [.int .i64 0, .int .i64 0] 35]) (fun (i, o) => i ≤ l.length ∧ o = (l.take i).foldl hullStep (0, 0)) (fun (i, o) => l.length - i) (0, ((0 : Int), (0 : Int))) ?_ ?_ ?_ ?_
  · repeat (first | exact trivial | refine ⟨rfl, ?_⟩)
  · first | exact .of (.refl _) | exact inferInstance | (dsimp only; exact inferInstance)
  · exact ⟨Nat.zero_le _, rfl⟩
  · rintro ⟨i, o⟩ ⟨hI1, hI2⟩
    try dsimp only
    refine C.regS ?_
    refine L.yl (Y.lss rfl rfl) ?_
    refine L.nil ?_
    refine C.seq ?_
    refine C.condP rfl (fun hc1 => ?_) (fun hc1 => ?_)
    ·
      obtain ⟨x0, hx0⟩ : ∃ u, l[i]? = some u := ⟨_, List.getElem?_eq_getElem (by omega)⟩
      refine C.skip ?_
      refine Then.n ?_
      refine C.seq ?_
      refine C.block ?_
      refine C.regS ?_
      refine L.yl (Y.ix slt29 rfl rfl (by rw [spL_length]) (by omega) (by omega)) ?_
      refine L.yl (Y.ldsa (vs := spCs x0) ag35 rfl rfl (by decide) (fun j v hj => by rw [show (((i : Nat) : Int).toNat * 2 + j) = i * 2 + j from rfl, spL_get l _ j _ hx0 (by have := (List.getElem?_eq_some_iff.1 hj).1; exact this)]; exact hj)) ?_
      refine L.al (zs := [.int .i64 0, .int .i64 0]) zr35 rfl ?_; intro b5
      refine L.sta (vs := [_, _]) ag35 rfl rfl rfl rfl rfl ?_
      refine L.nil ?_
      refine C.block ?_
      refine C.regS ?_
      refine L.yl (Y.lda (vs := [_, _]) ag35 rfl rfl) ?_
      refine L.callP go144 rfl (fun w hw => span_none _ _ w) ?_
      refine L.yl (Y.as rfl) ?_
      refine L.nil ?_
      refine C.condP rfl (fun hc2 => ?_) (fun hc2 => ?_)
      ·
        refine C.skip ?_
        refine InBlo.n ?_
        refine InBlo.n ?_
        refine Then.n ?_
        refine C.reg ?_
        first | refine L.yl (Y.add rfl rfl (by omega)) ?_ | refine L.yl (Y.addW rfl rfl) ?_
        refine L.yl (Y.mv rfl) ?_
        refine L.nil ?_
        exact ⟨(i + 1, o), (by repeat (first | exact trivial | refine ⟨rfl, ?_⟩ | refine ⟨congrArg some (by simp), ?_⟩ | refine ⟨congrArg some (by simp; omega), ?_⟩)), rfl, (by first | exact inferInstance | (dsimp only; exact inferInstance)), ⟨by omega, by dsimp only; rw [List.take_add_one, hx0, List.foldl_append, ← hI2]; show o = hullStep o x0; unfold hullStep; rw [if_pos hc2]⟩, (by first | omega | (dsimp only; omega))⟩
      ·
        refine C.regS ?_
        refine L.yl (Y.lda (vs := [_, _]) ag35 rfl rfl) ?_
        refine L.callP go144 rfl (fun w hw => span_none _ _ w) ?_
        refine L.yl (Y.as rfl) ?_
        refine L.nil ?_
        refine C.condP rfl (fun hc3 => ?_) (fun hc3 => ?_)
        ·
          refine C.reg ?_
          refine L.yl (Y.lda (vs := [_, _]) ag35 rfl rfl) ?_
          refine L.sta (vs := [_, _]) ag35 rfl rfl rfl rfl rfl ?_
          refine L.nil ?_
          refine InBlo.n ?_
          refine InBlo.n ?_
          refine Then.n ?_
          refine C.reg ?_
          first | refine L.yl (Y.add rfl rfl (by omega)) ?_ | refine L.yl (Y.addW rfl rfl) ?_
          refine L.yl (Y.mv rfl) ?_
          refine L.nil ?_
          exact ⟨(i + 1, x0), (by repeat (first | exact trivial | refine ⟨rfl, ?_⟩ | refine ⟨congrArg some (by simp), ?_⟩ | refine ⟨congrArg some (by simp; omega), ?_⟩)), rfl, (by first | exact inferInstance | (dsimp only; exact inferInstance)), ⟨by omega, by dsimp only; rw [List.take_add_one, hx0, List.foldl_append, ← hI2]; show x0 = hullStep o x0; unfold hullStep; rw [if_neg hc2, if_pos hc3]⟩, (by first | omega | (dsimp only; omega))⟩
        ·
          refine C.reg ?_
          first | refine L.yl (Y.fa0 fl35_0 rfl) ?_ | refine L.yl (Y.fa fl35_0 rfl) ?_ | refine L.yl (Y.fas fl35_0 rfl (by simp; omega)) ?_
          refine L.yl (Y.ld sc3 rfl rfl) ?_
          first | refine L.yl (Y.fa0 fl35_0 rfl) ?_ | refine L.yl (Y.fa fl35_0 rfl) ?_ | refine L.yl (Y.fas fl35_0 rfl (by simp; omega)) ?_
          refine L.yl (Y.ld sc3 rfl rfl) ?_
          refine L.yl (Y.min2 rfl rfl) ?_
          first | refine L.yl (Y.fa0 fl35_1 rfl) ?_ | refine L.yl (Y.fa fl35_1 rfl) ?_ | refine L.yl (Y.fas fl35_1 rfl (by simp; omega)) ?_
          refine L.yl (Y.ld sc3 rfl rfl) ?_
          first | refine L.yl (Y.fa0 fl35_1 rfl) ?_ | refine L.yl (Y.fa fl35_1 rfl) ?_ | refine L.yl (Y.fas fl35_1 rfl (by simp; omega)) ?_
          refine L.yl (Y.ld sc3 rfl rfl) ?_
          refine L.yl (Y.max2 rfl rfl) ?_
          refine L.yl (Y.bdL (cs := [_, _]) zr35 bd35 rfl rfl rfl) ?_
          refine L.sta (vs := [_, _]) ag35 rfl rfl rfl rfl rfl ?_
          refine L.nil ?_
          refine InBlo.n ?_
          refine InBlo.n ?_
          refine Then.n ?_
          refine C.reg ?_
          first | refine L.yl (Y.add rfl rfl (by omega)) ?_ | refine L.yl (Y.addW rfl rfl) ?_
          refine L.yl (Y.mv rfl) ?_
          refine L.nil ?_
          exact ⟨(i + 1, (min o.1 x0.1, max o.2 x0.2)), (by repeat (first | exact trivial | refine ⟨rfl, ?_⟩ | refine ⟨congrArg some (by simp), ?_⟩ | refine ⟨congrArg some (by simp; omega), ?_⟩)), rfl, (by first | exact inferInstance | (dsimp only; exact inferInstance)), ⟨by omega, by dsimp only; rw [List.take_add_one, hx0, List.foldl_append, ← hI2]; show (min o.1 x0.1, max o.2 x0.2) = hullStep o x0; unfold hullStep; rw [if_neg hc2, if_neg hc3]⟩, (by first | omega | (dsimp only; omega))⟩
    ·
      refine C.exit ?_
      refine Then.x ?_
      refine Then.x ?_
      refine InBlo.x ?_
      refine Then.n ?_
      refine C.regS ?_
      refine L.yl (Y.lda (vs := [_, _]) ag35 rfl rfl) ?_
      refine L.sta (vs := [_, _]) ag35 rfl rfl rfl rfl rfl ?_
      refine L.nil ?_
      refine C.ret ?_
      refine FnPost.rg (xs := [.cell 2 35]) (congrArg Array.toList Go.Proofs.Tryz.results118) (ra_ag (us := [_, _]) rfl ag35 rfl ra_nil) ?_
      have e : hullS l = o := by rw [hI2, List.take_of_length_le (by omega)]; rfl
      rw [e]; rfl
theorem ru_All (p : Nat) (w : World) : Calls Go.Proofs.Tryz.prog 123 #[.pointer (some ⟨p, 0, none⟩)] w (Post w [] (fun r Γ => ∃ px, r = .func (.func 147) #[] #[.pointer (some ⟨px, 0, none⟩)] ∧ Γ = [blk px [.pointer (some ⟨p, 0, none⟩)] 109])) := by
  refine spec_of Go.Proofs.Tryz.func123 rfl Go.Proofs.Tryz.ntmps123 rfl (Holds.nil w) ?_
  change C _ _ _ _ _ _ _ ⟨[(0, _)], []⟩ _
  refine C.regS ?_
  refine L.bx rfl rfl ?_; intro b1
  refine L.yl (Y.as rfl) ?_
  refine L.nil ?_
  refine C.regS ?_
  refine L.yl (Y.mkf (cv := #[_]) rfl) ?_
  refine L.yl (Y.as rfl) ?_
  refine L.nil ?_
  refine C.ret ?_
  refine FnPost.r1 Go.Proofs.Tryz.results123 rfl ?_
  exact ⟨b1, rfl, rfl⟩
theorem all_iter (w0 : World) (S0 : Nat → Prop) (px : Nat) (p : Nat) (a : Option Addr) (c : Nat) (l : List Sp) (hl : l.length ≤ 4294967296) : IterOkS w0 S0 Go.Proofs.Tryz.prog 147 #[.pointer (some ⟨px, 0, none⟩)] (fun x : Sp => [spV x]) l [blk px [.pointer (some ⟨p, 0, none⟩)] 109, blk p [.slice a l.length c] 147, own 35 2 a l.length c (spL l)] [blk p [.slice a l.length c] 147, own 35 2 a l.length c (spL l)] := by
  intro σ τ G I Gx Ix s0 y w hy1 hW hI hy
  replace hW : X.Sep w0 S0 w (blk px [.pointer (some ⟨p, 0, none⟩)] 109 :: blk p [.slice a l.length c] 147 :: own 35 2 a l.length c (spL l) :: G s0) := hW
  change Calls Go.Proofs.Tryz.prog 147 [y, .pointer (some ⟨px, 0, none⟩)].toArray w (Post w (blk px [.pointer (some ⟨p, 0, none⟩)] 109 :: blk p [.slice a l.length c] 147 :: own 35 2 a l.length c (spL l) :: G s0) _)
  refine spec_of Go.Proofs.Tryz.func147 rfl Go.Proofs.Tryz.ntmps147 rfl hW.holds ?_
  change C _ _ _ _ _ _ _ ⟨[(0, _), (1, _)], []⟩ _
  refine C.seq ?_
  refine C.regS ?_
  refine L.yl (Y.ld sc109 rfl rfl) ?_
  first | refine L.yl (Y.eqpS ⟨_, Go.Proofs.Tryz.underlying109⟩ rfl) ?_ | refine L.yl (Y.eqpN ⟨_, Go.Proofs.Tryz.underlying109⟩ rfl) ?_
  refine L.nil ?_
  refine C.condFf rfl ?_
  refine C.skip ?_
  refine Then.n ?_
  refine C.regS ?_
  refine L.yl (Y.ld sc109 rfl rfl) ?_
  refine L.yl (Y.nck rfl) ?_
  first | refine L.yl (Y.fa0 fl147_0 rfl) ?_ | refine L.yl (Y.fa fl147_0 rfl) ?_ | refine L.yl (Y.fas fl147_0 rfl (by simp; omega)) ?_
  refine L.yl (Y.ld sc29 rfl rfl) ?_
  refine L.yl (Y.len ⟨_, Go.Proofs.Tryz.underlying29⟩ rfl) ?_
  refine L.yl (Y.mv rfl) ?_
  refine L.nil ?_
  refine C.block ?_
  refine C.loop (σ := Nat × σ) (fun (i, s) => [(0, y), (1, .pointer (some ⟨px, 0, none⟩)), (10, .slice a l.length c), (11, .int .i64 l.length), (12, .int .i64 i)]) (fun (i, s) => blk px [.pointer (some ⟨p, 0, none⟩)] 109 :: blk p [.slice a l.length c] 147 :: own 35 2 a l.length c (spL l) :: G s) (fun (i, s) => i ≤ l.length ∧ I (l.take i) s) (fun (i, s) => l.length - i) (0, s0) ?_ ?_ ?_ ?_
  · repeat (first | exact trivial | refine ⟨rfl, ?_⟩)
  · first | exact .of (.refl _) | exact inferInstance | (dsimp only; exact inferInstance)
  · exact ⟨Nat.zero_le _, hI⟩
  · rintro ⟨i, s⟩ ⟨hI0, hI1⟩
    try dsimp only
    refine C.regS ?_
    refine L.yl (Y.lss rfl rfl) ?_
    refine L.nil ?_
    refine C.seq ?_
    refine C.condP rfl (fun hc2 => ?_) (fun hc2 => ?_)
    ·
      obtain ⟨x0, hx0⟩ : ∃ u, l[i]? = some u := ⟨_, List.getElem?_eq_getElem (by omega)⟩
      have htk : l.take (i + 1) = l.take i ++ [x0] := by rw [List.take_add_one, hx0]; rfl
      have hpre : (l.take i ++ [x0]) <+: l := by rw [← htk]; exact List.take_prefix _ _
      refine C.skip ?_
      refine Then.n ?_
      refine C.seq ?_
      refine C.block ?_
      refine C.regS ?_
      refine L.yl (Y.ix slt29 rfl rfl (by rw [spL_length]) (by omega) (by omega)) ?_
      refine L.yl (Y.ldsa (vs := spCs x0) ag35 rfl rfl (by decide) (fun j v hj => by rw [show (((i : Nat) : Int).toNat * 2 + j) = i * 2 + j from rfl, spL_get l _ j _ hx0 (by have := (List.getElem?_eq_some_iff.1 hj).1; exact this)]; exact hj)) ?_
      refine L.al (zs := [.int .i64 0, .int .i64 0]) zr35 rfl ?_; intro b4
      refine L.sta (vs := [_, _]) ag35 rfl rfl rfl rfl rfl ?_
      refine L.nil ?_
      refine C.regS ?_
      refine L.yl (Y.mv rfl) ?_
      refine L.yl (Y.lda (vs := [_, _]) ag35 rfl rfl) ?_
      refine L.callV (fv := y) (Γf := G s) (Γr := [_, _, _, _]) rfl rfl (List.perm_append_comm (l₁ := [_, _, _, _])) (fun w' hw' _ => hy (l.take i) x0 s w' hI1 hpre (hw'.wk ⟨[_, _, _, _], List.perm_append_comm (l₁ := [_, _, _, _])⟩)) ?_
      rintro _ _ (⟨s', rfl, rfl, hI'⟩ | ⟨u, rfl, rfl, hI'⟩)
      ·
        first | refine L.yl (Y.notP rfl) ?_ | refine L.yl (Y.not rfl) ?_
        refine L.nil ?_
        refine C.condFf rfl ?_
        refine C.skip ?_
        refine InBlo.n ?_
        refine Then.n ?_
        refine C.reg ?_
        first | refine L.yl (Y.add rfl rfl (by omega)) ?_ | refine L.yl (Y.addW rfl rfl) ?_
        refine L.yl (Y.mv rfl) ?_
        refine L.nil ?_
        exact ⟨(i + 1, s'), (by repeat (first | exact trivial | refine ⟨rfl, ?_⟩ | refine ⟨congrArg some (by simp), ?_⟩ | refine ⟨congrArg some (by simp; omega), ?_⟩)), rfl, ⟨[_], (List.perm_append_comm (l₁ := G s')).trans (List.perm_append_singleton _ _).symm⟩, ⟨by omega, by dsimp only; rw [htk]; exact hI'⟩, (by first | omega | (dsimp only; omega))⟩
      ·
        first | refine L.yl (Y.notP rfl) ?_ | refine L.yl (Y.not rfl) ?_
        refine L.nil ?_
        refine C.condTt rfl ?_
        refine C.ret ?_
        refine InBlo.r ?_
        refine Then.r ?_
        refine Then.r ?_
        refine InBlo.r ?_
        refine FnPost.r0 Go.Proofs.Tryz.results147 ?_
        exact .inr ⟨_, u, ⟨[_, _], perm_out _ [_, _] [_, _]⟩, hI', hpre⟩
    ·
      refine C.exit ?_
      refine Then.x ?_
      refine Then.x ?_
      refine InBlo.x ?_
      refine FnPost.n0 Go.Proofs.Tryz.results147 ?_
      exact .inl ⟨s, ⟨[_], List.perm_append_comm (l₁ := [_])⟩, by rw [List.take_of_length_le (by omega)] at hI1; exact hI1⟩
end Go.Proofs.YtcbhcdcobgdddaaGreat
set_option maxHeartbeats 1000000
namespace Go.Proofs.YtcbhcdcobgdddaaGreat
open Go Go.X Go.Rep Go.Shelf
theorem go140 : Goes Go.Proofs.Tryz.prog 140 := enters_of Go.Proofs.Tryz.func140 (by kernel_rfl) rfl
theorem go78 : Goes Go.Proofs.Tryz.prog 78 := enters_of Go.Proofs.Tryz.func78 (by kernel_rfl) rfl
theorem ru_meets (p : Nat) (s : Sp) (w : World) : Calls Go.Proofs.Tryz.prog 111 #[.pointer (some ⟨p, 0, none⟩), spV s] w (Post w [] (RW fun r Γ => ∃ px pz, r = .func (.func 139) #[] #[.pointer (some ⟨px, 0, none⟩), .pointer (some ⟨pz, 0, none⟩)] ∧ Γ = [blk px [.pointer (some ⟨p, 0, none⟩)] 109, blk pz (spCs s) 35])) := by
  refine spec_of Go.Proofs.Tryz.func111 rfl Go.Proofs.Tryz.ntmps111 rfl (Holds.nil w) ?_
  change C _ _ _ _ _ _ _ ⟨[(0, _), (1, _)], []⟩ _
  refine C.regS ?_
  refine L.bx rfl rfl ?_; intro b2
  refine L.bxa rfl ?_; intro b3
  refine L.yl (Y.as rfl) ?_
  refine L.nil ?_
  refine C.regS ?_
  refine L.yl (Y.mkf (cv := #[_, _]) rfl) ?_
  refine L.yl (Y.as rfl) ?_
  refine L.nil ?_
  refine C.ret ?_
  refine FnPost.r1 Go.Proofs.Tryz.results111 rfl ?_
  exact ⟨[blk b2 [.pointer (some ⟨p, 0, none⟩)] 109, blk b3 (spCs s) 35], inferInstance, b2, b3, rfl, rfl⟩
theorem meets_iter (w0 : World) (S0 : Nat → Prop) (px pz : Nat) (s : Sp) (p : Nat) (a : Option Addr) (c : Nat) (l : List Sp) (hl : l.length ≤ 4294967296) : IterOkS w0 S0 Go.Proofs.Tryz.prog 139 #[.pointer (some ⟨px, 0, none⟩), .pointer (some ⟨pz, 0, none⟩)] (fun x : Sp => [spV x]) (meetL l s) [blk px [.pointer (some ⟨p, 0, none⟩)] 109, blk pz (spCs s) 35, blk p [.slice a l.length c] 147, own 35 2 a l.length c (spL l)] [blk p [.slice a l.length c] 147, own 35 2 a l.length c (spL l)] := by
  intro σ τ G I Gx Ix s0 y w hy1 hW hI hy
  replace hW : X.Sep w0 S0 w (blk px [.pointer (some ⟨p, 0, none⟩)] 109 :: blk pz (spCs s) 35 :: blk p [.slice a l.length c] 147 :: own 35 2 a l.length c (spL l) :: G s0) := hW
  change Calls Go.Proofs.Tryz.prog 139 [y, .pointer (some ⟨px, 0, none⟩), .pointer (some ⟨pz, 0, none⟩)].toArray w (Post w (blk px [.pointer (some ⟨p, 0, none⟩)] 109 :: blk pz (spCs s) 35 :: blk p [.slice a l.length c] 147 :: own 35 2 a l.length c (spL l) :: G s0) _)
  refine spec_of Go.Proofs.Tryz.func139 rfl Go.Proofs.Tryz.ntmps139 rfl hW.holds ?_
  change C _ _ _ _ _ _ _ ⟨[(0, _), (1, _), (2, _)], []⟩ _
  refine C.regS ?_
  refine L.yl (Y.ld sc109 rfl rfl) ?_
  refine L.yl (Y.mkf (cv := #[_]) rfl) ?_
  refine L.callFW (Γf := [blk p [.slice a l.length c] 147, own 35 2 a l.length c (spL l), blk pz (spCs s) 35]) go114 rfl (fun w2 hw2 hf2 => ru_first p a c l hl pz (spCs s) 35 _ rfl (fun x => decide (s.1 < x.2)) (fun x w3 hw3 => CallV.of (args := [spV x]) (cap := [.pointer (some ⟨pz, 0, none⟩)]) go140 (of_rw (ru_mee1 s pz x w3 hw3))) w2 hf2) ?_
  rintro _ _ ⟨rfl, rfl⟩
  refine L.apc ?_
  refine L.yl (Y.as rfl) ?_
  refine L.nil ?_
  refine C.block ?_
  refine C.loop (σ := Nat × List Sp × σ) (fun (i, pre, st) => [(0, y), (1, .pointer (some ⟨px, 0, none⟩)), (2, .pointer (some ⟨pz, 0, none⟩)), (4, .int .i64 i)]) (fun (i, pre, st) => blk px [.pointer (some ⟨p, 0, none⟩)] 109 :: blk pz (spCs s) 35 :: blk p [.slice a l.length c] 147 :: own 35 2 a l.length c (spL l) :: G st) (fun (i, pre, st) => i ≤ l.length ∧ I (pre.map (fun x => meetS x s)) st ∧ twL l s = pre ++ (l.drop i).takeWhile (fun x => decide (x.1 < s.2))) (fun (i, pre, st) => l.length - i) ((firstI l (fun x => decide (s.1 < x.2))), [], s0) ?_ ?_ ?_ ?_
  · repeat (first | exact trivial | refine ⟨rfl, ?_⟩)
  · first | exact .of (.refl _) | exact inferInstance | (dsimp only; exact inferInstance)
  · exact ⟨firstI_le _ _, hI, rfl⟩
  · rintro ⟨i, pre, st⟩ ⟨hI0, hI1, hI2⟩
    try dsimp only
    refine C.seq ?_
    refine C.byc (i < l.length) (fun hq => ?_) (fun hq => ?_)
    ·
      obtain ⟨x0, hx0⟩ : ∃ u, l[i]? = some u := ⟨_, List.getElem?_eq_getElem hq⟩
      refine C.drwS (.y 0 (.y 1 (.y 2 (.y 3 (.y 4 (.y 5 (.y 6 (.y 7 (.y 8 (.y 9 (.y 10 (.y 11 (.y 12 (.y 13 (.y 14 (.y 15 (.y 16 (.y 17 (.y 18 (.y 19 (.y 20 (.y 21 (.y 22 (.y 23 (.fin))))))))))))))))))))))))) mixo (by kernel_rfl) ?_
      refine V.yl rfl (Y.ld sc109 rfl rfl) ?_
      first | refine V.yl rfl (Y.nepS ⟨_, Go.Proofs.Tryz.underlying109⟩ rfl) ?_ | refine V.yl rfl (Y.nepN ⟨_, Go.Proofs.Tryz.underlying109⟩ rfl) ?_
      refine V.yl rfl (Y.mv rfl) ?_
      refine V.yOnD rfl rfl rfl (by simp <;> omega) (Y.mv rfl) ?_
      refine V.yOnD rfl rfl rfl (by simp <;> omega) (Y.ld sc109 rfl rfl) ?_
      refine V.yOnD rfl rfl rfl (by simp <;> omega) (Y.nck rfl) ?_
      first | refine V.yOnD rfl rfl rfl (by simp <;> omega) (Y.fa0 fl147_0 rfl) ?_ | refine V.yOnD rfl rfl rfl (by simp <;> omega) (Y.fa fl147_0 rfl) ?_ | refine V.yOnD rfl rfl rfl (by simp <;> omega) (Y.fas fl147_0 rfl (by simp; omega)) ?_
      refine V.yOnD rfl rfl rfl (by simp <;> omega) (Y.ld sc29 rfl rfl) ?_
      refine V.yOnD rfl rfl rfl (by simp <;> omega) (Y.len ⟨_, Go.Proofs.Tryz.underlying29⟩ rfl) ?_
      refine V.yOnD rfl rfl rfl (by simp <;> omega) (Y.lss rfl rfl) ?_
      rw [decide_eq_true (show (i : Int) < (l.length : Int) by omega)]
      refine V.yl rfl (Y.pickT rfl rfl) ?_
      refine V.yl rfl (Y.mv rfl) ?_
      refine V.yOnD rfl rfl rfl (by simp <;> omega) (Y.ld sc109 rfl rfl) ?_
      refine V.yOnD rfl rfl rfl (by simp <;> omega) (Y.nck rfl) ?_
      first | refine V.yOnD rfl rfl rfl (by simp <;> omega) (Y.fa0 fl147_0 rfl) ?_ | refine V.yOnD rfl rfl rfl (by simp <;> omega) (Y.fa fl147_0 rfl) ?_ | refine V.yOnD rfl rfl rfl (by simp <;> omega) (Y.fas fl147_0 rfl (by simp; omega)) ?_
      refine V.yOnD rfl rfl rfl (by simp <;> omega) (Y.ld sc29 rfl rfl) ?_
      refine V.yOnD rfl rfl rfl (by simp <;> omega) (Y.mv rfl) ?_
      refine V.yOnD rfl rfl rfl (by simp <;> omega) (Y.ix slt29 rfl rfl (by rw [spL_length]) (by omega) (by omega)) ?_
      first | refine V.yOnD rfl rfl rfl (by simp <;> omega) (Y.fa0 fl35_0 rfl) ?_ | refine V.yOnD rfl rfl rfl (by simp <;> omega) (Y.fa fl35_0 rfl) ?_ | refine V.yOnD rfl rfl rfl (by simp <;> omega) (Y.fas fl35_0 rfl (by rw [spL_length]; omega)) ?_
      first | refine V.yOnD rfl rfl rfl (by simp <;> omega) (Y.ld sc3 rfl rfl) ?_ | refine V.yOnD rfl rfl rfl (by simp <;> omega) (Y.lds sc3 rfl (by rw [show (((i : Nat) : Int).toNat * 2 + 0) = i * 2 + 0 from rfl, spL_get l _ 0 _ hx0 (by omega)]; rfl)) ?_
      first | refine V.yOnD rfl rfl rfl (by simp <;> omega) (Y.fa0 fl35_1 rfl) ?_ | refine V.yOnD rfl rfl rfl (by simp <;> omega) (Y.fa fl35_1 rfl) ?_ | refine V.yOnD rfl rfl rfl (by simp <;> omega) (Y.fas fl35_1 rfl (by simp; omega)) ?_
      refine V.yOnD rfl rfl rfl (by simp <;> omega) (Y.ld sc3 rfl rfl) ?_
      refine V.yOnD rfl rfl rfl (by simp <;> omega) (Y.lss rfl rfl) ?_
      refine V.yl rfl (Y.pickT rfl rfl) ?_
      refine V.fin ?_
      refine C.condP rfl (fun hc1 => ?_) (fun hc1 => ?_)
      ·
        have hst := tw_step s hx0 hc1
        have hpre : (pre.map (fun x => meetS x s) ++ [meetS x0 s]) <+: meetL l s := ⟨((l.drop (i + 1)).takeWhile (fun x => decide (x.1 < s.2))).map (fun x => meetS x s), by unfold meetL; rw [hI2, hst]; simp⟩
        refine C.skip ?_
        refine Then.n ?_
        refine C.block ?_
        refine C.seq ?_
        refine C.drwPS (Δ := G st) (Γ0 := [_, _, _, _]) (List.perm_append_comm (l₁ := [_, _, _, _])) (.y 0 (.y 1 (.y 2 (.y 3 (.y 4 (.y 5 (.y 6 (.y 7 (.y 8 (.h 9 (.h 10 (.y 11 (.fin))))))))))))) mixo (by kernel_rfl) ?_
        refine V.yl rfl (Y.mv rfl) ?_
        refine V.yl rfl (Y.ld sc109 rfl rfl) ?_
        refine V.yl rfl (Y.nck rfl) ?_
        first | refine V.yl rfl (Y.fa0 fl147_0 rfl) ?_ | refine V.yl rfl (Y.fa fl147_0 rfl) ?_ | refine V.yl rfl (Y.fas fl147_0 rfl (by simp; omega)) ?_
        refine V.yl rfl (Y.ld sc29 rfl rfl) ?_
        refine V.yl rfl (Y.mv rfl) ?_
        refine V.yl rfl (Y.ix slt29 rfl rfl (by rw [spL_length]) (by omega) (by omega)) ?_
        refine V.yl rfl (Y.ldsa (vs := spCs x0) ag35 rfl rfl (by decide) (fun j v hj => by rw [show (((i : Nat) : Int).toNat * 2 + j) = i * 2 + j from rfl, spL_get l _ j _ hx0 (by have := (List.getElem?_eq_some_iff.1 hj).1; exact this)]; exact hj)) ?_
        refine V.yl rfl (Y.lda (vs := [_, _]) ag35 rfl rfl) ?_
        refine V.hv rfl ?_
        refine L.callP go78 rfl (fun w hw => span_Meet _ _ _ _ w) ?_
        refine L.nil ?_
        refine ⟨_, rfl, ?_⟩
        refine V.hv rfl ?_
        refine L.callV (fv := y) (Γf := G st) (Γr := [_, _, _, _]) rfl rfl (.refl _) (fun w' hw' _ => hy (pre.map (fun x => meetS x s)) (meetS x0 s) st w' hI1 hpre (hw'.wk ⟨[_, _, _, _], .refl _⟩)) ?_
        intro v Γ' hY
        obtain ⟨b, rfl⟩ : ∃ b, v = .bool b := by
          rcases hY with ⟨_, rfl, _⟩ | ⟨_, rfl, _⟩ <;> exact ⟨_, rfl⟩
        refine L.nil ?_
        refine ⟨Γ', rfl, ?_⟩
        first | refine V.yl rfl (Y.notP rfl) ?_ | refine V.yl rfl (Y.not rfl) ?_
        refine V.finA ?_
        refine C.cond rfl (fun hc2 => ?_) (fun hc2 => ?_)
        ·
          obtain ⟨u, rfl, hI'⟩ : ∃ u, Γ' = Gx u ∧ Ix (pre.map (fun x => meetS x s) ++ [meetS x0 s]) u := by
            rcases hY with ⟨_, hb, _⟩ | ⟨u, _, h1, h2⟩
            · injection hb with hb; subst hb; cases hc2
            · exact ⟨u, h1, h2⟩
          refine C.ret ?_
          refine Then.r ?_
          refine InBlo.r ?_
          refine Then.r ?_
          refine InBlo.r ?_
          refine FnPost.r0 Go.Proofs.Tryz.results139 ?_
          exact .inr ⟨_, u, ⟨[_, _], perm_out _ [_, _] [_, _]⟩, hI', hpre⟩
        ·
          obtain ⟨s', rfl, hI'⟩ : ∃ u, Γ' = G u ∧ I (pre.map (fun x => meetS x s) ++ [meetS x0 s]) u := by
            rcases hY with ⟨u, _, h1, h2⟩ | ⟨_, hb, _⟩
            · exact ⟨u, h1, h2⟩
            · injection hb with hb; subst hb; cases hc2
          refine C.skip ?_
          refine Then.n ?_
          refine C.reg ?_
          refine L.yl (Y.mv rfl) ?_
          first | refine L.yl (Y.add rfl rfl (by omega)) ?_ | refine L.yl (Y.addW rfl rfl) ?_
          refine L.yl (Y.as rfl) ?_
          refine L.nil ?_
          refine InBlo.n ?_
          exact ⟨(i + 1, pre ++ [x0], s'), (by repeat (first | exact trivial | refine ⟨rfl, ?_⟩ | refine ⟨congrArg some (by simp), ?_⟩ | refine ⟨congrArg some (by simp; omega), ?_⟩)), rfl, .of (List.perm_append_comm (l₁ := G s')), ⟨by omega, by dsimp only; rw [List.map_append]; exact hI', by dsimp only; rw [hI2, hst]; simp⟩, (by first | omega | (dsimp only; omega))⟩
      ·
        have hst := tw_stop s hx0 hc1
        refine C.exit ?_
        refine Then.x ?_
        refine Then.x ?_
        refine InBlo.x ?_
        refine FnPost.n0 Go.Proofs.Tryz.results139 ?_
        exact .inl ⟨st, ⟨[_, _], List.perm_append_comm (l₁ := [_, _])⟩, by unfold meetL; rw [hI2, hst, List.append_nil]; exact hI1⟩
    ·
      refine C.drwS (.y 0 (.y 1 (.y 2 (.y 3 (.y 4 (.y 5 (.y 6 (.y 7 (.y 8 (.y 9 (.y 10 (.y 11 (.y 12 (.y 13 (.y 14 (.y 15 (.y 16 (.y 17 (.y 18 (.y 19 (.y 20 (.y 21 (.y 22 (.y 23 (.fin))))))))))))))))))))))))) mixo (by kernel_rfl) ?_
      refine V.yl rfl (Y.ld sc109 rfl rfl) ?_
      first | refine V.yl rfl (Y.nepS ⟨_, Go.Proofs.Tryz.underlying109⟩ rfl) ?_ | refine V.yl rfl (Y.nepN ⟨_, Go.Proofs.Tryz.underlying109⟩ rfl) ?_
      refine V.yl rfl (Y.mv rfl) ?_
      refine V.yOnD rfl rfl rfl (by simp <;> omega) (Y.mv rfl) ?_
      refine V.yOnD rfl rfl rfl (by simp <;> omega) (Y.ld sc109 rfl rfl) ?_
      refine V.yOnD rfl rfl rfl (by simp <;> omega) (Y.nck rfl) ?_
      first | refine V.yOnD rfl rfl rfl (by simp <;> omega) (Y.fa0 fl147_0 rfl) ?_ | refine V.yOnD rfl rfl rfl (by simp <;> omega) (Y.fa fl147_0 rfl) ?_ | refine V.yOnD rfl rfl rfl (by simp <;> omega) (Y.fas fl147_0 rfl (by simp; omega)) ?_
      refine V.yOnD rfl rfl rfl (by simp <;> omega) (Y.ld sc29 rfl rfl) ?_
      refine V.yOnD rfl rfl rfl (by simp <;> omega) (Y.len ⟨_, Go.Proofs.Tryz.underlying29⟩ rfl) ?_
      refine V.yOnD rfl rfl rfl (by simp <;> omega) (Y.lss rfl rfl) ?_
      rw [decide_eq_false (show ¬ ((i : Int) < (l.length : Int)) by omega)]
      refine V.yl rfl (Y.pickT rfl rfl) ?_
      refine V.yl rfl (Y.mv rfl) ?_
      refine V.yOff rfl rfl rfl rfl ?_
      refine V.yOff rfl rfl rfl rfl ?_
      refine V.yOff rfl rfl rfl rfl ?_
      refine V.yOff rfl rfl rfl rfl ?_
      refine V.yOff rfl rfl rfl rfl ?_
      refine V.yOff rfl rfl rfl rfl ?_
      refine V.yOff rfl rfl rfl rfl ?_
      refine V.yOff rfl rfl rfl rfl ?_
      refine V.yOff rfl rfl rfl rfl ?_
      refine V.yOff rfl rfl rfl rfl ?_
      refine V.yOff rfl rfl rfl rfl ?_
      refine V.yl rfl (Y.pickF rfl rfl) ?_
      refine V.fin ?_
      refine C.condFf rfl ?_
      refine C.exit ?_
      refine Then.x ?_
      refine Then.x ?_
      refine InBlo.x ?_
      refine FnPost.n0 Go.Proofs.Tryz.results139 ?_
      exact .inl ⟨st, ⟨[_, _], List.perm_append_comm (l₁ := [_, _])⟩, by unfold meetL; rw [hI2, tw_end s (by omega), List.append_nil]; exact hI1⟩
end Go.Proofs.YtcbhcdcobgdddaaGreat
set_option maxHeartbeats 1000000
namespace Go.Proofs.YtcbhcdcobgdddaaGreat
open Go Go.X Go.Rep Go.Shelf
theorem go111 : Goes Go.Proofs.Tryz.prog 111 := enters_of Go.Proofs.Tryz.func111 (by kernel_rfl) rfl
theorem go139 : Goes Go.Proofs.Tryz.prog 139 := enters_of Go.Proofs.Tryz.func139 (by kernel_rfl) rfl
theorem go70 : Goes Go.Proofs.Tryz.prog 70 := enters_of Go.Proofs.Tryz.func70 (by kernel_rfl) rfl
theorem zr3 : Zr Go.Proofs.Tryz.prog 3 (.int .i64 0) := by unfold Zr; kernel_rfl
def withinL (l : List Sp) (s : Sp) : Int := if lenS s = 0 then 0 else (meetL l s).foldl (fun n x => IntKind.i64.wrap (n + lenS x)) 0
theorem wrapB (n : Int) : -9223372036854775808 ≤ IntKind.i64.wrap n ∧ IntKind.i64.wrap n ≤ 9223372036854775807 := by
  simp only [IntKind.wrap]
  simp [IntKind.signed, IntKind.bits]
  omega
theorem ru_Within (p : Nat) (a : Option Addr) (c : Nat) (l : List Sp) (hl : l.length ≤ 4294967296) (s : Sp) (w : World) (hw : X.Holds w [blk p [.slice a l.length c] 147, own 35 2 a l.length c (spL l)]) : Calls Go.Proofs.Tryz.prog 117 #[.pointer (some ⟨p, 0, none⟩), spV s] w (Post w [blk p [.slice a l.length c] 147, own 35 2 a l.length c (spL l)] (RW fun r Γ => r = .int .i64 (withinL l s) ∧ Γ = [blk p [.slice a l.length c] 147, own 35 2 a l.length c (spL l)])) := by
  refine spec_of Go.Proofs.Tryz.func117 rfl Go.Proofs.Tryz.ntmps117 rfl hw ?_
  change C _ _ _ _ _ _ _ ⟨[(0, _), (1, _)], []⟩ _
  refine C.regS ?_
  refine L.bxa rfl ?_; intro b3
  refine L.yl (Y.as rfl) ?_
  refine L.nil ?_
  refine C.regS ?_
  refine L.al (zs := [.int .i64 0]) zr3 rfl ?_; intro b5
  refine L.st sc3 rfl rfl rfl ?_
  refine L.nil ?_
  refine C.seq ?_
  refine C.regS ?_
  refine L.yl (Y.lda (vs := [_, _]) ag35 rfl rfl) ?_
  refine L.callP go70 rfl (fun w hw => span_Len _ _ w) ?_
  refine L.yl (Y.eqi rfl rfl) ?_
  refine L.nil ?_
  refine C.condP rfl (fun hc1 => ?_) (fun hc1 => ?_)
  ·
    refine C.regS ?_
    refine L.yl (Y.ld sc3 rfl rfl) ?_
    refine L.yl (Y.as rfl) ?_
    refine L.nil ?_
    refine C.ret ?_
    refine Then.r ?_
    refine FnPost.r1 Go.Proofs.Tryz.results117 rfl ?_
    have e : withinL l s = 0 := if_pos hc1
    rw [e]
    exact ⟨[blk p [.slice a l.length c] 147, own 35 2 a l.length c (spL l)], inferInstance, rfl, rfl⟩
  ·
    refine C.skip ?_
    refine Then.n ?_
    refine C.seq ?_
    refine C.regS ?_
    refine L.yl (Y.mv rfl) ?_
    refine L.yl (Y.lda (vs := [_, _]) ag35 rfl rfl) ?_
    refine L.callFW (Γf := []) go111 rfl (fun w hw hf => ru_meets p s w) ?_
    rintro _ _ ⟨px, pz, rfl, rfl⟩
    refine L.apc ?_
    refine L.nil ?_
    refine C.block ?_
    refine C.rfS (fun x : Sp => spV x) (fun _ : Unit => Code.ret) (fun n : Int => [blk b5 [.int .i64 n] 3]) (fun pre n => n = pre.foldl (fun n x => IntKind.i64.wrap (n + lenS x)) 0) (fun _ => []) (fun _ _ => False) 0 rfl go139 (meets_iter _ _ px pz s p a c l hl) (by show Wk _ [blk px [.pointer (some ⟨p, 0, none⟩)] 109, blk pz (spCs s) 35, blk p [.slice a l.length c] 147, own 35 2 a l.length c (spL l), blk b5 [.int .i64 0] 3]; exact inferInstance) rfl ?_ ?_ ?_
    · rintro w' l1 r pre x k hs hr rfl hp
      try dsimp only
      refine C.reg ?_
      refine L.al (zs := [.int .i64 0, .int .i64 0]) zr35 rfl ?_; intro b6
      refine L.sta (vs := [_, _]) ag35 rfl rfl rfl rfl rfl ?_
      refine L.nil ?_
      refine ⟨rfl, _, Wk.pk, ?_⟩
      refine C.block ?_
      refine C.drw (.y 0 (.y 1 (.h 2 (.y 3 (.last 4))))) mixo (by kernel_rfl) ?_
      refine V.yl rfl (Y.ld sc3 rfl rfl) ?_
      refine V.yl rfl (Y.lda (vs := [_, _]) ag35 rfl rfl) ?_
      refine V.hv rfl ?_
      refine L.apc ?_
      refine L.callP go70 rfl (fun w hw => span_Len _ _ w) ?_
      refine L.nil ?_
      refine V.on ?_
      refine V.yl rfl (Y.addW rfl rfl) ?_
      refine V.ls rfl ?_
      refine L.apc ?_
      refine L.st sc3 rfl rfl rfl ?_
      refine L.nil ?_
      refine InBlo.n ?_
      exact ⟨IntKind.i64.wrap (pre.foldl (fun n x => IntKind.i64.wrap (n + lenS x)) 0 + lenS (x.1, x.2)), (by dsimp only; exact inferInstance), by dsimp only; rw [List.foldl_append]; rfl⟩
    · rintro D k rfl
      try dsimp only [List.nil_append, List.cons_append]
      refine InBlo.n ?_
      refine Then.n ?_
      refine C.regS ?_
      refine L.yl (Y.ld sc3 rfl rfl) ?_
      refine L.yl (Y.as rfl) ?_
      refine L.nil ?_
      refine C.ret ?_
      refine FnPost.rgM (xs := [.tmp 4]) (congrArg Array.toList Go.Proofs.Tryz.results117) (ra_tmp rfl ra_nil) ?_
      have e : withinL l s = (meetL l s).foldl (fun n x => IntKind.i64.wrap (n + lenS x)) 0 := if_neg hc1
      rw [e]
      exact ⟨[blk p [.slice a l.length c] 147, own 35 2 a l.length c (spL l)], inferInstance, rfl, rfl⟩
    · rintro D pre u hIx hp; exact hIx.elim
end Go.Proofs.YtcbhcdcobgdddaaGreat
set_option maxHeartbeats 1000000
namespace Go.Proofs.YtcbhcdcobgdddaaGreat
open Go Go.X Go.Rep Go.Shelf

theorem ru_Gaps (p : Nat) (s : Sp) (w : World) : Calls Go.Proofs.Tryz.prog 69 #[.pointer (some ⟨p, 0, none⟩), spV s] w (Post w [] (RW fun r Γ => ∃ px pz, r = .func (.func 110) #[] #[.pointer (some ⟨pz, 0, none⟩), .pointer (some ⟨px, 0, none⟩)] ∧ Γ = [blk pz (spCs s) 35, blk px [.pointer (some ⟨p, 0, none⟩)] 109])) := by
  refine spec_of Go.Proofs.Tryz.func69 rfl Go.Proofs.Tryz.ntmps69 rfl (Holds.nil w) ?_
  change C _ _ _ _ _ _ _ ⟨[(0, _), (1, _)], []⟩ _
  refine C.regS ?_
  refine L.bx rfl rfl ?_; intro b2
  refine L.bxa rfl ?_; intro b3
  refine L.yl (Y.as rfl) ?_
  refine L.nil ?_
  refine C.regS ?_
  refine L.yl (Y.mkf (cv := #[_, _]) rfl) ?_
  refine L.yl (Y.as rfl) ?_
  refine L.nil ?_
  refine C.ret ?_
  refine FnPost.r1 Go.Proofs.Tryz.results69 rfl ?_
  exact ⟨[blk b3 (spCs s) 35, blk b2 [.pointer (some ⟨p, 0, none⟩)] 109], inferInstance, b2, b3, rfl, rfl⟩
theorem gaps_iter (w0 : World) (S0 : Nat → Prop) (px pz : Nat) (s : Sp) (p : Nat) (a : Option Addr) (c : Nat) (l : List Sp) (hl : l.length ≤ 4294967296) : IterOkS w0 S0 Go.Proofs.Tryz.prog 110 #[.pointer (some ⟨pz, 0, none⟩), .pointer (some ⟨px, 0, none⟩)] (fun x : Sp => [spV x]) (gapsL l s) [blk pz (spCs s) 35, blk px [.pointer (some ⟨p, 0, none⟩)] 109, blk p [.slice a l.length c] 147, own 35 2 a l.length c (spL l)] [blk p [.slice a l.length c] 147, own 35 2 a l.length c (spL l)] := by
  intro σ τ G I Gx Ix s0 y w hy1 hW hI hy
  replace hW : X.Sep w0 S0 w (blk pz (spCs s) 35 :: blk px [.pointer (some ⟨p, 0, none⟩)] 109 :: blk p [.slice a l.length c] 147 :: own 35 2 a l.length c (spL l) :: G s0) := hW
  change Calls Go.Proofs.Tryz.prog 110 [y, .pointer (some ⟨pz, 0, none⟩), .pointer (some ⟨px, 0, none⟩)].toArray w (Post w (blk pz (spCs s) 35 :: blk px [.pointer (some ⟨p, 0, none⟩)] 109 :: blk p [.slice a l.length c] 147 :: own 35 2 a l.length c (spL l) :: G s0) _)
  refine spec_of Go.Proofs.Tryz.func110 rfl Go.Proofs.Tryz.ntmps110 rfl hW.holds ?_
  change C _ _ _ _ _ _ _ ⟨[(0, _), (1, _), (2, _)], []⟩ _
  refine C.regS ?_
  refine L.bx rfl hy1 ?_; intro b3
  refine L.nil ?_
  refine C.seq ?_
  refine C.regS ?_
  refine L.yl (Y.lda (vs := [_, _]) ag35 rfl rfl) ?_
  refine L.callP go70 rfl (fun w hw => span_Len _ _ w) ?_
  refine L.yl (Y.eqi rfl rfl) ?_
  refine L.nil ?_
  refine C.condP rfl (fun hc1 => ?_) (fun hc1 => ?_)
  ·
    refine C.ret ?_
    refine Then.r ?_
    refine FnPost.r0 Go.Proofs.Tryz.results110 ?_
    exact .inl ⟨s0, ⟨[_, _, _], List.perm_append_comm (l₁ := [_, _, _])⟩, by unfold gapsL; rw [if_pos hc1]; exact hI⟩
  ·
    refine C.skip ?_
    refine Then.n ?_
    refine C.regS ?_
    first | refine L.yl (Y.fa0 fl35_0 rfl) ?_ | refine L.yl (Y.fa fl35_0 rfl) ?_ | refine L.yl (Y.fas fl35_0 rfl (by simp; omega)) ?_
    refine L.yl (Y.ld sc3 rfl rfl) ?_
    refine L.al (zs := [.int .i64 0]) zr3 rfl ?_; intro b4
    refine L.st sc3 rfl rfl rfl ?_
    refine L.nil ?_
    refine C.seq ?_
    refine C.regS ?_
    refine L.yl (Y.ld sc109 rfl rfl) ?_
    refine L.yl (Y.lda (vs := [_, _]) ag35 rfl rfl) ?_
    refine L.callFW (Γf := []) go111 rfl (fun w hw hf => ru_meets p s w) ?_
    rintro _ _ ⟨px2, pz2, rfl, rfl⟩
    refine L.apc ?_
    refine L.nil ?_
    refine C.block ?_
    refine C.rfS (σ := Int × σ) (τ := τ) (fun x : Sp => spV x) (fun _ : τ => Code.ret) (fun (at_, st) => blk b4 [.int .i64 at_] 3 :: blk b3 [y] 134 :: blk pz (spCs s) 35 :: blk px [.pointer (some ⟨p, 0, none⟩)] 109 :: G st) (fun pre (at_, st) => at_ = (gapsP s.1 pre).2 ∧ I (gapsP s.1 pre).1 st) (fun u => blk b3 [y] 134 :: blk pz (spCs s) 35 :: blk px [.pointer (some ⟨p, 0, none⟩)] 109 :: Gx u) (fun _ u => ∃ pre, Ix pre u ∧ pre <+: gapsL l s) (s.1, s0) rfl go139 (meets_iter _ _ px2 pz2 s p a c l hl) (by show Wk _ (blk px2 [.pointer (some ⟨p, 0, none⟩)] 109 :: blk pz2 (spCs s) 35 :: blk p [.slice a l.length c] 147 :: own 35 2 a l.length c (spL l) :: blk b4 [.int .i64 s.1] 3 :: blk b3 [y] 134 :: blk pz (spCs s) 35 :: blk px [.pointer (some ⟨p, 0, none⟩)] 109 :: G s0); exact inferInstance) ⟨rfl, hI⟩ ?_ ?_ ?_
    · rintro w' l1 r pre x ⟨at_, st⟩ hs hr ⟨hI1, hI2⟩ hp
      try dsimp only
      have hsn := gapsP_snoc x pre s.1
      rw [← hI1] at hsn
      have hpp : (gapsP s.1 (pre ++ [x])).1 <+: gapsL l s := by
        unfold gapsL; rw [if_neg hc1]
        exact (gapsP_pre hp).trans (List.prefix_append _ _)
      refine C.reg ?_
      refine L.al (zs := [.int .i64 0, .int .i64 0]) zr35 rfl ?_; intro b5
      refine L.sta (vs := [_, _]) ag35 rfl rfl rfl rfl rfl ?_
      refine L.nil ?_
      refine ⟨rfl, _, Wk.pk, ?_⟩
      refine C.block ?_
      refine C.seq ?_
      refine C.regS ?_
      first | refine L.yl (Y.fa0 fl35_0 rfl) ?_ | refine L.yl (Y.fa fl35_0 rfl) ?_ | refine L.yl (Y.fas fl35_0 rfl (by simp; omega)) ?_
      refine L.yl (Y.ld sc3 rfl rfl) ?_
      refine L.yl (Y.ld sc3 rfl rfl) ?_
      refine L.yl (Y.gtr rfl rfl) ?_
      refine L.yl (Y.mv rfl) ?_
      first | refine L.gsplit (i := 19) rfl (fun hg19 => ?_) (fun hg19 => ?_) | refine L.gsplitB (i := 19) rfl (fun hg19 => ?_) (fun hg19 => ?_)
      ·
        have hpre : ((gapsP s.1 pre).1 ++ [(at_, x.1)]) <+: gapsL l s := by
          rw [hsn, gp_pos hg19] at hpp; exact hpp
        refine L.gOn (t := 19) rfl rfl ?_
        refine L.yl (Y.ld sc134 rfl rfl) ?_
        refine L.gOn (t := 19) rfl rfl ?_
        refine L.yl (Y.ld sc3 rfl rfl) ?_
        refine L.gOn (t := 19) rfl rfl ?_
        first | refine L.yl (Y.fa0 fl35_0 rfl) ?_ | refine L.yl (Y.fa fl35_0 rfl) ?_ | refine L.yl (Y.fas fl35_0 rfl (by simp; omega)) ?_
        refine L.gOn (t := 19) rfl rfl ?_
        refine L.yl (Y.ld sc3 rfl rfl) ?_
        refine L.gOn (t := 19) rfl rfl ?_
        refine L.yl (Y.bdL (cs := [_, _]) zr35 bd35 rfl rfl rfl) ?_
        refine L.gOn (t := 19) rfl rfl ?_
        refine L.callV (fv := y) (Γf := G st) (Γr := [_, _, _, _, _, _]) rfl rfl (List.perm_append_comm (l₁ := [_, _, _, _, _, _])) (fun w' hw' _ => hy (gapsP s.1 pre).1 (at_, x.1) st w' hI2 hpre ((hs.trans hw').wk ⟨[_, _, _, _, _, _], List.perm_append_comm (l₁ := [_, _, _, _, _, _])⟩)) ?_
        rintro _ _ (⟨s', rfl, rfl, hI'⟩ | ⟨u, rfl, rfl, hI'⟩)
        ·
          refine L.flip ?_
          refine L.gOn (t := 19) rfl rfl ?_
          first | refine L.yl (Y.notP rfl) ?_ | refine L.yl (Y.not rfl) ?_
          refine L.yl (Y.pickT rfl rfl) ?_
          refine L.nil ?_
          refine C.condFf rfl ?_
          refine C.skip ?_
          refine Then.n ?_
          refine C.reg ?_
          first | refine L.yl (Y.fa0 fl35_1 rfl) ?_ | refine L.yl (Y.fa fl35_1 rfl) ?_ | refine L.yl (Y.fas fl35_1 rfl (by simp; omega)) ?_
          refine L.yl (Y.ld sc3 rfl rfl) ?_
          refine L.st sc3 rfl rfl rfl ?_
          refine L.nil ?_
          refine InBlo.n ?_
          rw [gp_pos hg19] at hsn
          exact ⟨(x.2, s'), (by dsimp only; exact inferInstance), by dsimp only; rw [hsn], by dsimp only; rw [hsn]; exact hI'⟩
        ·
          refine L.flip ?_
          refine L.gOn (t := 19) rfl rfl ?_
          first | refine L.yl (Y.notP rfl) ?_ | refine L.yl (Y.not rfl) ?_
          refine L.yl (Y.pickT rfl rfl) ?_
          refine L.nil ?_
          refine C.condTt rfl ?_
          refine C.ret ?_
          refine Then.r ?_
          refine InBlo.r ?_
          exact ⟨u, rfl, (by dsimp only; exact inferInstance), _, hI', hpre⟩
      ·
        refine L.gOff (t := 19) rfl rfl rfl ?_
        refine L.gOff (t := 19) rfl rfl rfl ?_
        refine L.gOff (t := 19) rfl rfl rfl ?_
        refine L.gOff (t := 19) rfl rfl rfl ?_
        refine L.gOff (t := 19) rfl rfl rfl ?_
        refine L.gOff (t := 19) rfl rfl rfl ?_
        refine L.gOff (t := 19) rfl rfl rfl ?_
        refine L.yl (Y.pickF rfl rfl) ?_
        refine L.nil ?_
        refine C.condFf rfl ?_
        refine C.skip ?_
        refine Then.n ?_
        refine C.reg ?_
        first | refine L.yl (Y.fa0 fl35_1 rfl) ?_ | refine L.yl (Y.fa fl35_1 rfl) ?_ | refine L.yl (Y.fas fl35_1 rfl (by simp; omega)) ?_
        refine L.yl (Y.ld sc3 rfl rfl) ?_
        refine L.st sc3 rfl rfl rfl ?_
        refine L.nil ?_
        refine InBlo.n ?_
        rw [gp_neg hg19, List.append_nil] at hsn
        exact ⟨(x.2, st), (by dsimp only; exact inferInstance), by dsimp only; rw [hsn], by dsimp only; rw [hsn]; exact hI2⟩
    · rintro D ⟨at_, st⟩ ⟨hI1, hI2⟩
      try dsimp only [List.nil_append, List.cons_append]
      refine InBlo.n ?_
      refine Then.n ?_
      refine C.regS ?_
      refine L.yl (Y.ld sc3 rfl rfl) ?_
      first | refine L.yl (Y.fa0 fl35_1 rfl) ?_ | refine L.yl (Y.fa fl35_1 rfl) ?_ | refine L.yl (Y.fas fl35_1 rfl (by simp; omega)) ?_
      refine L.yl (Y.ld sc3 rfl rfl) ?_
      refine L.yl (Y.lss rfl rfl) ?_
      refine L.nil ?_
      refine C.condP rfl (fun hc5 => ?_) (fun hc5 => ?_)
      ·
        have hgl : gapsL l s = (gapsP s.1 (meetL l s)).1 ++ [(at_, s.2)] := by unfold gapsL; rw [if_neg hc1, ← hI1, gp_pos hc5]
        refine C.reg ?_
        refine L.yl (Y.ld sc134 rfl rfl) ?_
        refine L.yl (Y.ld sc3 rfl rfl) ?_
        first | refine L.yl (Y.fa0 fl35_1 rfl) ?_ | refine L.yl (Y.fa fl35_1 rfl) ?_ | refine L.yl (Y.fas fl35_1 rfl (by simp; omega)) ?_
        refine L.yl (Y.ld sc3 rfl rfl) ?_
        refine L.yl (Y.bdL (cs := [_, _]) zr35 bd35 rfl rfl rfl) ?_
        refine L.callV (fv := y) (Γf := G st) (Γr := [_, _, _, _, _, _, _]) rfl rfl (List.perm_append_comm (l₁ := [_, _, _, _, _, _, _])) (fun w' hw' _ => hy (gapsP s.1 (meetL l s)).1 (at_, s.2) st w' hI2 (by rw [← hgl]; exact List.prefix_refl _) (hw'.wk ⟨[_, _, _, _, _, _, _], List.perm_append_comm (l₁ := [_, _, _, _, _, _, _])⟩)) ?_
        rintro _ _ (⟨s', rfl, rfl, hI'⟩ | ⟨u, rfl, rfl, hI'⟩)
        ·
          refine L.flip ?_
          refine L.nil ?_
          refine FnPost.n0M Go.Proofs.Tryz.results110 ?_
          exact .inl ⟨s', (by show Wk _ (_ :: _ :: G s'); exact inferInstance), by rw [hgl]; exact hI'⟩
        ·
          refine L.flip ?_
          refine L.nil ?_
          refine FnPost.n0M Go.Proofs.Tryz.results110 ?_
          exact .inr ⟨_, u, (by show Wk _ (_ :: _ :: Gx u); exact inferInstance), hI', by rw [hgl]; exact List.prefix_refl _⟩
      ·
        have hgl : gapsL l s = (gapsP s.1 (meetL l s)).1 := by unfold gapsL; rw [if_neg hc1, ← hI1, gp_neg hc5, List.append_nil]
        refine C.skip ?_
        refine FnPost.n0M Go.Proofs.Tryz.results110 ?_
        exact .inl ⟨st, (by show Wk _ (_ :: _ :: G st); exact inferInstance), by rw [hgl]; exact hI2⟩
    · rintro D pre u ⟨pre2, hIx, hp2⟩ hp
      try dsimp only [List.nil_append, List.cons_append]
      refine C.ret ?_
      refine InBlo.r ?_
      refine Then.r ?_
      refine FnPost.rgM (xs := []) (congrArg Array.toList Go.Proofs.Tryz.results110) ra_nil ?_
      exact .inr ⟨_, u, (by show Wk _ (_ :: _ :: Gx u); exact inferInstance), hIx, hp2⟩
end Go.Proofs.YtcbhcdcobgdddaaGreat
set_option maxHeartbeats 1000000
namespace Go.Proofs.YtcbhcdcobgdddaaGreat
open Go Go.X Go.Rep Go.Shelf
theorem elt29 : ElT Go.Proofs.Tryz.prog 29 35 2 16 := ElT.of (z := .agg #[.int .i64 0, .int .i64 0]) Go.Proofs.Tryz.underlying29 (by kernel_rfl) rfl (by decide)
theorem go158 : Goes Go.Proofs.Tryz.prog 158 := enters_of Go.Proofs.Tryz.func158 (by kernel_rfl) rfl
def repL (l : List Sp) (lo hi : Nat) (x : Sp) : List Sp := l.take lo ++ x :: l.drop hi
/-- Replace puts x into the place of lo .. hi -/
def RepOk (l : List Sp) (lo hi : Nat) (x : Sp) : Prop := ∀ (a : Option Addr) (c bv : Nat) (w : World), X.Holds w [own 35 2 a l.length c (spL l), own 35 2 (some ⟨bv, 0, none⟩) 1 1 (spCs x)] → Calls Go.Proofs.Tryz.prog 145 #[.slice a l.length c, .int .i64 lo, .int .i64 hi, .slice (some ⟨bv, 0, none⟩) 1 1] w (Post w [own 35 2 a l.length c (spL l), own 35 2 (some ⟨bv, 0, none⟩) 1 1 (spCs x)] (RW fun r Γ => ∃ a1 c1, r = .slice a1 (repL l lo hi x).length c1 ∧ Γ = [own 35 2 a1 (repL l lo hi x).length c1 (spL (repL l lo hi x))]))
theorem sl_InsertE (l : List Sp) (hl : l.length ≤ 65536) (x : Sp) (a : Option Addr) (c bv : Nat) (w : World) (hw : X.Holds w [own 35 2 a l.length c (spL l), own 35 2 (some ⟨bv, 0, none⟩) 1 1 (spCs x)]) : Calls Go.Proofs.Tryz.prog 158 #[.slice a l.length c, .int .i64 l.length, .slice (some ⟨bv, 0, none⟩) 1 1] w (Post w [own 35 2 a l.length c (spL l), own 35 2 (some ⟨bv, 0, none⟩) 1 1 (spCs x)] (RW fun r Γ => ∃ a1 c1, r = .slice a1 (l ++ [x]).length c1 ∧ Γ = [own 35 2 a1 (l ++ [x]).length c1 (spL (l ++ [x]))])) := by
  obtain ⟨_, hlc, hcm⟩ := own_le (hw.on (own 35 2 a l.length c (spL l)) (by simp))
  unfold maxLen at hcm
  refine spec_of Go.Proofs.Tryz.func158 rfl Go.Proofs.Tryz.ntmps158 rfl hw ?_
  change C _ _ _ _ _ _ _ ⟨[(0, _), (1, _), (2, _)], []⟩ _
  refine C.regS ?_
  refine L.yl (Y.as rfl) ?_
  refine L.nil ?_
  refine C.regS ?_
  refine L.yl (Y.mv rfl) ?_
  refine L.yl (Y.mv rfl) ?_
  refine L.yl (Y.sl1 slt29 rfl rfl (by omega) (by omega)) ?_
  refine L.nil ?_
  refine C.regS ?_
  refine L.yl (Y.mv rfl) ?_
  refine L.yl (Y.len ⟨_, Go.Proofs.Tryz.underlying29⟩ rfl) ?_
  refine L.yl (Y.as rfl) ?_
  refine L.nil ?_
  refine C.seq ?_
  refine C.regS ?_
  refine L.yl (Y.mv rfl) ?_
  refine L.yl (Y.eqi rfl rfl) ?_
  refine L.nil ?_
  refine C.condF rfl (by omega) ?_
  refine C.skip ?_
  refine Then.n ?_
  refine C.regS ?_
  refine L.yl (Y.mv rfl) ?_
  refine L.yl (Y.len ⟨_, Go.Proofs.Tryz.underlying29⟩ rfl) ?_
  refine L.yl (Y.as rfl) ?_
  refine L.nil ?_
  refine C.seq ?_
  refine C.regS ?_
  refine L.yl (Y.mv rfl) ?_
  refine L.yl (Y.mv rfl) ?_
  refine L.yl (Y.eqi rfl rfl) ?_
  refine L.nil ?_
  refine C.condT rfl (by omega) ?_
  refine C.regS ?_
  refine L.yl (Y.mv rfl) ?_
  refine L.yl (Y.mv rfl) ?_
  refine L.app elt29 rfl rfl (by rfl) (by first | (simp; done) | (simp [byteL]; done)) (by omega) (by omega) ?_; intro a25 c25
  refine L.yl (Y.as rfl) ?_
  refine L.nil ?_
  refine C.ret ?_
  refine Then.r ?_
  refine FnPost.r1 Go.Proofs.Tryz.results158 rfl ?_
  rw [show l.length + 1 = (l ++ [x]).length by simp, show spL l ++ spCs x = spL (l ++ [x]) by rw [spL_append]; rfl]
  exact ⟨[own 35 2 a25 (l ++ [x]).length c25 (spL (l ++ [x]))], inferInstance, a25, c25, rfl, rfl⟩
theorem sl_ReplaceE0 (l : List Sp) (hl : l.length ≤ 65536) (x : Sp) (a : Option Addr) (c bv : Nat) (w : World) (hw : X.Holds w [own 35 2 a l.length c (spL l), own 35 2 (some ⟨bv, 0, none⟩) 1 1 (spCs x)]) : Calls Go.Proofs.Tryz.prog 145 #[.slice a l.length c, .int .i64 l.length, .int .i64 l.length, .slice (some ⟨bv, 0, none⟩) 1 1] w (Post w [own 35 2 a l.length c (spL l), own 35 2 (some ⟨bv, 0, none⟩) 1 1 (spCs x)] (RW fun r Γ => ∃ a1 c1, r = .slice a1 (l ++ [x]).length c1 ∧ Γ = [own 35 2 a1 (l ++ [x]).length c1 (spL (l ++ [x]))])) := by
  obtain ⟨_, hlc, hcm⟩ := own_le (hw.on (own 35 2 a l.length c (spL l)) (by simp))
  unfold maxLen at hcm
  refine spec_of Go.Proofs.Tryz.func145 rfl Go.Proofs.Tryz.ntmps145 rfl hw ?_
  change C _ _ _ _ _ _ _ ⟨[(0, _), (1, _), (2, _), (3, _)], []⟩ _
  refine C.regS ?_
  refine L.yl (Y.as rfl) ?_
  refine L.nil ?_
  refine C.regS ?_
  refine L.yl (Y.mv rfl) ?_
  refine L.yl (Y.mv rfl) ?_
  refine L.yl (Y.mv rfl) ?_
  refine L.yl (Y.sl2 slt29 rfl rfl rfl (by omega)) ?_
  refine L.nil ?_
  refine C.seq ?_
  refine C.regS ?_
  refine L.yl (Y.mv rfl) ?_
  refine L.yl (Y.mv rfl) ?_
  refine L.yl (Y.eqi rfl rfl) ?_
  refine L.nil ?_
  refine C.condT rfl (rfl) ?_
  refine C.regS ?_
  refine L.yl (Y.mv rfl) ?_
  refine L.yl (Y.mv rfl) ?_
  refine L.yl (Y.mv rfl) ?_
  refine L.callFW (Γf := [own 35 2 a l.length c (spL l), own 35 2 (some ⟨bv, 0, none⟩) 1 1 (spCs x)]) go158 rfl (fun w hw hf => sl_InsertE l hl x a c bv w hf) ?_
  rintro _ _ ⟨a25, c25, rfl, rfl⟩
  refine L.apc ?_
  refine L.yl (Y.as rfl) ?_
  refine L.nil ?_
  refine C.ret ?_
  refine Then.r ?_
  refine FnPost.r1 Go.Proofs.Tryz.results145 rfl ?_
  exact ⟨[own 35 2 a25 (l ++ [x]).length c25 (spL (l ++ [x]))], inferInstance, a25, c25, rfl, rfl⟩
theorem repL_end (l : List Sp) (x : Sp) : repL l l.length l.length x = l ++ [x] := by simp [repL]
theorem repOk_end (l : List Sp) (hl : l.length ≤ 65536) (x : Sp) : RepOk l l.length l.length x := fun a c bv w hw => by
  rw [repL_end]; exact sl_ReplaceE0 l hl x a c bv w hw
end Go.Proofs.YtcbhcdcobgdddaaGreat
set_option maxHeartbeats 1000000
namespace Go.Proofs.YtcbhcdcobgdddaaGreat
open Go Go.X Go.Rep Go.Shelf
theorem go113 : Goes Go.Proofs.Tryz.prog 113 := enters_of Go.Proofs.Tryz.func113 (by kernel_rfl) rfl
theorem go115 : Goes Go.Proofs.Tryz.prog 115 := enters_of Go.Proofs.Tryz.func115 (by kernel_rfl) rfl
theorem go116 : Goes Go.Proofs.Tryz.prog 116 := enters_of Go.Proofs.Tryz.func116 (by kernel_rfl) rfl
theorem go117 : Goes Go.Proofs.Tryz.prog 117 := enters_of Go.Proofs.Tryz.func117 (by kernel_rfl) rfl
theorem go118 : Goes Go.Proofs.Tryz.prog 118 := enters_of Go.Proofs.Tryz.func118 (by kernel_rfl) rfl
theorem go119 : Goes Go.Proofs.Tryz.prog 119 := enters_of Go.Proofs.Tryz.func119 (by kernel_rfl) rfl
theorem go145 : Goes Go.Proofs.Tryz.prog 145 := enters_of Go.Proofs.Tryz.func145 (by kernel_rfl) rfl
theorem ru_lay (p : Nat) (a : Option Addr) (c : Nat) (l : List Sp) (hl : l.length ≤ 65536) (lo hi : Nat) (hlh : lo ≤ hi) (hhi : hi ≤ l.length) (x : Sp) (hrep : RepOk l lo hi x) (bv : Nat) (w : World) (hw : X.Holds w [blk p [.slice a l.length c] 147, own 35 2 a l.length c (spL l), own 35 2 (some ⟨bv, 0, none⟩) 1 1 (spCs x)]) : Calls Go.Proofs.Tryz.prog 119 #[.pointer (some ⟨p, 0, none⟩), .int .i64 lo, .int .i64 hi, .slice (some ⟨bv, 0, none⟩) 1 1] w (Post w [blk p [.slice a l.length c] 147, own 35 2 a l.length c (spL l), own 35 2 (some ⟨bv, 0, none⟩) 1 1 (spCs x)] (RW fun r Γ => r = .int .i64 (if 4096 < l.length - (hi - lo) + 1 then 4 else 0) ∧ ∃ a c, Γ = [blk p [.slice a ((if 4096 < l.length - (hi - lo) + 1 then l else repL l lo hi x)).length c] 147, own 35 2 a ((if 4096 < l.length - (hi - lo) + 1 then l else repL l lo hi x)).length c (spL ((if 4096 < l.length - (hi - lo) + 1 then l else repL l lo hi x)))])) := by
  refine spec_of Go.Proofs.Tryz.func119 rfl Go.Proofs.Tryz.ntmps119 rfl hw ?_
  change C _ _ _ _ _ _ _ ⟨[(0, _), (1, _), (2, _), (3, _)], []⟩ _
  refine C.regS ?_
  refine L.yl (Y.as rfl) ?_
  refine L.nil ?_
  refine C.seq ?_
  refine C.regS ?_
  refine L.yl (Y.mv rfl) ?_
  refine L.yl (Y.nck rfl) ?_
  first | refine L.yl (Y.fa0 fl147_0 rfl) ?_ | refine L.yl (Y.fa fl147_0 rfl) ?_ | refine L.yl (Y.fas fl147_0 rfl (by simp; omega)) ?_
  refine L.yl (Y.ld sc29 rfl rfl) ?_
  refine L.yl (Y.len ⟨_, Go.Proofs.Tryz.underlying29⟩ rfl) ?_
  refine L.yl (Y.mv rfl) ?_
  refine L.yl (Y.mv rfl) ?_
  first | refine L.yl (Y.sub rfl rfl (by omega)) ?_ | refine L.yl (Y.subW rfl rfl) ?_
  first | refine L.yl (Y.sub rfl rfl (by omega)) ?_ | refine L.yl (Y.subW rfl rfl) ?_
  refine L.yl (Y.mv rfl) ?_
  refine L.yl (Y.len ⟨_, Go.Proofs.Tryz.underlying29⟩ rfl) ?_
  first | refine L.yl (Y.add rfl rfl (by omega)) ?_ | refine L.yl (Y.addW rfl rfl) ?_
  refine L.yl (Y.gtr rfl rfl) ?_
  refine L.nil ?_
  refine C.condP rfl (fun hc1 => ?_) (fun hc1 => ?_)
  ·
    refine C.regS ?_
    refine L.yl (Y.as rfl) ?_
    refine L.nil ?_
    refine C.ret ?_
    refine Then.r ?_
    refine FnPost.r1 Go.Proofs.Tryz.results119 rfl ?_
    rw [if_pos (show 4096 < l.length - (hi - lo) + 1 by omega), if_pos (show 4096 < l.length - (hi - lo) + 1 by omega)]
    exact ⟨[blk p [.slice a l.length c] 147, own 35 2 a l.length c (spL l)], inferInstance, rfl, a, c, rfl⟩
  ·
    refine C.skip ?_
    refine Then.n ?_
    refine C.regS ?_
    refine L.yl (Y.mv rfl) ?_
    refine L.yl (Y.mv rfl) ?_
    refine L.yl (Y.nck rfl) ?_
    first | refine L.yl (Y.fa0 fl147_0 rfl) ?_ | refine L.yl (Y.fa fl147_0 rfl) ?_ | refine L.yl (Y.fas fl147_0 rfl (by simp; omega)) ?_
    refine L.yl (Y.ld sc29 rfl rfl) ?_
    refine L.yl (Y.mv rfl) ?_
    refine L.yl (Y.mv rfl) ?_
    refine L.yl (Y.mv rfl) ?_
    refine L.callFW (Γf := [own 35 2 a l.length c (spL l), own 35 2 (some ⟨bv, 0, none⟩) 1 1 (spCs x)]) go145 rfl (fun w hw hf => hrep a c bv w hf) ?_
    rintro _ _ ⟨a30, c30, rfl, rfl⟩
    refine L.apc ?_
    refine L.yl (Y.nck rfl) ?_
    first | refine L.yl (Y.fa0 fl147_0 rfl) ?_ | refine L.yl (Y.fa fl147_0 rfl) ?_ | refine L.yl (Y.fas fl147_0 rfl (by simp; omega)) ?_
    refine L.st sc29 rfl rfl rfl ?_
    refine L.nil ?_
    refine C.regS ?_
    refine L.yl (Y.as rfl) ?_
    refine L.nil ?_
    refine C.ret ?_
    refine FnPost.r1 Go.Proofs.Tryz.results119 rfl ?_
    rw [if_neg (show ¬ 4096 < l.length - (hi - lo) + 1 by omega), if_neg (show ¬ 4096 < l.length - (hi - lo) + 1 by omega)]
    exact ⟨[blk p [.slice a30 (repL l lo hi x).length c30] 147, own 35 2 a30 (repL l lo hi x).length c30 (spL (repL l lo hi x))], inferInstance, rfl, a30, c30, rfl⟩
def loI (l : List Sp) (s : Sp) : Nat := firstI l (fun x => decide (s.1 ≤ x.2))
def hiI (l : List Sp) (s : Sp) : Nat := firstI l (fun x => decide (s.2 < x.1))
def allI (l : List Sp) (s : Sp) : Sp := hullS (((l.drop (loI l s)).take (hiI l s - loI l s)) ++ [s])
/-- what Add makes of a list, how many are new, what is wrong -/
def addR (l : List Sp) (s : Sp) : List Sp × Int × Int :=
  if ¬ May s then (l, 0, 3) else if s.1 = s.2 then (l, 0, 0) else
  if 4096 < l.length - (hiI l s - loI l s) + 1 then (l, 0, 4) else (repL l (loI l s) (hiI l s) (allI l s), IntKind.i64.wrap (lenS s - withinL l s), 0)
theorem addR_may {l : List Sp} {s : Sp} (h : ¬ May s) : addR l s = (l, 0, 3) := if_pos h
theorem addR_emp {l : List Sp} {s : Sp} (h : May s) (h2 : s.1 = s.2) : addR l s = (l, 0, 0) := by unfold addR; rw [if_neg (fun h' => h' h), if_pos h2]
theorem addR_full {l : List Sp} {s : Sp} (h : May s) (h2 : ¬ s.1 = s.2) (h3 : 4096 < l.length - (hiI l s - loI l s) + 1) : addR l s = (l, 0, 4) := by unfold addR; rw [if_neg (fun h' => h' h), if_neg h2, if_pos h3]
theorem addR_ok {l : List Sp} {s : Sp} (h : May s) (h2 : ¬ s.1 = s.2) (h3 : ¬ 4096 < l.length - (hiI l s - loI l s) + 1) : addR l s = (repL l (loI l s) (hiI l s) (allI l s), IntKind.i64.wrap (lenS s - withinL l s), 0) := by unfold addR; rw [if_neg (fun h' => h' h), if_neg h2, if_neg h3]
theorem ru_Add (p : Nat) (a : Option Addr) (c : Nat) (l : List Sp) (hl : l.length ≤ 65536) (s : Sp) (hlh : loI l s ≤ hiI l s) (hrep : RepOk l (loI l s) (hiI l s) (allI l s)) (w : World) (hw : X.Holds w [blk p [.slice a l.length c] 147, own 35 2 a l.length c (spL l)]) : Calls Go.Proofs.Tryz.prog 71 #[.pointer (some ⟨p, 0, none⟩), spV s] w (Post w [blk p [.slice a l.length c] 147, own 35 2 a l.length c (spL l)] (RW fun r Γ => r = .tuple #[.int .i64 (addR l s).2.1, .int .i64 (addR l s).2.2] ∧ ∃ a c, Γ = [blk p [.slice a ((addR l s).1).length c] 147, own 35 2 a ((addR l s).1).length c (spL ((addR l s).1))])) := by
  have hhi : hiI l s ≤ l.length := firstI_le _ _
  obtain ⟨_, hlc, hcm⟩ := own_le (hw.on (own 35 2 a l.length c (spL l)) (by simp))
  unfold maxLen at hcm
  have hnone : cutA a (loI l s * 2) (hiI l s - loI l s) = none → hiI l s - loI l s = 0 := fun hn => by
    cases a with
    | none => have := own_none (hw.on (own 35 2 none l.length c (spL l)) (by simp)); omega
    | some ad => unfold cutA at hn; split at hn <;> first | assumption | cases hn
  have hsl : hiI l s - loI l s + 1 = (((l.drop (loI l s)).take (hiI l s - loI l s)) ++ [s]).length := by rw [List.length_append, List.length_take, List.length_drop, List.length_singleton]; omega
  refine spec_of Go.Proofs.Tryz.func71 rfl Go.Proofs.Tryz.ntmps71 rfl hw ?_
  change C _ _ _ _ _ _ _ ⟨[(0, _), (1, _)], []⟩ _
  refine C.regS ?_
  refine L.bxa rfl ?_; intro b3
  refine L.yl (Y.as rfl) ?_
  refine L.yl (Y.as rfl) ?_
  refine L.nil ?_
  refine C.seq ?_
  refine C.regS ?_
  refine L.yl (Y.mv rfl) ?_
  refine L.yl (Y.lda (vs := [_, _]) ag35 rfl rfl) ?_
  refine L.callP go113 rfl (fun w hw => ru_ask _ _ _ w) ?_
  refine L.yl (Y.as rfl) ?_
  refine L.nil ?_
  refine C.test (¬ (May s ∧ s.1 ≠ s.2)) ?_ (fun hc1 => ?_) (fun hc1 => ?_)
  ·
    refine L.yl (Y.mv rfl) ?_
    refine L.yl (Y.nei rfl rfl) ?_
    refine L.yl (Y.mv rfl) ?_
    first | refine L.gsplit (i := 17) rfl (fun hg17 => ?_) (fun hg17 => ?_) | refine L.gsplitB (i := 17) rfl (fun hg17 => ?_) (fun hg17 => ?_)
    ·
      refine L.gOff (t := 17) rfl rfl rfl ?_
      refine L.gOff (t := 17) rfl rfl rfl ?_
      refine L.gOff (t := 17) rfl rfl rfl ?_
      refine L.gOff (t := 17) rfl rfl rfl ?_
      refine L.gOff (t := 17) rfl rfl rfl ?_
      refine L.yl (Y.pickT rfl rfl) ?_
      refine L.nil ?_
      exact ⟨_, rfl, by first | (split at hg17 <;> first | (simp_all; done) | omega) | (simp [*]; done) | (constructor <;> intro hh <;> simp_all), (by repeat (first | exact Inc.refl _ | refine Inc.cons rfl ?_)), rfl, rfl⟩
    ·
      refine L.gOn (t := 17) rfl rfl ?_
      first | refine L.yl (Y.fa0 fl35_0 rfl) ?_ | refine L.yl (Y.fa fl35_0 rfl) ?_ | refine L.yl (Y.fas fl35_0 rfl (by simp; omega)) ?_
      refine L.gOn (t := 17) rfl rfl ?_
      refine L.yl (Y.ld sc3 rfl rfl) ?_
      refine L.gOn (t := 17) rfl rfl ?_
      first | refine L.yl (Y.fa0 fl35_1 rfl) ?_ | refine L.yl (Y.fa fl35_1 rfl) ?_ | refine L.yl (Y.fas fl35_1 rfl (by simp; omega)) ?_
      refine L.gOn (t := 17) rfl rfl ?_
      refine L.yl (Y.ld sc3 rfl rfl) ?_
      refine L.gOn (t := 17) rfl rfl ?_
      refine L.yl (Y.eqi rfl rfl) ?_
      refine L.yl (Y.pickF rfl rfl) ?_
      refine L.nil ?_
      exact ⟨_, rfl, by first | (split at hg17 <;> first | (simp_all; done) | omega) | (simp [*]; done) | (constructor <;> intro hh <;> simp_all), (by repeat (first | exact Inc.refl _ | refine Inc.cons rfl ?_)), rfl, rfl⟩
  ·
    
    refine C.regS ?_
    refine L.yl (Y.mv rfl) ?_
    refine L.yl (Y.as rfl) ?_
    refine L.yl (Y.as rfl) ?_
    refine L.nil ?_
    refine C.ret ?_
    refine Then.r ?_
    refine FnPost.r2 Go.Proofs.Tryz.results71 rfl rfl ?_
    by_cases hm : May s
    · have hse : s.1 = s.2 := by
        apply Decidable.byContradiction; intro h; exact hc1 ⟨hm, h⟩
      rw [addR_emp hm hse, if_pos hm]
      exact ⟨[blk p [.slice a l.length c] 147, own 35 2 a l.length c (spL l)], inferInstance, rfl, a, c, rfl⟩
    · rw [addR_may hm, if_neg hm]
      exact ⟨[blk p [.slice a l.length c] 147, own 35 2 a l.length c (spL l)], inferInstance, rfl, a, c, rfl⟩
  ·
    obtain ⟨hm, hne⟩ := Decidable.not_not.1 hc1
    refine C.skip ?_
    refine Then.n ?_
    refine C.regS ?_
    refine L.yl (Y.mv rfl) ?_
    refine L.yl (Y.mkf (cv := #[_]) rfl) ?_
    refine L.callFW (Γf := [blk p [.slice a l.length c] 147, own 35 2 a l.length c (spL l), blk b3 (spCs s) 35]) go114 rfl (fun w2 hw2 hf2 => ru_first p a c l (by omega) b3 (spCs s) 35 _ rfl (fun x => decide (s.1 ≤ x.2)) (fun x w3 hw3 => CallV.of (args := [spV x]) (cap := [.pointer (some ⟨b3, 0, none⟩)]) go115 (of_rw (ru_add1 s b3 x w3 hw3))) w2 hf2) ?_
    rintro _ _ ⟨rfl, rfl⟩
    refine L.apc ?_
    rw [show firstI l (fun x => decide (s.1 ≤ x.2)) = loI l s from rfl]
    refine L.yl (Y.as rfl) ?_
    refine L.nil ?_
    refine C.regS ?_
    refine L.yl (Y.mv rfl) ?_
    refine L.yl (Y.mkf (cv := #[_]) rfl) ?_
    refine L.callFW (Γf := [blk p [.slice a l.length c] 147, own 35 2 a l.length c (spL l), blk b3 (spCs s) 35]) go114 rfl (fun w2 hw2 hf2 => ru_first p a c l (by omega) b3 (spCs s) 35 _ rfl (fun x => decide (s.2 < x.1)) (fun x w3 hw3 => CallV.of (args := [spV x]) (cap := [.pointer (some ⟨b3, 0, none⟩)]) go116 (of_rw (ru_add2 s b3 x w3 hw3))) w2 hf2) ?_
    rintro _ _ ⟨rfl, rfl⟩
    refine L.apc ?_
    rw [show firstI l (fun x => decide (s.2 < x.1)) = hiI l s from rfl]
    refine L.yl (Y.as rfl) ?_
    refine L.nil ?_
    refine C.regS ?_
    refine L.yl (Y.mv rfl) ?_
    refine L.yl (Y.lda (vs := [_, _]) ag35 rfl rfl) ?_
    refine L.callFW (Γf := [blk p [.slice a l.length c] 147, own 35 2 a l.length c (spL l)]) go117 rfl (fun w hw hf => ru_Within p a c l (by omega) s w hf) ?_
    rintro _ _ ⟨rfl, rfl⟩
    refine L.apc ?_
    refine L.yl (Y.as rfl) ?_
    refine L.nil ?_
    refine C.drwS (.y 0 (.y 1 (.y 2 (.y 3 (.y 4 (.y 5 (.y 6 (.y 7 (.y 8 (.b2 9 (.b2 10 (.b2 11 (.h 12 (.last 13)) 12 (.h 11 (.last 13))) 12 (.h 10 (.h 11 (.last 13)))) 12 (.h 9 (.h 10 (.h 11 (.last 13)))))))))))))) mixo (by kernel_rfl) ?_
    refine V.yl rfl (Y.mv rfl) ?_
    refine V.yl rfl (Y.nck rfl) ?_
    first | refine V.yl rfl (Y.fa0 fl147_0 rfl) ?_ | refine V.yl rfl (Y.fa fl147_0 rfl) ?_ | refine V.yl rfl (Y.fas fl147_0 rfl (by simp; omega)) ?_
    refine V.yl rfl (Y.ld sc29 rfl rfl) ?_
    refine V.yl rfl (Y.mv rfl) ?_
    refine V.yl rfl (Y.mv rfl) ?_
    refine V.yl rfl (Y.mv rfl) ?_
    refine V.yl rfl (Y.sl3 slt29 rfl rfl rfl rfl (by omega)) ?_
    refine V.yl rfl (Y.lda (vs := [_, _]) ag35 rfl rfl) ?_
    refine ⟨⟨_, rfl, ?_⟩, ⟨_, rfl, ?_⟩⟩
    ·
      refine L.apc ?_
      refine L.bsA (vs := [_, _]) elt29 rfl rfl (by decide) ?_; intro b43
      refine L.nil ?_
      refine V.on ?_
      refine ⟨⟨_, rfl, ?_⟩, ⟨_, rfl, ?_⟩⟩
      ·
        refine L.apc ?_
        refine L.appG (olds := spL ((l.drop (loI l s)).take (hiI l s - loI l s))) (news := spCs s) elt29 rfl rfl (fun w2 hw2 => by have h := (own_rs (hw2.holds.on (own 35 2 a l.length c (spL l)) (by simp))).cut (loI l s * 2) (hiI l s - loI l s) ((hiI l s - loI l s) * 2) (by omega); rw [spL_cut] at h; exact h) (by rw [spL_length, List.length_take, List.length_drop]; simp only [Int.toNat_natCast]; congr 1; omega) (fun hn => hnone hn) rfl (by omega) (by omega) (by omega) (by omega) ?_; intro a44 c44
        refine L.nil ?_
        refine V.on ?_
        refine ⟨⟨_, rfl, ?_⟩, ⟨_, rfl, ?_⟩⟩
        ·
          refine L.apc ?_
          rw [show spL ((l.drop (loI l s)).take (hiI l s - loI l s)) ++ spCs s = spL (((l.drop (loI l s)).take (hiI l s - loI l s)) ++ [s]) by rw [spL_append]; rfl, show (((hiI l s : Nat) : Int).toNat - ((loI l s : Nat) : Int).toNat + 1) = (((l.drop (loI l s)).take (hiI l s - loI l s)) ++ [s]).length from hsl]
          refine L.callP go118 rfl (fun w2 hw2 => span_Hull a44 (((l.drop (loI l s)).take (hiI l s - loI l s)) ++ [s]) c44 (by omega) w2 (own_rs (hw2.holds.on (own 35 2 a44 (((l.drop (loI l s)).take (hiI l s - loI l s)) ++ [s]).length c44 (spL (((l.drop (loI l s)).take (hiI l s - loI l s)) ++ [s]))) (by simp)))) ?_
          rw [show hullS (((l.drop (loI l s)).take (hiI l s - loI l s)) ++ [s]) = allI l s from rfl]
          refine L.nil ?_
          refine V.on ?_
          refine V.hv rfl ?_
          refine L.apc ?_
          refine L.al (zs := [.int .i64 0, .int .i64 0]) zr35 rfl ?_; intro b10
          refine L.nil ?_
          refine V.on ?_
          refine V.ls rfl ?_
          refine L.apc ?_
          refine L.sta (vs := [_, _]) ag35 rfl rfl rfl rfl rfl ?_
          refine L.nil ?_
          refine C.seq ?_
          refine C.regS ?_
          refine L.yl (Y.mv rfl) ?_
          refine L.yl (Y.mv rfl) ?_
          refine L.yl (Y.mv rfl) ?_
          refine L.yl (Y.lda (vs := [_, _]) ag35 rfl rfl) ?_
          refine L.bsA (vs := [_, _]) elt29 rfl rfl (by decide) ?_; intro b50
          refine L.callFW (Γf := [blk p [.slice a l.length c] 147, own 35 2 a l.length c (spL l), own 35 2 (some ⟨b50, 0, none⟩) 1 1 (spCs (allI l s))]) go119 rfl (fun w hw hf => ru_lay p a c l hl (loI l s) (hiI l s) hlh hhi (allI l s) hrep b50 w hf) ?_
          rintro _ _ ⟨rfl, a51, c51, rfl⟩
          refine L.apc ?_
          refine L.byc (4096 < l.length - (hiI l s - loI l s) + 1) (fun hq => ?_) (fun hq => ?_)
          ·
            rw [if_pos hq, if_pos hq]
            refine L.yl (Y.as rfl) ?_
            refine L.nil ?_
            refine C.regS ?_
            refine L.yl (Y.mv rfl) ?_
            refine L.yl (Y.nei rfl rfl) ?_
            refine L.nil ?_
            refine C.condTt rfl ?_
            refine C.regS ?_
            refine L.yl (Y.mv rfl) ?_
            refine L.yl (Y.as rfl) ?_
            refine L.yl (Y.as rfl) ?_
            refine L.nil ?_
            refine C.ret ?_
            refine Then.r ?_
            refine FnPost.r2 Go.Proofs.Tryz.results71 rfl rfl ?_
            rw [addR_full hm hne hq]
            exact ⟨[blk p [.slice a51 l.length c51] 147, own 35 2 a51 l.length c51 (spL l)], inferInstance, rfl, a51, c51, rfl⟩
          ·
            rw [if_neg hq, if_neg hq]
            refine L.yl (Y.as rfl) ?_
            refine L.nil ?_
            refine C.regS ?_
            refine L.yl (Y.mv rfl) ?_
            refine L.yl (Y.nei rfl rfl) ?_
            refine L.nil ?_
            refine C.condFf rfl ?_
            refine C.skip ?_
            refine Then.n ?_
            refine C.regS ?_
            refine L.yl (Y.lda (vs := [_, _]) ag35 rfl rfl) ?_
            refine L.callP go70 rfl (fun w hw => span_Len _ _ w) ?_
            refine L.yl (Y.mv rfl) ?_
            first | refine L.yl (Y.sub rfl rfl (by omega)) ?_ | refine L.yl (Y.subW rfl rfl) ?_
            refine L.yl (Y.as rfl) ?_
            refine L.yl (Y.as rfl) ?_
            refine L.nil ?_
            refine C.ret ?_
            refine FnPost.r2 Go.Proofs.Tryz.results71 rfl rfl ?_
            rw [addR_ok hm hne hq]
            exact ⟨[blk p [.slice a51 (repL l (loI l s) (hiI l s) (allI l s)).length c51] 147, own 35 2 a51 (repL l (loI l s) (hiI l s) (allI l s)).length c51 (spL (repL l (loI l s) (hiI l s) (allI l s)))], inferInstance, rfl, a51, c51, rfl⟩
        ·
          refine L.apc ?_
          refine L.al (zs := [.int .i64 0, .int .i64 0]) zr35 rfl ?_; intro b10
          refine L.nil ?_
          refine V.on ?_
          refine V.hv rfl ?_
          refine L.apc ?_
          rw [show spL ((l.drop (loI l s)).take (hiI l s - loI l s)) ++ spCs s = spL (((l.drop (loI l s)).take (hiI l s - loI l s)) ++ [s]) by rw [spL_append]; rfl, show (((hiI l s : Nat) : Int).toNat - ((loI l s : Nat) : Int).toNat + 1) = (((l.drop (loI l s)).take (hiI l s - loI l s)) ++ [s]).length from hsl]
          refine L.callP go118 rfl (fun w2 hw2 => span_Hull a44 (((l.drop (loI l s)).take (hiI l s - loI l s)) ++ [s]) c44 (by omega) w2 (own_rs (hw2.holds.on (own 35 2 a44 (((l.drop (loI l s)).take (hiI l s - loI l s)) ++ [s]).length c44 (spL (((l.drop (loI l s)).take (hiI l s - loI l s)) ++ [s]))) (by simp)))) ?_
          rw [show hullS (((l.drop (loI l s)).take (hiI l s - loI l s)) ++ [s]) = allI l s from rfl]
          refine L.nil ?_
          refine V.on ?_
          refine V.ls rfl ?_
          refine L.apc ?_
          refine L.sta (vs := [_, _]) ag35 rfl rfl rfl rfl rfl ?_
          refine L.nil ?_
          refine C.seq ?_
          refine C.regS ?_
          refine L.yl (Y.mv rfl) ?_
          refine L.yl (Y.mv rfl) ?_
          refine L.yl (Y.mv rfl) ?_
          refine L.yl (Y.lda (vs := [_, _]) ag35 rfl rfl) ?_
          refine L.bsA (vs := [_, _]) elt29 rfl rfl (by decide) ?_; intro b50
          refine L.callFW (Γf := [blk p [.slice a l.length c] 147, own 35 2 a l.length c (spL l), own 35 2 (some ⟨b50, 0, none⟩) 1 1 (spCs (allI l s))]) go119 rfl (fun w hw hf => ru_lay p a c l hl (loI l s) (hiI l s) hlh hhi (allI l s) hrep b50 w hf) ?_
          rintro _ _ ⟨rfl, a51, c51, rfl⟩
          refine L.apc ?_
          refine L.byc (4096 < l.length - (hiI l s - loI l s) + 1) (fun hq => ?_) (fun hq => ?_)
          ·
            rw [if_pos hq, if_pos hq]
            refine L.yl (Y.as rfl) ?_
            refine L.nil ?_
            refine C.regS ?_
            refine L.yl (Y.mv rfl) ?_
            refine L.yl (Y.nei rfl rfl) ?_
            refine L.nil ?_
            refine C.condTt rfl ?_
            refine C.regS ?_
            refine L.yl (Y.mv rfl) ?_
            refine L.yl (Y.as rfl) ?_
            refine L.yl (Y.as rfl) ?_
            refine L.nil ?_
            refine C.ret ?_
            refine Then.r ?_
            refine FnPost.r2 Go.Proofs.Tryz.results71 rfl rfl ?_
            rw [addR_full hm hne hq]
            exact ⟨[blk p [.slice a51 l.length c51] 147, own 35 2 a51 l.length c51 (spL l)], inferInstance, rfl, a51, c51, rfl⟩
          ·
            rw [if_neg hq, if_neg hq]
            refine L.yl (Y.as rfl) ?_
            refine L.nil ?_
            refine C.regS ?_
            refine L.yl (Y.mv rfl) ?_
            refine L.yl (Y.nei rfl rfl) ?_
            refine L.nil ?_
            refine C.condFf rfl ?_
            refine C.skip ?_
            refine Then.n ?_
            refine C.regS ?_
            refine L.yl (Y.lda (vs := [_, _]) ag35 rfl rfl) ?_
            refine L.callP go70 rfl (fun w hw => span_Len _ _ w) ?_
            refine L.yl (Y.mv rfl) ?_
            first | refine L.yl (Y.sub rfl rfl (by omega)) ?_ | refine L.yl (Y.subW rfl rfl) ?_
            refine L.yl (Y.as rfl) ?_
            refine L.yl (Y.as rfl) ?_
            refine L.nil ?_
            refine C.ret ?_
            refine FnPost.r2 Go.Proofs.Tryz.results71 rfl rfl ?_
            rw [addR_ok hm hne hq]
            exact ⟨[blk p [.slice a51 (repL l (loI l s) (hiI l s) (allI l s)).length c51] 147, own 35 2 a51 (repL l (loI l s) (hiI l s) (allI l s)).length c51 (spL (repL l (loI l s) (hiI l s) (allI l s)))], inferInstance, rfl, a51, c51, rfl⟩
      ·
        refine L.apc ?_
        refine L.al (zs := [.int .i64 0, .int .i64 0]) zr35 rfl ?_; intro b10
        refine L.nil ?_
        refine V.on ?_
        refine V.hv rfl ?_
        refine L.apc ?_
        refine L.appG (olds := spL ((l.drop (loI l s)).take (hiI l s - loI l s))) (news := spCs s) elt29 rfl rfl (fun w2 hw2 => by have h := (own_rs (hw2.holds.on (own 35 2 a l.length c (spL l)) (by simp))).cut (loI l s * 2) (hiI l s - loI l s) ((hiI l s - loI l s) * 2) (by omega); rw [spL_cut] at h; exact h) (by rw [spL_length, List.length_take, List.length_drop]; simp only [Int.toNat_natCast]; congr 1; omega) (fun hn => hnone hn) rfl (by omega) (by omega) (by omega) (by omega) ?_; intro a44 c44
        refine L.nil ?_
        refine V.on ?_
        refine V.hv rfl ?_
        refine L.apc ?_
        rw [show spL ((l.drop (loI l s)).take (hiI l s - loI l s)) ++ spCs s = spL (((l.drop (loI l s)).take (hiI l s - loI l s)) ++ [s]) by rw [spL_append]; rfl, show (((hiI l s : Nat) : Int).toNat - ((loI l s : Nat) : Int).toNat + 1) = (((l.drop (loI l s)).take (hiI l s - loI l s)) ++ [s]).length from hsl]
        refine L.callP go118 rfl (fun w2 hw2 => span_Hull a44 (((l.drop (loI l s)).take (hiI l s - loI l s)) ++ [s]) c44 (by omega) w2 (own_rs (hw2.holds.on (own 35 2 a44 (((l.drop (loI l s)).take (hiI l s - loI l s)) ++ [s]).length c44 (spL (((l.drop (loI l s)).take (hiI l s - loI l s)) ++ [s]))) (by simp)))) ?_
        rw [show hullS (((l.drop (loI l s)).take (hiI l s - loI l s)) ++ [s]) = allI l s from rfl]
        refine L.nil ?_
        refine V.on ?_
        refine V.ls rfl ?_
        refine L.apc ?_
        refine L.sta (vs := [_, _]) ag35 rfl rfl rfl rfl rfl ?_
        refine L.nil ?_
        refine C.seq ?_
        refine C.regS ?_
        refine L.yl (Y.mv rfl) ?_
        refine L.yl (Y.mv rfl) ?_
        refine L.yl (Y.mv rfl) ?_
        refine L.yl (Y.lda (vs := [_, _]) ag35 rfl rfl) ?_
        refine L.bsA (vs := [_, _]) elt29 rfl rfl (by decide) ?_; intro b50
        refine L.callFW (Γf := [blk p [.slice a l.length c] 147, own 35 2 a l.length c (spL l), own 35 2 (some ⟨b50, 0, none⟩) 1 1 (spCs (allI l s))]) go119 rfl (fun w hw hf => ru_lay p a c l hl (loI l s) (hiI l s) hlh hhi (allI l s) hrep b50 w hf) ?_
        rintro _ _ ⟨rfl, a51, c51, rfl⟩
        refine L.apc ?_
        refine L.byc (4096 < l.length - (hiI l s - loI l s) + 1) (fun hq => ?_) (fun hq => ?_)
        ·
          rw [if_pos hq, if_pos hq]
          refine L.yl (Y.as rfl) ?_
          refine L.nil ?_
          refine C.regS ?_
          refine L.yl (Y.mv rfl) ?_
          refine L.yl (Y.nei rfl rfl) ?_
          refine L.nil ?_
          refine C.condTt rfl ?_
          refine C.regS ?_
          refine L.yl (Y.mv rfl) ?_
          refine L.yl (Y.as rfl) ?_
          refine L.yl (Y.as rfl) ?_
          refine L.nil ?_
          refine C.ret ?_
          refine Then.r ?_
          refine FnPost.r2 Go.Proofs.Tryz.results71 rfl rfl ?_
          rw [addR_full hm hne hq]
          exact ⟨[blk p [.slice a51 l.length c51] 147, own 35 2 a51 l.length c51 (spL l)], inferInstance, rfl, a51, c51, rfl⟩
        ·
          rw [if_neg hq, if_neg hq]
          refine L.yl (Y.as rfl) ?_
          refine L.nil ?_
          refine C.regS ?_
          refine L.yl (Y.mv rfl) ?_
          refine L.yl (Y.nei rfl rfl) ?_
          refine L.nil ?_
          refine C.condFf rfl ?_
          refine C.skip ?_
          refine Then.n ?_
          refine C.regS ?_
          refine L.yl (Y.lda (vs := [_, _]) ag35 rfl rfl) ?_
          refine L.callP go70 rfl (fun w hw => span_Len _ _ w) ?_
          refine L.yl (Y.mv rfl) ?_
          first | refine L.yl (Y.sub rfl rfl (by omega)) ?_ | refine L.yl (Y.subW rfl rfl) ?_
          refine L.yl (Y.as rfl) ?_
          refine L.yl (Y.as rfl) ?_
          refine L.nil ?_
          refine C.ret ?_
          refine FnPost.r2 Go.Proofs.Tryz.results71 rfl rfl ?_
          rw [addR_ok hm hne hq]
          exact ⟨[blk p [.slice a51 (repL l (loI l s) (hiI l s) (allI l s)).length c51] 147, own 35 2 a51 (repL l (loI l s) (hiI l s) (allI l s)).length c51 (spL (repL l (loI l s) (hiI l s) (allI l s)))], inferInstance, rfl, a51, c51, rfl⟩
    ·
      refine L.apc ?_
      refine L.al (zs := [.int .i64 0, .int .i64 0]) zr35 rfl ?_; intro b10
      refine L.nil ?_
      refine V.on ?_
      refine V.hv rfl ?_
      refine L.apc ?_
      refine L.bsA (vs := [_, _]) elt29 rfl rfl (by decide) ?_; intro b43
      refine L.nil ?_
      refine V.on ?_
      refine V.hv rfl ?_
      refine L.apc ?_
      refine L.appG (olds := spL ((l.drop (loI l s)).take (hiI l s - loI l s))) (news := spCs s) elt29 rfl rfl (fun w2 hw2 => by have h := (own_rs (hw2.holds.on (own 35 2 a l.length c (spL l)) (by simp))).cut (loI l s * 2) (hiI l s - loI l s) ((hiI l s - loI l s) * 2) (by omega); rw [spL_cut] at h; exact h) (by rw [spL_length, List.length_take, List.length_drop]; simp only [Int.toNat_natCast]; congr 1; omega) (fun hn => hnone hn) rfl (by omega) (by omega) (by omega) (by omega) ?_; intro a44 c44
      refine L.nil ?_
      refine V.on ?_
      refine V.hv rfl ?_
      refine L.apc ?_
      rw [show spL ((l.drop (loI l s)).take (hiI l s - loI l s)) ++ spCs s = spL (((l.drop (loI l s)).take (hiI l s - loI l s)) ++ [s]) by rw [spL_append]; rfl, show (((hiI l s : Nat) : Int).toNat - ((loI l s : Nat) : Int).toNat + 1) = (((l.drop (loI l s)).take (hiI l s - loI l s)) ++ [s]).length from hsl]
      refine L.callP go118 rfl (fun w2 hw2 => span_Hull a44 (((l.drop (loI l s)).take (hiI l s - loI l s)) ++ [s]) c44 (by omega) w2 (own_rs (hw2.holds.on (own 35 2 a44 (((l.drop (loI l s)).take (hiI l s - loI l s)) ++ [s]).length c44 (spL (((l.drop (loI l s)).take (hiI l s - loI l s)) ++ [s]))) (by simp)))) ?_
      rw [show hullS (((l.drop (loI l s)).take (hiI l s - loI l s)) ++ [s]) = allI l s from rfl]
      refine L.nil ?_
      refine V.on ?_
      refine V.ls rfl ?_
      refine L.apc ?_
      refine L.sta (vs := [_, _]) ag35 rfl rfl rfl rfl rfl ?_
      refine L.nil ?_
      refine C.seq ?_
      refine C.regS ?_
      refine L.yl (Y.mv rfl) ?_
      refine L.yl (Y.mv rfl) ?_
      refine L.yl (Y.mv rfl) ?_
      refine L.yl (Y.lda (vs := [_, _]) ag35 rfl rfl) ?_
      refine L.bsA (vs := [_, _]) elt29 rfl rfl (by decide) ?_; intro b50
      refine L.callFW (Γf := [blk p [.slice a l.length c] 147, own 35 2 a l.length c (spL l), own 35 2 (some ⟨b50, 0, none⟩) 1 1 (spCs (allI l s))]) go119 rfl (fun w hw hf => ru_lay p a c l hl (loI l s) (hiI l s) hlh hhi (allI l s) hrep b50 w hf) ?_
      rintro _ _ ⟨rfl, a51, c51, rfl⟩
      refine L.apc ?_
      refine L.byc (4096 < l.length - (hiI l s - loI l s) + 1) (fun hq => ?_) (fun hq => ?_)
      ·
        rw [if_pos hq, if_pos hq]
        refine L.yl (Y.as rfl) ?_
        refine L.nil ?_
        refine C.regS ?_
        refine L.yl (Y.mv rfl) ?_
        refine L.yl (Y.nei rfl rfl) ?_
        refine L.nil ?_
        refine C.condTt rfl ?_
        refine C.regS ?_
        refine L.yl (Y.mv rfl) ?_
        refine L.yl (Y.as rfl) ?_
        refine L.yl (Y.as rfl) ?_
        refine L.nil ?_
        refine C.ret ?_
        refine Then.r ?_
        refine FnPost.r2 Go.Proofs.Tryz.results71 rfl rfl ?_
        rw [addR_full hm hne hq]
        exact ⟨[blk p [.slice a51 l.length c51] 147, own 35 2 a51 l.length c51 (spL l)], inferInstance, rfl, a51, c51, rfl⟩
      ·
        rw [if_neg hq, if_neg hq]
        refine L.yl (Y.as rfl) ?_
        refine L.nil ?_
        refine C.regS ?_
        refine L.yl (Y.mv rfl) ?_
        refine L.yl (Y.nei rfl rfl) ?_
        refine L.nil ?_
        refine C.condFf rfl ?_
        refine C.skip ?_
        refine Then.n ?_
        refine C.regS ?_
        refine L.yl (Y.lda (vs := [_, _]) ag35 rfl rfl) ?_
        refine L.callP go70 rfl (fun w hw => span_Len _ _ w) ?_
        refine L.yl (Y.mv rfl) ?_
        first | refine L.yl (Y.sub rfl rfl (by omega)) ?_ | refine L.yl (Y.subW rfl rfl) ?_
        refine L.yl (Y.as rfl) ?_
        refine L.yl (Y.as rfl) ?_
        refine L.nil ?_
        refine C.ret ?_
        refine FnPost.r2 Go.Proofs.Tryz.results71 rfl rfl ?_
        rw [addR_ok hm hne hq]
        exact ⟨[blk p [.slice a51 (repL l (loI l s) (hiI l s) (allI l s)).length c51] 147, own 35 2 a51 (repL l (loI l s) (hiI l s) (allI l s)).length c51 (spL (repL l (loI l s) (hiI l s) (allI l s)))], inferInstance, rfl, a51, c51, rfl⟩
end Go.Proofs.YtcbhcdcobgdddaaGreat
set_option maxHeartbeats 1000000
namespace Go.Proofs.YtcbhcdcobgdddaaGreat
open Go Go.X Go.Rep Go.Shelf
theorem bd112 : ∃ fs, Go.Proofs.Tryz.prog.underlying 112 = some (.struct fs) ∧ fs.toList.mapM (fun f => (Go.Proofs.Tryz.prog.info? f.type).map fun i => (f.offset, i.size)) = some [(0, 1), (1, 1), (2, 1), (3, 1)] := ⟨_, Go.Proofs.Tryz.underlying112, by kernel_rfl⟩
theorem fl112_0 : Fld Go.Proofs.Tryz.prog 112 0 0 := ⟨_, _, Go.Proofs.Tryz.underlying112, rfl, rfl, _, (by kernel_rfl : (Go.Proofs.Tryz.prog.info? 22).map (·.size) = some 1), by decide⟩
theorem fl112_2 : Fld Go.Proofs.Tryz.prog 112 2 2 := ⟨_, _, Go.Proofs.Tryz.underlying112, rfl, rfl, _, (by kernel_rfl : (Go.Proofs.Tryz.prog.info? 31).map (·.size) = some 1), by decide⟩
theorem fl112_3 : Fld Go.Proofs.Tryz.prog 112 3 3 := ⟨_, _, Go.Proofs.Tryz.underlying112, rfl, rfl, _, (by kernel_rfl : (Go.Proofs.Tryz.prog.info? 31).map (·.size) = some 1), by decide⟩
theorem go108 : Goes Go.Proofs.Tryz.prog 108 := enters_of Go.Proofs.Tryz.func108 (by kernel_rfl) rfl
theorem go26 : Goes Go.Proofs.Tryz.prog 26 := enters_of Go.Proofs.Tryz.func26 (by kernel_rfl) rfl
theorem go56 : Goes Go.Proofs.Tryz.prog 56 := enters_of Go.Proofs.Tryz.func56 (by kernel_rfl) rfl
theorem mk5 : ∃ it, Go.Proofs.Tryz.prog.info? 5 = some it ∧ it.zero = some (.int .u8 0) ∧ it.size = 1 ∧ it.bytes = 1 := mkOf (by kernel_rfl)
theorem zr112 : Zr Go.Proofs.Tryz.prog 112 (.agg #[.int .u32 0, .pointer none, .slice none 0 0, .slice none 0 0]) := by unfold Zr; kernel_rfl
def twiceR (l : List Sp) (s : Sp) : Sp := meetS (nextR l s.1) s
/-- what Take makes of what was heard: the runs, the text, the ring, what is told, what is wrong -/
structure HT where
  l : List Sp
  t : List UInt8
  ring : List UInt8
  span : Sp
  fresh : Int
  dup : Sp
  bad : Int
def takeH (base : Int) (l : List Sp) (t ring : List UInt8) (q : Int) (d : List UInt8) : HT :=
  let p := placeR base t.length ring.length q d.length
  if p.2 ≠ 0 then ⟨l, t, ring, (0, 0), 0, (0, 0), p.2⟩ else
  let r := ringL ring d p.1.1 (gapsL l p.1)
  let a := addR l p.1
  if a.2.2 ≠ 0 then ⟨a.1, t, r, (0, 0), 0, (0, 0), a.2.2⟩ else
  ⟨a.1, fillT r t ((gapR a.1 0).toNat - t.length), r, p.1, a.2.1, twiceR l p.1, 0⟩
theorem he_New (isn win : Int) (w : World) : Calls Go.Proofs.Tryz.prog 25 #[.int .u32 isn, .int .i64 win] w (Post w [] (RW fun r Γ => if win < 1 ∨ 65536 < win then r = .tuple #[.pointer none, .int .i64 2] ∧ Γ = [] else ∃ h q rg, r = .tuple #[.pointer (some ⟨h, 0, none⟩), .int .i64 0] ∧ Γ = [blk h [.int .u32 isn, .pointer (some ⟨q, 0, none⟩), .slice none 0 0, .slice (some ⟨rg, 0, none⟩) win.toNat win.toNat] 112, blk q [.slice none 0 0] 147, own 5 1 (some ⟨rg, 0, none⟩) win.toNat win.toNat (byteL (List.replicate win.toNat 0))])) := by
  refine spec_of Go.Proofs.Tryz.func25 rfl Go.Proofs.Tryz.ntmps25 rfl (Holds.nil w) ?_
  change C _ _ _ _ _ _ _ ⟨[(0, _), (1, _)], []⟩ _
  refine C.regS ?_
  refine L.yl (Y.as rfl) ?_
  refine L.yl (Y.as rfl) ?_
  refine L.nil ?_
  refine C.seq ?_
  refine C.test (win < 1 ∨ 65536 < win) ?_ (fun hc1 => ?_) (fun hc1 => ?_)
  ·
    refine L.yl (Y.mv rfl) ?_
    refine L.yl (Y.lss rfl rfl) ?_
    refine L.yl (Y.mv rfl) ?_
    first | refine L.gsplit (i := 8) rfl (fun hg8 => ?_) (fun hg8 => ?_) | refine L.gsplitB (i := 8) rfl (fun hg8 => ?_) (fun hg8 => ?_)
    ·
      refine L.gOff (t := 8) rfl rfl rfl ?_
      refine L.gOff (t := 8) rfl rfl rfl ?_
      refine L.yl (Y.pickT rfl rfl) ?_
      refine L.nil ?_
      exact ⟨_, rfl, by first | exact ⟨fun _ => by omega, fun _ => rfl⟩ | (rw [decide_eq_true_iff]; omega) | exact ⟨fun h => by cases h, fun h => by omega⟩ | (simp [*] <;> omega), (by repeat (first | exact Inc.refl _ | refine Inc.cons rfl ?_)), rfl, rfl⟩
    ·
      refine L.gOn (t := 8) rfl rfl ?_
      refine L.yl (Y.mv rfl) ?_
      refine L.gOn (t := 8) rfl rfl ?_
      refine L.yl (Y.gtr rfl rfl) ?_
      refine L.yl (Y.pickF rfl rfl) ?_
      refine L.nil ?_
      exact ⟨_, rfl, by first | exact ⟨fun _ => by omega, fun _ => rfl⟩ | (rw [decide_eq_true_iff]; omega) | exact ⟨fun h => by cases h, fun h => by omega⟩ | (simp [*] <;> omega), (by repeat (first | exact Inc.refl _ | refine Inc.cons rfl ?_)), rfl, rfl⟩
  ·
    refine C.regS ?_
    refine L.yl (Y.as rfl) ?_
    refine L.yl (Y.as rfl) ?_
    refine L.nil ?_
    refine C.ret ?_
    refine Then.r ?_
    refine FnPost.r2 Go.Proofs.Tryz.results25 rfl rfl ?_
    exact ⟨[], inferInstance, by dsimp only; rw [if_pos hc1]; exact ⟨rfl, rfl⟩⟩
  ·
    obtain ⟨n, rfl⟩ : ∃ n : Nat, win = n := ⟨win.toNat, by omega⟩
    refine C.skip ?_
    refine Then.n ?_
    refine C.drwS (.y 0 (.y 2 (.b2 1 (.h 3 (.y 4 (.h 5 (.y 6 (.y 7 (.fin)))))) 3 (.h 1 (.y 4 (.h 5 (.y 6 (.y 7 (.fin))))))))) mixo (by kernel_rfl) ?_
    refine V.yl rfl (Y.mv rfl) ?_
    refine V.yl rfl (Y.mv rfl) ?_
    refine ⟨⟨_, rfl, ?_⟩, ⟨_, rfl, ?_⟩⟩
    ·
      refine L.apc ?_
      refine L.callF (Γf := []) go56 rfl (fun w hw hf => ru_New w) ?_
      rintro _ _ ⟨q, rfl, rfl⟩
      refine L.apc ?_
      refine L.nil ?_
      refine V.on ?_
      refine V.hv rfl ?_
      refine L.apc ?_
      refine L.mks Go.Proofs.Tryz.underlying31 mk5 rfl rfl rfl (by omega) (by omega) ?_; intro b15
      refine L.nil ?_
      refine V.on ?_
      refine V.yl rfl (Y.bdL (cs := [_, _, _, _]) zr112 bd112 rfl rfl rfl) ?_
      refine V.hv rfl ?_
      refine L.apc ?_
      refine L.bxa rfl ?_; intro b17
      refine L.nil ?_
      refine V.on ?_
      refine V.yl rfl (Y.as rfl) ?_
      refine V.yl rfl (Y.as rfl) ?_
      refine V.fin ?_
      refine C.ret ?_
      refine FnPost.r2 Go.Proofs.Tryz.results25 rfl rfl ?_
      rw [show (List.replicate n (Value.int .u8 0)) = byteL (List.replicate n 0) by simp [byteL]]
      exact ⟨[blk b17 [.int .u32 isn, .pointer (some ⟨q, 0, none⟩), .slice none 0 0, .slice (some ⟨b15, 0, none⟩) n n] 112, blk q [.slice none 0 0] 147, own 5 1 (some ⟨b15, 0, none⟩) n n (byteL (List.replicate n 0))], inferInstance, by dsimp only; rw [if_neg hc1]; exact ⟨b17, q, b15, rfl, rfl⟩⟩
    ·
      refine L.apc ?_
      refine L.mks Go.Proofs.Tryz.underlying31 mk5 rfl rfl rfl (by omega) (by omega) ?_; intro b15
      refine L.nil ?_
      refine V.on ?_
      refine V.hv rfl ?_
      refine L.apc ?_
      refine L.callF (Γf := []) go56 rfl (fun w hw hf => ru_New w) ?_
      rintro _ _ ⟨q, rfl, rfl⟩
      refine L.apc ?_
      refine L.nil ?_
      refine V.on ?_
      refine V.yl rfl (Y.bdL (cs := [_, _, _, _]) zr112 bd112 rfl rfl rfl) ?_
      refine V.hv rfl ?_
      refine L.apc ?_
      refine L.bxa rfl ?_; intro b17
      refine L.nil ?_
      refine V.on ?_
      refine V.yl rfl (Y.as rfl) ?_
      refine V.yl rfl (Y.as rfl) ?_
      refine V.fin ?_
      refine C.ret ?_
      refine FnPost.r2 Go.Proofs.Tryz.results25 rfl rfl ?_
      rw [show (List.replicate n (Value.int .u8 0)) = byteL (List.replicate n 0) by simp [byteL]]
      exact ⟨[blk b17 [.int .u32 isn, .pointer (some ⟨q, 0, none⟩), .slice none 0 0, .slice (some ⟨b15, 0, none⟩) n n] 112, blk q [.slice none 0 0] 147, own 5 1 (some ⟨b15, 0, none⟩) n n (byteL (List.replicate n 0))], inferInstance, by dsimp only; rw [if_neg hc1]; exact ⟨b17, q, b15, rfl, rfl⟩⟩
theorem he_Next (h q : Nat) (base : Int) (ta : Option Addr) (tc rg : Nat) (t : List UInt8) (n : Nat) (w : World) (hw : X.Holds w [blk h [.int .u32 base, .pointer (some ⟨q, 0, none⟩), .slice ta t.length tc, .slice (some ⟨rg, 0, none⟩) n n] 112]) : Calls Go.Proofs.Tryz.prog 26 #[.pointer (some ⟨h, 0, none⟩)] w (Post w [blk h [.int .u32 base, .pointer (some ⟨q, 0, none⟩), .slice ta t.length tc, .slice (some ⟨rg, 0, none⟩) n n] 112] (RW fun r Γ => r = .int .i64 t.length ∧ Γ = [blk h [.int .u32 base, .pointer (some ⟨q, 0, none⟩), .slice ta t.length tc, .slice (some ⟨rg, 0, none⟩) n n] 112])) := by
  refine spec_of Go.Proofs.Tryz.func26 rfl Go.Proofs.Tryz.ntmps26 rfl hw ?_
  change C _ _ _ _ _ _ _ ⟨[(0, _)], []⟩ _
  refine C.regS ?_
  refine L.yl (Y.as rfl) ?_
  refine L.nil ?_
  refine C.seq ?_
  refine C.regS ?_
  refine L.yl (Y.mv rfl) ?_
  first | refine L.yl (Y.eqpS ⟨_, Go.Proofs.Tryz.underlying72⟩ rfl) ?_ | refine L.yl (Y.eqpN ⟨_, Go.Proofs.Tryz.underlying72⟩ rfl) ?_
  refine L.nil ?_
  refine C.condFf rfl ?_
  refine C.skip ?_
  refine Then.n ?_
  refine C.regS ?_
  refine L.yl (Y.mv rfl) ?_
  refine L.yl (Y.nck rfl) ?_
  first | refine L.yl (Y.fa0 fl112_2 rfl) ?_ | refine L.yl (Y.fa fl112_2 rfl) ?_ | refine L.yl (Y.fas fl112_2 rfl (by simp; omega)) ?_
  refine L.yl (Y.ld sc31 rfl rfl) ?_
  refine L.yl (Y.len ⟨_, Go.Proofs.Tryz.underlying31⟩ rfl) ?_
  refine L.yl (Y.as rfl) ?_
  refine L.nil ?_
  refine C.ret ?_
  refine FnPost.r1 Go.Proofs.Tryz.results26 rfl ?_
  exact ⟨[blk h [.int .u32 base, .pointer (some ⟨q, 0, none⟩), .slice ta t.length tc, .slice (some ⟨rg, 0, none⟩) n n] 112], inferInstance, rfl, rfl⟩
theorem he_place (h q : Nat) (base : Int) (ta : Option Addr) (tc rg : Nat) (t : List UInt8) (n : Nat) (ht : t.length ≤ 1099511627776) (hr : n ≤ 65536) (s : Int) (da : Option Addr) (dn dc : Nat) (w : World) (hw : X.Holds w [blk h [.int .u32 base, .pointer (some ⟨q, 0, none⟩), .slice ta t.length tc, .slice (some ⟨rg, 0, none⟩) n n] 112]) : Calls Go.Proofs.Tryz.prog 67 #[.pointer (some ⟨h, 0, none⟩), .int .u32 s, .slice da dn dc] w (Post w [blk h [.int .u32 base, .pointer (some ⟨q, 0, none⟩), .slice ta t.length tc, .slice (some ⟨rg, 0, none⟩) n n] 112] (RW fun r Γ => r = .tuple #[spV (placeR base t.length n s dn).1, .int .i64 (placeR base t.length n s dn).2] ∧ Γ = [blk h [.int .u32 base, .pointer (some ⟨q, 0, none⟩), .slice ta t.length tc, .slice (some ⟨rg, 0, none⟩) n n] 112])) := by
  refine spec_of Go.Proofs.Tryz.func67 rfl Go.Proofs.Tryz.ntmps67 rfl hw ?_
  change C _ _ _ _ _ _ _ ⟨[(0, _), (1, _), (2, _)], []⟩ _
  refine C.regS ?_
  refine L.al (zs := [.int .i64 0, .int .i64 0]) zr35 rfl ?_; intro b6
  refine L.yl (Y.as rfl) ?_
  refine L.nil ?_
  refine C.seq ?_
  refine C.block ?_
  refine C.regS ?_
  refine L.yl (Y.mv rfl) ?_
  refine L.yl (Y.len ⟨_, Go.Proofs.Tryz.underlying31⟩ rfl) ?_
  refine L.yl (Y.eqi rfl rfl) ?_
  refine L.yl (Y.as rfl) ?_
  refine L.nil ?_
  refine C.condP rfl (fun hc1 => ?_) (fun hc1 => ?_)
  ·
    refine C.regS ?_
    refine L.yl (Y.bdL (cs := [_, _]) zr35 bd35 rfl rfl rfl) ?_
    refine L.sta (vs := [_, _]) ag35 rfl rfl rfl rfl rfl ?_
    refine L.yl (Y.as rfl) ?_
    refine L.nil ?_
    refine C.ret ?_
    refine InBlo.r ?_
    refine Then.r ?_
    refine FnPost.rg (xs := [.cell 6 35, .tmp 7]) (congrArg Array.toList Go.Proofs.Tryz.results67) (ra_ag (us := [_, _]) rfl ag35 rfl (ra_tmp rfl ra_nil)) ?_
    rw [placeR_0 (by omega)]
    exact ⟨[blk h [.int .u32 base, .pointer (some ⟨q, 0, none⟩), .slice ta t.length tc, .slice (some ⟨rg, 0, none⟩) n n] 112], inferInstance, rfl, rfl⟩
  ·
    refine C.regS ?_
    refine L.yl (Y.mv rfl) ?_
    refine L.yl (Y.len ⟨_, Go.Proofs.Tryz.underlying31⟩ rfl) ?_
    refine L.yl (Y.gtr rfl rfl) ?_
    refine L.yl (Y.as rfl) ?_
    refine L.nil ?_
    refine C.condP rfl (fun hc2 => ?_) (fun hc2 => ?_)
    ·
      refine C.regS ?_
      refine L.yl (Y.bdL (cs := [_, _]) zr35 bd35 rfl rfl rfl) ?_
      refine L.sta (vs := [_, _]) ag35 rfl rfl rfl rfl rfl ?_
      refine L.yl (Y.as rfl) ?_
      refine L.nil ?_
      refine C.ret ?_
      refine InBlo.r ?_
      refine Then.r ?_
      refine FnPost.rg (xs := [.cell 6 35, .tmp 7]) (congrArg Array.toList Go.Proofs.Tryz.results67) (ra_ag (us := [_, _]) rfl ag35 rfl (ra_tmp rfl ra_nil)) ?_
      rw [placeR_9 (by omega) (by omega)]
      exact ⟨[blk h [.int .u32 base, .pointer (some ⟨q, 0, none⟩), .slice ta t.length tc, .slice (some ⟨rg, 0, none⟩) n n] 112], inferInstance, rfl, rfl⟩
    ·
      refine C.skip ?_
      refine InBlo.n ?_
      refine Then.n ?_
      refine C.byc (unwrapN (t.length : Int) (IntKind.u32.wrap (s - base)) = none) (fun hq => ?_) (fun hq => ?_)
      ·
        have hun := hq
        refine C.drwS (.y 0 (.y 2 (.y 3 (.y 4 (.y 5 (.y 6 (.y 7 (.h 1 (.h 8 (.y 9 (.y 10 (.y 11 (.y 12 (.y 13 (.fin))))))))))))))) mixo (by kernel_rfl) ?_
        refine V.yl rfl (Y.mv rfl) ?_
        refine V.yl rfl (Y.mv rfl) ?_
        refine V.yl rfl (Y.mv rfl) ?_
        refine V.yl rfl (Y.nck rfl) ?_
        first | refine V.yl rfl (Y.fa0 fl112_0 rfl) ?_ | refine V.yl rfl (Y.fa fl112_0 rfl) ?_ | refine V.yl rfl (Y.fas fl112_0 rfl (by simp; omega)) ?_
        refine V.yl rfl (Y.ld sc22 rfl rfl) ?_
        refine V.yl rfl (Y.subW rfl rfl) ?_
        refine V.hv rfl ?_
        refine L.apc ?_
        refine L.callR (Γf := [blk h [.int .u32 base, .pointer (some ⟨q, 0, none⟩), .slice ta t.length tc, .slice (some ⟨rg, 0, none⟩) n n] 112]) go26 rfl (fun w hw hf => he_Next h q base ta tc rg t n w hf) ?_
        rintro _ rfl
        refine L.nil ?_
        refine V.on ?_
        refine V.hv rfl ?_
        refine L.apc ?_
        refine L.callP go108 rfl (fun w hw => seq_Unwrap _ _ w) ?_
        rw [hun, show (decide ((none : Option Int) ≠ none)) = false from rfl, show ((none : Option Int).getD 0) = 0 from rfl]
        refine L.nil ?_
        refine V.on ?_
        refine V.yl rfl (Y.mv rfl) ?_
        refine V.yl rfl (Y.extL rfl rfl) ?_
        refine V.yl rfl (Y.extL rfl rfl) ?_
        refine V.yl rfl (Y.as rfl) ?_
        refine V.yl rfl (Y.as rfl) ?_
        refine V.fin ?_
        refine C.regS ?_
        refine L.yl (Y.mv rfl) ?_
        refine L.yl (Y.mv rfl) ?_
        refine L.yl (Y.mv rfl) ?_
        refine L.yl (Y.len ⟨_, Go.Proofs.Tryz.underlying31⟩ rfl) ?_
        first | refine L.yl (Y.add rfl rfl (by omega)) ?_ | refine L.yl (Y.addW rfl rfl) ?_
        refine L.yl (Y.bdL (cs := [_, _]) zr35 bd35 rfl rfl rfl) ?_
        refine L.al (zs := [.int .i64 0, .int .i64 0]) zr35 rfl ?_; intro b10
        refine L.sta (vs := [_, _]) ag35 rfl rfl rfl rfl rfl ?_
        refine L.nil ?_
        refine C.seq ?_
        refine C.block ?_
        refine C.regS ?_
        refine L.yl (Y.mv rfl) ?_
        first | refine L.yl (Y.notP rfl) ?_ | refine L.yl (Y.not rfl) ?_
        refine L.yl (Y.as rfl) ?_
        refine L.nil ?_
        refine C.condTt rfl ?_
        refine C.regS ?_
        refine L.yl (Y.bdL (cs := [_, _]) zr35 bd35 rfl rfl rfl) ?_
        refine L.sta (vs := [_, _]) ag35 rfl rfl rfl rfl rfl ?_
        refine L.yl (Y.as rfl) ?_
        refine L.nil ?_
        refine C.ret ?_
        refine InBlo.r ?_
        refine Then.r ?_
        refine FnPost.rg (xs := [.cell 6 35, .tmp 7]) (congrArg Array.toList Go.Proofs.Tryz.results67) (ra_ag (us := [_, _]) rfl ag35 rfl (ra_tmp rfl ra_nil)) ?_
        rw [placeR_11 (by omega) (by omega) hun]
        exact ⟨[blk h [.int .u32 base, .pointer (some ⟨q, 0, none⟩), .slice ta t.length tc, .slice (some ⟨rg, 0, none⟩) n n] 112], inferInstance, rfl, rfl⟩
      ·
        obtain ⟨at_, hun⟩ : ∃ at_, unwrapN (t.length : Int) (IntKind.u32.wrap (s - base)) = some at_ := Option.ne_none_iff_exists'.1 hq
        have hab := unwrapN_b hun
        refine C.drwS (.y 0 (.y 2 (.y 3 (.y 4 (.y 5 (.y 6 (.y 7 (.h 1 (.h 8 (.y 9 (.y 10 (.y 11 (.y 12 (.y 13 (.fin))))))))))))))) mixo (by kernel_rfl) ?_
        refine V.yl rfl (Y.mv rfl) ?_
        refine V.yl rfl (Y.mv rfl) ?_
        refine V.yl rfl (Y.mv rfl) ?_
        refine V.yl rfl (Y.nck rfl) ?_
        first | refine V.yl rfl (Y.fa0 fl112_0 rfl) ?_ | refine V.yl rfl (Y.fa fl112_0 rfl) ?_ | refine V.yl rfl (Y.fas fl112_0 rfl (by simp; omega)) ?_
        refine V.yl rfl (Y.ld sc22 rfl rfl) ?_
        refine V.yl rfl (Y.subW rfl rfl) ?_
        refine V.hv rfl ?_
        refine L.apc ?_
        refine L.callR (Γf := [blk h [.int .u32 base, .pointer (some ⟨q, 0, none⟩), .slice ta t.length tc, .slice (some ⟨rg, 0, none⟩) n n] 112]) go26 rfl (fun w hw hf => he_Next h q base ta tc rg t n w hf) ?_
        rintro _ rfl
        refine L.nil ?_
        refine V.on ?_
        refine V.hv rfl ?_
        refine L.apc ?_
        refine L.callP go108 rfl (fun w hw => seq_Unwrap _ _ w) ?_
        rw [hun, show (decide ((some at_ : Option Int) ≠ none)) = true from rfl, show ((some at_ : Option Int).getD 0) = at_ from rfl]
        refine L.nil ?_
        refine V.on ?_
        refine V.yl rfl (Y.mv rfl) ?_
        refine V.yl rfl (Y.extL rfl rfl) ?_
        refine V.yl rfl (Y.extL rfl rfl) ?_
        refine V.yl rfl (Y.as rfl) ?_
        refine V.yl rfl (Y.as rfl) ?_
        refine V.fin ?_
        refine C.regS ?_
        refine L.yl (Y.mv rfl) ?_
        refine L.yl (Y.mv rfl) ?_
        refine L.yl (Y.mv rfl) ?_
        refine L.yl (Y.len ⟨_, Go.Proofs.Tryz.underlying31⟩ rfl) ?_
        first | refine L.yl (Y.add rfl rfl (by omega)) ?_ | refine L.yl (Y.addW rfl rfl) ?_
        refine L.yl (Y.bdL (cs := [_, _]) zr35 bd35 rfl rfl rfl) ?_
        refine L.al (zs := [.int .i64 0, .int .i64 0]) zr35 rfl ?_; intro b10
        refine L.sta (vs := [_, _]) ag35 rfl rfl rfl rfl rfl ?_
        refine L.nil ?_
        refine C.seq ?_
        refine C.block ?_
        refine C.regS ?_
        refine L.yl (Y.mv rfl) ?_
        first | refine L.yl (Y.notP rfl) ?_ | refine L.yl (Y.not rfl) ?_
        refine L.yl (Y.as rfl) ?_
        refine L.nil ?_
        refine C.condFf rfl ?_
        refine C.drwS (.y 0 (.y 1 (.y 2 (.y 4 (.y 5 (.y 6 (.y 7 (.y 8 (.h 3 (.y 9 (.y 10 (.y 11 (.fin))))))))))))) mixo (by kernel_rfl) ?_
        first | refine V.yl rfl (Y.fa0 fl35_1 rfl) ?_ | refine V.yl rfl (Y.fa fl35_1 rfl) ?_ | refine V.yl rfl (Y.fas fl35_1 rfl (by simp; omega)) ?_
        refine V.yl rfl (Y.ld sc3 rfl rfl) ?_
        refine V.yl rfl (Y.mv rfl) ?_
        refine V.yl rfl (Y.mv rfl) ?_
        refine V.yl rfl (Y.nck rfl) ?_
        first | refine V.yl rfl (Y.fa0 fl112_3 rfl) ?_ | refine V.yl rfl (Y.fa fl112_3 rfl) ?_ | refine V.yl rfl (Y.fas fl112_3 rfl (by simp; omega)) ?_
        refine V.yl rfl (Y.ld sc31 rfl rfl) ?_
        refine V.yl rfl (Y.len ⟨_, Go.Proofs.Tryz.underlying31⟩ rfl) ?_
        refine V.hv rfl ?_
        refine L.apc ?_
        refine L.callR (Γf := [blk h [.int .u32 base, .pointer (some ⟨q, 0, none⟩), .slice ta t.length tc, .slice (some ⟨rg, 0, none⟩) n n] 112]) go26 rfl (fun w hw hf => he_Next h q base ta tc rg t n w hf) ?_
        rintro _ rfl
        refine L.nil ?_
        refine V.on ?_
        first | refine V.yl rfl (Y.add rfl rfl (by omega)) ?_ | refine V.yl rfl (Y.addW rfl rfl) ?_
        refine V.yl rfl (Y.gtr rfl rfl) ?_
        refine V.yl rfl (Y.as rfl) ?_
        refine V.fin ?_
        refine C.condP rfl (fun hc5 => ?_) (fun hc5 => ?_)
        ·
          refine C.regS ?_
          refine L.yl (Y.bdL (cs := [_, _]) zr35 bd35 rfl rfl rfl) ?_
          refine L.sta (vs := [_, _]) ag35 rfl rfl rfl rfl rfl ?_
          refine L.yl (Y.as rfl) ?_
          refine L.nil ?_
          refine C.ret ?_
          refine InBlo.r ?_
          refine Then.r ?_
          refine FnPost.rg (xs := [.cell 6 35, .tmp 7]) (congrArg Array.toList Go.Proofs.Tryz.results67) (ra_ag (us := [_, _]) rfl ag35 rfl (ra_tmp rfl ra_nil)) ?_
          rw [placeR_12 (by omega) (by omega) hun (by omega)]
          exact ⟨[blk h [.int .u32 base, .pointer (some ⟨q, 0, none⟩), .slice ta t.length tc, .slice (some ⟨rg, 0, none⟩) n n] 112], inferInstance, rfl, rfl⟩
        ·
          refine C.skip ?_
          refine InBlo.n ?_
          refine Then.n ?_
          refine C.regS ?_
          refine L.yl (Y.lda (vs := [_, _]) ag35 rfl rfl) ?_
          refine L.sta (vs := [_, _]) ag35 rfl rfl rfl rfl rfl ?_
          refine L.yl (Y.as rfl) ?_
          refine L.nil ?_
          refine C.ret ?_
          refine FnPost.rg (xs := [.cell 6 35, .tmp 7]) (congrArg Array.toList Go.Proofs.Tryz.results67) (ra_ag (us := [_, _]) rfl ag35 rfl (ra_tmp rfl ra_nil)) ?_
          rw [placeR_ok (by omega) (by omega) hun (by omega)]
          exact ⟨[blk h [.int .u32 base, .pointer (some ⟨q, 0, none⟩), .slice ta t.length tc, .slice (some ⟨rg, 0, none⟩) n n] 112], inferInstance, rfl, rfl⟩
end Go.Proofs.YtcbhcdcobgdddaaGreat
set_option maxHeartbeats 1000000
namespace Go.Proofs.YtcbhcdcobgdddaaGreat
open Go Go.X Go.Rep Go.Shelf
theorem fl112_1 : Fld Go.Proofs.Tryz.prog 112 1 1 := ⟨_, _, Go.Proofs.Tryz.underlying112, rfl, rfl, _, (by kernel_rfl : (Go.Proofs.Tryz.prog.info? 109).map (·.size) = some 1), by decide⟩
theorem go109 : Goes Go.Proofs.Tryz.prog 109 := enters_of Go.Proofs.Tryz.func109 (by kernel_rfl) rfl
theorem takeH_bad {base : Int} {l : List Sp} {t ring : List UInt8} {q : Int} {d : List UInt8} {p : Sp} {e : Int} (h : placeR base t.length ring.length q d.length = (p, e)) (he : e ≠ 0) : takeH base l t ring q d = ⟨l, t, ring, (0, 0), 0, (0, 0), e⟩ := by unfold takeH; rw [h]; exact if_pos he
theorem takeH_add {base : Int} {l : List Sp} {t ring : List UInt8} {q : Int} {d : List UInt8} {p : Sp} (h : placeR base t.length ring.length q d.length = (p, 0)) (he : (addR l p).2.2 ≠ 0) : takeH base l t ring q d = ⟨(addR l p).1, t, ringL ring d p.1 (gapsL l p), (0, 0), 0, (0, 0), (addR l p).2.2⟩ := by unfold takeH; rw [h]; dsimp only; rw [if_neg (fun h => h rfl), if_pos he]
theorem takeH_ok {base : Int} {l : List Sp} {t ring : List UInt8} {q : Int} {d : List UInt8} {p : Sp} (h : placeR base t.length ring.length q d.length = (p, 0)) (he : (addR l p).2.2 = 0) : takeH base l t ring q d = ⟨(addR l p).1, fillT (ringL ring d p.1 (gapsL l p)) t ((gapR (addR l p).1 0).toNat - t.length), ringL ring d p.1 (gapsL l p), p, (addR l p).2.1, twiceR l p, 0⟩ := by unfold takeH; rw [h]; dsimp only; rw [if_neg (fun h => h rfl), if_neg (fun h => h he)]
theorem addR_len (l : List Sp) (s : Sp) (hl : l.length ≤ 65536) : (addR l s).1.length ≤ 131073 := by
  unfold addR repL
  split
  · show l.length ≤ _; omega
  · split
    · show l.length ≤ _; omega
    · split
      · show l.length ≤ _; omega
      · show (List.take _ l ++ _ :: List.drop _ l).length ≤ _
        rw [List.length_append, List.length_take, List.length_cons, List.length_drop]; omega
/-- what Take needs of its lists -/
def TakeOk (base : Int) (l : List Sp) (t : List UInt8) (n : Nat) (q : Int) (dn : Nat) : Prop :=
  ∀ s, placeR base t.length n q dn = (s, 0) → (∀ g ∈ gapsL l s, s.1 ≤ g.1 ∧ g.1 ≤ g.2 ∧ g.2 ≤ s.2) ∧ loI l s ≤ hiI l s ∧ RepOk l (loI l s) (hiI l s) (allI l s) ∧ gapR (addR l s).1 0 ≤ 1099511627776
theorem he_twice (h q : Nat) (base : Int) (ta : Option Addr) (tc rg : Nat) (t : List UInt8) (n : Nat) (a : Option Addr) (c : Nat) (l : List Sp) (hl : l.length ≤ 65536) (x y : Int) (w : World) (hw : X.Holds w [blk h [.int .u32 base, .pointer (some ⟨q, 0, none⟩), .slice ta t.length tc, .slice (some ⟨rg, 0, none⟩) n n] 112, blk q [.slice a l.length c] 147, own 35 2 a l.length c (spL l)]) : Calls Go.Proofs.Tryz.prog 68 #[.pointer (some ⟨h, 0, none⟩), .agg #[.int .i64 x, .int .i64 y]] w (Post w [blk h [.int .u32 base, .pointer (some ⟨q, 0, none⟩), .slice ta t.length tc, .slice (some ⟨rg, 0, none⟩) n n] 112, blk q [.slice a l.length c] 147, own 35 2 a l.length c (spL l)] (RW fun r Γ => r = spV (twiceR l (x, y)) ∧ Γ = [blk h [.int .u32 base, .pointer (some ⟨q, 0, none⟩), .slice ta t.length tc, .slice (some ⟨rg, 0, none⟩) n n] 112, blk q [.slice a l.length c] 147, own 35 2 a l.length c (spL l)])) := by
  refine spec_of Go.Proofs.Tryz.func68 rfl Go.Proofs.Tryz.ntmps68 rfl hw ?_
  change C _ _ _ _ _ _ _ ⟨[(0, _), (1, _)], []⟩ _
  refine C.regS ?_
  refine L.bxa rfl ?_; intro b3
  refine L.al (zs := [.int .i64 0, .int .i64 0]) zr35 rfl ?_; intro b4
  refine L.nil ?_
  refine C.drwS (.y 0 (.y 1 (.y 2 (.y 3 (.y 4 (.y 5 (.b2 6 (.y 7 (.y 8 (.y 9 (.h 10 (.h 11 (.y 12 (.fin))))))) 10 (.h 6 (.y 7 (.y 8 (.y 9 (.h 11 (.y 12 (.fin)))))))))))))) mixo (by kernel_rfl) ?_
  refine V.yl rfl (Y.mv rfl) ?_
  refine V.yl rfl (Y.nck rfl) ?_
  first | refine V.yl rfl (Y.fa0 fl112_1 rfl) ?_ | refine V.yl rfl (Y.fa fl112_1 rfl) ?_ | refine V.yl rfl (Y.fas fl112_1 rfl (by simp; omega)) ?_
  refine V.yl rfl (Y.ld sc109 rfl rfl) ?_
  first | refine V.yl rfl (Y.fa0 fl35_0 rfl) ?_ | refine V.yl rfl (Y.fa fl35_0 rfl) ?_ | refine V.yl rfl (Y.fas fl35_0 rfl (by simp; omega)) ?_
  refine V.yl rfl (Y.ld sc3 rfl rfl) ?_
  refine ⟨⟨_, rfl, ?_⟩, ⟨_, rfl, ?_⟩⟩
  ·
    refine L.apc ?_
    refine L.callR (Γf := [blk q [.slice a l.length c] 147, own 35 2 a l.length c (spL l)]) go109 rfl (fun w hw hf => ru_Next q a c l (by omega) x w hf) ?_
    rintro _ ⟨b, rfl⟩
    refine L.nil ?_
    refine V.on ?_
    refine V.yl rfl (Y.mv rfl) ?_
    refine V.yl rfl (Y.extL rfl rfl) ?_
    refine V.yl rfl (Y.extL rfl rfl) ?_
    refine V.hv rfl ?_
    refine L.apc ?_
    refine L.al (zs := [.int .i64 0, .int .i64 0]) zr35 rfl ?_; intro b5
    refine L.nil ?_
    refine V.on ?_
    refine V.hv rfl ?_
    refine L.apc ?_
    refine L.sta (vs := [_, _]) ag35 rfl rfl rfl rfl rfl ?_
    refine L.nil ?_
    refine V.on ?_
    refine V.yl rfl (Y.as rfl) ?_
    refine V.fin ?_
    refine C.regS ?_
    refine L.yl (Y.lda (vs := [_, _]) ag35 rfl rfl) ?_
    refine L.yl (Y.lda (vs := [_, _]) ag35 rfl rfl) ?_
    refine L.callP go78 rfl (fun w hw => span_Meet _ _ _ _ w) ?_
    refine L.sta (vs := [_, _]) ag35 rfl rfl rfl rfl rfl ?_
    refine L.nil ?_
    refine C.ret ?_
    refine FnPost.rg (xs := [.cell 4 35]) (congrArg Array.toList Go.Proofs.Tryz.results68) (ra_ag (us := [_, _]) rfl ag35 rfl ra_nil) ?_
    exact ⟨[blk h [.int .u32 base, .pointer (some ⟨q, 0, none⟩), .slice ta t.length tc, .slice (some ⟨rg, 0, none⟩) n n] 112, blk q [.slice a l.length c] 147, own 35 2 a l.length c (spL l)], inferInstance, rfl, rfl⟩
  ·
    refine L.apc ?_
    refine L.al (zs := [.int .i64 0, .int .i64 0]) zr35 rfl ?_; intro b5
    refine L.nil ?_
    refine V.on ?_
    refine V.hv rfl ?_
    refine L.apc ?_
    refine L.callR (Γf := [blk q [.slice a l.length c] 147, own 35 2 a l.length c (spL l)]) go109 rfl (fun w hw hf => ru_Next q a c l (by omega) x w hf) ?_
    rintro _ ⟨b, rfl⟩
    refine L.nil ?_
    refine V.on ?_
    refine V.yl rfl (Y.mv rfl) ?_
    refine V.yl rfl (Y.extL rfl rfl) ?_
    refine V.yl rfl (Y.extL rfl rfl) ?_
    refine V.hv rfl ?_
    refine L.apc ?_
    refine L.sta (vs := [_, _]) ag35 rfl rfl rfl rfl rfl ?_
    refine L.nil ?_
    refine V.on ?_
    refine V.yl rfl (Y.as rfl) ?_
    refine V.fin ?_
    refine C.regS ?_
    refine L.yl (Y.lda (vs := [_, _]) ag35 rfl rfl) ?_
    refine L.yl (Y.lda (vs := [_, _]) ag35 rfl rfl) ?_
    refine L.callP go78 rfl (fun w hw => span_Meet _ _ _ _ w) ?_
    refine L.sta (vs := [_, _]) ag35 rfl rfl rfl rfl rfl ?_
    refine L.nil ?_
    refine C.ret ?_
    refine FnPost.rg (xs := [.cell 4 35]) (congrArg Array.toList Go.Proofs.Tryz.results68) (ra_ag (us := [_, _]) rfl ag35 rfl ra_nil) ?_
    exact ⟨[blk h [.int .u32 base, .pointer (some ⟨q, 0, none⟩), .slice ta t.length tc, .slice (some ⟨rg, 0, none⟩) n n] 112, blk q [.slice a l.length c] 147, own 35 2 a l.length c (spL l)], inferInstance, rfl, rfl⟩
end Go.Proofs.YtcbhcdcobgdddaaGreat
set_option maxHeartbeats 1000000
namespace Go.Proofs.YtcbhcdcobgdddaaGreat
open Go Go.X Go.Rep Go.Shelf
theorem ag78 : Ag Go.Proofs.Tryz.prog 78 6 := ⟨_, Go.Proofs.Tryz.underlying78, rfl, by kernel_rfl⟩
theorem bd78 : ∃ fs, Go.Proofs.Tryz.prog.underlying 78 = some (.struct fs) ∧ fs.toList.mapM (fun f => (Go.Proofs.Tryz.prog.info? f.type).map fun i => (f.offset, i.size)) = some [(0, 2), (2, 1), (3, 1), (4, 2)] := ⟨_, Go.Proofs.Tryz.underlying78, by kernel_rfl⟩
theorem go110 : Goes Go.Proofs.Tryz.prog 110 := enters_of Go.Proofs.Tryz.func110 (by kernel_rfl) rfl
theorem go67 : Goes Go.Proofs.Tryz.prog 67 := enters_of Go.Proofs.Tryz.func67 (by kernel_rfl) rfl
theorem go68 : Goes Go.Proofs.Tryz.prog 68 := enters_of Go.Proofs.Tryz.func68 (by kernel_rfl) rfl
theorem go69 : Goes Go.Proofs.Tryz.prog 69 := enters_of Go.Proofs.Tryz.func69 (by kernel_rfl) rfl
theorem go71 : Goes Go.Proofs.Tryz.prog 71 := enters_of Go.Proofs.Tryz.func71 (by kernel_rfl) rfl
theorem go72 : Goes Go.Proofs.Tryz.prog 72 := enters_of Go.Proofs.Tryz.func72 (by kernel_rfl) rfl
theorem sc72 : Sc Go.Proofs.Tryz.prog 72 := ⟨_, Go.Proofs.Tryz.underlying72, rfl, by kernel_rfl⟩
theorem zr78 : Zr Go.Proofs.Tryz.prog 78 (.agg #[.int .i64 0, .int .i64 0, .int .i64 0, .bool false, .int .i64 0, .int .i64 0]) := by unfold Zr; kernel_rfl
theorem he_Take (h q : Nat) (base : Int) (ta : Option Addr) (tc rg : Nat) (t ring d : List UInt8) (n : Nat) (hn : ring.length = n) (a : Option Addr) (c : Nat) (l : List Sp) (hl : l.length ≤ 65536) (ht : t.length ≤ 1099511627776) (hr0 : 1 ≤ n) (hr : n ≤ 65536) (s0 : Int) (da : Option Addr) (dc : Nat) (hok : TakeOk base l t n s0 d.length) (w : World) (hw : X.Holds w [blk h [.int .u32 base, .pointer (some ⟨q, 0, none⟩), .slice ta t.length tc, .slice (some ⟨rg, 0, none⟩) n n] 112, blk q [.slice a l.length c] 147, own 35 2 a l.length c (spL l), own 5 1 ta t.length tc (byteL t), own 5 1 (some ⟨rg, 0, none⟩) n n (byteL ring)]) (h2 : ∀ w2, Keep (fps [blk h [.int .u32 base, .pointer (some ⟨q, 0, none⟩), .slice ta t.length tc, .slice (some ⟨rg, 0, none⟩) n n] 112, blk q [.slice a l.length c] 147, own 35 2 a l.length c (spL l), own 5 1 ta t.length tc (byteL t), own 5 1 (some ⟨rg, 0, none⟩) n n (byteL ring)]) w w2 → Rs w2 da (byteL d)) : Calls Go.Proofs.Tryz.prog 28 #[.pointer (some ⟨h, 0, none⟩), .int .u32 s0, .slice da d.length dc] w (Post w [blk h [.int .u32 base, .pointer (some ⟨q, 0, none⟩), .slice ta t.length tc, .slice (some ⟨rg, 0, none⟩) n n] 112, blk q [.slice a l.length c] 147, own 35 2 a l.length c (spL l), own 5 1 ta t.length tc (byteL t), own 5 1 (some ⟨rg, 0, none⟩) n n (byteL ring)] (RW fun r Γ => r = .tuple #[.agg #[.int .i64 (takeH base l t ring s0 d).span.1, .int .i64 (takeH base l t ring s0 d).span.2, .int .i64 (takeH base l t ring s0 d).fresh, .bool (decide (0 < lenS (takeH base l t ring s0 d).dup)), .int .i64 (takeH base l t ring s0 d).dup.1, .int .i64 (takeH base l t ring s0 d).dup.2], .int .i64 (takeH base l t ring s0 d).bad] ∧ ∃ ta tc a c, Γ = [blk h [.int .u32 base, .pointer (some ⟨q, 0, none⟩), .slice ta ((takeH base l t ring s0 d).t).length tc, .slice (some ⟨rg, 0, none⟩) n n] 112, blk q [.slice a ((takeH base l t ring s0 d).l).length c] 147, own 35 2 a ((takeH base l t ring s0 d).l).length c (spL ((takeH base l t ring s0 d).l)), own 5 1 ta ((takeH base l t ring s0 d).t).length tc (byteL ((takeH base l t ring s0 d).t)), own 5 1 (some ⟨rg, 0, none⟩) n n (byteL ((takeH base l t ring s0 d).ring))])) := by
  haveI hrd : ∀ Γ, Rd w (fps [blk h [.int .u32 base, .pointer (some ⟨q, 0, none⟩), .slice ta t.length tc, .slice (some ⟨rg, 0, none⟩) n n] 112, blk q [.slice a l.length c] 147, own 35 2 a l.length c (spL l), own 5 1 ta t.length tc (byteL t), own 5 1 (some ⟨rg, 0, none⟩) n n (byteL ring)]) Γ da (byteL d) := fun Γ => ⟨fun w2 hw2 => h2 w2 hw2.keep⟩
  obtain ⟨⟨⟨s1, s2⟩, pe⟩, hp⟩ : ∃ x, placeR base t.length n s0 d.length = x := ⟨_, rfl⟩
  refine spec_of Go.Proofs.Tryz.func28 rfl Go.Proofs.Tryz.ntmps28 rfl hw ?_
  change C _ _ _ _ _ _ _ ⟨[(0, _), (1, _), (2, _)], []⟩ _
  refine C.regS ?_
  refine L.bx rfl rfl ?_; intro b3
  refine L.bx rfl rfl ?_; intro b5
  refine L.al (zs := [.int .i64 0, .int .i64 0, .int .i64 0, .bool false, .int .i64 0, .int .i64 0]) zr78 rfl ?_; intro b6
  refine L.yl (Y.as rfl) ?_
  refine L.nil ?_
  refine C.seq ?_
  refine C.regS ?_
  refine L.yl (Y.ld sc72 rfl rfl) ?_
  first | refine L.yl (Y.eqpS ⟨_, Go.Proofs.Tryz.underlying72⟩ rfl) ?_ | refine L.yl (Y.eqpN ⟨_, Go.Proofs.Tryz.underlying72⟩ rfl) ?_
  refine L.nil ?_
  refine C.condFf rfl ?_
  refine C.skip ?_
  refine Then.n ?_
  refine C.regS ?_
  refine L.yl (Y.ld sc72 rfl rfl) ?_
  refine L.yl (Y.mv rfl) ?_
  refine L.yl (Y.ld sc31 rfl rfl) ?_
  refine L.callR (Γf := [blk h [.int .u32 base, .pointer (some ⟨q, 0, none⟩), .slice ta t.length tc, .slice (some ⟨rg, 0, none⟩) n n] 112]) go67 rfl (fun w hw hf => he_place h q base ta tc rg t n ht hr s0 da d.length dc w hf) ?_
  rintro _ rfl
  rw [hp]
  refine L.yl (Y.mv rfl) ?_
  refine L.yl (Y.extL rfl rfl) ?_
  refine L.yl (Y.extL rfl rfl) ?_
  refine L.al (zs := [.int .i64 0, .int .i64 0]) zr35 rfl ?_; intro b8
  refine L.sta (vs := [_, _]) ag35 rfl rfl rfl rfl rfl ?_
  refine L.yl (Y.as rfl) ?_
  refine L.nil ?_
  refine C.seq ?_
  refine C.regS ?_
  refine L.yl (Y.mv rfl) ?_
  refine L.yl (Y.nei rfl rfl) ?_
  refine L.nil ?_
  refine C.condP rfl (fun hc2 => ?_) (fun hc2 => ?_)
  ·
    refine C.regS ?_
    refine L.yl (Y.bdL (cs := [_, _, _, _, _, _]) zr78 bd78 rfl rfl rfl) ?_
    refine L.yl (Y.mv rfl) ?_
    refine L.sta (vs := [_, _, _, _, _, _]) ag78 rfl rfl rfl rfl rfl ?_
    refine L.yl (Y.as rfl) ?_
    refine L.nil ?_
    refine C.ret ?_
    refine Then.r ?_
    refine FnPost.rg (xs := [.cell 6 78, .tmp 7]) (congrArg Array.toList Go.Proofs.Tryz.results28) (ra_ag (us := [_, _, _, _, _, _]) rfl ag78 rfl (ra_tmp rfl ra_nil)) ?_
    rw [takeH_bad (by rw [hn]; exact hp) hc2]
    exact ⟨[blk h [.int .u32 base, .pointer (some ⟨q, 0, none⟩), .slice ta t.length tc, .slice (some ⟨rg, 0, none⟩) n n] 112, blk q [.slice a l.length c] 147, own 35 2 a l.length c (spL l), own 5 1 ta t.length tc (byteL t), own 5 1 (some ⟨rg, 0, none⟩) n n (byteL ring)], inferInstance, rfl, ta, tc, a, c, rfl⟩
  ·
    obtain rfl : pe = 0 := Decidable.not_not.1 hc2
    obtain ⟨a0, ha0, hs1, hs2, hd0, hd1⟩ := placeR_b (base := base) (tn := t.length) (rn := n) (q := s0) (dn := d.length) (by rw [hp])
    obtain ⟨rfl, rfl⟩ : s1 = a0 ∧ s2 = a0 + d.length := by
      rw [hp] at ha0; injection ha0 with ha0 _; injection ha0 with h1 h2; exact ⟨h1, h2⟩
    obtain ⟨hgap, hlh, hrep, hnext⟩ := hok _ hp
    refine C.skip ?_
    refine Then.n ?_
    refine C.regS ?_
    refine L.yl (Y.ld sc72 rfl rfl) ?_
    refine L.yl (Y.lda (vs := [_, _]) ag35 rfl rfl) ?_
    refine L.callR (Γf := [blk h [.int .u32 base, .pointer (some ⟨q, 0, none⟩), .slice ta t.length tc, .slice (some ⟨rg, 0, none⟩) n n] 112, blk q [.slice a l.length c] 147, own 35 2 a l.length c (spL l)]) go68 rfl (fun w hw hf => he_twice h q base ta tc rg t n a c l hl s1 _ w hf) ?_
    rintro _ rfl
    refine L.al (zs := [.int .i64 0, .int .i64 0]) zr35 rfl ?_; intro b10
    refine L.sta (vs := [_, _]) ag35 rfl rfl rfl rfl rfl ?_
    refine L.nil ?_
    refine C.seq ?_
    refine C.drwS (.y 0 (.y 1 (.y 2 (.y 3 (.y 4 (.h 5 (.fin))))))) mixo (by kernel_rfl) ?_
    refine V.yl rfl (Y.ld sc72 rfl rfl) ?_
    refine V.yl rfl (Y.nck rfl) ?_
    first | refine V.yl rfl (Y.fa0 fl112_1 rfl) ?_ | refine V.yl rfl (Y.fa fl112_1 rfl) ?_ | refine V.yl rfl (Y.fas fl112_1 rfl (by simp; omega)) ?_
    refine V.yl rfl (Y.ld sc109 rfl rfl) ?_
    refine V.yl rfl (Y.lda (vs := [_, _]) ag35 rfl rfl) ?_
    refine V.hv rfl ?_
    refine L.apc ?_
    refine L.callFW (Γf := []) go69 rfl (fun w hw hf => ru_Gaps q (s1, s1 + d.length) w) ?_
    rintro _ _ ⟨px, pz, rfl, rfl⟩
    refine L.apc ?_
    refine L.nil ?_
    refine V.on ?_
    refine V.fin ?_
    refine C.block ?_
    refine C.rfS (fun x : Sp => spV x) (fun _ : Unit => Code.ret) (fun R : List UInt8 => [blk b3 [.pointer (some ⟨h, 0, none⟩)] 72, blk b5 [.slice da d.length dc] 31, blk b6 [.int .i64 0, .int .i64 0, .int .i64 0, .bool false, .int .i64 0, .int .i64 0] 78, blk b8 [.int .i64 s1, .int .i64 (s1 + d.length)] 35, blk b10 (spCs (twiceR l (s1, (s1 + d.length)))) 35, blk h [.int .u32 base, .pointer (some ⟨q, 0, none⟩), .slice ta t.length tc, .slice (some ⟨rg, 0, none⟩) n n] 112, own 5 1 ta t.length tc (byteL t), own 5 1 (some ⟨rg, 0, none⟩) n n (byteL R)]) (fun pre R => R = ringL ring d s1 pre) (fun _ => []) (fun _ _ => False) ring rfl go110 (gaps_iter _ _ px pz (s1, s1 + d.length) q a c l (by omega)) (by show Wk _ [_, _, _, _, blk b3 [.pointer (some ⟨h, 0, none⟩)] 72, blk b5 [.slice da d.length dc] 31, blk b6 [.int .i64 0, .int .i64 0, .int .i64 0, .bool false, .int .i64 0, .int .i64 0] 78, blk b8 [.int .i64 s1, .int .i64 (s1 + d.length)] 35, blk b10 (spCs (twiceR l (s1, (s1 + d.length)))) 35, blk h [.int .u32 base, .pointer (some ⟨q, 0, none⟩), .slice ta t.length tc, .slice (some ⟨rg, 0, none⟩) n n] 112, own 5 1 ta t.length tc (byteL t), own 5 1 (some ⟨rg, 0, none⟩) n n (byteL ring)]; exact inferInstance) rfl ?_ ?_ ?_
    · rintro w' l1 r pre x R hs hr1 rfl hp1
      try dsimp only
      haveI hrd2 := fun Δ => hs.rd_via hrd Δ
      obtain ⟨hx1, hx2, hx3⟩ := hgap x (hp1.subset (by simp))
      dsimp only at hx1 hx3
      refine C.reg ?_
      refine L.al (zs := [.int .i64 0, .int .i64 0]) zr35 rfl ?_; intro b11
      refine L.sta (vs := [_, _]) ag35 rfl rfl rfl rfl rfl ?_
      refine L.nil ?_
      refine ⟨rfl, _, Wk.pk, ?_⟩
      refine C.block ?_
      refine C.regS ?_
      refine L.yl (Y.lda (vs := [_, _]) ag35 rfl rfl) ?_
      refine L.callP go70 rfl (fun w hw => span_Len _ _ w) ?_
      rw [show lenS (x.1, x.2) = x.2 - x.1 from lenS_of (by omega) (by omega) (by omega)]
      refine L.yl (Y.mv rfl) ?_
      refine L.nil ?_
      refine C.block ?_
      refine C.loop (σ := Nat) (fun k => [(3, .pointer (some ⟨b3, 0, none⟩)), (5, .pointer (some ⟨b5, 0, none⟩)), (8, .pointer (some ⟨b8, 0, none⟩)), (11, .pointer (some ⟨b11, 0, none⟩)), (41, .int .i64 (x.2 - x.1)), (42, .int .i64 k)]) (fun k => [blk b11 [.int .i64 x.1, .int .i64 x.2] 35, blk b3 [.pointer (some ⟨h, 0, none⟩)] 72, blk b5 [.slice da d.length dc] 31, blk b6 [.int .i64 0, .int .i64 0, .int .i64 0, .bool false, .int .i64 0, .int .i64 0] 78, blk b8 [.int .i64 s1, .int .i64 (s1 + d.length)] 35, blk b10 (spCs (twiceR l (s1, (s1 + d.length)))) 35, blk h [.int .u32 base, .pointer (some ⟨q, 0, none⟩), .slice ta t.length tc, .slice (some ⟨rg, 0, none⟩) n n] 112, own 5 1 ta t.length tc (byteL t), own 5 1 (some ⟨rg, 0, none⟩) n n (byteL ((putR (ringL ring d s1 pre) d s1 x.1 k))), ob l1 (.loop { r with state := .busy })]) (fun k => k ≤ (x.2 - x.1).toNat) (fun k => (x.2 - x.1).toNat - k) 0 ?_ ?_ ?_ ?_
      · repeat (first | exact trivial | refine ⟨rfl, ?_⟩)
      · show Wk _ [blk b11 [.int .i64 x.1, .int .i64 x.2] 35, blk b3 [.pointer (some ⟨h, 0, none⟩)] 72, blk b5 [.slice da d.length dc] 31, blk b6 [.int .i64 0, .int .i64 0, .int .i64 0, .bool false, .int .i64 0, .int .i64 0] 78, blk b8 [.int .i64 s1, .int .i64 (s1 + d.length)] 35, blk b10 (spCs (twiceR l (s1, (s1 + d.length)))) 35, blk h [.int .u32 base, .pointer (some ⟨q, 0, none⟩), .slice ta t.length tc, .slice (some ⟨rg, 0, none⟩) n n] 112, own 5 1 ta t.length tc (byteL t), own 5 1 (some ⟨rg, 0, none⟩) n n (byteL ((ringL ring d s1 pre))), ob l1 (.loop { r with state := .busy })]; exact inferInstance
      · exact Nat.zero_le _
      · rintro k hI0
        try dsimp only
        refine C.regS ?_
        refine L.yl (Y.lss rfl rfl) ?_
        refine L.nil ?_
        refine C.seq ?_
        refine C.condP rfl (fun hc3 => ?_) (fun hc3 => ?_)
        ·
          obtain ⟨m, hm⟩ : ∃ m : Nat, x.1 + (k : Int) = m := ⟨(x.1 + k).toNat, by omega⟩
          obtain ⟨u0, hu0⟩ : ∃ u, d[((m : Int) - s1).toNat]? = some u := ⟨_, List.getElem?_eq_getElem (by omega)⟩
          have hmod := Nat.mod_lt m (show n > 0 by omega)
          refine C.skip ?_
          refine Then.n ?_
          refine C.seq ?_
          refine C.block ?_
          refine C.regS ?_
          refine L.yl (Y.mv rfl) ?_
          refine L.yl (Y.as rfl) ?_
          refine L.nil ?_
          refine C.regS ?_
          first | refine L.yl (Y.fa0 fl35_0 rfl) ?_ | refine L.yl (Y.fa fl35_0 rfl) ?_ | refine L.yl (Y.fas fl35_0 rfl (by simp; omega)) ?_
          refine L.yl (Y.ld sc3 rfl rfl) ?_
          refine L.yl (Y.mv rfl) ?_
          first | refine L.yl (Y.add rfl rfl (by omega)) ?_ | refine L.yl (Y.addW rfl rfl) ?_
          rw [hm]
          refine L.yl (Y.as rfl) ?_
          refine L.nil ?_
          refine C.drwF (Δ := [own 5 1 (some ⟨rg, 0, none⟩) n n (byteL ((putR (ringL ring d s1 pre) d s1 x.1 k)))]) (.y 0 (.y 1 (.y 2 (.y 3 (.y 4 (.y 5 (.y 6 (.y 7 (.y 8 (.y 9 (.y 10 (.y 11 (.y 12 (.y 13 (.y 14 (.y 15 (.y 16 (.y 17 (.y 18 (.last 19)))))))))))))))))))) mixo (by kernel_rfl) ?_
          refine V.yl rfl (Y.ld sc72 rfl rfl) ?_
          refine V.yl rfl (Y.nck rfl) ?_
          first | refine V.yl rfl (Y.fa0 fl112_3 rfl) ?_ | refine V.yl rfl (Y.fa fl112_3 rfl) ?_ | refine V.yl rfl (Y.fas fl112_3 rfl (by simp; omega)) ?_
          refine V.yl rfl (Y.ld sc31 rfl rfl) ?_
          refine V.yl rfl (Y.mv rfl) ?_
          refine V.yl rfl (Y.ld sc72 rfl rfl) ?_
          refine V.yl rfl (Y.nck rfl) ?_
          first | refine V.yl rfl (Y.fa0 fl112_3 rfl) ?_ | refine V.yl rfl (Y.fa fl112_3 rfl) ?_ | refine V.yl rfl (Y.fas fl112_3 rfl (by simp; omega)) ?_
          refine V.yl rfl (Y.ld sc31 rfl rfl) ?_
          refine V.yl rfl (Y.len ⟨_, Go.Proofs.Tryz.underlying31⟩ rfl) ?_
          refine V.yl rfl (Y.rem rfl rfl (by omega) (by omega)) ?_
          refine V.yl rfl (Y.ld sc31 rfl rfl) ?_
          refine V.yl rfl (Y.mv rfl) ?_
          first | refine V.yl rfl (Y.fa0 fl35_0 rfl) ?_ | refine V.yl rfl (Y.fa fl35_0 rfl) ?_ | refine V.yl rfl (Y.fas fl35_0 rfl (by simp; omega)) ?_
          refine V.yl rfl (Y.ld sc3 rfl rfl) ?_
          first | refine V.yl rfl (Y.sub rfl rfl (by omega)) ?_ | refine V.yl rfl (Y.subW rfl rfl) ?_
          refine V.yl rfl (Y.ix slt31 rfl rfl (by first | (simp; done) | (simp [byteL]; done)) (by omega) (by omega)) ?_
          first | refine V.yl rfl (Y.ld sc5 rfl rfl) ?_ | refine V.yl rfl (Y.lds sc5 rfl (get_byteL hu0 (by simp))) ?_
          refine V.yl rfl (Y.ixB slt31 rfl rfl (by omega) (by omega)) ?_
          refine V.ls rfl ?_
          refine L.apc ?_
          refine L.sts sc5 rfl rfl rfl (by rw [byteL_length, putR_len, ringL_len, hn]; omega) ?_
          rw [putR_step (by rw [ringL_len]; exact hn) hm hu0]
          refine L.nil ?_
          refine InBlo.n ?_
          refine Then.n ?_
          refine C.reg ?_
          first | refine L.yl (Y.add rfl rfl (by omega)) ?_ | refine L.yl (Y.addW rfl rfl) ?_
          refine L.yl (Y.mv rfl) ?_
          refine L.nil ?_
          exact ⟨k + 1, (by repeat (first | exact trivial | refine ⟨rfl, ?_⟩ | refine ⟨congrArg some (by simp), ?_⟩ | refine ⟨congrArg some (by simp; omega), ?_⟩)), rfl, (by first | exact inferInstance | (dsimp only; exact inferInstance)), (by first | omega | (dsimp only; omega)), (by first | omega | (dsimp only; omega))⟩
        ·
          refine C.exit ?_
          refine Then.x ?_
          refine Then.x ?_
          refine InBlo.x ?_
          refine InBlo.n ?_
          obtain rfl : k = (x.2 - x.1).toNat := by omega
          exact ⟨ringL ring d s1 (pre ++ [x]), (by dsimp only; rw [ringL_snoc]; exact inferInstance), rfl⟩
    · rintro D R rfl
      try dsimp only [List.nil_append, List.cons_append]
      refine InBlo.n ?_
      refine Then.n ?_
      refine C.drwFS (Δ := [blk q [.slice a l.length c] 147, own 35 2 a l.length c (spL l)]) (.y 0 (.y 1 (.y 2 (.y 3 (.y 4 (.h 5 (.y 6 (.y 7 (.y 8 (.y 9 (.y 10 (.fin)))))))))))) mixo (by kernel_rfl) ?_
      refine V.yl rfl (Y.ld sc72 rfl rfl) ?_
      refine V.yl rfl (Y.nck rfl) ?_
      first | refine V.yl rfl (Y.fa0 fl112_1 rfl) ?_ | refine V.yl rfl (Y.fa fl112_1 rfl) ?_ | refine V.yl rfl (Y.fas fl112_1 rfl (by simp; omega)) ?_
      refine V.yl rfl (Y.ld sc109 rfl rfl) ?_
      refine V.yl rfl (Y.lda (vs := [_, _]) ag35 rfl rfl) ?_
      refine V.hv rfl ?_
      refine L.apc ?_
      refine L.callFW (Γf := [blk q [.slice a l.length c] 147, own 35 2 a l.length c (spL l)]) go71 rfl (fun w hw hf => ru_Add q a c l hl (s1, s1 + d.length) hlh hrep w hf) ?_
      rintro _ _ ⟨rfl, a75, c75, rfl⟩
      refine L.apc ?_
      have hal := addR_len l (s1, s1 + d.length) hl
      refine L.nil ?_
      refine V.on ?_
      refine V.yl rfl (Y.mv rfl) ?_
      refine V.yl rfl (Y.extL rfl rfl) ?_
      refine V.yl rfl (Y.extL rfl rfl) ?_
      refine V.yl rfl (Y.as rfl) ?_
      refine V.yl rfl (Y.as rfl) ?_
      refine V.fin ?_
      refine C.seq ?_
      refine C.regS ?_
      refine L.yl (Y.mv rfl) ?_
      refine L.yl (Y.nei rfl rfl) ?_
      refine L.nil ?_
      refine C.condP rfl (fun hc4 => ?_) (fun hc4 => ?_)
      ·
        refine C.regS ?_
        refine L.yl (Y.bdL (cs := [_, _, _, _, _, _]) zr78 bd78 rfl rfl rfl) ?_
        refine L.yl (Y.mv rfl) ?_
        refine L.sta (vs := [_, _, _, _, _, _]) ag78 rfl rfl rfl rfl rfl ?_
        refine L.yl (Y.as rfl) ?_
        refine L.nil ?_
        refine C.ret ?_
        refine Then.r ?_
        refine FnPost.rgM (xs := [.cell 6 78, .tmp 7]) (congrArg Array.toList Go.Proofs.Tryz.results28) (ra_ag (us := [_, _, _, _, _, _]) rfl ag78 rfl (ra_tmp rfl ra_nil)) ?_
        rw [takeH_add (by rw [hn]; exact hp) hc4]
        exact ⟨[blk h [.int .u32 base, .pointer (some ⟨q, 0, none⟩), .slice ta t.length tc, .slice (some ⟨rg, 0, none⟩) n n] 112, blk q [.slice a75 ((addR l (s1, (s1 + d.length))).1).length c75] 147, own 35 2 a75 ((addR l (s1, (s1 + d.length))).1).length c75 (spL ((addR l (s1, (s1 + d.length))).1)), own 5 1 ta t.length tc (byteL t), own 5 1 (some ⟨rg, 0, none⟩) n n (byteL ((ringL ring d s1 (gapsL l (s1, (s1 + d.length))))))], inferInstance, rfl, ta, tc, a75, c75, rfl⟩
      ·
        refine C.skip ?_
        refine Then.n ?_
        refine C.seq ?_
        refine C.regS ?_
        refine L.yl (Y.ld sc72 rfl rfl) ?_
        refine L.yl (Y.nck rfl) ?_
        first | refine L.yl (Y.fa0 fl112_1 rfl) ?_ | refine L.yl (Y.fa fl112_1 rfl) ?_ | refine L.yl (Y.fas fl112_1 rfl (by simp; omega)) ?_
        refine L.yl (Y.ld sc109 rfl rfl) ?_
        refine L.callR (Γf := [blk q [.slice a75 ((addR l (s1, (s1 + d.length))).1).length c75] 147, own 35 2 a75 ((addR l (s1, (s1 + d.length))).1).length c75 (spL ((addR l (s1, (s1 + d.length))).1))]) go72 rfl (fun w hw hf => ru_Gap q a75 c75 _ (by omega) 0 w hf) ?_
        rintro _ rfl
        refine L.yl (Y.as rfl) ?_
        refine L.nil ?_
        refine C.block ?_
        refine C.loop (σ := Nat × Option Addr × Nat) (fun (k, ta, tc) => [(3, .pointer (some ⟨b3, 0, none⟩)), (6, .pointer (some ⟨b6, 0, none⟩)), (8, .pointer (some ⟨b8, 0, none⟩)), (10, .pointer (some ⟨b10, 0, none⟩)), (14, .int .i64 (addR l (s1, s1 + d.length)).2.1), (15, .int .i64 (gapR (addR l (s1, s1 + d.length)).1 0))]) (fun (k, ta, tc) => [ob D (.deferred (some [])), blk b3 [.pointer (some ⟨h, 0, none⟩)] 72, blk b6 [.int .i64 0, .int .i64 0, .int .i64 0, .bool false, .int .i64 0, .int .i64 0] 78, blk b8 [.int .i64 s1, .int .i64 (s1 + d.length)] 35, blk b10 (spCs (twiceR l (s1, (s1 + d.length)))) 35, blk h [.int .u32 base, .pointer (some ⟨q, 0, none⟩), .slice ta ((fillT (ringL ring d s1 (gapsL l (s1, (s1 + d.length)))) t k)).length tc, .slice (some ⟨rg, 0, none⟩) n n] 112, own 5 1 (some ⟨rg, 0, none⟩) n n (byteL ((ringL ring d s1 (gapsL l (s1, (s1 + d.length)))))), own 5 1 ta (fillT (ringL ring d s1 (gapsL l (s1, (s1 + d.length)))) t k).length tc (byteL (fillT (ringL ring d s1 (gapsL l (s1, (s1 + d.length)))) t k)), blk q [.slice a75 ((addR l (s1, (s1 + d.length))).1).length c75] 147, own 35 2 a75 ((addR l (s1, (s1 + d.length))).1).length c75 (spL ((addR l (s1, (s1 + d.length))).1))]) (fun (k, ta, tc) => k ≤ (gapR (addR l (s1, s1 + d.length)).1 0).toNat - t.length) (fun (k, ta, tc) => (gapR (addR l (s1, s1 + d.length)).1 0).toNat - t.length - k) (0, ta, tc) ?_ ?_ ?_ ?_
        · repeat (first | exact trivial | refine ⟨rfl, ?_⟩)
        · show Wk _ [ob D (.deferred (some [])), blk b3 [.pointer (some ⟨h, 0, none⟩)] 72, blk b6 [.int .i64 0, .int .i64 0, .int .i64 0, .bool false, .int .i64 0, .int .i64 0] 78, blk b8 [.int .i64 s1, .int .i64 (s1 + d.length)] 35, blk b10 (spCs (twiceR l (s1, (s1 + d.length)))) 35, blk h [.int .u32 base, .pointer (some ⟨q, 0, none⟩), .slice ta t.length tc, .slice (some ⟨rg, 0, none⟩) n n] 112, own 5 1 (some ⟨rg, 0, none⟩) n n (byteL ((ringL ring d s1 (gapsL l (s1, (s1 + d.length)))))), own 5 1 ta t.length tc (byteL t), blk q [.slice a75 ((addR l (s1, (s1 + d.length))).1).length c75] 147, own 35 2 a75 ((addR l (s1, (s1 + d.length))).1).length c75 (spL ((addR l (s1, (s1 + d.length))).1))]; exact inferInstance
        · exact Nat.zero_le _
        · rintro ⟨k, ta, tc⟩ hI0
          try dsimp only
          have hfl := fillT_len (ringL ring d s1 (gapsL l (s1, (s1 + d.length)))) t k
          try dsimp only
          refine C.seq ?_
          refine C.regS ?_
          refine L.yl (Y.ld sc72 rfl rfl) ?_
          refine L.yl (Y.nck rfl) ?_
          first | refine L.yl (Y.fa0 fl112_2 rfl) ?_ | refine L.yl (Y.fa fl112_2 rfl) ?_ | refine L.yl (Y.fas fl112_2 rfl (by simp; omega)) ?_
          refine L.yl (Y.ld sc31 rfl rfl) ?_
          refine L.yl (Y.len ⟨_, Go.Proofs.Tryz.underlying31⟩ rfl) ?_
          refine L.yl (Y.mv rfl) ?_
          refine L.yl (Y.lss rfl rfl) ?_
          refine L.nil ?_
          refine C.condP rfl (fun hc5 => ?_) (fun hc5 => ?_)
          ·
            rw [hfl] at hc5
            have hmod := Nat.mod_lt (fillT (ringL ring d s1 (gapsL l (s1, (s1 + d.length)))) t k).length (show n > 0 by omega)
            have hRl : (ringL ring d s1 (gapsL l (s1, (s1 + d.length)))).length = n := by rw [ringL_len]; exact hn
            obtain ⟨u0, hu0⟩ : ∃ u, (ringL ring d s1 (gapsL l (s1, (s1 + d.length))))[(fillT (ringL ring d s1 (gapsL l (s1, (s1 + d.length)))) t k).length % n]? = some u := ⟨_, List.getElem?_eq_getElem (by omega)⟩
            refine C.skip ?_
            refine Then.n ?_
            refine C.block ?_
            refine C.drwF (Δ := [own 5 1 ta (fillT (ringL ring d s1 (gapsL l (s1, (s1 + d.length)))) t k).length tc (byteL (fillT (ringL ring d s1 (gapsL l (s1, (s1 + d.length)))) t k))]) (.y 0 (.y 1 (.y 2 (.y 3 (.y 4 (.y 5 (.y 6 (.y 7 (.y 8 (.y 9 (.y 10 (.y 11 (.y 12 (.y 13 (.y 14 (.y 15 (.y 16 (.y 17 (.y 18 (.y 19 (.y 20 (.y 21 (.h 22 (.h 23 (.y 24 (.y 25 (.last 26))))))))))))))))))))))))))) mixo (by kernel_rfl) ?_
            refine V.yl rfl (Y.ld sc72 rfl rfl) ?_
            refine V.yl rfl (Y.ld sc72 rfl rfl) ?_
            refine V.yl rfl (Y.nck rfl) ?_
            first | refine V.yl rfl (Y.fa0 fl112_2 rfl) ?_ | refine V.yl rfl (Y.fa fl112_2 rfl) ?_ | refine V.yl rfl (Y.fas fl112_2 rfl (by simp; omega)) ?_
            refine V.yl rfl (Y.ld sc31 rfl rfl) ?_
            refine V.yl rfl (Y.ld sc72 rfl rfl) ?_
            refine V.yl rfl (Y.nck rfl) ?_
            first | refine V.yl rfl (Y.fa0 fl112_3 rfl) ?_ | refine V.yl rfl (Y.fa fl112_3 rfl) ?_ | refine V.yl rfl (Y.fas fl112_3 rfl (by simp; omega)) ?_
            refine V.yl rfl (Y.ld sc31 rfl rfl) ?_
            refine V.yl rfl (Y.ld sc72 rfl rfl) ?_
            refine V.yl rfl (Y.nck rfl) ?_
            first | refine V.yl rfl (Y.fa0 fl112_2 rfl) ?_ | refine V.yl rfl (Y.fa fl112_2 rfl) ?_ | refine V.yl rfl (Y.fas fl112_2 rfl (by simp; omega)) ?_
            refine V.yl rfl (Y.ld sc31 rfl rfl) ?_
            refine V.yl rfl (Y.len ⟨_, Go.Proofs.Tryz.underlying31⟩ rfl) ?_
            refine V.yl rfl (Y.ld sc72 rfl rfl) ?_
            refine V.yl rfl (Y.nck rfl) ?_
            first | refine V.yl rfl (Y.fa0 fl112_3 rfl) ?_ | refine V.yl rfl (Y.fa fl112_3 rfl) ?_ | refine V.yl rfl (Y.fas fl112_3 rfl (by simp; omega)) ?_
            refine V.yl rfl (Y.ld sc31 rfl rfl) ?_
            refine V.yl rfl (Y.len ⟨_, Go.Proofs.Tryz.underlying31⟩ rfl) ?_
            refine V.yl rfl (Y.rem rfl rfl (by omega) (by omega)) ?_
            refine V.yl rfl (Y.ix slt31 rfl rfl (by rw [byteL_length]; omega) (by omega) (by omega)) ?_
            first | refine V.yl rfl (Y.ld sc5 rfl rfl) ?_ | refine V.yl rfl (Y.lds sc5 rfl (get_byteL hu0 (by omega))) ?_
            refine V.hv rfl ?_
            refine L.apc ?_
            refine L.bs1 elt31 rfl rfl ?_; intro b116
            refine L.nil ?_
            refine V.on ?_
            refine V.hv rfl ?_
            refine L.apc ?_
            refine L.app elt31 rfl rfl (by rfl) (by first | (simp; done) | (simp [byteL]; done)) (by omega) (by omega) ?_; intro a117 c117
            refine L.nil ?_
            refine V.on ?_
            refine V.yl rfl (Y.nck rfl) ?_
            first | refine V.yl rfl (Y.fa0 fl112_2 rfl) ?_ | refine V.yl rfl (Y.fa fl112_2 rfl) ?_ | refine V.yl rfl (Y.fas fl112_2 rfl (by simp; omega)) ?_
            refine V.ls rfl ?_
            refine L.apc ?_
            refine L.st sc31 rfl rfl rfl ?_
            refine L.nil ?_
            refine InBlo.n ?_
            rw [show (fillT (ringL ring d s1 (gapsL l (s1, (s1 + d.length)))) t k).length + 1 = (fillT (ringL ring d s1 (gapsL l (s1, (s1 + d.length)))) t (k + 1)).length by rw [fillT_len, fillT_len]; omega, fillT_step hRl hu0]
            exact ⟨(k + 1, a117, c117), (by repeat (first | exact trivial | refine ⟨rfl, ?_⟩ | refine ⟨congrArg some (by simp), ?_⟩ | refine ⟨congrArg some (by simp; omega), ?_⟩)), rfl, (by first | exact inferInstance | (dsimp only; exact inferInstance)), (by first | omega | (dsimp only; omega)), (by first | omega | (dsimp only; omega))⟩
          ·
            rw [hfl] at hc5
            obtain rfl : k = (gapR (addR l (s1, s1 + d.length)).1 0).toNat - t.length := by omega
            refine C.exit ?_
            refine Then.x ?_
            refine Then.x ?_
            refine InBlo.x ?_
            refine Then.n ?_
            refine C.drwBS [b6] (.y 0 (.y 1 (.y 2 (.y 5 (.h 3 (.y 4 (.y 6 (.h 7 (.y 8 (.fin)))))))))) mixo (by kernel_rfl) ?_
            refine V.yl rfl (Y.lda (vs := [_, _]) ag35 rfl rfl) ?_
            refine V.yl rfl (Y.mv rfl) ?_
            refine V.yl rfl (Y.lda (vs := [_, _]) ag35 rfl rfl) ?_
            refine V.yl rfl (Y.lda (vs := [_, _]) ag35 rfl rfl) ?_
            refine V.hv rfl ?_
            refine L.apc ?_
            refine L.callP go70 rfl (fun w hw => span_Len _ _ w) ?_
            refine L.nil ?_
            refine V.on ?_
            refine V.yl rfl (Y.gtr rfl rfl) ?_
            refine V.yl rfl (Y.bdL (cs := [_, _, _, _, _, _]) zr78 bd78 rfl rfl rfl) ?_
            refine V.hv rfl ?_
            refine L.apc ?_
            refine L.sta (vs := [_, _, _, _, _, _]) ag78 rfl rfl rfl rfl rfl ?_
            refine L.nil ?_
            refine V.on ?_
            refine V.yl rfl (Y.as rfl) ?_
            refine V.fin ?_
            refine C.ret ?_
            refine FnPost.rgM (xs := [.cell 6 78, .tmp 7]) (congrArg Array.toList Go.Proofs.Tryz.results28) (ra_ag (us := [_, _, _, _, _, _]) rfl ag78 rfl (ra_tmp rfl ra_nil)) ?_
            rw [takeH_ok (by rw [hn]; exact hp) (Decidable.not_not.1 hc4)]
            exact ⟨[blk h [.int .u32 base, .pointer (some ⟨q, 0, none⟩), .slice ta ((fillT (ringL ring d s1 (gapsL l (s1, (s1 + d.length)))) t ((gapR (addR l (s1, (s1 + d.length))).1 0).toNat - t.length))).length tc, .slice (some ⟨rg, 0, none⟩) n n] 112, blk q [.slice a75 ((addR l (s1, (s1 + d.length))).1).length c75] 147, own 35 2 a75 ((addR l (s1, (s1 + d.length))).1).length c75 (spL ((addR l (s1, (s1 + d.length))).1)), own 5 1 ta ((fillT (ringL ring d s1 (gapsL l (s1, (s1 + d.length)))) t ((gapR (addR l (s1, (s1 + d.length))).1 0).toNat - t.length))).length tc (byteL ((fillT (ringL ring d s1 (gapsL l (s1, (s1 + d.length)))) t ((gapR (addR l (s1, (s1 + d.length))).1 0).toNat - t.length)))), own 5 1 (some ⟨rg, 0, none⟩) n n (byteL ((ringL ring d s1 (gapsL l (s1, (s1 + d.length))))))], inferInstance, rfl, ta, tc, a75, c75, rfl⟩
    · rintro D pre u hIx hp; exact hIx.elim
end Go.Proofs.YtcbhcdcobgdddaaGreat
set_option maxHeartbeats 1000000
namespace Go.Proofs.YtcbhcdcobgdddaaGreat
open Go Go.X Go.Rep Go.Shelf
theorem go123 : Goes Go.Proofs.Tryz.prog 123 := enters_of Go.Proofs.Tryz.func123 (by kernel_rfl) rfl
theorem go147 : Goes Go.Proofs.Tryz.prog 147 := enters_of Go.Proofs.Tryz.func147 (by kernel_rfl) rfl
def aboveL (l : List Sp) (n : Nat) : List Sp := l.filter (fun x => decide ((n : Int) ≤ x.1))
theorem aboveL_yes {pre : List Sp} {x : Sp} {n : Nat} (h : (n : Int) ≤ x.1) : aboveL (pre ++ [x]) n = aboveL pre n ++ [x] := by simp [aboveL, h]
theorem aboveL_no {pre : List Sp} {x : Sp} {n : Nat} (h : ¬ (n : Int) ≤ x.1) : aboveL (pre ++ [x]) n = aboveL pre n := by simp [aboveL, h]
theorem he_Above (h : Nat) (w : World) : Calls Go.Proofs.Tryz.prog 74 #[.pointer (some ⟨h, 0, none⟩)] w (Post w [] (fun r Γ => ∃ px, r = .func (.func 122) #[] #[.pointer (some ⟨px, 0, none⟩)] ∧ Γ = [blk px [.pointer (some ⟨h, 0, none⟩)] 72])) := by
  refine spec_of Go.Proofs.Tryz.func74 rfl Go.Proofs.Tryz.ntmps74 rfl (Holds.nil w) ?_
  change C _ _ _ _ _ _ _ ⟨[(0, _)], []⟩ _
  refine C.regS ?_
  refine L.bx rfl rfl ?_; intro b1
  refine L.yl (Y.as rfl) ?_
  refine L.nil ?_
  refine C.regS ?_
  refine L.yl (Y.mkf (cv := #[_]) rfl) ?_
  refine L.yl (Y.as rfl) ?_
  refine L.nil ?_
  refine C.ret ?_
  refine FnPost.r1 Go.Proofs.Tryz.results74 rfl ?_
  exact ⟨b1, rfl, rfl⟩
theorem above_iter (w0 : World) (S0 : Nat → Prop) (px : Nat) (h q : Nat) (base : Int) (ta : Option Addr) (tc rg : Nat) (t : List UInt8) (n : Nat) (a : Option Addr) (c : Nat) (l : List Sp) (hl : l.length ≤ 131073) : IterOkS w0 S0 Go.Proofs.Tryz.prog 122 #[.pointer (some ⟨px, 0, none⟩)] (fun x : Sp => [spV x]) (aboveL l t.length) [blk px [.pointer (some ⟨h, 0, none⟩)] 72, blk h [.int .u32 base, .pointer (some ⟨q, 0, none⟩), .slice ta t.length tc, .slice (some ⟨rg, 0, none⟩) n n] 112, blk q [.slice a l.length c] 147, own 35 2 a l.length c (spL l)] [blk h [.int .u32 base, .pointer (some ⟨q, 0, none⟩), .slice ta t.length tc, .slice (some ⟨rg, 0, none⟩) n n] 112, blk q [.slice a l.length c] 147, own 35 2 a l.length c (spL l)] := by
  intro σ τ G I Gx Ix s0 y w hy1 hW hI hy
  replace hW : X.Sep w0 S0 w (blk px [.pointer (some ⟨h, 0, none⟩)] 72 :: blk h [.int .u32 base, .pointer (some ⟨q, 0, none⟩), .slice ta t.length tc, .slice (some ⟨rg, 0, none⟩) n n] 112 :: blk q [.slice a l.length c] 147 :: own 35 2 a l.length c (spL l) :: G s0) := hW
  change Calls Go.Proofs.Tryz.prog 122 [y, .pointer (some ⟨px, 0, none⟩)].toArray w (Post w (blk px [.pointer (some ⟨h, 0, none⟩)] 72 :: blk h [.int .u32 base, .pointer (some ⟨q, 0, none⟩), .slice ta t.length tc, .slice (some ⟨rg, 0, none⟩) n n] 112 :: blk q [.slice a l.length c] 147 :: own 35 2 a l.length c (spL l) :: G s0) _)
  refine spec_of Go.Proofs.Tryz.func122 rfl Go.Proofs.Tryz.ntmps122 rfl hW.holds ?_
  change C _ _ _ _ _ _ _ ⟨[(0, _), (1, _)], []⟩ _
  refine C.regS ?_
  refine L.bx rfl hy1 ?_; intro b2
  refine L.nil ?_
  refine C.seq ?_
  refine C.regS ?_
  refine L.yl (Y.ld sc72 rfl rfl) ?_
  first | refine L.yl (Y.eqpS ⟨_, Go.Proofs.Tryz.underlying72⟩ rfl) ?_ | refine L.yl (Y.eqpN ⟨_, Go.Proofs.Tryz.underlying72⟩ rfl) ?_
  refine L.nil ?_
  refine C.condFf rfl ?_
  refine C.skip ?_
  refine Then.n ?_
  refine C.regS ?_
  refine L.yl (Y.ld sc72 rfl rfl) ?_
  refine L.yl (Y.nck rfl) ?_
  first | refine L.yl (Y.fa0 fl112_1 rfl) ?_ | refine L.yl (Y.fa fl112_1 rfl) ?_ | refine L.yl (Y.fas fl112_1 rfl (by simp; omega)) ?_
  refine L.yl (Y.ld sc109 rfl rfl) ?_
  refine L.callF (Γf := []) go123 rfl (fun w hw hf => ru_All q w) ?_
  rintro _ _ ⟨px2, rfl, rfl⟩
  refine L.apc ?_
  refine L.nil ?_
  refine C.block ?_
  refine C.rfS (σ := σ) (τ := τ) (fun x : Sp => spV x) (fun _ : τ => Code.ret) (fun st => blk b2 [y] 134 :: blk px [.pointer (some ⟨h, 0, none⟩)] 72 :: blk h [.int .u32 base, .pointer (some ⟨q, 0, none⟩), .slice ta t.length tc, .slice (some ⟨rg, 0, none⟩) n n] 112 :: G st) (fun pre st => I (aboveL pre t.length) st) (fun u => blk b2 [y] 134 :: blk px [.pointer (some ⟨h, 0, none⟩)] 72 :: blk h [.int .u32 base, .pointer (some ⟨q, 0, none⟩), .slice ta t.length tc, .slice (some ⟨rg, 0, none⟩) n n] 112 :: Gx u) (fun _ u => ∃ pre, Ix pre u ∧ pre <+: aboveL l t.length) s0 rfl go147 (all_iter _ _ px2 q a c l (by omega)) (by show Wk _ (blk px2 [.pointer (some ⟨q, 0, none⟩)] 109 :: blk q [.slice a l.length c] 147 :: own 35 2 a l.length c (spL l) :: blk b2 [y] 134 :: blk px [.pointer (some ⟨h, 0, none⟩)] 72 :: blk h [.int .u32 base, .pointer (some ⟨q, 0, none⟩), .slice ta t.length tc, .slice (some ⟨rg, 0, none⟩) n n] 112 :: G s0); exact inferInstance) hI ?_ ?_ ?_
  · rintro w' l1 r pre x st hs hr hI1 hp1
    try dsimp only
    refine C.reg ?_
    refine L.al (zs := [.int .i64 0, .int .i64 0]) zr35 rfl ?_; intro b3
    refine L.sta (vs := [_, _]) ag35 rfl rfl rfl rfl rfl ?_
    refine L.nil ?_
    refine ⟨rfl, _, Wk.pk, ?_⟩
    refine C.block ?_
    refine C.byc ((t.length : Int) ≤ x.1) (fun hq => ?_) (fun hq => ?_)
    ·
      have hpre : aboveL pre t.length ++ [x] <+: aboveL l t.length := by
        rw [← aboveL_yes hq]; exact hp1.filter _
      refine C.drwPS (Δ := G st) (Γ0 := [_, _, _, _, _]) (List.perm_append_comm (l₁ := [_, _, _, _, _])) (.y 0 (.y 1 (.y 2 (.h 3 (.y 4 (.y 5 (.y 6 (.y 7 (.h 8 (.y 9 (.y 10 (.fin)))))))))))) mixo (by kernel_rfl) ?_
      first | refine V.yl rfl (Y.fa0 fl35_0 rfl) ?_ | refine V.yl rfl (Y.fa fl35_0 rfl) ?_ | refine V.yl rfl (Y.fas fl35_0 rfl (by simp; omega)) ?_
      refine V.yl rfl (Y.ld sc3 rfl rfl) ?_
      refine V.yl rfl (Y.ld sc72 rfl rfl) ?_
      refine V.hv rfl ?_
      refine L.callR (Γf := [blk h [.int .u32 base, .pointer (some ⟨q, 0, none⟩), .slice ta t.length tc, .slice (some ⟨rg, 0, none⟩) n n] 112]) go26 rfl (fun w hw hf => he_Next h q base ta tc rg t n w hf) ?_
      rintro _ rfl
      refine L.nil ?_
      refine ⟨_, rfl, ?_⟩
      refine V.yl rfl (Y.geq rfl rfl) ?_
      rw [decide_eq_true hq]
      refine V.yl rfl (Y.mv rfl) ?_
      refine V.yOnD rfl rfl rfl (by simp <;> omega) (Y.ld sc134 rfl rfl) ?_
      refine V.yOnD rfl rfl rfl (by simp <;> omega) (Y.lda (vs := [_, _]) ag35 rfl rfl) ?_
      refine V.hv rfl ?_
      refine L.gOn (t := 17) rfl rfl ?_
      refine L.callV (fv := y) (Γf := G st) (Γr := [_, _, _, _, _]) rfl rfl (.refl _) (fun w' hw' _ => hy (aboveL pre t.length) (x.1, x.2) st w' hI1 hpre ((hs.trans hw').wk ⟨[_, _, _, _, _], .refl _⟩)) ?_
      intro v Γ' hY
      obtain ⟨b, rfl⟩ : ∃ b, v = .bool b := by
        rcases hY with ⟨_, rfl, _⟩ | ⟨_, rfl, _⟩ <;> exact ⟨_, rfl⟩
      refine L.nil ?_
      refine ⟨Γ', rfl, ?_⟩
      first | refine V.yOnD rfl rfl rfl (by simp <;> omega) (Y.notP rfl) ?_ | refine V.yOnD rfl rfl rfl (by simp <;> omega) (Y.not rfl) ?_
      refine V.yl rfl (Y.pickT rfl rfl) ?_
      refine V.finA ?_
      refine C.cond rfl (fun hc2 => ?_) (fun hc2 => ?_)
      ·
        obtain ⟨u, rfl, hI'⟩ : ∃ u, Γ' = Gx u ∧ Ix (aboveL pre t.length ++ [x]) u := by
          rcases hY with ⟨_, hb, _⟩ | ⟨u, _, h1, h2⟩
          · injection hb with hb; subst hb; cases hc2
          · exact ⟨u, h1, h2⟩
        refine C.ret ?_
        refine InBlo.r ?_
        exact ⟨u, rfl, .flip (by show Wk (_ :: _ :: _ :: _ :: _ :: Gx u) _; dsimp only; exact inferInstance), _, hI', hpre⟩
      ·
        obtain ⟨s', rfl, hI'⟩ : ∃ u, Γ' = G u ∧ I (aboveL pre t.length ++ [x]) u := by
          rcases hY with ⟨u, _, h1, h2⟩ | ⟨_, hb, _⟩
          · exact ⟨u, h1, h2⟩
          · injection hb with hb; subst hb; cases hc2
        refine C.skip ?_
        refine InBlo.n ?_
        exact ⟨s', .flip (by show Wk (_ :: _ :: _ :: _ :: _ :: G s') _; dsimp only; exact inferInstance), by dsimp only; rw [aboveL_yes hq]; exact hI'⟩
    ·
      refine C.drwS (.y 0 (.y 1 (.y 2 (.h 3 (.y 4 (.y 5 (.y 6 (.y 7 (.h 8 (.y 9 (.y 10 (.fin)))))))))))) mixo (by kernel_rfl) ?_
      first | refine V.yl rfl (Y.fa0 fl35_0 rfl) ?_ | refine V.yl rfl (Y.fa fl35_0 rfl) ?_ | refine V.yl rfl (Y.fas fl35_0 rfl (by simp; omega)) ?_
      refine V.yl rfl (Y.ld sc3 rfl rfl) ?_
      refine V.yl rfl (Y.ld sc72 rfl rfl) ?_
      refine V.hv rfl ?_
      refine L.apc ?_
      refine L.callR (Γf := [blk h [.int .u32 base, .pointer (some ⟨q, 0, none⟩), .slice ta t.length tc, .slice (some ⟨rg, 0, none⟩) n n] 112]) go26 rfl (fun w hw hf => he_Next h q base ta tc rg t n w hf) ?_
      rintro _ rfl
      refine L.nil ?_
      refine V.on ?_
      refine V.yl rfl (Y.geq rfl rfl) ?_
      rw [decide_eq_false hq]
      refine V.yl rfl (Y.mv rfl) ?_
      refine V.yOff rfl rfl rfl rfl ?_
      refine V.yOff rfl rfl rfl rfl ?_
      refine V.hv rfl ?_
      refine L.apc ?_
      refine L.gOff (t := 17) rfl rfl rfl ?_
      refine L.nil ?_
      refine V.on ?_
      refine V.yOff rfl rfl rfl rfl ?_
      refine V.yl rfl (Y.pickF rfl rfl) ?_
      refine V.fin ?_
      refine C.condFf rfl ?_
      refine C.skip ?_
      refine InBlo.n ?_
      exact ⟨st, (by dsimp only; exact inferInstance), by dsimp only; rw [aboveL_no hq]; exact hI1⟩
  · rintro D st hI1
    try dsimp only [List.nil_append, List.cons_append]
    refine InBlo.n ?_
    refine FnPost.n0M Go.Proofs.Tryz.results122 ?_
    exact .inl ⟨st, (by show Wk _ (_ :: _ :: _ :: G st); exact inferInstance), hI1⟩
  · rintro D pre u ⟨pre2, hIx, hp2⟩ hp
    try dsimp only [List.nil_append, List.cons_append]
    refine C.ret ?_
    refine InBlo.r ?_
    refine FnPost.rgM (xs := []) (congrArg Array.toList Go.Proofs.Tryz.results122) ra_nil ?_
    exact .inr ⟨_, u, (by show Wk _ (_ :: _ :: _ :: Gx u); exact inferInstance), hIx, hp2⟩
end Go.Proofs.YtcbhcdcobgdddaaGreat
set_option maxHeartbeats 1000000
namespace Go.Proofs.YtcbhcdcobgdddaaGreat
open Go Go.X Go.Rep Go.Shelf

theorem slices_AppendSeq (gf : FuncId) (cap : Array Value) (hgo : Goes Go.Proofs.Tryz.prog gf) (xs : List Sp) (hx : xs.length ≤ 1048576) (Γi Γo : List Ch) (hit : ∀ w0 S0, IterOkS w0 S0 Go.Proofs.Tryz.prog gf cap (fun x : Sp => [spV x]) xs Γi Γo) (w : World) (hw : X.Holds w Γi) :
    Calls Go.Proofs.Tryz.prog 121 #[.slice none 0 0, .func (.func gf) #[] cap] w (Post w Γi (RW fun r Γ => ∃ a c, r = .slice a xs.length c ∧ Γ = own 35 2 a xs.length c (spL xs) :: Γo)) := by
  refine spec_of Go.Proofs.Tryz.func121 rfl Go.Proofs.Tryz.ntmps121 rfl hw ?_
  change C _ _ _ _ _ _ _ ⟨[(0, _), (1, _)], []⟩ _
  refine C.regS ?_
  refine L.bx rfl rfl ?_; intro b2
  refine L.yl (Y.as rfl) ?_
  refine L.nil ?_
  refine C.seq ?_
  refine C.nil0 35 2 ?_
  refine C.regS ?_
  refine L.yl (Y.mv rfl) ?_
  refine L.nil ?_
  refine C.block ?_
  refine C.rfS (σ := List Sp × Option Addr × Nat) (fun x : Sp => spV x) (fun _ : Unit => Code.ret) (fun (l, a, c) => [own 35 2 a l.length c (spL l), blk b2 [.slice a l.length c] 29]) (fun pre (l, a, c) => l = pre) (fun _ => []) (fun _ _ => False) ([], none, 0) rfl hgo (hit _ _) (.of (List.perm_append_comm (l₁ := [_, _]))) rfl ?_ ?_ ?_
  · rintro w' l1 r pre x ⟨l, a, c⟩ hs hr rfl hp1
    try dsimp only
    have hpl : l.length + 1 ≤ xs.length := by have := hp1.length_le; simpa using this
    refine C.reg ?_
    refine L.al (zs := [.int .i64 0, .int .i64 0]) zr35 rfl ?_; intro b5
    refine L.sta (vs := [_, _]) ag35 rfl rfl rfl rfl rfl ?_
    refine L.nil ?_
    refine ⟨rfl, _, Wk.pk, ?_⟩
    refine C.block ?_
    refine C.reg ?_
    refine L.yl (Y.ld sc29 rfl rfl) ?_
    refine L.yl (Y.lda (vs := [_, _]) ag35 rfl rfl) ?_
    refine L.bsA (vs := [_, _]) elt29 rfl rfl (by decide) ?_; intro b10
    refine L.app elt29 rfl rfl (by rfl) (by first | (simp; done) | (simp [byteL]; done)) (by omega) (by omega) ?_; intro a11 c11
    refine L.st sc29 rfl rfl rfl ?_
    refine L.nil ?_
    refine InBlo.n ?_
    rw [show l.length + 1 = (l ++ [x]).length by simp, show spL l ++ [Value.int .i64 x.1, .int .i64 x.2] = spL (l ++ [x]) by rw [spL_append]; rfl]
    exact ⟨(l ++ [x], a11, c11), (by dsimp only; exact inferInstance), rfl⟩
  · rintro D ⟨l, a, c⟩ rfl
    try dsimp only [List.nil_append, List.cons_append]
    refine InBlo.n ?_
    refine Then.n ?_
    refine C.wk (Δ := ob D (.deferred (some [])) :: own 35 2 a l.length c (spL l) :: blk b2 [.slice a l.length c] 29 :: Γo) (.of ((List.perm_append_comm (l₂ := [_, _])).cons _)) ?_
    refine C.regS ?_
    refine L.yl (Y.ld sc29 rfl rfl) ?_
    refine L.yl (Y.as rfl) ?_
    refine L.nil ?_
    refine C.ret ?_
    refine FnPost.rgM (xs := [.tmp 4]) (congrArg Array.toList Go.Proofs.Tryz.results121) (ra_tmp rfl ra_nil) ?_
    exact ⟨own 35 2 a l.length c (spL l) :: Γo, by exact inferInstance, a, c, rfl, rfl⟩
  · rintro D pre u hIx hp; exact hIx.elim
end Go.Proofs.YtcbhcdcobgdddaaGreat
set_option maxHeartbeats 1000000
namespace Go.Proofs.YtcbhcdcobgdddaaGreat
open Go Go.X Go.Rep Go.Shelf
theorem go121 : Goes Go.Proofs.Tryz.prog 121 := enters_of Go.Proofs.Tryz.func121 (by kernel_rfl) rfl
instance oneC_spL (l : List Sp) : OneC (spL l) := ⟨fun u hu => by
  obtain ⟨x, _, hx⟩ := List.mem_flatMap.1 hu
  simp [spCs] at hx
  rcases hx with rfl | rfl <;> rfl⟩
theorem slices_Collect (gf : FuncId) (cap : Array Value) (hgo : Goes Go.Proofs.Tryz.prog gf) (xs : List Sp) (hx : xs.length ≤ 1048576) (Γi Γo : List Ch) (hit : ∀ w0 S0, IterOkS w0 S0 Go.Proofs.Tryz.prog gf cap (fun x : Sp => [spV x]) xs Γi Γo) (w : World) (hw : X.Holds w Γi) : Calls Go.Proofs.Tryz.prog 73 #[.func (.func gf) #[] cap] w (Post w Γi (RW fun r Γ => ∃ a c, r = .slice a xs.length c ∧ Γ = own 35 2 a xs.length c (spL xs) :: Γo)) := by
  refine spec_of Go.Proofs.Tryz.func73 rfl Go.Proofs.Tryz.ntmps73 rfl hw ?_
  change C _ _ _ _ _ _ _ ⟨[(0, _)], []⟩ _
  refine C.regS ?_
  refine L.yl (Y.as rfl) ?_
  refine L.nil ?_
  refine C.regS ?_
  refine L.yl (Y.mv rfl) ?_
  refine L.callFW (Γf := Γi) go121 rfl (fun w hw hf => slices_AppendSeq gf cap hgo xs hx Γi Γo hit w hf) ?_
  rintro _ _ ⟨a4, c4, rfl, rfl⟩
  refine L.wk (Δ := own 35 2 a4 xs.length c4 (spL xs) :: Γo) (.of (by simp)) ?_
  refine L.yl (Y.as rfl) ?_
  refine L.nil ?_
  refine C.ret ?_
  refine FnPost.r1 Go.Proofs.Tryz.results73 rfl ?_
  exact ⟨own 35 2 a4 xs.length c4 (spL xs) :: Γo, by exact inferInstance, a4, c4, rfl, rfl⟩
theorem slices_IndexFunc (a : Option Addr) (c : Nat) (l : List Sp) (hl : l.length ≤ 1048576) (fv : Value) (q : Sp → Bool) (Gf : List Ch) (hq : ∀ x w, X.Holds w Gf → CallV Go.Proofs.Tryz.prog fv [spV x] w (Post w Gf (RW fun r Γ => r = .bool (q x) ∧ Γ = Gf))) (w : World) (hw : X.Holds w Gf) (h2 : ∀ w2, Keep (fps Gf) w w2 → Rs w2 a (spL l)) : Calls Go.Proofs.Tryz.prog 76 #[.slice a l.length c, fv] w (Post w Gf (RW fun r Γ => r = .int .i64 (idxI l q) ∧ Γ = Gf)) := by
  haveI hrd : ∀ Γ, Rd w (fps Gf) Γ a (spL l) := fun Γ => ⟨fun w2 hw2 => h2 w2 hw2.keep⟩
  refine spec_of Go.Proofs.Tryz.func76 rfl Go.Proofs.Tryz.ntmps76 rfl hw ?_
  change C _ _ _ _ _ _ _ ⟨[(0, _), (1, _)], []⟩ _
  refine C.regS ?_
  refine L.yl (Y.as rfl) ?_
  refine L.nil ?_
  refine C.seq ?_
  refine C.regS ?_
  refine L.yl (Y.mv rfl) ?_
  refine L.yl (Y.len ⟨_, Go.Proofs.Tryz.underlying29⟩ rfl) ?_
  refine L.yl (Y.mv rfl) ?_
  refine L.nil ?_
  refine C.block ?_
  refine C.loop (σ := Nat) (fun i => [(0, .slice a l.length c), (1, fv), (7, .int .i64 l.length), (8, .int .i64 i)]) (fun i => Gf) (fun i => i ≤ l.length ∧ ∀ y ∈ l.take i, q y = false) (fun i => l.length - i) 0 ?_ ?_ ?_ ?_
  · repeat (first | exact trivial | refine ⟨rfl, ?_⟩)
  · first | exact .of (.refl _) | exact inferInstance | (dsimp only; exact inferInstance)
  · exact ⟨Nat.zero_le _, by simp⟩
  · rintro i ⟨hI0, hI1⟩
    try dsimp only
    refine C.regS ?_
    refine L.yl (Y.lss rfl rfl) ?_
    refine L.nil ?_
    refine C.seq ?_
    refine C.condP rfl (fun hc1 => ?_) (fun hc1 => ?_)
    ·
      obtain ⟨x0, hx0⟩ : ∃ u, l[i]? = some u := ⟨_, List.getElem?_eq_getElem (by omega)⟩
      refine C.skip ?_
      refine Then.n ?_
      refine C.seq ?_
      refine C.block ?_
      refine C.regS ?_
      refine L.yl (Y.mv rfl) ?_
      refine L.yl (Y.as rfl) ?_
      refine L.nil ?_
      refine C.regS ?_
      refine L.yl (Y.mv rfl) ?_
      refine L.yl (Y.mv rfl) ?_
      refine L.yl (Y.mv rfl) ?_
      refine L.yl (Y.ix slt29 rfl rfl (by rw [spL_length]) (by omega) (by omega)) ?_
      refine L.yl (Y.ldsa (vs := spCs x0) ag35 rfl rfl (by decide) (fun j v hj => by rw [show (((i : Nat) : Int).toNat * 2 + j) = i * 2 + j from rfl, spL_get l _ j _ hx0 (by have := (List.getElem?_eq_some_iff.1 hj).1; exact this)]; exact hj)) ?_
      refine L.callVR (Γf := Gf) (fv := fv) rfl rfl (fun w hw hf => hq x0 w hf) ?_
      rintro _ rfl
      refine L.nil ?_
      refine C.cond rfl (fun hc2 => ?_) (fun hc2 => ?_)
      ·
        refine C.regS ?_
        refine L.yl (Y.mv rfl) ?_
        refine L.yl (Y.as rfl) ?_
        refine L.nil ?_
        refine C.ret ?_
        refine InBlo.r ?_
        refine Then.r ?_
        refine Then.r ?_
        refine InBlo.r ?_
        refine Then.r ?_
        refine FnPost.r1 Go.Proofs.Tryz.results76 rfl ?_
        have e : idxI l q = (i : Int) := by unfold idxI; rw [idxI_at hx0 hc2 hI1]
        rw [e]
        exact ⟨Gf, by exact inferInstance, rfl, rfl⟩
      ·
        refine C.skip ?_
        refine InBlo.n ?_
        refine Then.n ?_
        refine C.reg ?_
        first | refine L.yl (Y.add rfl rfl (by omega)) ?_ | refine L.yl (Y.addW rfl rfl) ?_
        refine L.yl (Y.mv rfl) ?_
        refine L.nil ?_
        exact ⟨i + 1, (by repeat (first | exact trivial | refine ⟨rfl, ?_⟩ | refine ⟨congrArg some (by simp), ?_⟩ | refine ⟨congrArg some (by simp; omega), ?_⟩)), rfl, (by first | exact inferInstance | (dsimp only; exact inferInstance)), ⟨by omega, fun y hy => by
          rw [List.take_add_one, hx0] at hy
          rcases List.mem_append.1 hy with hy | hy
          · exact hI1 y hy
          · simp at hy; subst hy; simpa using hc2⟩, (by first | omega | (dsimp only; omega))⟩
    ·
      refine C.exit ?_
      refine Then.x ?_
      refine Then.x ?_
      refine InBlo.x ?_
      refine Then.n ?_
      refine C.regS ?_
      refine L.yl (Y.as rfl) ?_
      refine L.nil ?_
      refine C.ret ?_
      refine FnPost.r1 Go.Proofs.Tryz.results76 rfl ?_
      have e : idxI l q = -1 := by unfold idxI; rw [idxI_no (fun y hy => hI1 y (by rw [List.take_of_length_le (by omega)]; exact hy))]
      rw [e]
      exact ⟨Gf, by exact inferInstance, rfl, rfl⟩
theorem slices_Delete (a : Option Addr) (c : Nat) (l : List Sp) (hl : l.length ≤ 1048576) (i : Nat) (hi : i < l.length) (w : World) (hw : X.Holds w [own 35 2 a l.length c (spL l)]) : Calls Go.Proofs.Tryz.prog 79 #[.slice a l.length c, .int .i64 i, .int .i64 ((i + 1 : Nat) : Int)] w (Post w [own 35 2 a l.length c (spL l)] (RW fun r Γ => r = .slice a (l.eraseIdx i).length c ∧ Γ = [own 35 2 a (l.eraseIdx i).length c (spL (l.eraseIdx i))])) := by
  obtain ⟨_, hlc, hcm⟩ := own_le (hw.on (own 35 2 a l.length c (spL l)) (by simp))
  unfold maxLen at hcm
  obtain ⟨g, rfl⟩ := own_some (hw.on (own 35 2 a l.length c (spL l)) (by simp)) (by omega)
  have hel : (l.eraseIdx i).length = l.length - 1 := List.length_eraseIdx_of_lt hi
  refine spec_of Go.Proofs.Tryz.func79 rfl Go.Proofs.Tryz.ntmps79 rfl hw ?_
  change C _ _ _ _ _ _ _ ⟨[(0, _), (1, _), (2, _)], []⟩ _
  refine C.regS ?_
  refine L.yl (Y.as rfl) ?_
  refine L.nil ?_
  refine C.regS ?_
  refine L.yl (Y.mv rfl) ?_
  refine L.yl (Y.mv rfl) ?_
  refine L.yl (Y.mv rfl) ?_
  refine L.yl (Y.mv rfl) ?_
  refine L.yl (Y.len ⟨_, Go.Proofs.Tryz.underlying29⟩ rfl) ?_
  refine L.yl (Y.sl3 slt29 rfl rfl rfl rfl (by omega)) ?_
  refine L.nil ?_
  refine C.seq ?_
  refine C.regS ?_
  refine L.yl (Y.mv rfl) ?_
  refine L.yl (Y.mv rfl) ?_
  refine L.yl (Y.eqi rfl rfl) ?_
  refine L.nil ?_
  refine C.condF rfl (by omega) ?_
  refine C.skip ?_
  refine Then.n ?_
  refine C.regS ?_
  refine L.yl (Y.mv rfl) ?_
  refine L.yl (Y.len ⟨_, Go.Proofs.Tryz.underlying29⟩ rfl) ?_
  refine L.yl (Y.as rfl) ?_
  refine L.nil ?_
  refine C.drwFS (Δ := [own 35 2 (some ⟨g, 0, none⟩) l.length c (spL l)]) (.y 0 (.y 1 (.y 2 (.y 3 (.y 4 (.y 5 (.h 6 (.y 7 (.fin))))))))) mixo (by kernel_rfl) ?_
  refine V.yl rfl (Y.mv rfl) ?_
  refine V.yl rfl (Y.mv rfl) ?_
  refine V.yl rfl (Y.slh slt29 rfl rfl (by omega)) ?_
  refine V.yl rfl (Y.mv rfl) ?_
  refine V.yl rfl (Y.mv rfl) ?_
  refine V.yl rfl (Y.sl1 slt29 rfl rfl (by omega) (by omega)) ?_
  refine V.hv rfl ?_
  refine L.apc ?_
  refine L.appIn elt29 rfl rfl rfl (by rw [List.length_drop, spL_length, Int.toNat_natCast]; omega) (by rw [Int.toNat_natCast, Int.toNat_natCast]; omega) ?_
  simp only [Int.toNat_natCast]
  refine L.nil ?_
  refine V.on ?_
  refine V.yl rfl (Y.as rfl) ?_
  refine V.fin ?_
  refine C.regS ?_
  refine L.yl (Y.mv rfl) ?_
  refine L.yl (Y.mv rfl) ?_
  refine L.yl (Y.len ⟨_, Go.Proofs.Tryz.underlying29⟩ rfl) ?_
  refine L.yl (Y.mv rfl) ?_
  refine L.yl (Y.sl2 slt29 rfl rfl rfl (by omega)) ?_
  rw [show cutA (some ⟨g, 0, none⟩) (((i + (l.length - (i + 1)) : Nat) : Int).toNat * 2) (c - ((i + (l.length - (i + 1)) : Nat) : Int).toNat) = some ⟨g, (i + (l.length - (i + 1))) * 2, none⟩ from by unfold cutA; rw [if_neg (by rw [Int.toNat_natCast]; omega), Int.toNat_natCast]; simp [add_pl], show ((l.length : Nat) : Int).toNat - ((i + (l.length - (i + 1)) : Nat) : Int).toNat = 1 from by rw [Int.toNat_natCast, Int.toNat_natCast]; omega]
  refine L.clr elt29 (z := .agg #[.int .i64 0, .int .i64 0]) (fun w => run_zero zr35) rfl (by decide) rfl (by omega) ?_; intro cs hcs
  refine L.nil ?_
  refine C.regS ?_
  refine L.yl (Y.mv rfl) ?_
  refine L.yl (Y.as rfl) ?_
  refine L.nil ?_
  refine C.shr (m := l.length - 1) (some ⟨g, 0, none⟩) (by omega) (fun h => by cases h) ?_
  rw [show i + (l.length - (i + 1)) = l.length - 1 by omega]
  refine C.ret ?_
  refine FnPost.r1 Go.Proofs.Tryz.results79 rfl ?_
  rw [hel, List.append_assoc (List.take _ _) cs, del_rows hi rfl]
  exact ⟨[own 35 2 (some ⟨g, 0, none⟩) (l.length - 1) c (spL (l.eraseIdx i))], inferInstance, rfl, rfl⟩
theorem or_meet (s : Sp) (b3 : Nat) (x : Sp) (w : World) (hw : X.Holds w [blk b3 (spCs s) 35]) : Calls Go.Proofs.Tryz.prog 77 #[spV x, .pointer (some ⟨b3, 0, none⟩)] w (Post w [blk b3 (spCs s) 35] (RW fun r Γ => r = .bool (decide (0 < lenS (meetS x s))) ∧ Γ = [blk b3 (spCs s) 35])) := by
  refine spec_of Go.Proofs.Tryz.func77 rfl Go.Proofs.Tryz.ntmps77 rfl hw ?_
  change C _ _ _ _ _ _ _ ⟨[(0, _), (1, _)], []⟩ _
  refine C.regS ?_
  refine L.bxa rfl ?_; intro b2
  refine L.yl (Y.as rfl) ?_
  refine L.nil ?_
  refine C.regS ?_
  refine L.yl (Y.lda (vs := [_, _]) ag35 rfl rfl) ?_
  refine L.yl (Y.lda (vs := [_, _]) ag35 rfl rfl) ?_
  refine L.callP go78 rfl (fun w hw => span_Meet _ _ _ _ w) ?_
  refine L.callP go70 rfl (fun w hw => span_Len _ _ w) ?_
  refine L.yl (Y.gtr rfl rfl) ?_
  refine L.yl (Y.as rfl) ?_
  refine L.nil ?_
  refine C.ret ?_
  refine FnPost.r1 Go.Proofs.Tryz.results77 rfl ?_
  exact ⟨[blk b3 (spCs s) 35], inferInstance, rfl, rfl⟩
end Go.Proofs.YtcbhcdcobgdddaaGreat
set_option maxHeartbeats 1000000
namespace Go.Proofs.YtcbhcdcobgdddaaGreat
open Go Go.X Go.Rep Go.Shelf
theorem fl76_1 : Fld Go.Proofs.Tryz.prog 76 1 1 := ⟨_, _, Go.Proofs.Tryz.underlying76, rfl, rfl, _, (by kernel_rfl : (Go.Proofs.Tryz.prog.info? 72).map (·.size) = some 1), by decide⟩
theorem fl76_2 : Fld Go.Proofs.Tryz.prog 76 2 2 := ⟨_, _, Go.Proofs.Tryz.underlying76, rfl, rfl, _, (by kernel_rfl : (Go.Proofs.Tryz.prog.info? 29).map (·.size) = some 1), by decide⟩
theorem go122 : Goes Go.Proofs.Tryz.prog 122 := enters_of Go.Proofs.Tryz.func122 (by kernel_rfl) rfl
theorem go73 : Goes Go.Proofs.Tryz.prog 73 := enters_of Go.Proofs.Tryz.func73 (by kernel_rfl) rfl
theorem go74 : Goes Go.Proofs.Tryz.prog 74 := enters_of Go.Proofs.Tryz.func74 (by kernel_rfl) rfl
theorem go75 : Goes Go.Proofs.Tryz.prog 75 := enters_of Go.Proofs.Tryz.func75 (by kernel_rfl) rfl
theorem go76 : Goes Go.Proofs.Tryz.prog 76 := enters_of Go.Proofs.Tryz.func76 (by kernel_rfl) rfl
theorem go77 : Goes Go.Proofs.Tryz.prog 77 := enters_of Go.Proofs.Tryz.func77 (by kernel_rfl) rfl
theorem go79 : Goes Go.Proofs.Tryz.prog 79 := enters_of Go.Proofs.Tryz.func79 (by kernel_rfl) rfl
theorem zr29 : Zr Go.Proofs.Tryz.prog 29 (.slice none 0 0) := by unfold Zr; kernel_rfl
theorem or_step (b4 b5 : Nat) (a a2 : Option Addr) (c c2 : Nat) (l m : List Sp) (hl : l.length + m.length ≤ 1048576) (s : Sp) (w : World) (hw : X.Holds w [blk b4 [.slice a l.length c] 29, own 35 2 a l.length c (spL l), blk b5 [.slice a2 m.length c2] 29, own 35 2 a2 m.length c2 (spL m)]) : Calls Go.Proofs.Tryz.prog 75 #[spV s, .pointer (some ⟨b4, 0, none⟩), .pointer (some ⟨b5, 0, none⟩)] w (Post w [blk b4 [.slice a l.length c] 29, own 35 2 a l.length c (spL l), blk b5 [.slice a2 m.length c2] 29, own 35 2 a2 m.length c2 (spL m)] (RW fun r Γ => r = .tuple #[] ∧ ∃ a c a2 c2, Γ = [blk b4 [.slice a ((ordStep l m s).1).length c] 29, own 35 2 a ((ordStep l m s).1).length c (spL ((ordStep l m s).1)), blk b5 [.slice a2 ((ordStep l m s).2).length c2] 29, own 35 2 a2 ((ordStep l m s).2).length c2 (spL ((ordStep l m s).2))])) := by
  refine spec_of Go.Proofs.Tryz.func75 rfl Go.Proofs.Tryz.ntmps75 rfl hw ?_
  change C _ _ _ _ _ _ _ ⟨[(0, _), (1, _), (2, _)], []⟩ _
  refine C.regS ?_
  refine L.bxa rfl ?_; intro b3
  refine L.nil ?_
  refine C.regS ?_
  refine L.yl (Y.ld sc29 rfl rfl) ?_
  refine L.yl (Y.mkf (cv := #[_]) rfl) ?_
  refine L.callR (Γf := [blk b3 (spCs s) 35]) go76 rfl (fun w hw hf => slices_IndexFunc a c l (by omega) _ (fun x => decide (0 < lenS (meetS x s))) [blk b3 (spCs s) 35] (fun x w hw => CallV.of (args := [spV x]) (cap := [.pointer (some ⟨b3, 0, none⟩)]) go77 (or_meet s b3 x w hw)) w hf (hw.rk_own (t := 35) (sz := 2) (n := l.length) (c := c) inferInstance inferInstance)) ?_
  rintro _ rfl
  rcases hfi : l.findIdx? (fun x => decide (0 < lenS (meetS x s))) with _ | i
  ·
    rw [show idxI l (fun x => decide (0 < lenS (meetS x s))) = -1 from by unfold idxI; rw [hfi]]
    have ho : ordStep l m s = (l, m) := by unfold ordStep; rw [hfi]
    refine L.yl (Y.as rfl) ?_
    refine L.nil ?_
    refine C.regS ?_
    refine L.yl (Y.mv rfl) ?_
    refine L.yl (Y.geq rfl rfl) ?_
    refine L.nil ?_
    refine C.condF rfl (by omega) ?_
    refine C.skip ?_
    refine FnPost.n0 Go.Proofs.Tryz.results75 ?_
    rw [ho]
    exact ⟨[blk b4 [.slice a l.length c] 29, own 35 2 a l.length c (spL l), blk b5 [.slice a2 m.length c2] 29, own 35 2 a2 m.length c2 (spL m)], inferInstance, rfl, a, c, a2, c2, rfl⟩
  ·
    rw [show idxI l (fun x => decide (0 < lenS (meetS x s))) = (i : Int) from by unfold idxI; rw [hfi]]
    obtain ⟨hil, _⟩ := List.findIdx?_eq_some_iff_getElem.1 hfi
    obtain ⟨x0, hx0⟩ : ∃ u, l[i]? = some u := ⟨_, List.getElem?_eq_getElem hil⟩
    have ho : ordStep l m s = (l.eraseIdx i, m ++ [x0]) := by unfold ordStep; rw [hfi]; simp [hx0]
    refine L.yl (Y.as rfl) ?_
    refine L.nil ?_
    refine C.regS ?_
    refine L.yl (Y.mv rfl) ?_
    refine L.yl (Y.geq rfl rfl) ?_
    refine L.nil ?_
    refine C.condT rfl (by omega) ?_
    refine C.drwFS (Δ := [own 35 2 a2 m.length c2 (spL m)]) (.y 0 (.y 1 (.y 2 (.y 3 (.y 4 (.h 5 (.h 6 (.last 7)))))))) mixo (by kernel_rfl) ?_
    refine V.yl rfl (Y.ld sc29 rfl rfl) ?_
    refine V.yl rfl (Y.ld sc29 rfl rfl) ?_
    refine V.yl rfl (Y.mv rfl) ?_
    refine V.yl rfl (Y.ix slt29 rfl rfl (by rw [spL_length]) (by omega) (by omega)) ?_
    refine V.yl rfl (Y.ldsa (vs := spCs x0) ag35 rfl rfl (by decide) (fun j v hj => by rw [show (((i : Nat) : Int).toNat * 2 + j) = i * 2 + j from rfl, spL_get l _ j _ hx0 (by have := (List.getElem?_eq_some_iff.1 hj).1; exact this)]; exact hj)) ?_
    refine V.hv rfl ?_
    refine L.apc ?_
    refine L.bsA (vs := [_, _]) elt29 rfl rfl (by decide) ?_; intro b15
    refine L.nil ?_
    refine V.on ?_
    refine V.hv rfl ?_
    refine L.apc ?_
    refine L.app elt29 rfl rfl (by rfl) (by first | (simp; done) | (simp [byteL]; done)) (by omega) (by omega) ?_; intro a16 c16
    refine L.nil ?_
    refine V.on ?_
    refine V.ls rfl ?_
    refine L.apc ?_
    refine L.st sc29 rfl rfl rfl ?_
    refine L.nil ?_
    refine C.reg ?_
    refine L.yl (Y.ld sc29 rfl rfl) ?_
    refine L.yl (Y.mv rfl) ?_
    refine L.yl (Y.mv rfl) ?_
    first | refine L.yl (Y.add rfl rfl (by omega)) ?_ | refine L.yl (Y.addW rfl rfl) ?_
    rw [show ((i : Int) + 1) = ((i + 1 : Nat) : Int) from rfl]
    refine L.callFW (Γf := [own 35 2 a l.length c (spL l)]) go79 rfl (fun w hw hf => slices_Delete a c l (by omega) i hil w hf) ?_
    rintro _ _ ⟨rfl, rfl⟩
    refine L.apc ?_
    refine L.st sc29 rfl rfl rfl ?_
    refine L.nil ?_
    refine FnPost.n0 Go.Proofs.Tryz.results75 ?_
    rw [ho, show m.length + 1 = (m ++ [x0]).length by simp, show spL m ++ [Value.int .i64 x0.1, Value.int .i64 x0.2] = spL (m ++ [x0]) by rw [spL_append]; rfl]
    exact ⟨[blk b4 [.slice a (l.eraseIdx i).length c] 29, own 35 2 a (l.eraseIdx i).length c (spL (l.eraseIdx i)), blk b5 [.slice a16 (m ++ [x0]).length c16] 29, own 35 2 a16 (m ++ [x0]).length c16 (spL (m ++ [x0]))], inferInstance, rfl, a, c, a16, c16, rfl⟩
theorem filter_le (l : List Sp) (n : Nat) : (aboveL l n).length ≤ l.length := List.length_filter_le _ _
theorem re_order (r : Nat) (fst : Int) (ba : Option Addr) (bc : Nat) (ab : List Sp) (hab : ab.length ≤ 1048576) (h q : Nat) (base : Int) (ta : Option Addr) (tc rg : Nat) (t : List UInt8) (n : Nat) (a : Option Addr) (c : Nat) (l : List Sp) (hl : l.length ≤ 131073) (s : Sp) (w : World) (hw : X.Holds w [blk r [.int .u32 fst, .pointer (some ⟨h, 0, none⟩), .slice ba ab.length bc] 76, blk h [.int .u32 base, .pointer (some ⟨q, 0, none⟩), .slice ta t.length tc, .slice (some ⟨rg, 0, none⟩) n n] 112, blk q [.slice a l.length c] 147, own 35 2 a l.length c (spL l), own 35 2 ba ab.length bc (spL ab)]) : Calls Go.Proofs.Tryz.prog 29 #[.pointer (some ⟨r, 0, none⟩), spV s] w (Post w [blk r [.int .u32 fst, .pointer (some ⟨h, 0, none⟩), .slice ba ab.length bc] 76, blk h [.int .u32 base, .pointer (some ⟨q, 0, none⟩), .slice ta t.length tc, .slice (some ⟨rg, 0, none⟩) n n] 112, blk q [.slice a l.length c] 147, own 35 2 a l.length c (spL l), own 35 2 ba ab.length bc (spL ab)] (RW fun v Γ => v = .tuple #[] ∧ ∃ ba bc, Γ = [blk r [.int .u32 fst, .pointer (some ⟨h, 0, none⟩), .slice ba (orderR (aboveL l t.length) ab s).length bc] 76, blk h [.int .u32 base, .pointer (some ⟨q, 0, none⟩), .slice ta t.length tc, .slice (some ⟨rg, 0, none⟩) n n] 112, blk q [.slice a l.length c] 147, own 35 2 a l.length c (spL l), own 35 2 ba (orderR (aboveL l t.length) ab s).length bc (spL (orderR (aboveL l t.length) ab s))])) := by
  have hal := filter_le l t.length
  have hsl := fun xs => orderF_len (aboveL l t.length) xs
  refine spec_of Go.Proofs.Tryz.func29 rfl Go.Proofs.Tryz.ntmps29 rfl hw ?_
  change C _ _ _ _ _ _ _ ⟨[(0, _), (1, _)], []⟩ _
  refine C.regS ?_
  refine L.bxa rfl ?_; intro b3
  refine L.nil ?_
  refine C.regS ?_
  refine L.yl (Y.mv rfl) ?_
  refine L.yl (Y.nck rfl) ?_
  first | refine L.yl (Y.fa0 fl76_1 rfl) ?_ | refine L.yl (Y.fa fl76_1 rfl) ?_ | refine L.yl (Y.fas fl76_1 rfl (by simp; omega)) ?_
  refine L.yl (Y.ld sc72 rfl rfl) ?_
  refine L.callF (Γf := []) go74 rfl (fun w hw hf => he_Above h w) ?_
  rintro _ _ ⟨px, rfl, rfl⟩
  refine L.apc ?_
  refine L.callFW (Γf := [blk px [.pointer (some ⟨h, 0, none⟩)] 72, blk h [.int .u32 base, .pointer (some ⟨q, 0, none⟩), .slice ta t.length tc, .slice (some ⟨rg, 0, none⟩) n n] 112, blk q [.slice a l.length c] 147, own 35 2 a l.length c (spL l)]) go73 rfl (fun w hw hf => slices_Collect _ _ go122 (aboveL l t.length) (by omega) [blk px [.pointer (some ⟨h, 0, none⟩)] 72, blk h [.int .u32 base, .pointer (some ⟨q, 0, none⟩), .slice ta t.length tc, .slice (some ⟨rg, 0, none⟩) n n] 112, blk q [.slice a l.length c] 147, own 35 2 a l.length c (spL l)] [blk h [.int .u32 base, .pointer (some ⟨q, 0, none⟩), .slice ta t.length tc, .slice (some ⟨rg, 0, none⟩) n n] 112, blk q [.slice a l.length c] 147, own 35 2 a l.length c (spL l)] (fun w0 S0 => above_iter w0 S0 px h q base ta tc rg t n a c l hl) w hf) ?_
  rintro _ _ ⟨a14, c14, rfl, rfl⟩
  refine L.apc ?_
  refine L.al (zs := [.slice none 0 0]) zr29 rfl ?_; intro b4
  refine L.st sc29 rfl rfl rfl ?_
  refine L.nil ?_
  refine C.nil0 35 2 ?_
  refine C.regS ?_
  refine L.al (zs := [.slice none 0 0]) zr29 rfl ?_; intro b5
  refine L.nil ?_
  refine C.regS ?_
  refine L.yl (Y.mkf (cv := #[_, _]) rfl) ?_
  refine L.yl (Y.as rfl) ?_
  refine L.nil ?_
  refine C.regS ?_
  refine L.yl (Y.mv rfl) ?_
  refine L.yl (Y.lda (vs := [_, _]) ag35 rfl rfl) ?_
  refine L.callVFW (fv := .func (.func 75) #[] #[.pointer (some ⟨b4, 0, none⟩), .pointer (some ⟨b5, 0, none⟩)]) (Γf := [blk b4 [.slice a14 (aboveL l t.length).length c14] 29, own 35 2 a14 (aboveL l t.length).length c14 (spL (aboveL l t.length)), blk b5 [.slice none 0 0] 29, own 35 2 none 0 0 []]) rfl rfl (fun w hw hf => CallV.of (args := [spV s]) (cap := [.pointer (some ⟨b4, 0, none⟩), .pointer (some ⟨b5, 0, none⟩)]) go75 (or_step b4 b5 a14 none c14 0 (aboveL l t.length) [] (by simp; omega) s w hf)) ?_
  rintro _ _ ⟨rfl, a18, c18, a18', c18', rfl⟩
  refine L.apc ?_
  refine L.nil ?_
  refine C.seq ?_
  refine C.regS ?_
  refine L.yl (Y.mv rfl) ?_
  refine L.yl (Y.nck rfl) ?_
  first | refine L.yl (Y.fa0 fl76_2 rfl) ?_ | refine L.yl (Y.fa fl76_2 rfl) ?_ | refine L.yl (Y.fas fl76_2 rfl (by simp; omega)) ?_
  refine L.yl (Y.ld sc29 rfl rfl) ?_
  refine L.yl (Y.len ⟨_, Go.Proofs.Tryz.underlying29⟩ rfl) ?_
  refine L.yl (Y.mv rfl) ?_
  refine L.nil ?_
  refine C.block ?_
  refine C.loop (σ := Nat × Option Addr × Nat × Option Addr × Nat) (fun (i, x1, y1, x2, y2) => [(0, .pointer (some ⟨r, 0, none⟩)), (4, .pointer (some ⟨b4, 0, none⟩)), (5, .pointer (some ⟨b5, 0, none⟩)), (6, .func (.func 75) #[] #[.pointer (some ⟨b4, 0, none⟩), .pointer (some ⟨b5, 0, none⟩)]), (22, .slice ba ab.length bc), (23, .int .i64 ab.length), (24, .int .i64 i)]) (fun (i, x1, y1, x2, y2) => [blk b4 [.slice x1 ((orderF (aboveL l t.length) (s :: ab.take i)).1).length y1] 29, own 35 2 x1 ((orderF (aboveL l t.length) (s :: ab.take i)).1).length y1 (spL ((orderF (aboveL l t.length) (s :: ab.take i)).1)), blk b5 [.slice x2 ((orderF (aboveL l t.length) (s :: ab.take i)).2).length y2] 29, own 35 2 x2 ((orderF (aboveL l t.length) (s :: ab.take i)).2).length y2 (spL ((orderF (aboveL l t.length) (s :: ab.take i)).2)), blk r [.int .u32 fst, .pointer (some ⟨h, 0, none⟩), .slice ba ab.length bc] 76, blk h [.int .u32 base, .pointer (some ⟨q, 0, none⟩), .slice ta t.length tc, .slice (some ⟨rg, 0, none⟩) n n] 112, blk q [.slice a l.length c] 147, own 35 2 a l.length c (spL l), own 35 2 ba ab.length bc (spL ab)]) (fun (i, x1, y1, x2, y2) => i ≤ ab.length) (fun (i, x1, y1, x2, y2) => ab.length - i) (0, a18, c18, a18', c18') ?_ ?_ ?_ ?_
  · repeat (first | exact trivial | refine ⟨rfl, ?_⟩)
  · show Wk _ [blk b4 [.slice a18 ((ordStep (aboveL l t.length) [] s).1).length c18] 29, own 35 2 a18 ((ordStep (aboveL l t.length) [] s).1).length c18 (spL ((ordStep (aboveL l t.length) [] s).1)), blk b5 [.slice a18' ((ordStep (aboveL l t.length) [] s).2).length c18'] 29, own 35 2 a18' ((ordStep (aboveL l t.length) [] s).2).length c18' (spL ((ordStep (aboveL l t.length) [] s).2)), blk r [.int .u32 fst, .pointer (some ⟨h, 0, none⟩), .slice ba ab.length bc] 76, blk h [.int .u32 base, .pointer (some ⟨q, 0, none⟩), .slice ta t.length tc, .slice (some ⟨rg, 0, none⟩) n n] 112, blk q [.slice a l.length c] 147, own 35 2 a l.length c (spL l), own 35 2 ba ab.length bc (spL ab)]; exact inferInstance
  · exact Nat.zero_le _
  · rintro ⟨i, x1, y1, x2, y2⟩ hI0
    try dsimp only
    try dsimp only
    refine C.regS ?_
    refine L.yl (Y.lss rfl rfl) ?_
    refine L.nil ?_
    refine C.seq ?_
    refine C.condP rfl (fun hc1 => ?_) (fun hc1 => ?_)
    ·
      obtain ⟨x0, hx0⟩ : ∃ u, ab[i]? = some u := ⟨_, List.getElem?_eq_getElem (by omega)⟩
      have htk : (orderF (aboveL l t.length) (s :: ab.take (i + 1))) = ordStep (orderF (aboveL l t.length) (s :: ab.take i)).1 (orderF (aboveL l t.length) (s :: ab.take i)).2 x0 := by
        rw [List.take_add_one, hx0, ← orderF_snoc]; rfl
      refine C.skip ?_
      refine Then.n ?_
      refine C.seq ?_
      refine C.block ?_
      refine C.regS ?_
      refine L.yl (Y.ix slt29 rfl rfl (by rw [spL_length]) (by omega) (by omega)) ?_
      refine L.yl (Y.ldsa (vs := spCs x0) ag35 rfl rfl (by decide) (fun j v hj => by rw [show (((i : Nat) : Int).toNat * 2 + j) = i * 2 + j from rfl, spL_get ab _ j _ hx0 (by have := (List.getElem?_eq_some_iff.1 hj).1; exact this)]; exact hj)) ?_
      refine L.al (zs := [.int .i64 0, .int .i64 0]) zr35 rfl ?_; intro b8
      refine L.sta (vs := [_, _]) ag35 rfl rfl rfl rfl rfl ?_
      refine L.nil ?_
      refine C.reg ?_
      refine L.yl (Y.mv rfl) ?_
      refine L.yl (Y.lda (vs := [_, _]) ag35 rfl rfl) ?_
      refine L.callVFW (fv := .func (.func 75) #[] #[.pointer (some ⟨b4, 0, none⟩), .pointer (some ⟨b5, 0, none⟩)]) (Γf := [blk b4 [.slice x1 (orderF (aboveL l t.length) (s :: ab.take i)).1.length y1] 29, own 35 2 x1 (orderF (aboveL l t.length) (s :: ab.take i)).1.length y1 (spL (orderF (aboveL l t.length) (s :: ab.take i)).1), blk b5 [.slice x2 (orderF (aboveL l t.length) (s :: ab.take i)).2.length y2] 29, own 35 2 x2 (orderF (aboveL l t.length) (s :: ab.take i)).2.length y2 (spL (orderF (aboveL l t.length) (s :: ab.take i)).2)]) rfl rfl (fun w hw hf => CallV.of (args := [spV x0]) (cap := [.pointer (some ⟨b4, 0, none⟩), .pointer (some ⟨b5, 0, none⟩)]) go75 (or_step b4 b5 x1 x2 y1 y2 (orderF (aboveL l t.length) (s :: ab.take i)).1 (orderF (aboveL l t.length) (s :: ab.take i)).2 (by rw [hsl]; omega) x0 w hf)) ?_
      rintro _ _ ⟨rfl, a30, c30, a30', c30', rfl⟩
      refine L.apc ?_
      refine L.nil ?_
      refine InBlo.n ?_
      refine Then.n ?_
      refine C.reg ?_
      first | refine L.yl (Y.add rfl rfl (by omega)) ?_ | refine L.yl (Y.addW rfl rfl) ?_
      refine L.yl (Y.mv rfl) ?_
      refine L.nil ?_
      exact ⟨(i + 1, a30, c30, a30', c30'), (by repeat (first | exact trivial | refine ⟨rfl, ?_⟩ | refine ⟨congrArg some (by simp), ?_⟩ | refine ⟨congrArg some (by simp; omega), ?_⟩)), rfl, (by dsimp only; rw [htk]; exact inferInstance), (by first | omega | (dsimp only; omega)), (by first | omega | (dsimp only; omega))⟩
    ·
      have hsx := hsl (s :: ab.take i)
      refine C.exit ?_
      refine Then.x ?_
      refine Then.x ?_
      refine InBlo.x ?_
      refine Then.n ?_
      refine C.reg ?_
      refine L.yl (Y.mv rfl) ?_
      refine L.yl (Y.ld sc29 rfl rfl) ?_
      refine L.yl (Y.ld sc29 rfl rfl) ?_
      refine L.app elt29 rfl rfl (by rfl) (by rw [spL_length]) (by have := hsl (s :: ab.take i); omega) (by omega) ?_; intro a35 c35
      refine L.yl (Y.nck rfl) ?_
      first | refine L.yl (Y.fa0 fl76_2 rfl) ?_ | refine L.yl (Y.fa fl76_2 rfl) ?_ | refine L.yl (Y.fas fl76_2 rfl (by simp; omega)) ?_
      refine L.st sc29 rfl rfl rfl ?_
      refine L.nil ?_
      refine FnPost.n0 Go.Proofs.Tryz.results29 ?_
      have hit : ab.take i = ab := List.take_of_length_le (by omega)
      rw [hit, ← spL_append, show (orderF (aboveL l t.length) (s :: ab)).2.length + (orderF (aboveL l t.length) (s :: ab)).1.length = (orderR (aboveL l t.length) ab s).length by unfold orderR; rw [List.length_append], show (orderF (aboveL l t.length) (s :: ab)).2 ++ (orderF (aboveL l t.length) (s :: ab)).1 = orderR (aboveL l t.length) ab s from rfl]
      exact ⟨[blk r [.int .u32 fst, .pointer (some ⟨h, 0, none⟩), .slice a35 (orderR (aboveL l t.length) ab s).length c35] 76, blk h [.int .u32 base, .pointer (some ⟨q, 0, none⟩), .slice ta t.length tc, .slice (some ⟨rg, 0, none⟩) n n] 112, blk q [.slice a l.length c] 147, own 35 2 a l.length c (spL l), own 35 2 a35 (orderR (aboveL l t.length) ab s).length c35 (spL (orderR (aboveL l t.length) ab s))], inferInstance, rfl, a35, c35, rfl⟩
end Go.Proofs.YtcbhcdcobgdddaaGreat
set_option maxHeartbeats 1000000
namespace Go.Proofs.YtcbhcdcobgdddaaGreat
open Go Go.X Go.Rep Go.Shelf
theorem go80 : Goes Go.Proofs.Tryz.prog 80 := enters_of Go.Proofs.Tryz.func80 (by kernel_rfl) rfl
theorem zr42 : Zr Go.Proofs.Tryz.prog 42 (.slice none 0 0) := by unfold Zr; kernel_rfl
theorem du_step (b7 bi : Nat) (isn : Int) (a : Option Addr) (c : Nat) (l : List (Int × Int)) (hl : l.length ≤ 4) (x : Sp) (w : World) (hw : X.Holds w [blk b7 [.slice a l.length c] 42, own 51 2 a l.length c (bkL l), blk bi [.int .u32 isn] 22]) : Calls Go.Proofs.Tryz.prog 80 #[spV x, .pointer (some ⟨b7, 0, none⟩), .pointer (some ⟨bi, 0, none⟩)] w (Post w [blk b7 [.slice a l.length c] 42, own 51 2 a l.length c (bkL l), blk bi [.int .u32 isn] 22] (RW fun r Γ => r = .tuple #[] ∧ ∃ a c, Γ = [blk b7 [.slice a (bkStep isn l x).length c] 42, own 51 2 a (bkStep isn l x).length c (bkL (bkStep isn l x)), blk bi [.int .u32 isn] 22])) := by
  refine spec_of Go.Proofs.Tryz.func80 rfl Go.Proofs.Tryz.ntmps80 rfl hw ?_
  change C _ _ _ _ _ _ _ ⟨[(0, _), (1, _), (2, _)], []⟩ _
  refine C.regS ?_
  refine L.bxa rfl ?_; intro b3
  refine L.nil ?_
  refine C.test (0 < lenS x ∧ l.length < 4) ?_ (fun hc1 => ?_) (fun hc1 => ?_)
  ·
    refine L.yl (Y.lda (vs := [_, _]) ag35 rfl rfl) ?_
    refine L.callP go70 rfl (fun w hw => span_Len _ _ w) ?_
    refine L.yl (Y.gtr rfl rfl) ?_
    refine L.yl (Y.mv rfl) ?_
    first | refine L.gsplit (i := 7) rfl (fun hg7 => ?_) (fun hg7 => ?_) | refine L.gsplitB (i := 7) rfl (fun hg7 => ?_) (fun hg7 => ?_)
    ·
      refine L.gOn (t := 7) rfl rfl ?_
      refine L.yl (Y.ld sc42 rfl rfl) ?_
      refine L.gOn (t := 7) rfl rfl ?_
      refine L.yl (Y.len ⟨_, Go.Proofs.Tryz.underlying42⟩ rfl) ?_
      refine L.gOn (t := 7) rfl rfl ?_
      refine L.yl (Y.lss rfl rfl) ?_
      refine L.yl (Y.pickT rfl rfl) ?_
      refine L.nil ?_
      exact ⟨_, rfl, by first | (simp [*]; done) | (constructor <;> intro hh <;> simp_all <;> omega), (by repeat (first | exact Inc.refl _ | refine Inc.cons rfl ?_)), rfl, rfl⟩
    ·
      refine L.gOff (t := 7) rfl rfl rfl ?_
      refine L.gOff (t := 7) rfl rfl rfl ?_
      refine L.gOff (t := 7) rfl rfl rfl ?_
      refine L.yl (Y.pickF rfl rfl) ?_
      refine L.nil ?_
      exact ⟨_, rfl, by first | (simp [*]; done) | (constructor <;> intro hh <;> simp_all <;> omega), (by repeat (first | exact Inc.refl _ | refine Inc.cons rfl ?_)), rfl, rfl⟩
  ·
    refine C.drwF (Δ := [own 51 2 a l.length c (bkL l)]) (.y 0 (.y 1 (.y 2 (.y 3 (.y 6 (.y 7 (.y 8 (.h 4 (.y 5 (.h 9 (.y 10 (.y 11 (.h 12 (.h 13 (.last 14))))))))))))))) mixo (by kernel_rfl) ?_
    refine V.yl rfl (Y.ld sc42 rfl rfl) ?_
    refine V.yl rfl (Y.ld sc22 rfl rfl) ?_
    first | refine V.yl rfl (Y.fa0 fl35_0 rfl) ?_ | refine V.yl rfl (Y.fa fl35_0 rfl) ?_ | refine V.yl rfl (Y.fas fl35_0 rfl (by simp; omega)) ?_
    refine V.yl rfl (Y.ld sc3 rfl rfl) ?_
    refine V.yl rfl (Y.ld sc22 rfl rfl) ?_
    first | refine V.yl rfl (Y.fa0 fl35_1 rfl) ?_ | refine V.yl rfl (Y.fa fl35_1 rfl) ?_ | refine V.yl rfl (Y.fas fl35_1 rfl (by simp; omega)) ?_
    refine V.yl rfl (Y.ld sc3 rfl rfl) ?_
    refine V.hv rfl ?_
    refine L.apc ?_
    refine L.callP go32 rfl (fun w hw => seq_Wrap _ w) ?_
    refine L.nil ?_
    refine V.on ?_
    refine V.yl rfl (Y.addW rfl rfl) ?_
    refine V.hv rfl ?_
    refine L.apc ?_
    refine L.callP go32 rfl (fun w hw => seq_Wrap _ w) ?_
    refine L.nil ?_
    refine V.on ?_
    refine V.yl rfl (Y.addW rfl rfl) ?_
    refine V.yl rfl (Y.bdL (cs := [_, _]) zr51 bd51 rfl rfl rfl) ?_
    refine V.hv rfl ?_
    refine L.apc ?_
    refine L.bsA (vs := [_, _]) elt42 rfl rfl (by decide) ?_; intro b24
    refine L.nil ?_
    refine V.on ?_
    refine V.hv rfl ?_
    refine L.apc ?_
    refine L.app elt42 rfl rfl (by rfl) (by first | (simp; done) | (simp [byteL]; done)) (by omega) (by omega) ?_; intro a25 c25
    refine L.nil ?_
    refine V.on ?_
    refine V.ls rfl ?_
    refine L.apc ?_
    refine L.st sc42 rfl rfl rfl ?_
    refine L.nil ?_
    refine FnPost.n0 Go.Proofs.Tryz.results80 ?_
    rw [bkStep_yes hc1, show l.length + 1 = (l ++ [bkOf isn x]).length by simp, show bkL l ++ [Value.int .u32 (IntKind.u32.wrap (isn + wrap32 x.1)), Value.int .u32 (IntKind.u32.wrap (isn + wrap32 x.2))] = bkL (l ++ [bkOf isn x]) by rw [bkL_append]; rfl]
    exact ⟨[blk b7 [.slice a25 (l ++ [bkOf isn x]).length c25] 42, own 51 2 a25 (l ++ [bkOf isn x]).length c25 (bkL (l ++ [bkOf isn x])), blk bi [.int .u32 isn] 22], inferInstance, rfl, a25, c25, rfl⟩
  ·
    refine C.skip ?_
    refine FnPost.n0 Go.Proofs.Tryz.results80 ?_
    rw [bkStep_no hc1]
    exact ⟨[blk b7 [.slice a l.length c] 42, own 51 2 a l.length c (bkL l), blk bi [.int .u32 isn] 22], inferInstance, rfl, a, c, rfl⟩
theorem du_Blocks (isn : Int) (d : Sp) (ba : Option Addr) (bc : Nat) (ab : List Sp) (hab : ab.length ≤ 1048576) (w : World) (h : Rs w ba (spL ab)) : Calls Go.Proofs.Tryz.prog 30 #[.int .u32 isn, spV d, .slice ba ab.length bc] w (Post w [] (RW fun r Γ => ∃ a c, r = .slice a (blocksR isn (d :: ab)).length c ∧ Γ = [own 51 2 a (blocksR isn (d :: ab)).length c (bkL (blocksR isn (d :: ab)))])) := by
  have hrd : ∀ Γ, Rd w (fps []) Γ ba (spL ab) := fun Γ => Rd.old0 h Γ
  refine spec_of Go.Proofs.Tryz.func30 rfl Go.Proofs.Tryz.ntmps30 rfl (Holds.nil w) ?_
  change C _ _ _ _ _ _ _ ⟨[(0, _), (1, _), (2, _)], []⟩ _
  refine C.regS ?_
  refine L.bx rfl rfl ?_; intro b3
  refine L.bxa rfl ?_; intro b4
  refine L.yl (Y.as rfl) ?_
  refine L.nil ?_
  refine C.nil0 51 2 ?_
  refine C.regS ?_
  refine L.al (zs := [.slice none 0 0]) zr42 rfl ?_; intro b7
  refine L.nil ?_
  refine C.regS ?_
  refine L.yl (Y.mkf (cv := #[_, _]) rfl) ?_
  refine L.yl (Y.as rfl) ?_
  refine L.nil ?_
  refine C.regS ?_
  refine L.yl (Y.mv rfl) ?_
  refine L.yl (Y.lda (vs := [_, _]) ag35 rfl rfl) ?_
  refine L.callVFW (fv := .func (.func 80) #[] #[.pointer (some ⟨b7, 0, none⟩), .pointer (some ⟨b3, 0, none⟩)]) (Γf := [blk b7 [.slice none 0 0] 42, own 51 2 none 0 0 [], blk b3 [.int .u32 isn] 22]) rfl rfl (fun w hw hf => CallV.of (args := [spV d]) (cap := [.pointer (some ⟨b7, 0, none⟩), .pointer (some ⟨b3, 0, none⟩)]) go80 (du_step b7 b3 isn none 0 [] (by simp) d w hf)) ?_
  rintro _ _ ⟨rfl, a14, c14, rfl⟩
  refine L.apc ?_
  refine L.nil ?_
  refine C.seq ?_
  refine C.regS ?_
  refine L.yl (Y.mv rfl) ?_
  refine L.yl (Y.len ⟨_, Go.Proofs.Tryz.underlying29⟩ rfl) ?_
  refine L.yl (Y.mv rfl) ?_
  refine L.nil ?_
  refine C.block ?_
  refine C.loop (σ := Nat × Option Addr × Nat) (fun (i, a, c) => [(2, .slice ba ab.length bc), (7, .pointer (some ⟨b7, 0, none⟩)), (8, .func (.func 80) #[] #[.pointer (some ⟨b7, 0, none⟩), .pointer (some ⟨b3, 0, none⟩)]), (15, .slice ba ab.length bc), (16, .int .i64 ab.length), (17, .int .i64 i)]) (fun (i, a, c) => [blk b7 [.slice a ((blocksR isn (d :: ab.take i))).length c] 42, own 51 2 a ((blocksR isn (d :: ab.take i))).length c (bkL ((blocksR isn (d :: ab.take i)))), blk b3 [.int .u32 isn] 22]) (fun (i, a, c) => i ≤ ab.length) (fun (i, a, c) => ab.length - i) (0, a14, c14) ?_ ?_ ?_ ?_
  · repeat (first | exact trivial | refine ⟨rfl, ?_⟩)
  · show Wk _ [blk b7 [.slice a14 (bkStep isn [] d).length c14] 42, own 51 2 a14 (bkStep isn [] d).length c14 (bkL (bkStep isn [] d)), blk b3 [.int .u32 isn] 22]; exact inferInstance
  · exact Nat.zero_le _
  · rintro ⟨i, a, c⟩ hI0
    try dsimp only
    try dsimp only
    refine C.regS ?_
    refine L.yl (Y.lss rfl rfl) ?_
    refine L.nil ?_
    refine C.seq ?_
    refine C.condP rfl (fun hc1 => ?_) (fun hc1 => ?_)
    ·
      obtain ⟨x0, hx0⟩ : ∃ u, ab[i]? = some u := ⟨_, List.getElem?_eq_getElem (by omega)⟩
      have htk : (blocksR isn (d :: ab.take (i + 1))) = bkStep isn (blocksR isn (d :: ab.take i)) x0 := by
        rw [List.take_add_one, hx0, ← blocksR_snoc]; rfl
      refine C.skip ?_
      refine Then.n ?_
      refine C.seq ?_
      refine C.block ?_
      refine C.regS ?_
      refine L.yl (Y.ix slt29 rfl rfl (by rw [spL_length]) (by omega) (by omega)) ?_
      refine L.yl (Y.ldsa (vs := spCs x0) ag35 rfl rfl (by decide) (fun j v hj => by rw [show (((i : Nat) : Int).toNat * 2 + j) = i * 2 + j from rfl, spL_get ab _ j _ hx0 (by have := (List.getElem?_eq_some_iff.1 hj).1; exact this)]; exact hj)) ?_
      refine L.al (zs := [.int .i64 0, .int .i64 0]) zr35 rfl ?_; intro b10
      refine L.sta (vs := [_, _]) ag35 rfl rfl rfl rfl rfl ?_
      refine L.nil ?_
      refine C.reg ?_
      refine L.yl (Y.mv rfl) ?_
      refine L.yl (Y.lda (vs := [_, _]) ag35 rfl rfl) ?_
      refine L.callVFW (fv := .func (.func 80) #[] #[.pointer (some ⟨b7, 0, none⟩), .pointer (some ⟨b3, 0, none⟩)]) (Γf := [blk b7 [.slice a ((blocksR isn (d :: ab.take i))).length c] 42, own 51 2 a ((blocksR isn (d :: ab.take i))).length c (bkL ((blocksR isn (d :: ab.take i)))), blk b3 [.int .u32 isn] 22]) rfl rfl (fun w hw hf => CallV.of (args := [spV x0]) (cap := [.pointer (some ⟨b7, 0, none⟩), .pointer (some ⟨b3, 0, none⟩)]) go80 (du_step b7 b3 isn a c (blocksR isn (d :: ab.take i)) (blocksR_len _ _) x0 w hf)) ?_
      rintro _ _ ⟨rfl, a23, c23, rfl⟩
      refine L.apc ?_
      refine L.nil ?_
      refine InBlo.n ?_
      refine Then.n ?_
      refine C.reg ?_
      first | refine L.yl (Y.add rfl rfl (by omega)) ?_ | refine L.yl (Y.addW rfl rfl) ?_
      refine L.yl (Y.mv rfl) ?_
      refine L.nil ?_
      exact ⟨(i + 1, a23, c23), (by repeat (first | exact trivial | refine ⟨rfl, ?_⟩ | refine ⟨congrArg some (by simp), ?_⟩ | refine ⟨congrArg some (by simp; omega), ?_⟩)), rfl, (by dsimp only; rw [htk]; exact inferInstance), (by first | omega | (dsimp only; omega)), (by first | omega | (dsimp only; omega))⟩
    ·
      have hit : ab.take i = ab := List.take_of_length_le (by omega)
      rw [hit]
      refine C.exit ?_
      refine Then.x ?_
      refine Then.x ?_
      refine InBlo.x ?_
      refine Then.n ?_
      refine C.regS ?_
      refine L.yl (Y.ld sc42 rfl rfl) ?_
      refine L.yl (Y.as rfl) ?_
      refine L.nil ?_
      refine C.ret ?_
      refine FnPost.r1 Go.Proofs.Tryz.results30 rfl ?_
      exact ⟨[own 51 2 a (blocksR isn (d :: ab)).length c (bkL (blocksR isn (d :: ab)))], inferInstance, a, c, rfl, rfl⟩
end Go.Proofs.YtcbhcdcobgdddaaGreat
