/- Lemmas for the claim: a calculus of steps over the given program, plain laws, and the contracts of its functions. -/
import Derived.Test.YtcbhcdcobgdddaaGreatProg
import Derived.Shelf.Abstract
import Derived.Test.YtcbhcdcobgdddaaGreatX4
set_option linter.unusedSimpArgs false
set_option linter.unusedVariables false
set_option maxHeartbeats 1000000
namespace Go.Proofs.YtcbhcdcobgdddaaGreat
open Go Go.X Go.Rep Go.Shelf
theorem bd33 : ∃ fs, Go.Proofs.Tryz.prog.underlying 33 = some (.struct fs) ∧ fs.toList.mapM (fun f => (Go.Proofs.Tryz.prog.info? f.type).map fun i => (f.offset, i.size)) = some [(0, 1), (1, 1), (2, 1), (3, 1), (4, 1)] := ⟨_, Go.Proofs.Tryz.underlying33, by kernel_rfl⟩
theorem go10 : Goes Go.Proofs.Tryz.prog 10 := enters_of Go.Proofs.Tryz.func10 (by kernel_rfl) rfl
theorem go14 : Goes Go.Proofs.Tryz.prog 14 := enters_of Go.Proofs.Tryz.func14 (by kernel_rfl) rfl
theorem go7 : Goes Go.Proofs.Tryz.prog 7 := enters_of Go.Proofs.Tryz.func7 (by kernel_rfl) rfl
theorem go9 : Goes Go.Proofs.Tryz.prog 9 := enters_of Go.Proofs.Tryz.func9 (by kernel_rfl) rfl
theorem zr33 : Zr Go.Proofs.Tryz.prog 33 (.agg #[.bool false, .int .u32 0, .bool false, .int .u32 0, .slice none 0 0]) := by unfold Zr; kernel_rfl
def kp (n : Int) : Pc := ⟨false, n, false, 0, List.replicate 10 0⟩
def kB (n : Int) : List UInt8 := encS (pcSeg (kp n))
def kR : List UInt8 := List.replicate 100 0
theorem kd1 : decT (kB 10) = (pcSeg (kp 10), 0) := by kernel_rfl
theorem kd2 : decT (kB 30) = (pcSeg (kp 30), 0) := by kernel_rfl
theorem kp1 : placeR 0 0 100 10 10 = ((10, 20), 0) := by kernel_rfl
theorem kp2 : placeR 0 0 100 30 10 = ((30, 40), 0) := by kernel_rfl
theorem kg1 : gapsL [] (10, 20) = [(10, 20)] := by kernel_rfl
theorem kg2 : gapsL [(10, 20)] (30, 40) = [(30, 40)] := by kernel_rfl
theorem kl1 : loI [] (10, 20) = 0 := by kernel_rfl
theorem kh1 : hiI [] (10, 20) = 0 := by kernel_rfl
theorem kl2 : loI [(10, 20)] (30, 40) = 1 := by kernel_rfl
theorem kh2 : hiI [(10, 20)] (30, 40) = 1 := by kernel_rfl
theorem kn1 : gapR (addR [] (10, 20)).1 0 = 0 := by kernel_rfl
theorem kn2 : gapR (addR [(10, 20)] (30, 40)).1 0 = 0 := by kernel_rfl
def kO1 : List UInt8 := (replyT 0 0 [] [] kR [] (kB 10)).out
theorem kx1 : replyT 0 0 [] [] kR [] (kB 10) = ⟨[(10, 20)], [], kR, [(10, 20)], kO1, 0⟩ := by kernel_rfl
def kO2 : List UInt8 := (replyT 0 0 [(10, 20)] [] kR [(10, 20)] (kB 30)).out
theorem kx2 : replyT 0 0 [(10, 20)] [] kR [(10, 20)] (kB 30) = ⟨[(10, 20), (30, 40)], [], kR, [(30, 40), (10, 20)], kO2, 0⟩ := by kernel_rfl
theorem kd3 : decT kO2 = ((⟨2, 0, ⟨0, false, false, 0, 0, false, 0, [(30, 40), (10, 20)]⟩, []⟩ : Seg), 0) := by kernel_rfl
theorem klB (n : Int) (h : n = 10 ∨ n = 30) : (kB n).length ≤ 4096 := by
  rcases h with rfl | rfl <;> exact Nat.le_of_ble_eq_true (by kernel_rfl)
theorem klO : kO2.length ≤ 4096 := Nat.le_of_ble_eq_true (by kernel_rfl)
theorem takeOk1 : TakeOk 0 [] [] 100 10 10 := fun s hs => by
  rw [show placeR 0 ([] : List UInt8).length 100 10 10 = ((10, 20), 0) from kp1] at hs
  injection hs with hs _; subst hs
  rw [kg1, kl1, kh1, kn1]
  exact ⟨fun g hg => by simp at hg; subst hg; simp, Nat.le_refl _, repOk_end [] (by simp) _, by omega⟩
theorem takeOk2 : TakeOk 0 [(10, 20)] [] 100 30 10 := fun s hs => by
  rw [show placeR 0 ([] : List UInt8).length 100 30 10 = ((30, 40), 0) from kp2] at hs
  injection hs with hs _; subst hs
  rw [kg2, kl2, kh2, kn2]
  exact ⟨fun g hg => by simp at hg; subst hg; simp, Nat.le_refl _, repOk_end [(10, 20)] (by simp) _, by omega⟩
theorem intBk : IntSt Go.Proofs.Tryz.prog 51 2 := ⟨⟨_, Go.Proofs.Tryz.underlying51, by kernel_rfl, fun f hf => by
  simp at hf
  rcases hf with rfl | rfl
  all_goals exact ⟨by kernel_rfl, _, Go.Proofs.Tryz.underlying22⟩⟩, by kernel_rfl, by kernel_rfl⟩
theorem intsB (a b c d : Int) : ∀ i, i < 2 → ∃ k x y, ([.int .u32 a, .int .u32 b] : List Value)[i]? = some (.int k x) ∧ ([.int .u32 c, .int .u32 d] : List Value)[i]? = some (.int k y) := fun i hi => by
  match i, hi with
  | 0, _ | 1, _ => exact ⟨_, _, _, rfl, rfl⟩
theorem l_known (w : World) : Calls Go.Proofs.Tryz.prog 6 #[] w (Post w [] (RW fun r Γ => r = .bool true ∧ Γ = [])) := by
  refine spec_of Go.Proofs.Tryz.func6 rfl Go.Proofs.Tryz.ntmps6 rfl (Holds.nil w) ?_
  change C _ _ _ _ _ _ _ ⟨[], []⟩ _
  refine C.regS ?_
  refine L.yl (Y.as rfl) ?_
  refine L.nil ?_
  refine C.regS ?_
  refine L.callFW (Γf := []) go7 rfl (fun w hw hf => re_New 0 100 w) ?_
  intro _ _ hR
  rw [if_neg (by decide)] at hR
  obtain ⟨r, h, q, rg, rfl, rfl⟩ := hR
  refine L.apc ?_
  rw [show ((100 : Int)).toNat = 100 from rfl, show List.replicate 100 (0 : UInt8) = kR from rfl]
  refine L.yl (Y.mv rfl) ?_
  refine L.yl (Y.extL rfl rfl) ?_
  refine L.yl (Y.extL rfl rfl) ?_
  refine L.yl (Y.as rfl) ?_
  refine L.yl (Y.as rfl) ?_
  refine L.nil ?_
  refine C.seq ?_
  refine C.regS ?_
  refine L.yl (Y.mv rfl) ?_
  refine L.yl (Y.nei rfl rfl) ?_
  refine L.nil ?_
  refine C.condF rfl (by decide) ?_
  refine C.skip ?_
  refine Then.n ?_
  refine C.nil0 35 2 ?_
  refine C.nil0 35 2 ?_
  refine C.nil0 5 1 ?_
  refine C.regS ?_
  refine L.yl (Y.mv rfl) ?_
  refine L.mks (q := 10) Go.Proofs.Tryz.underlying31 mk5 rfl rfl rfl (by omega) (by omega) ?_; intro b14
  rw [show List.replicate 10 (Value.int .u8 0) = byteL (List.replicate 10 0) from rfl]
  refine L.yl (Y.bdL (cs := [_, _, _, _, _]) zr33 bd33 rfl rfl rfl) ?_
  refine L.callFW (Γf := []) go10 rfl (fun w hw hf => l_raw (kp 10) (some ⟨b14, 0, none⟩) 10 ⟨by decide, by decide⟩ w (own_rs (hw.holds.on (own 5 1 (some ⟨b14, 0, none⟩) 10 10 (byteL (List.replicate 10 0))) (by simp)))) ?_
  intro _ _ hR
  rw [if_neg (show ¬ (kp 10).raw = true from fun h => by cases h)] at hR
  obtain ⟨a16, c16, rfl, rfl⟩ := hR
  refine L.apc ?_
  rw [show encS (pcSeg (kp 10)) = kB 10 from rfl]
  refine L.callFW (Γf := [blk r [.int .u32 0, .pointer (some ⟨h, 0, none⟩), .slice none 0 0] 76, own 35 2 none 0 0 [], blk h [.int .u32 0, .pointer (some ⟨q, 0, none⟩), .slice none 0 0, .slice (some ⟨rg, 0, none⟩) 100 100] 112, blk q [.slice none 0 0] 147, own 35 2 none 0 0 [], own 5 1 none 0 0 [], own 5 1 (some ⟨rg, 0, none⟩) 100 100 (byteL kR)]) go9 rfl (fun w hw hf => re_Take r 0 none 0 [] (by simp) h q 0 none 0 rg [] kR (kB 10) 100 (by simp [kR]) none 0 [] (by simp) (by simp) (by omega) (by omega) a16 c16 (by have := klB 10 (by omega); omega) (fun S hS _ => by rw [kd1] at hS; injection hS with hS _; subst hS; exact takeOk1) w hf (by have := hw.rk_own (Γf := [blk r [.int .u32 0, .pointer (some ⟨h, 0, none⟩), .slice none 0 0] 76, own 35 2 none 0 0 [], blk h [.int .u32 0, .pointer (some ⟨q, 0, none⟩), .slice none 0 0, .slice (some ⟨rg, 0, none⟩) 100 100] 112, blk q [.slice none 0 0] 147, own 35 2 none 0 0 [], own 5 1 none 0 0 [], own 5 1 (some ⟨rg, 0, none⟩) 100 100 (byteL kR)]) (Γr := _) (a := a16) (t := 5) (sz := 1) (n := (kB 10).length) (c := c16) (xs := byteL (kB 10)) inferInstance inferInstance; exact this)) ?_
  rintro _ _ ⟨o1, oc1, rfl, b0, bcc, ta, tc, la, lc, rfl⟩
  rw [kx1]
  dsimp only
  refine L.apc ?_
  refine L.nil ?_
  refine C.regS ?_
  refine L.yl (Y.mv rfl) ?_
  refine L.mks (q := 10) Go.Proofs.Tryz.underlying31 mk5 rfl rfl rfl (by omega) (by omega) ?_; intro b20
  rw [show List.replicate 10 (Value.int .u8 0) = byteL (List.replicate 10 0) from rfl]
  refine L.yl (Y.bdL (cs := [_, _, _, _, _]) zr33 bd33 rfl rfl rfl) ?_
  refine L.callFW (Γf := []) go10 rfl (fun w hw hf => l_raw (kp 30) (some ⟨b20, 0, none⟩) 10 ⟨by decide, by decide⟩ w (own_rs (hw.holds.on (own 5 1 (some ⟨b20, 0, none⟩) 10 10 (byteL (List.replicate 10 0))) (by simp)))) ?_
  intro _ _ hR
  rw [if_neg (show ¬ (kp 30).raw = true from fun h => by cases h)] at hR
  obtain ⟨a22, c22, rfl, rfl⟩ := hR
  refine L.apc ?_
  rw [show encS (pcSeg (kp 30)) = kB 30 from rfl]
  refine L.callFW (Γf := [blk r [.int .u32 0, .pointer (some ⟨h, 0, none⟩), .slice b0 [(10, 20)].length bcc] 76, own 35 2 b0 [(10, 20)].length bcc (spL [(10, 20)]), blk h [.int .u32 0, .pointer (some ⟨q, 0, none⟩), .slice ta ([] : List UInt8).length tc, .slice (some ⟨rg, 0, none⟩) 100 100] 112, blk q [.slice la [(10, 20)].length lc] 147, own 35 2 la [(10, 20)].length lc (spL [(10, 20)]), own 5 1 ta ([] : List UInt8).length tc (byteL []), own 5 1 (some ⟨rg, 0, none⟩) 100 100 (byteL kR)]) go9 rfl (fun w hw hf => re_Take r 0 b0 bcc [(10, 20)] (by simp) h q 0 ta tc rg [] kR (kB 30) 100 (by simp [kR]) la lc [(10, 20)] (by simp) (by simp) (by omega) (by omega) a22 c22 (by have := klB 30 (by omega); omega) (fun S hS _ => by rw [kd2] at hS; injection hS with hS _; subst hS; exact takeOk2) w hf (by have := hw.rk_own (Γf := [blk r [.int .u32 0, .pointer (some ⟨h, 0, none⟩), .slice b0 [(10, 20)].length bcc] 76, own 35 2 b0 [(10, 20)].length bcc (spL [(10, 20)]), blk h [.int .u32 0, .pointer (some ⟨q, 0, none⟩), .slice ta ([] : List UInt8).length tc, .slice (some ⟨rg, 0, none⟩) 100 100] 112, blk q [.slice la [(10, 20)].length lc] 147, own 35 2 la [(10, 20)].length lc (spL [(10, 20)]), own 5 1 ta ([] : List UInt8).length tc (byteL []), own 5 1 (some ⟨rg, 0, none⟩) 100 100 (byteL kR)]) (Γr := _) (a := a22) (t := 5) (sz := 1) (n := (kB 30).length) (c := c22) (xs := byteL (kB 30)) inferInstance inferInstance; exact this)) ?_
  rintro _ _ ⟨o2, oc2, rfl, b1, bcd, ta2, tc2, la2, lc2, rfl⟩
  rw [kx2]
  dsimp only
  refine L.apc ?_
  refine L.yl (Y.mv rfl) ?_
  refine L.yl (Y.extL rfl rfl) ?_
  refine L.yl (Y.extL rfl rfl) ?_
  refine L.yl (Y.as rfl) ?_
  refine L.yl (Y.as rfl) ?_
  refine L.nil ?_
  refine C.fact (p := kO2.length ≤ oc2 ∧ oc2 ≤ 9223372036854775807) (fun w hw => ownB_le (hw.holds.on (own 5 1 o2 kO2.length oc2 (byteL kO2)) (by simp))) (fun hoc => ?_)
  refine C.regS ?_
  refine L.yl (Y.mv rfl) ?_
  refine L.callFW (Γf := []) go14 rfl (fun w hw hf => rf_Decode o2 kO2 oc2 (by have := klO; omega) hoc.1 hoc.2 w (own_rs (hw.holds.on (own 5 1 o2 kO2.length oc2 (byteL kO2)) (by simp)))) ?_
  rintro _ _ ⟨da, dc, ea, ec, rfl, rfl⟩
  rw [kd3]
  dsimp only
  refine L.apc ?_
  refine L.yl (Y.mv rfl) ?_
  refine L.yl (Y.extL rfl rfl) ?_
  refine L.yl (Y.extL rfl rfl) ?_
  refine L.al (zs := [.int .i64 0, .int .u32 0, .int .i64 0, .bool false, .bool false, .int .u32 0, .int .u32 0, .bool false, .int .i64 0, .slice none 0 0, .slice none 0 0]) zr46 rfl ?_; intro b5
  refine L.sta (vs := [_, _, _, _, _, _, _, _, _, _, _]) ag46 rfl rfl rfl rfl rfl ?_
  refine L.yl (Y.as rfl) ?_
  refine L.nil ?_
  refine C.regS ?_
  refine L.yl (Y.mv rfl) ?_
  refine L.yl (Y.eqi rfl rfl) ?_
  rw [show decide ((0 : Int) = 0) = true from rfl]
  refine L.yl (Y.mv rfl) ?_
  refine L.gOn (t := 33) rfl rfl ?_
  refine L.yl (Y.mv rfl) ?_
  refine L.gOn (t := 33) rfl rfl ?_
  refine L.yl (Y.eqi rfl rfl) ?_
  rw [show decide ((0 : Int) = 0) = true from rfl]
  refine L.yl (Y.pickT rfl rfl) ?_
  refine L.yl (Y.mv rfl) ?_
  refine L.gOn (t := 37) rfl rfl ?_
  first | refine L.yl (Y.fa0 fl46_1 rfl) ?_ | refine L.yl (Y.fa fl46_1 rfl) ?_ | refine L.yl (Y.fas fl46_1 rfl (by simp; omega)) ?_
  refine L.gOn (t := 37) rfl rfl ?_
  refine L.yl (Y.ld sc22 rfl rfl) ?_
  refine L.gOn (t := 37) rfl rfl ?_
  refine L.yl (Y.eqi rfl rfl) ?_
  rw [show decide ((0 : Int) = 0) = true from rfl]
  refine L.yl (Y.pickT rfl rfl) ?_
  refine L.yl (Y.mv rfl) ?_
  refine L.gOn (t := 42) rfl rfl ?_
  first | refine L.yl (Y.fa0 fl46_2 rfl) ?_ | refine L.yl (Y.fa fl46_2 rfl) ?_ | refine L.yl (Y.fas fl46_2 rfl (by simp; omega)) ?_
  refine L.gOn (t := 42) rfl rfl ?_
  first | refine L.yl (Y.fa0 fl44_7 rfl) ?_ | refine L.yl (Y.fa fl44_7 rfl) ?_ | refine L.yl (Y.fas fl44_7 rfl (by simp; omega)) ?_
  refine L.gOn (t := 42) rfl rfl ?_
  refine L.yl (Y.ld sc42 rfl rfl) ?_
  refine L.gOn (t := 42) rfl rfl ?_
  refine L.yl (Y.len ⟨_, Go.Proofs.Tryz.underlying42⟩ rfl) ?_
  refine L.gOn (t := 42) rfl rfl ?_
  refine L.yl (Y.eqi rfl rfl) ?_
  rw [show decide ((([(30, 40), (10, 20)] : List (Int × Int)).length : Int) = 2) = true from rfl]
  refine L.yl (Y.pickT rfl rfl) ?_
  refine L.yl (Y.mv rfl) ?_
  refine L.gOn (t := 49) rfl rfl ?_
  first | refine L.yl (Y.fa0 fl46_2 rfl) ?_ | refine L.yl (Y.fa fl46_2 rfl) ?_ | refine L.yl (Y.fas fl46_2 rfl (by simp; omega)) ?_
  refine L.gOn (t := 49) rfl rfl ?_
  first | refine L.yl (Y.fa0 fl44_7 rfl) ?_ | refine L.yl (Y.fa fl44_7 rfl) ?_ | refine L.yl (Y.fas fl44_7 rfl (by simp; omega)) ?_
  refine L.gOn (t := 49) rfl rfl ?_
  refine L.yl (Y.ld sc42 rfl rfl) ?_
  refine L.gOn (t := 49) rfl rfl ?_
  refine L.yl (Y.ix slt42 rfl rfl (by rw [bkL_length]) (by decide) (by decide)) ?_
  refine L.gOn (t := 49) rfl rfl ?_
  refine L.yl (Y.ldsa (vs := [.int .u32 30, .int .u32 40]) ag51 rfl rfl (by decide) (fun j v hj => by rw [show ((0 : Int).toNat * 2 + j) = 0 * 2 + j from rfl, bkL_get _ 0 j (30, 40) rfl (by have := (List.getElem?_eq_some_iff.1 hj).1; exact this)]; exact hj)) ?_
  refine L.gOn (t := 49) rfl rfl ?_
  refine L.yl (Y.bdL (cs := [_, _]) zr51 bd51 rfl rfl rfl) ?_
  refine L.gOn (t := 49) rfl rfl ?_
  refine L.eqSt intBk rfl rfl rfl rfl (intsB _ _ _ _) (fun b hb => ?_)
  obtain rfl : b = true := hb.2 rfl
  refine L.yl (Y.pickT rfl rfl) ?_
  refine L.yl (Y.as rfl) ?_
  refine L.nil ?_
  refine C.ret ?_
  refine FnPost.r1 Go.Proofs.Tryz.results6 rfl ?_
  exact ⟨[], inferInstance, rfl, rfl⟩
end Go.Proofs.YtcbhcdcobgdddaaGreat
set_option maxHeartbeats 1000000
namespace Go.Proofs.YtcbhcdcobgdddaaGreat
open Go Go.X Go.Rep Go.Shelf
theorem ag33 : Ag Go.Proofs.Tryz.prog 33 5 := ⟨_, Go.Proofs.Tryz.underlying33, rfl, by kernel_rfl⟩
theorem go22 : Goes Go.Proofs.Tryz.prog 22 := enters_of Go.Proofs.Tryz.func22 (by kernel_rfl) rfl
theorem go23 : Goes Go.Proofs.Tryz.prog 23 := enters_of Go.Proofs.Tryz.func23 (by kernel_rfl) rfl
theorem go24 : Goes Go.Proofs.Tryz.prog 24 := enters_of Go.Proofs.Tryz.func24 (by kernel_rfl) rfl
theorem go6 : Goes Go.Proofs.Tryz.prog 6 := enters_of Go.Proofs.Tryz.func6 (by kernel_rfl) rfl
theorem go8 : Goes Go.Proofs.Tryz.prog 8 := enters_of Go.Proofs.Tryz.func8 (by kernel_rfl) rfl
theorem l_ReplyNone (p : Pc) (a : Option Addr) (c : Nat) (hp : PcT p) (w : World) (h : Rs w a (byteL p.body)) : Calls Go.Proofs.Tryz.prog 5 #[.agg (pcCs p a c).toArray] w (Post w [] (RW fun r Γ => r = .bool true ∧ Γ = [])) := by
  have hrd : ∀ Γ, Rd w (fps []) Γ a (byteL p.body) := fun Γ => Rd.old0 h Γ
  refine spec_of Go.Proofs.Tryz.func5 rfl Go.Proofs.Tryz.ntmps5 rfl (Holds.nil w) ?_
  change C _ _ _ _ _ _ _ ⟨[(0, _)], []⟩ _
  refine C.regS ?_
  refine L.bxa rfl ?_; intro b1
  refine L.yl (Y.as rfl) ?_
  refine L.nil ?_
  refine C.seq ?_
  refine C.regS ?_
  refine L.callFW (Γf := []) go6 rfl (fun w hw hf => l_known w) ?_
  rintro _ _ ⟨rfl, rfl⟩
  refine L.apc ?_
  first | refine L.yl (Y.notP rfl) ?_ | refine L.yl (Y.not rfl) ?_
  refine L.nil ?_
  refine C.condFf rfl ?_
  refine C.skip ?_
  refine Then.n ?_
  refine C.regS ?_
  refine L.yl (Y.as rfl) ?_
  refine L.nil ?_
  refine C.byc (p.raw = true) (fun hq => ?_) (fun hq => ?_)
  ·
    refine C.regS ?_
    refine L.yl (Y.mv rfl) ?_
    refine L.yl (Y.lda (vs := [_, _, _, _, _]) ag33 rfl rfl) ?_
    refine L.callFW (Γf := []) go10 rfl (fun w hw hf => l_raw p a c hp w ((hrd _).rd w hw)) ?_
    intro _ _ hR
    rw [if_pos hq] at hR
    obtain ⟨rfl, rfl⟩ := hR
    refine L.apc ?_
    refine L.callP go9 rfl (fun w hw => re_TakeN _ w) ?_
    refine L.yl (Y.mv rfl) ?_
    refine L.yl (Y.extL rfl rfl) ?_
    refine L.yl (Y.extL rfl rfl) ?_
    refine L.yl (Y.as rfl) ?_
    refine L.yl (Y.as rfl) ?_
    refine L.nil ?_
    refine C.regS ?_
    refine L.yl (Y.mv rfl) ?_
    refine L.yl (Y.len ⟨_, Go.Proofs.Tryz.underlying31⟩ rfl) ?_
    refine L.yl (Y.eqi rfl rfl) ?_
    rw [show decide (((0 : Nat) : Int) = 0) = true from rfl]
    refine L.yl (Y.mv rfl) ?_
    refine L.gOn (t := 18) rfl rfl ?_
    refine L.yl (Y.mv rfl) ?_
    refine L.gOn (t := 18) rfl rfl ?_
    refine L.yl (Y.eqi rfl rfl) ?_
    rw [show decide ((1 : Int) = 1) = true from rfl]
    refine L.yl (Y.pickT rfl rfl) ?_
    refine L.yl (Y.mv rfl) ?_
    refine L.gOn (t := 22) rfl rfl ?_
    refine L.yl (Y.mv rfl) ?_
    refine L.gOn (t := 22) rfl rfl ?_
    refine L.callP go8 rfl (fun w hw => re_NextN w) ?_
    refine L.gOn (t := 22) rfl rfl ?_
    refine L.yl (Y.mv rfl) ?_
    refine L.gOn (t := 22) rfl rfl ?_
    refine L.callP go23 rfl (fun w hw => re_TextN w) ?_
    refine L.gOn (t := 22) rfl rfl ?_
    refine L.yl (Y.len ⟨_, Go.Proofs.Tryz.underlying31⟩ rfl) ?_
    refine L.gOn (t := 22) rfl rfl ?_
    first | refine L.yl (Y.add rfl rfl (by omega)) ?_ | refine L.yl (Y.addW rfl rfl) ?_
    refine L.gOn (t := 22) rfl rfl ?_
    refine L.yl (Y.mv rfl) ?_
    refine L.gOn (t := 22) rfl rfl ?_
    refine L.callP go24 rfl (fun w hw => re_AboveN w) ?_
    refine L.gOn (t := 22) rfl rfl ?_
    refine L.yl (Y.len ⟨_, Go.Proofs.Tryz.underlying29⟩ rfl) ?_
    refine L.gOn (t := 22) rfl rfl ?_
    first | refine L.yl (Y.add rfl rfl (by omega)) ?_ | refine L.yl (Y.addW rfl rfl) ?_
    refine L.gOn (t := 22) rfl rfl ?_
    refine L.yl (Y.eqi rfl rfl) ?_
    rw [show decide ((0 : Int) + ((0 : Nat) : Int) + ((0 : Nat) : Int) = 0) = true from rfl]
    refine L.yl (Y.pickT rfl rfl) ?_
    refine L.yl (Y.mv rfl) ?_
    refine L.gOn (t := 35) rfl rfl ?_
    refine L.yl (Y.mv rfl) ?_
    refine L.gOn (t := 35) rfl rfl ?_
    refine L.callP go22 rfl (fun w hw => re_CloneN w) ?_
    refine L.gOn (t := 35) rfl rfl ?_
    first | refine L.yl (Y.eqpS ⟨_, Go.Proofs.Tryz.underlying25⟩ rfl) ?_ | refine L.yl (Y.eqpN ⟨_, Go.Proofs.Tryz.underlying25⟩ rfl) ?_
    refine L.yl (Y.pickT rfl rfl) ?_
    refine L.yl (Y.mv rfl) ?_
    refine L.gOn (t := 40) rfl rfl ?_
    refine L.callFW (Γf := []) go6 rfl (fun w hw hf => l_known w) ?_
    rintro _ _ ⟨rfl, rfl⟩
    refine L.apc ?_
    refine L.yl (Y.pickT rfl rfl) ?_
    refine L.yl (Y.as rfl) ?_
    refine L.nil ?_
    refine C.ret ?_
    refine FnPost.r1 Go.Proofs.Tryz.results5 rfl ?_
    exact ⟨[], inferInstance, rfl, rfl⟩
  ·
    refine C.regS ?_
    refine L.yl (Y.mv rfl) ?_
    refine L.yl (Y.lda (vs := [_, _, _, _, _]) ag33 rfl rfl) ?_
    refine L.callFW (Γf := []) go10 rfl (fun w hw hf => l_raw p a c hp w ((hrd _).rd w hw)) ?_
    intro _ _ hR
    rw [if_neg hq] at hR
    obtain ⟨a11, c11, rfl, rfl⟩ := hR
    refine L.apc ?_
    refine L.callP go9 rfl (fun w hw => re_TakeN _ w) ?_
    refine L.yl (Y.mv rfl) ?_
    refine L.yl (Y.extL rfl rfl) ?_
    refine L.yl (Y.extL rfl rfl) ?_
    refine L.yl (Y.as rfl) ?_
    refine L.yl (Y.as rfl) ?_
    refine L.nil ?_
    refine C.regS ?_
    refine L.yl (Y.mv rfl) ?_
    refine L.yl (Y.len ⟨_, Go.Proofs.Tryz.underlying31⟩ rfl) ?_
    refine L.yl (Y.eqi rfl rfl) ?_
    rw [show decide (((0 : Nat) : Int) = 0) = true from rfl]
    refine L.yl (Y.mv rfl) ?_
    refine L.gOn (t := 18) rfl rfl ?_
    refine L.yl (Y.mv rfl) ?_
    refine L.gOn (t := 18) rfl rfl ?_
    refine L.yl (Y.eqi rfl rfl) ?_
    rw [show decide ((1 : Int) = 1) = true from rfl]
    refine L.yl (Y.pickT rfl rfl) ?_
    refine L.yl (Y.mv rfl) ?_
    refine L.gOn (t := 22) rfl rfl ?_
    refine L.yl (Y.mv rfl) ?_
    refine L.gOn (t := 22) rfl rfl ?_
    refine L.callP go8 rfl (fun w hw => re_NextN w) ?_
    refine L.gOn (t := 22) rfl rfl ?_
    refine L.yl (Y.mv rfl) ?_
    refine L.gOn (t := 22) rfl rfl ?_
    refine L.callP go23 rfl (fun w hw => re_TextN w) ?_
    refine L.gOn (t := 22) rfl rfl ?_
    refine L.yl (Y.len ⟨_, Go.Proofs.Tryz.underlying31⟩ rfl) ?_
    refine L.gOn (t := 22) rfl rfl ?_
    first | refine L.yl (Y.add rfl rfl (by omega)) ?_ | refine L.yl (Y.addW rfl rfl) ?_
    refine L.gOn (t := 22) rfl rfl ?_
    refine L.yl (Y.mv rfl) ?_
    refine L.gOn (t := 22) rfl rfl ?_
    refine L.callP go24 rfl (fun w hw => re_AboveN w) ?_
    refine L.gOn (t := 22) rfl rfl ?_
    refine L.yl (Y.len ⟨_, Go.Proofs.Tryz.underlying29⟩ rfl) ?_
    refine L.gOn (t := 22) rfl rfl ?_
    first | refine L.yl (Y.add rfl rfl (by omega)) ?_ | refine L.yl (Y.addW rfl rfl) ?_
    refine L.gOn (t := 22) rfl rfl ?_
    refine L.yl (Y.eqi rfl rfl) ?_
    rw [show decide ((0 : Int) + ((0 : Nat) : Int) + ((0 : Nat) : Int) = 0) = true from rfl]
    refine L.yl (Y.pickT rfl rfl) ?_
    refine L.yl (Y.mv rfl) ?_
    refine L.gOn (t := 35) rfl rfl ?_
    refine L.yl (Y.mv rfl) ?_
    refine L.gOn (t := 35) rfl rfl ?_
    refine L.callP go22 rfl (fun w hw => re_CloneN w) ?_
    refine L.gOn (t := 35) rfl rfl ?_
    first | refine L.yl (Y.eqpS ⟨_, Go.Proofs.Tryz.underlying25⟩ rfl) ?_ | refine L.yl (Y.eqpN ⟨_, Go.Proofs.Tryz.underlying25⟩ rfl) ?_
    refine L.yl (Y.pickT rfl rfl) ?_
    refine L.yl (Y.mv rfl) ?_
    refine L.gOn (t := 40) rfl rfl ?_
    refine L.callFW (Γf := []) go6 rfl (fun w hw hf => l_known w) ?_
    rintro _ _ ⟨rfl, rfl⟩
    refine L.apc ?_
    refine L.yl (Y.pickT rfl rfl) ?_
    refine L.yl (Y.as rfl) ?_
    refine L.nil ?_
    refine C.ret ?_
    refine FnPost.r1 Go.Proofs.Tryz.results5 rfl ?_
    exact ⟨[], inferInstance, rfl, rfl⟩
end Go.Proofs.YtcbhcdcobgdddaaGreat
