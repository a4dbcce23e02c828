/- Lemmas for the claim: a calculus of steps over the given program, plain laws, and the contracts of its functions. -/
import Derived.Test.YtcbhcdcobgdddaaGreatProg
import Derived.Shelf.Abstract
import Derived.Test.YtcbhcdcobgdddaaGreatX3
set_option linter.unusedSimpArgs false
set_option linter.unusedVariables false
set_option maxHeartbeats 1000000
namespace Go.Proofs.YtcbhcdcobgdddaaGreat
open Go Go.X Go.Rep Go.Shelf
theorem bd76 : ∃ fs, Go.Proofs.Tryz.prog.underlying 76 = some (.struct fs) ∧ fs.toList.mapM (fun f => (Go.Proofs.Tryz.prog.info? f.type).map fun i => (f.offset, i.size)) = some [(0, 1), (1, 1), (2, 1)] := ⟨_, Go.Proofs.Tryz.underlying76, by kernel_rfl⟩
theorem go25 : Goes Go.Proofs.Tryz.prog 25 := enters_of Go.Proofs.Tryz.func25 (by kernel_rfl) rfl
theorem zr76 : Zr Go.Proofs.Tryz.prog 76 (.agg #[.int .u32 0, .pointer none, .slice none 0 0]) := by unfold Zr; kernel_rfl
theorem putO_T {o : Opts} (k : Nat) (b : List UInt8) (h : OptT o) : OptT (putO o k b) := by
  unfold putO
  split
  · exact ⟨h.val, h.ecr, h.bks⟩
  · split
    · exact ⟨h.val, h.ecr, h.bks⟩
    · split
      · exact ⟨h.val, h.ecr, h.bks⟩
      · split
        · exact ⟨rdV4 _ _, rdV4 _ _, h.bks⟩
        · split
          · refine ⟨h.val, h.ecr, fun x hx => ?_⟩
            simp only [blks, List.mem_map] at hx
            obtain ⟨j, _, rfl⟩ := hx
            exact ⟨rdV4 _ _, rdV4 _ _⟩
          · exact h
theorem optT_zero : OptT Opts.zero := ⟨by simp [Opts.zero], by simp [Opts.zero], by simp [Opts.zero]⟩
theorem parseG_T (b : List UInt8) : ∀ (f i : Nat) (o : Opts), OptT o → OptT (parseG b f i o).1
  | 0, i, o, h => h
  | f + 1, i, o, h => by
    unfold parseG
    split
    · exact h
    · split
      · exact h
      · split
        · exact parseG_T b f _ o h
        · split
          · exact optT_zero
          · split
            · exact optT_zero
            · split
              · exact optT_zero
              · split
                · exact parseG_T b f _ _ (putO_T _ _ h)
                · exact optT_zero
theorem parseO_T (b : List UInt8) : OptT (parseO b).1 := by
  unfold parseO
  split
  · exact optT_zero
  · exact parseG_T b _ _ _ optT_zero
theorem decT_T (b : List UInt8) : OptT (decT b).1.opt := by
  unfold decT
  dsimp only
  repeat' split
  all_goals first | exact optT_zero | exact parseO_T _
theorem u32_b (n : Int) : 0 ≤ IntKind.u32.wrap n ∧ IntKind.u32.wrap n < 4294967296 := by
  show 0 ≤ n % 4294967296 ∧ n % 4294967296 < 4294967296
  omega
theorem blocksR_T (isn : Int) (xs : List Sp) : ∀ b ∈ blocksR isn xs, (0 ≤ b.1 ∧ b.1 < 4294967296) ∧ 0 ≤ b.2 ∧ b.2 < 4294967296 := by
  unfold blocksR
  suffices h : ∀ (xs : List Sp) (l : List (Int × Int)), (∀ b ∈ l, (0 ≤ b.1 ∧ b.1 < 4294967296) ∧ 0 ≤ b.2 ∧ b.2 < 4294967296) → ∀ b ∈ xs.foldl (bkStep isn) l, (0 ≤ b.1 ∧ b.1 < 4294967296) ∧ 0 ≤ b.2 ∧ b.2 < 4294967296 from h xs [] (by simp)
  intro xs
  induction xs with
  | nil => intro l h; exact h
  | cons x xs ih =>
    intro l h
    rw [List.foldl_cons]
    refine ih _ fun b hb => ?_
    unfold bkStep at hb
    split at hb
    · rcases List.mem_append.1 hb with hb | hb
      · exact h b hb
      · simp at hb; subst hb; exact ⟨u32_b _, u32_b _⟩
    · exact h b hb
theorem bkL_take : ∀ (l : List (Int × Int)) (i : Nat), (bkL l).take (i * 2) = bkL (l.take i)
  | l, 0 => by simp
  | [], i + 1 => by simp
  | x :: l, i + 1 => by
    have := bkL_take l i
    rw [show (i + 1) * 2 = i * 2 + 2 by omega]
    simp only [bkL, List.flatMap_cons, List.take_succ_cons] at this ⊢
    show _ :: _ :: List.take (i * 2) (l.flatMap bkCs) = _
    rw [this]; rfl
theorem addR_len' (base : Int) (l : List Sp) (t ring : List UInt8) (q : Int) (d : List UInt8) (hl : l.length ≤ 65536) : (takeH base l t ring q d).l.length ≤ 131073 := by
  unfold takeH
  dsimp only
  split
  · show l.length ≤ _; omega
  · split <;> exact addR_len _ _ hl
theorem takeH_ring (base : Int) (l : List Sp) (t ring : List UInt8) (q : Int) (d : List UInt8) : (takeH base l t ring q d).ring.length = ring.length := by
  unfold takeH
  dsimp only
  split
  · rfl
  · split <;> exact ringL_len _ _ _ _
/-- what Take of a reply makes -/
structure RT where
  l : List Sp
  t : List UInt8
  ring : List UInt8
  ab : List Sp
  out : List UInt8
  bad : Int
def replyOpt (fst : Int) (o : Opts) (dup : Sp) (ab : List Sp) : Opts := ⟨0, false, o.ts, 0, if o.ts = true then o.val else 0, false, 0, (blocksR fst (dup :: ab)).take (if o.ts = true then 3 else 4)⟩
def replySeg (fst : Int) (o : Opts) (n : Nat) (dup : Sp) (ab : List Sp) : Seg := ⟨2, IntKind.u32.wrap (fst + wrap32 n), replyOpt fst o dup ab, []⟩
def replyT (fst base : Int) (l : List Sp) (t ring : List UInt8) (ab : List Sp) (b : List UInt8) : RT :=
  let d := decT b
  if d.2 ≠ 0 then ⟨l, t, ring, ab, [], d.2⟩ else if d.1.kind ≠ 1 then ⟨l, t, ring, ab, [], 8⟩ else
  let h := takeH base l t ring d.1.num d.1.body
  if h.bad ≠ 0 then ⟨h.l, h.t, h.ring, ab, [], h.bad⟩ else
  let ab' := orderR (aboveL h.l h.t.length) ab h.span
  let s := replySeg fst d.1.opt h.t.length h.dup ab'
  ⟨h.l, h.t, h.ring, ab', encS s, chkS s⟩
theorem re_New (isn win : Int) (w : World) : Calls Go.Proofs.Tryz.prog 7 #[.int .u32 isn, .int .i64 win] w (Post w [] (RW fun v Γ => if win < 1 ∨ 65536 < win then v = .tuple #[.pointer none, .int .i64 2] ∧ Γ = [] else ∃ r h q rg, v = .tuple #[.pointer (some ⟨r, 0, none⟩), .int .i64 0] ∧ Γ = [blk r [.int .u32 isn, .pointer (some ⟨h, 0, none⟩), .slice none 0 0] 76, blk h [.int .u32 isn, .pointer (some ⟨q, 0, none⟩), .slice none 0 0, .slice (some ⟨rg, 0, none⟩) win.toNat win.toNat] 112, blk q [.slice none 0 0] 147, own 5 1 (some ⟨rg, 0, none⟩) win.toNat win.toNat (byteL (List.replicate win.toNat 0))])) := by
  refine spec_of Go.Proofs.Tryz.func7 rfl Go.Proofs.Tryz.ntmps7 rfl (Holds.nil w) ?_
  change C _ _ _ _ _ _ _ ⟨[(0, _), (1, _)], []⟩ _
  refine C.regS ?_
  refine L.yl (Y.as rfl) ?_
  refine L.yl (Y.as rfl) ?_
  refine L.nil ?_
  refine C.byc (win < 1 ∨ 65536 < win) (fun hq => ?_) (fun hq => ?_)
  ·
    refine C.regS ?_
    refine L.yl (Y.mv rfl) ?_
    refine L.yl (Y.mv rfl) ?_
    refine L.callFW (Γf := []) go25 rfl (fun w hw hf => he_New isn win w) ?_
    intro _ _ hR
    rw [if_pos hq] at hR
    obtain ⟨rfl, rfl⟩ := hR
    refine L.apc ?_
    refine L.yl (Y.mv rfl) ?_
    refine L.yl (Y.extL rfl rfl) ?_
    refine L.yl (Y.extL rfl rfl) ?_
    refine L.yl (Y.as rfl) ?_
    refine L.yl (Y.as rfl) ?_
    refine L.nil ?_
    refine C.seq ?_
    refine C.regS ?_
    refine L.yl (Y.mv rfl) ?_
    refine L.yl (Y.nei rfl rfl) ?_
    refine L.nil ?_
    refine C.condT rfl (by decide) ?_
    refine C.regS ?_
    refine L.yl (Y.mv rfl) ?_
    refine L.yl (Y.as rfl) ?_
    refine L.yl (Y.as rfl) ?_
    refine L.nil ?_
    refine C.ret ?_
    refine Then.r ?_
    refine FnPost.r2 Go.Proofs.Tryz.results7 rfl rfl ?_
    exact ⟨[], inferInstance, by dsimp only; rw [if_pos hq]; exact ⟨rfl, rfl⟩⟩
  ·
    refine C.regS ?_
    refine L.yl (Y.mv rfl) ?_
    refine L.yl (Y.mv rfl) ?_
    refine L.callFW (Γf := []) go25 rfl (fun w hw hf => he_New isn win w) ?_
    intro _ _ hR
    rw [if_neg hq] at hR
    obtain ⟨h, q, rg, rfl, rfl⟩ := hR
    refine L.apc ?_
    refine L.yl (Y.mv rfl) ?_
    refine L.yl (Y.extL rfl rfl) ?_
    refine L.yl (Y.extL rfl rfl) ?_
    refine L.yl (Y.as rfl) ?_
    refine L.yl (Y.as rfl) ?_
    refine L.nil ?_
    refine C.seq ?_
    refine C.regS ?_
    refine L.yl (Y.mv rfl) ?_
    refine L.yl (Y.nei rfl rfl) ?_
    refine L.nil ?_
    refine C.condF rfl (by decide) ?_
    refine C.skip ?_
    refine Then.n ?_
    refine C.regS ?_
    refine L.yl (Y.mv rfl) ?_
    refine L.yl (Y.mv rfl) ?_
    refine L.yl (Y.bdL (cs := [_, _, _]) zr76 bd76 rfl rfl rfl) ?_
    refine L.bxa rfl ?_; intro b20
    refine L.yl (Y.as rfl) ?_
    refine L.yl (Y.as rfl) ?_
    refine L.nil ?_
    refine C.ret ?_
    refine FnPost.r2 Go.Proofs.Tryz.results7 rfl rfl ?_
    exact ⟨_, inferInstance, by dsimp only; rw [if_neg hq]; exact ⟨b20, h, q, rg, rfl, rfl⟩⟩
theorem re_NextN (w : World) : Pur Go.Proofs.Tryz.prog 8 [.pointer none] (.int .i64 0) w := by
  refine pur_of Go.Proofs.Tryz.func8 rfl Go.Proofs.Tryz.ntmps8 rfl ?_
  change C _ _ _ _ _ _ _ ⟨[(0, _)], []⟩ _
  refine C.regS ?_
  refine L.yl (Y.as rfl) ?_
  refine L.nil ?_
  refine C.seq ?_
  refine C.regS ?_
  refine L.yl (Y.mv rfl) ?_
  first | refine L.yl (Y.eqpS ⟨_, Go.Proofs.Tryz.underlying25⟩ rfl) ?_ | refine L.yl (Y.eqpN ⟨_, Go.Proofs.Tryz.underlying25⟩ rfl) ?_
  refine L.nil ?_
  refine C.condTt rfl ?_
  refine C.regS ?_
  refine L.yl (Y.as rfl) ?_
  refine L.nil ?_
  refine C.ret ?_
  refine Then.r ?_
  refine FnPost.r1 Go.Proofs.Tryz.results8 rfl ?_
  exact rfl
theorem re_TextN (w : World) : Pur Go.Proofs.Tryz.prog 23 [.pointer none] (.slice none 0 0) w := by
  refine pur_of Go.Proofs.Tryz.func23 rfl Go.Proofs.Tryz.ntmps23 rfl ?_
  change C _ _ _ _ _ _ _ ⟨[(0, _)], []⟩ _
  refine C.regS ?_
  refine L.yl (Y.as rfl) ?_
  refine L.nil ?_
  refine C.seq ?_
  refine C.regS ?_
  refine L.yl (Y.mv rfl) ?_
  first | refine L.yl (Y.eqpS ⟨_, Go.Proofs.Tryz.underlying25⟩ rfl) ?_ | refine L.yl (Y.eqpN ⟨_, Go.Proofs.Tryz.underlying25⟩ rfl) ?_
  refine L.nil ?_
  refine C.condTt rfl ?_
  refine C.regS ?_
  refine L.yl (Y.as rfl) ?_
  refine L.nil ?_
  refine C.ret ?_
  refine Then.r ?_
  refine FnPost.r1 Go.Proofs.Tryz.results23 rfl ?_
  exact rfl
theorem re_AboveN (w : World) : Pur Go.Proofs.Tryz.prog 24 [.pointer none] (.slice none 0 0) w := by
  refine pur_of Go.Proofs.Tryz.func24 rfl Go.Proofs.Tryz.ntmps24 rfl ?_
  change C _ _ _ _ _ _ _ ⟨[(0, _)], []⟩ _
  refine C.regS ?_
  refine L.yl (Y.as rfl) ?_
  refine L.nil ?_
  refine C.seq ?_
  refine C.regS ?_
  refine L.yl (Y.mv rfl) ?_
  first | refine L.yl (Y.eqpS ⟨_, Go.Proofs.Tryz.underlying25⟩ rfl) ?_ | refine L.yl (Y.eqpN ⟨_, Go.Proofs.Tryz.underlying25⟩ rfl) ?_
  refine L.nil ?_
  refine C.condTt rfl ?_
  refine C.regS ?_
  refine L.yl (Y.as rfl) ?_
  refine L.nil ?_
  refine C.ret ?_
  refine Then.r ?_
  refine FnPost.r1 Go.Proofs.Tryz.results24 rfl ?_
  exact rfl
theorem re_CloneN (w : World) : Pur Go.Proofs.Tryz.prog 22 [.pointer none] (.pointer none) w := by
  refine pur_of Go.Proofs.Tryz.func22 rfl Go.Proofs.Tryz.ntmps22 rfl ?_
  change C _ _ _ _ _ _ _ ⟨[(0, _)], []⟩ _
  refine C.regS ?_
  refine L.yl (Y.as rfl) ?_
  refine L.nil ?_
  refine C.seq ?_
  refine C.regS ?_
  refine L.yl (Y.mv rfl) ?_
  first | refine L.yl (Y.eqpS ⟨_, Go.Proofs.Tryz.underlying25⟩ rfl) ?_ | refine L.yl (Y.eqpN ⟨_, Go.Proofs.Tryz.underlying25⟩ rfl) ?_
  refine L.nil ?_
  refine C.condTt rfl ?_
  refine C.regS ?_
  refine L.yl (Y.as rfl) ?_
  refine L.nil ?_
  refine C.ret ?_
  refine Then.r ?_
  refine FnPost.r1 Go.Proofs.Tryz.results22 rfl ?_
  exact rfl
theorem re_TakeN (v : Value) (w : World) : Pur Go.Proofs.Tryz.prog 9 [.pointer none, v] (.tuple #[.slice none 0 0, .int .i64 1]) w := by
  refine pur_of Go.Proofs.Tryz.func9 rfl Go.Proofs.Tryz.ntmps9 rfl ?_
  change C _ _ _ _ _ _ _ ⟨[(0, _), (1, _)], []⟩ _
  refine C.regS ?_
  refine L.yl (Y.as rfl) ?_
  refine L.yl (Y.as rfl) ?_
  refine L.nil ?_
  refine C.seq ?_
  refine C.regS ?_
  refine L.yl (Y.mv rfl) ?_
  first | refine L.yl (Y.eqpS ⟨_, Go.Proofs.Tryz.underlying25⟩ rfl) ?_ | refine L.yl (Y.eqpN ⟨_, Go.Proofs.Tryz.underlying25⟩ rfl) ?_
  refine L.nil ?_
  refine C.condTt rfl ?_
  refine C.regS ?_
  refine L.yl (Y.as rfl) ?_
  refine L.yl (Y.as rfl) ?_
  refine L.nil ?_
  refine C.ret ?_
  refine Then.r ?_
  refine FnPost.r2 Go.Proofs.Tryz.results9 rfl rfl ?_
  exact rfl
end Go.Proofs.YtcbhcdcobgdddaaGreat
set_option maxHeartbeats 1000000
namespace Go.Proofs.YtcbhcdcobgdddaaGreat
open Go Go.X Go.Rep Go.Shelf
theorem ag82 : Ag Go.Proofs.Tryz.prog 82 2 := ⟨_, Go.Proofs.Tryz.underlying82, rfl, by kernel_rfl⟩
theorem fl76_0 : Fld Go.Proofs.Tryz.prog 76 0 0 := ⟨_, _, Go.Proofs.Tryz.underlying76, rfl, rfl, _, (by kernel_rfl : (Go.Proofs.Tryz.prog.info? 22).map (·.size) = some 1), by decide⟩
theorem fl78_0 : Fld Go.Proofs.Tryz.prog 78 0 0 := ⟨_, _, Go.Proofs.Tryz.underlying78, rfl, rfl, _, (by kernel_rfl : (Go.Proofs.Tryz.prog.info? 35).map (·.size) = some 2), by decide⟩
theorem fl78_3 : Fld Go.Proofs.Tryz.prog 78 3 4 := ⟨_, _, Go.Proofs.Tryz.underlying78, rfl, rfl, _, (by kernel_rfl : (Go.Proofs.Tryz.prog.info? 35).map (·.size) = some 2), by decide⟩
theorem go27 : Goes Go.Proofs.Tryz.prog 27 := enters_of Go.Proofs.Tryz.func27 (by kernel_rfl) rfl
theorem go28 : Goes Go.Proofs.Tryz.prog 28 := enters_of Go.Proofs.Tryz.func28 (by kernel_rfl) rfl
theorem go29 : Goes Go.Proofs.Tryz.prog 29 := enters_of Go.Proofs.Tryz.func29 (by kernel_rfl) rfl
theorem go30 : Goes Go.Proofs.Tryz.prog 30 := enters_of Go.Proofs.Tryz.func30 (by kernel_rfl) rfl
theorem go31 : Goes Go.Proofs.Tryz.prog 31 := enters_of Go.Proofs.Tryz.func31 (by kernel_rfl) rfl
theorem zr82 : Zr Go.Proofs.Tryz.prog 82 (.agg #[.int .i64 0, .int .i64 0]) := by unfold Zr; kernel_rfl
theorem bt82 : Go.Proofs.Tryz.prog.built 82 [(0, .int .i64 4), (1, .int .i64 3)] = some (([.int .i64 4, .int .i64 3] : List Value).toArray) := by kernel_rfl
theorem replyT_bad {fst base : Int} {l : List Sp} {t ring : List UInt8} {ab : List Sp} {b : List UInt8} {S : Seg} {de : Int} (h : decT b = (S, de)) (he : de ≠ 0) : replyT fst base l t ring ab b = ⟨l, t, ring, ab, [], de⟩ := by unfold replyT; rw [h]; exact if_pos he
theorem replyT_kind {fst base : Int} {l : List Sp} {t ring : List UInt8} {ab : List Sp} {b : List UInt8} {S : Seg} (h : decT b = (S, 0)) (he : S.kind ≠ 1) : replyT fst base l t ring ab b = ⟨l, t, ring, ab, [], 8⟩ := by unfold replyT; rw [h]; dsimp only; rw [if_neg (fun h => h rfl), if_pos he]
theorem replyT_take {fst base : Int} {l : List Sp} {t ring : List UInt8} {ab : List Sp} {b : List UInt8} {S : Seg} (h : decT b = (S, 0)) (hk : S.kind = 1) (he : (takeH base l t ring S.num S.body).bad ≠ 0) : replyT fst base l t ring ab b = ⟨(takeH base l t ring S.num S.body).l, (takeH base l t ring S.num S.body).t, (takeH base l t ring S.num S.body).ring, ab, [], (takeH base l t ring S.num S.body).bad⟩ := by unfold replyT; rw [h]; dsimp only; rw [if_neg (fun h => h rfl), if_neg (fun h => h hk), if_pos he]
theorem replyT_ok {fst base : Int} {l : List Sp} {t ring : List UInt8} {ab ab2 : List Sp} {b : List UInt8} {S : Seg} (h : decT b = (S, 0)) (hk : S.kind = 1) (he : (takeH base l t ring S.num S.body).bad = 0) (hl : (orderR (aboveL (takeH base l t ring S.num S.body).l (takeH base l t ring S.num S.body).t.length) ab (takeH base l t ring S.num S.body).span) = ab2) : replyT fst base l t ring ab b = ⟨(takeH base l t ring S.num S.body).l, (takeH base l t ring S.num S.body).t, (takeH base l t ring S.num S.body).ring, ab2, encS (replySeg fst S.opt (takeH base l t ring S.num S.body).t.length (takeH base l t ring S.num S.body).dup ab2), chkS (replySeg fst S.opt (takeH base l t ring S.num S.body).t.length (takeH base l t ring S.num S.body).dup ab2)⟩ := by subst hl; unfold replyT; rw [h]; dsimp only; rw [if_neg (fun h => h rfl), if_neg (fun h => h hk), if_neg (fun h => h he)]
theorem re_Take (r : Nat) (fst : Int) (ab0 : Option Addr) (abc : Nat) (ab : List Sp) (hab : ab.length ≤ 524288) (h q : Nat) (base : Int) (ta : Option Addr) (tc rg : Nat) (t ring b : List UInt8) (n : Nat) (hn : ring.length = n) (a : Option Addr) (c : Nat) (l : List Sp) (hl : l.length ≤ 65536) (ht : t.length ≤ 1099511627776) (hr0 : 1 ≤ n) (hr : n ≤ 65536) (da : Option Addr) (dc : Nat) (hb : b.length ≤ 4294967296) (hok : ∀ S, decT b = (S, 0) → S.kind = 1 → TakeOk base l t n S.num S.body.length) (w : World) (hw : X.Holds w [blk r [.int .u32 fst, .pointer (some ⟨h, 0, none⟩), .slice ab0 ab.length abc] 76, own 35 2 ab0 ab.length abc (spL ab), blk h [.int .u32 base, .pointer (some ⟨q, 0, none⟩), .slice ta t.length tc, .slice (some ⟨rg, 0, none⟩) n n] 112, blk q [.slice a l.length c] 147, own 35 2 a l.length c (spL l), own 5 1 ta t.length tc (byteL t), own 5 1 (some ⟨rg, 0, none⟩) n n (byteL ring)]) (h2 : ∀ w2, Keep (fps [blk r [.int .u32 fst, .pointer (some ⟨h, 0, none⟩), .slice ab0 ab.length abc] 76, own 35 2 ab0 ab.length abc (spL ab), blk h [.int .u32 base, .pointer (some ⟨q, 0, none⟩), .slice ta t.length tc, .slice (some ⟨rg, 0, none⟩) n n] 112, blk q [.slice a l.length c] 147, own 35 2 a l.length c (spL l), own 5 1 ta t.length tc (byteL t), own 5 1 (some ⟨rg, 0, none⟩) n n (byteL ring)]) w w2 → Rs w2 da (byteL b)) : Calls Go.Proofs.Tryz.prog 9 #[.pointer (some ⟨r, 0, none⟩), .slice da b.length dc] w (Post w [blk r [.int .u32 fst, .pointer (some ⟨h, 0, none⟩), .slice ab0 ab.length abc] 76, own 35 2 ab0 ab.length abc (spL ab), blk h [.int .u32 base, .pointer (some ⟨q, 0, none⟩), .slice ta t.length tc, .slice (some ⟨rg, 0, none⟩) n n] 112, blk q [.slice a l.length c] 147, own 35 2 a l.length c (spL l), own 5 1 ta t.length tc (byteL t), own 5 1 (some ⟨rg, 0, none⟩) n n (byteL ring)] (RW fun v Γ => ∃ a1 c1, v = .tuple #[.slice a1 (replyT fst base l t ring ab b).out.length c1, .int .i64 (replyT fst base l t ring ab b).bad] ∧ ∃ b0 bcc ta tc a c, Γ = [blk r [.int .u32 fst, .pointer (some ⟨h, 0, none⟩), .slice b0 ((replyT fst base l t ring ab b).ab).length bcc] 76, own 35 2 b0 ((replyT fst base l t ring ab b).ab).length bcc (spL ((replyT fst base l t ring ab b).ab)), blk h [.int .u32 base, .pointer (some ⟨q, 0, none⟩), .slice ta ((replyT fst base l t ring ab b).t).length tc, .slice (some ⟨rg, 0, none⟩) n n] 112, blk q [.slice a ((replyT fst base l t ring ab b).l).length c] 147, own 35 2 a ((replyT fst base l t ring ab b).l).length c (spL ((replyT fst base l t ring ab b).l)), own 5 1 ta ((replyT fst base l t ring ab b).t).length tc (byteL ((replyT fst base l t ring ab b).t)), own 5 1 (some ⟨rg, 0, none⟩) n n (byteL ((replyT fst base l t ring ab b).ring)), own 5 1 a1 ((replyT fst base l t ring ab b).out).length c1 (byteL ((replyT fst base l t ring ab b).out))])) := by
  haveI hrd : ∀ Γ, Rd w (fps [blk r [.int .u32 fst, .pointer (some ⟨h, 0, none⟩), .slice ab0 ab.length abc] 76, own 35 2 ab0 ab.length abc (spL ab), blk h [.int .u32 base, .pointer (some ⟨q, 0, none⟩), .slice ta t.length tc, .slice (some ⟨rg, 0, none⟩) n n] 112, blk q [.slice a l.length c] 147, own 35 2 a l.length c (spL l), own 5 1 ta t.length tc (byteL t), own 5 1 (some ⟨rg, 0, none⟩) n n (byteL ring)]) Γ da (byteL b) := fun Γ => ⟨fun w2 hw2 => h2 w2 hw2.keep⟩
  obtain ⟨⟨S, de⟩, hS⟩ : ∃ x, decT b = x := ⟨_, rfl⟩
  refine spec_of Go.Proofs.Tryz.func9 rfl Go.Proofs.Tryz.ntmps9 rfl hw ?_
  change C _ _ _ _ _ _ _ ⟨[(0, _), (1, _)], []⟩ _
  refine C.regS ?_
  refine L.yl (Y.as rfl) ?_
  refine L.yl (Y.as rfl) ?_
  refine L.nil ?_
  refine C.seq ?_
  refine C.regS ?_
  refine L.yl (Y.mv rfl) ?_
  first | refine L.yl (Y.eqpS ⟨_, Go.Proofs.Tryz.underlying25⟩ rfl) ?_ | refine L.yl (Y.eqpN ⟨_, Go.Proofs.Tryz.underlying25⟩ rfl) ?_
  refine L.nil ?_
  refine C.condFf rfl ?_
  refine C.skip ?_
  refine Then.n ?_
  refine C.regS ?_
  refine L.yl (Y.mv rfl) ?_
  refine L.callFW (Γf := []) go27 rfl (fun w hw hf => seg_Decode da b dc hb w ((hrd _).rd w hw)) ?_
  rintro _ _ ⟨oa, oc, sa, sc, rfl, rfl⟩
  refine L.apc ?_
  have hT := decT_T b
  rw [hS] at hT ⊢
  dsimp only at hT ⊢
  refine L.yl (Y.mv rfl) ?_
  refine L.yl (Y.extL rfl rfl) ?_
  refine L.yl (Y.extL rfl rfl) ?_
  refine L.al (zs := [.int .i64 0, .int .u32 0, .int .i64 0, .bool false, .bool false, .int .u32 0, .int .u32 0, .bool false, .int .i64 0, .slice none 0 0, .slice none 0 0]) zr46 rfl ?_; intro b6
  refine L.sta (vs := [_, _, _, _, _, _, _, _, _, _, _]) ag46 rfl rfl rfl rfl rfl ?_
  refine L.yl (Y.as rfl) ?_
  refine L.nil ?_
  refine C.seq ?_
  refine C.block ?_
  refine C.regS ?_
  refine L.yl (Y.mv rfl) ?_
  refine L.yl (Y.nei rfl rfl) ?_
  refine L.yl (Y.as rfl) ?_
  refine L.nil ?_
  refine C.condP rfl (fun hc2 => ?_) (fun hc2 => ?_)
  ·
    refine C.regS ?_
    refine L.yl (Y.mv rfl) ?_
    refine L.yl (Y.as rfl) ?_
    refine L.yl (Y.as rfl) ?_
    refine L.nil ?_
    refine C.nil0 5 1 ?_
    refine C.ret ?_
    refine InBlo.r ?_
    refine Then.r ?_
    refine FnPost.r2 Go.Proofs.Tryz.results9 rfl rfl ?_
    rw [replyT_bad hS hc2]
    exact ⟨[blk r [.int .u32 fst, .pointer (some ⟨h, 0, none⟩), .slice ab0 ab.length abc] 76, own 35 2 ab0 ab.length abc (spL ab), blk h [.int .u32 base, .pointer (some ⟨q, 0, none⟩), .slice ta t.length tc, .slice (some ⟨rg, 0, none⟩) n n] 112, blk q [.slice a l.length c] 147, own 35 2 a l.length c (spL l), own 5 1 ta t.length tc (byteL t), own 5 1 (some ⟨rg, 0, none⟩) n n (byteL ring), own 5 1 none 0 0 []], inferInstance, none, 0, rfl, ab0, abc, ta, tc, a, c, rfl⟩
  ·
    obtain rfl : de = 0 := Decidable.not_not.1 hc2
    refine C.regS ?_
    first | refine L.yl (Y.fa0 fl46_0 rfl) ?_ | refine L.yl (Y.fa fl46_0 rfl) ?_ | refine L.yl (Y.fas fl46_0 rfl (by simp; omega)) ?_
    refine L.yl (Y.ld sc3 rfl rfl) ?_
    refine L.yl (Y.nei rfl rfl) ?_
    refine L.yl (Y.as rfl) ?_
    refine L.nil ?_
    refine C.condP rfl (fun hc3 => ?_) (fun hc3 => ?_)
    ·
      refine C.regS ?_
      refine L.yl (Y.as rfl) ?_
      refine L.yl (Y.as rfl) ?_
      refine L.nil ?_
      refine C.nil0 5 1 ?_
      refine C.ret ?_
      refine InBlo.r ?_
      refine Then.r ?_
      refine FnPost.r2 Go.Proofs.Tryz.results9 rfl rfl ?_
      rw [replyT_kind hS hc3]
      exact ⟨[blk r [.int .u32 fst, .pointer (some ⟨h, 0, none⟩), .slice ab0 ab.length abc] 76, own 35 2 ab0 ab.length abc (spL ab), blk h [.int .u32 base, .pointer (some ⟨q, 0, none⟩), .slice ta t.length tc, .slice (some ⟨rg, 0, none⟩) n n] 112, blk q [.slice a l.length c] 147, own 35 2 a l.length c (spL l), own 5 1 ta t.length tc (byteL t), own 5 1 (some ⟨rg, 0, none⟩) n n (byteL ring), own 5 1 none 0 0 []], inferInstance, none, 0, rfl, ab0, abc, ta, tc, a, c, rfl⟩
    ·
      have hk : S.kind = 1 := Decidable.not_not.1 hc3
      refine C.skip ?_
      refine InBlo.n ?_
      refine Then.n ?_
      refine C.drwFS (Δ := [blk h [.int .u32 base, .pointer (some ⟨q, 0, none⟩), .slice ta t.length tc, .slice (some ⟨rg, 0, none⟩) n n] 112, blk q [.slice a l.length c] 147, own 35 2 a l.length c (spL l), own 5 1 ta t.length tc (byteL t), own 5 1 (some ⟨rg, 0, none⟩) n n (byteL ring)]) (.y 0 (.y 1 (.y 2 (.y 3 (.y 4 (.y 5 (.y 6 (.y 7 (.b2 8 (.y 9 (.y 10 (.y 11 (.h 12 (.h 13 (.y 14 (.fin))))))) 12 (.h 8 (.y 9 (.y 10 (.y 11 (.h 13 (.y 14 (.fin)))))))))))))))) mixo (by kernel_rfl) ?_
      refine V.yl rfl (Y.mv rfl) ?_
      refine V.yl rfl (Y.nck rfl) ?_
      first | refine V.yl rfl (Y.fa0 fl76_1 rfl) ?_ | refine V.yl rfl (Y.fa fl76_1 rfl) ?_ | refine V.yl rfl (Y.fas fl76_1 rfl (by simp; omega)) ?_
      refine V.yl rfl (Y.ld sc72 rfl rfl) ?_
      first | refine V.yl rfl (Y.fa0 fl46_1 rfl) ?_ | refine V.yl rfl (Y.fa fl46_1 rfl) ?_ | refine V.yl rfl (Y.fas fl46_1 rfl (by simp; omega)) ?_
      refine V.yl rfl (Y.ld sc22 rfl rfl) ?_
      first | refine V.yl rfl (Y.fa0 fl46_3 rfl) ?_ | refine V.yl rfl (Y.fa fl46_3 rfl) ?_ | refine V.yl rfl (Y.fas fl46_3 rfl (by simp; omega)) ?_
      refine V.yl rfl (Y.ld sc31 rfl rfl) ?_
      refine ⟨⟨_, rfl, ?_⟩, ⟨_, rfl, ?_⟩⟩
      ·
        refine L.apc ?_
        refine L.callFW (Γf := [blk h [.int .u32 base, .pointer (some ⟨q, 0, none⟩), .slice ta t.length tc, .slice (some ⟨rg, 0, none⟩) n n] 112, blk q [.slice a l.length c] 147, own 35 2 a l.length c (spL l), own 5 1 ta t.length tc (byteL t), own 5 1 (some ⟨rg, 0, none⟩) n n (byteL ring)]) go28 rfl (fun w hw hf => he_Take h q base ta tc rg t ring S.body n hn a c l hl ht hr0 hr S.num sa sc (hok S (by rw [hS]) hk) w hf (by have := hw.rk_own (Γf := [blk h [.int .u32 base, .pointer (some ⟨q, 0, none⟩), .slice ta t.length tc, .slice (some ⟨rg, 0, none⟩) n n] 112, blk q [.slice a l.length c] 147, own 35 2 a l.length c (spL l), own 5 1 ta t.length tc (byteL t), own 5 1 (some ⟨rg, 0, none⟩) n n (byteL ring)]) (Γr := _) (a := sa) (t := 5) (sz := 1) (n := S.body.length) (c := sc) (xs := byteL S.body) inferInstance inferInstance; exact this)) ?_
        rintro _ _ ⟨rfl, ta1, tc1, a1, c1, rfl⟩
        refine L.apc ?_
        have hHl := addR_len' base l t ring S.num S.body hl
        have hHr := takeH_ring base l t ring S.num S.body
        obtain ⟨H, hH⟩ : ∃ H, takeH base l t ring S.num S.body = H := ⟨_, rfl⟩
        rw [hH] at hHl hHr ⊢
        refine L.nil ?_
        refine V.on ?_
        refine V.yl rfl (Y.mv rfl) ?_
        refine V.yl rfl (Y.extL rfl rfl) ?_
        refine V.yl rfl (Y.extL rfl rfl) ?_
        refine V.hv rfl ?_
        refine L.apc ?_
        refine L.al (zs := [.int .i64 0, .int .i64 0, .int .i64 0, .bool false, .int .i64 0, .int .i64 0]) zr78 rfl ?_; intro b8
        refine L.nil ?_
        refine V.on ?_
        refine V.hv rfl ?_
        refine L.apc ?_
        refine L.sta (vs := [_, _, _, _, _, _]) ag78 rfl rfl rfl rfl rfl ?_
        refine L.nil ?_
        refine V.on ?_
        refine V.yl rfl (Y.as rfl) ?_
        refine V.fin ?_
        refine C.seq ?_
        refine C.regS ?_
        refine L.yl (Y.mv rfl) ?_
        refine L.yl (Y.nei rfl rfl) ?_
        refine L.nil ?_
        refine C.condP rfl (fun hc4 => ?_) (fun hc4 => ?_)
        ·
          refine C.regS ?_
          refine L.yl (Y.mv rfl) ?_
          refine L.yl (Y.as rfl) ?_
          refine L.yl (Y.as rfl) ?_
          refine L.nil ?_
          refine C.nil0 5 1 ?_
          refine C.ret ?_
          refine Then.r ?_
          refine FnPost.r2 Go.Proofs.Tryz.results9 rfl rfl ?_
          rw [replyT_take hS hk (by rw [hH]; exact hc4), hH]
          exact ⟨[blk r [.int .u32 fst, .pointer (some ⟨h, 0, none⟩), .slice ab0 ab.length abc] 76, own 35 2 ab0 ab.length abc (spL ab), blk h [.int .u32 base, .pointer (some ⟨q, 0, none⟩), .slice ta1 (H.t).length tc1, .slice (some ⟨rg, 0, none⟩) n n] 112, blk q [.slice a1 (H.l).length c1] 147, own 35 2 a1 (H.l).length c1 (spL (H.l)), own 5 1 ta1 (H.t).length tc1 (byteL (H.t)), own 5 1 (some ⟨rg, 0, none⟩) n n (byteL (H.ring)), own 5 1 none 0 0 []], inferInstance, none, 0, rfl, ab0, abc, ta1, tc1, a1, c1, rfl⟩
        ·
          have hbad : H.bad = 0 := Decidable.not_not.1 hc4
          refine C.skip ?_
          refine Then.n ?_
          refine C.regS ?_
          refine L.yl (Y.mv rfl) ?_
          first | refine L.yl (Y.fa0 fl78_0 rfl) ?_ | refine L.yl (Y.fa fl78_0 rfl) ?_ | refine L.yl (Y.fas fl78_0 rfl (by simp; omega)) ?_
          refine L.yl (Y.lda (vs := [_, _]) ag35 rfl rfl) ?_
          refine L.callFW (Γf := [blk r [.int .u32 fst, .pointer (some ⟨h, 0, none⟩), .slice ab0 ab.length abc] 76, blk h [.int .u32 base, .pointer (some ⟨q, 0, none⟩), .slice ta1 (H.t).length tc1, .slice (some ⟨rg, 0, none⟩) n n] 112, blk q [.slice a1 (H.l).length c1] 147, own 35 2 a1 (H.l).length c1 (spL (H.l)), own 35 2 ab0 ab.length abc (spL ab)]) go29 rfl (fun w hw hf => re_order r fst ab0 abc ab (by omega) h q base ta1 tc1 rg H.t n a1 c1 H.l hHl H.span w hf) ?_
          rintro _ _ ⟨rfl, b45, c45, rfl⟩
          refine L.apc ?_
          obtain ⟨ab2, hA⟩ : ∃ x, orderR (aboveL H.l H.t.length) ab H.span = x := ⟨_, rfl⟩
          have hab2 : ab2.length ≤ 1048576 := by
            rw [← hA]; unfold orderR; rw [List.length_append]
            have h1 := orderF_len (aboveL H.l H.t.length) (H.span :: ab)
            have h2 := filter_le H.l H.t.length
            omega
          rw [hA]
          refine L.nil ?_
          refine C.regS ?_
          refine L.yl (Y.bdC (cs := [.int .i64 4, .int .i64 3]) bt82 rfl rfl) ?_
          refine L.al (zs := [.int .i64 0, .int .i64 0]) zr82 rfl ?_; intro b9
          refine L.sta (vs := [_, _]) ag82 rfl rfl rfl rfl rfl ?_
          refine L.nil ?_
          refine C.drwS (.y 0 (.y 1 (.y 2 (.y 3 (.y 4 (.y 5 (.y 6 (.y 7 (.y 8 (.y 9 (.y 10 (.y 11 (.y 12 (.b2 13 (.y 14 (.h 15 (.last 16))) 15 (.h 13 (.y 14 (.last 16))))))))))))))))) mixo (by kernel_rfl) ?_
          first | refine V.yl rfl (Y.fa0 fl46_2 rfl) ?_ | refine V.yl rfl (Y.fa fl46_2 rfl) ?_ | refine V.yl rfl (Y.fas fl46_2 rfl (by simp; omega)) ?_
          first | refine V.yl rfl (Y.fa0 fl44_2 rfl) ?_ | refine V.yl rfl (Y.fa fl44_2 rfl) ?_ | refine V.yl rfl (Y.fas fl44_2 rfl (by simp; omega)) ?_
          refine V.yl rfl (Y.ld sc4 rfl rfl) ?_
          refine V.yl rfl (Y.mv rfl) ?_
          refine V.yl rfl (Y.nck rfl) ?_
          first | refine V.yl rfl (Y.fa0 fl76_0 rfl) ?_ | refine V.yl rfl (Y.fa fl76_0 rfl) ?_ | refine V.yl rfl (Y.fas fl76_0 rfl (by simp; omega)) ?_
          refine V.yl rfl (Y.ld sc22 rfl rfl) ?_
          first | refine V.yl rfl (Y.fa0 fl78_3 rfl) ?_ | refine V.yl rfl (Y.fa fl78_3 rfl) ?_ | refine V.yl rfl (Y.fas fl78_3 rfl (by simp; omega)) ?_
          refine V.yl rfl (Y.lda (vs := [_, _]) ag35 rfl rfl) ?_
          refine V.yl rfl (Y.mv rfl) ?_
          refine V.yl rfl (Y.nck rfl) ?_
          first | refine V.yl rfl (Y.fa0 fl76_2 rfl) ?_ | refine V.yl rfl (Y.fa fl76_2 rfl) ?_ | refine V.yl rfl (Y.fas fl76_2 rfl (by simp; omega)) ?_
          refine V.yl rfl (Y.ld sc29 rfl rfl) ?_
          refine ⟨⟨_, rfl, ?_⟩, ⟨_, rfl, ?_⟩⟩
          ·
            refine L.apc ?_
            refine L.callFW (Γf := []) go30 rfl (fun w hw hf => du_Blocks fst H.dup b45 c45 ab2 (by omega) w (own_rs (hw.holds.on (own 35 2 b45 ab2.length c45 (spL ab2)) (by simp)))) ?_
            rintro _ _ ⟨ba, bc, rfl, rfl⟩
            refine L.apc ?_
            have hbl4 := blocksR_len fst (H.dup :: ab2)
            refine L.nil ?_
            refine V.on ?_
            refine V.yl rfl (Y.bdL (cs := [_, _, _, _, _, _, _, _]) zr44 bd44 rfl rfl rfl) ?_
            refine V.hv rfl ?_
            refine L.apc ?_
            refine L.al (zs := [.int .i64 0, .bool false, .bool false, .int .u32 0, .int .u32 0, .bool false, .int .i64 0, .slice none 0 0]) zr44 rfl ?_; intro b10
            refine L.nil ?_
            refine V.on ?_
            refine V.ls rfl ?_
            refine L.apc ?_
            refine L.sta (vs := [_, _, _, _, _, _, _, _]) ag44 rfl rfl rfl rfl rfl ?_
            refine L.nil ?_
            refine C.regS ?_
            refine L.yl (Y.ixa Go.Proofs.Tryz.underlying82 sc3 rfl rfl (by omega) (by omega)) ?_
            refine L.yl (Y.ld sc3 rfl rfl) ?_
            refine L.yl (Y.as rfl) ?_
            refine L.nil ?_
            refine C.seq ?_
            refine C.regS ?_
            first | refine L.yl (Y.fa0 fl44_2 rfl) ?_ | refine L.yl (Y.fa fl44_2 rfl) ?_ | refine L.yl (Y.fas fl44_2 rfl (by simp; omega)) ?_
            refine L.yl (Y.ld sc4 rfl rfl) ?_
            refine L.nil ?_
            refine C.cond rfl (fun hc5 => ?_) (fun hc5 => ?_)
            ·
              have hsg : replySeg fst S.opt H.t.length H.dup ab2 = (⟨2, IntKind.u32.wrap (fst + wrap32 H.t.length), ⟨0, false, S.opt.ts, 0, S.opt.val, false, 0, (blocksR fst (H.dup :: ab2)).take 3⟩, []⟩ : Seg) := by unfold replySeg replyOpt; rw [if_pos hc5, if_pos hc5]
              refine C.drwB [b10] (.y 0 (.y 1 (.y 2 (.y 3 (.y 4 (.y 5 (.h 6 (.y 7 (.fin))))))))) mixo (by kernel_rfl) ?_
              first | refine V.yl rfl (Y.fa0 fl46_2 rfl) ?_ | refine V.yl rfl (Y.fa fl46_2 rfl) ?_ | refine V.yl rfl (Y.fas fl46_2 rfl (by simp; omega)) ?_
              first | refine V.yl rfl (Y.fa0 fl44_3 rfl) ?_ | refine V.yl rfl (Y.fa fl44_3 rfl) ?_ | refine V.yl rfl (Y.fas fl44_3 rfl (by simp; omega)) ?_
              refine V.yl rfl (Y.ld sc22 rfl rfl) ?_
              refine V.yl rfl (Y.ixa Go.Proofs.Tryz.underlying82 sc3 rfl rfl (by omega) (by omega)) ?_
              refine V.yl rfl (Y.ld sc3 rfl rfl) ?_
              first | refine V.yl rfl (Y.fa0 fl44_4 rfl) ?_ | refine V.yl rfl (Y.fa fl44_4 rfl) ?_ | refine V.yl rfl (Y.fas fl44_4 rfl (by simp; omega)) ?_
              refine V.hv rfl ?_
              refine L.apc ?_
              refine L.st sc22 rfl rfl rfl ?_
              refine L.nil ?_
              refine V.on ?_
              refine V.yl rfl (Y.as rfl) ?_
              refine V.fin ?_
              refine Then.n ?_
              refine C.fact (p := (blocksR fst (H.dup :: ab2)).length ≤ bc) (fun w hw => (own_le (hw.holds.on (own 51 2 ba (blocksR fst (H.dup :: ab2)).length bc (bkL (blocksR fst (H.dup :: ab2)))) (by simp))).2.1) (fun hbc => ?_)
              refine C.regS ?_
              first | refine L.yl (Y.fa0 fl44_7 rfl) ?_ | refine L.yl (Y.fa fl44_7 rfl) ?_ | refine L.yl (Y.fas fl44_7 rfl (by simp; omega)) ?_
              refine L.yl (Y.ld sc42 rfl rfl) ?_
              first | refine L.yl (Y.fa0 fl44_7 rfl) ?_ | refine L.yl (Y.fa fl44_7 rfl) ?_ | refine L.yl (Y.fas fl44_7 rfl (by simp; omega)) ?_
              refine L.yl (Y.ld sc42 rfl rfl) ?_
              refine L.yl (Y.len ⟨_, Go.Proofs.Tryz.underlying42⟩ rfl) ?_
              refine L.yl (Y.mv rfl) ?_
              refine L.yl (Y.min2 rfl rfl) ?_
              refine L.yl (Y.slh slt42 rfl rfl (by omega)) ?_
              rw [show (min ((blocksR fst (H.dup :: ab2)).length : Int) 3).toNat = ((blocksR fst (H.dup :: ab2)).take 3).length by rw [List.length_take]; omega]
              first | refine L.yl (Y.fa0 fl44_7 rfl) ?_ | refine L.yl (Y.fa fl44_7 rfl) ?_ | refine L.yl (Y.fas fl44_7 rfl (by simp; omega)) ?_
              refine L.st sc42 rfl rfl rfl ?_
              refine L.nil ?_
              refine C.drwS (.y 0 (.y 1 (.y 2 (.y 3 (.y 4 (.y 5 (.y 6 (.y 7 (.y 11 (.h 8 (.h 9 (.y 10 (.y 12 (.h 13 (.y 14 (.y 15 (.y 16 (.y 17 (.fin))))))))))))))))))) mixo (by kernel_rfl) ?_
              refine V.yl rfl (Y.mv rfl) ?_
              refine V.yl rfl (Y.nck rfl) ?_
              first | refine V.yl rfl (Y.fa0 fl76_0 rfl) ?_ | refine V.yl rfl (Y.fa fl76_0 rfl) ?_ | refine V.yl rfl (Y.fas fl76_0 rfl (by simp; omega)) ?_
              refine V.yl rfl (Y.ld sc22 rfl rfl) ?_
              refine V.yl rfl (Y.mv rfl) ?_
              refine V.yl rfl (Y.nck rfl) ?_
              first | refine V.yl rfl (Y.fa0 fl76_1 rfl) ?_ | refine V.yl rfl (Y.fa fl76_1 rfl) ?_ | refine V.yl rfl (Y.fas fl76_1 rfl (by simp; omega)) ?_
              refine V.yl rfl (Y.ld sc72 rfl rfl) ?_
              refine V.yl rfl (Y.lda (vs := [_, _, _, _, _, _, _, _]) ag44 rfl rfl) ?_
              refine V.hv rfl ?_
              refine L.apc ?_
              refine L.callR (Γf := [blk h [.int .u32 base, .pointer (some ⟨q, 0, none⟩), .slice ta1 (H.t).length tc1, .slice (some ⟨rg, 0, none⟩) n n] 112]) go26 rfl (fun w hw hf => he_Next h q base ta1 tc1 rg H.t n w hf) ?_
              rintro _ rfl
              refine L.nil ?_
              refine V.on ?_
              refine V.hv rfl ?_
              refine L.apc ?_
              refine L.callP go32 rfl (fun w hw => seq_Wrap _ w) ?_
              refine L.nil ?_
              refine V.on ?_
              refine V.yl rfl (Y.addW rfl rfl) ?_
              refine V.yl rfl (Y.bdL (cs := [_, _, _, _, _, _, _, _, _, _, _]) zr46 bd46 rfl rfl rfl) ?_
              refine V.hv rfl ?_
              refine L.apc ?_
              refine L.callFW (Γf := []) go31 rfl (fun w hw hf => seg_Encode (⟨2, IntKind.u32.wrap (fst + wrap32 H.t.length), ⟨0, false, S.opt.ts, 0, S.opt.val, false, 0, (blocksR fst (H.dup :: ab2)).take 3⟩, []⟩ : Seg) ba bc none 0 ⟨by dsimp only; omega, hT.val, fun x hx => blocksR_T fst (H.dup :: ab2) x (List.mem_of_mem_take hx)⟩ (u32_b _) (by have := blocksR_len fst (H.dup :: ab2); dsimp only; rw [List.length_take]; omega) (by simp) w (by dsimp only; rw [← bkL_take]; exact (own_rs (hw.holds.on (own 51 2 ba (blocksR fst (H.dup :: ab2)).length bc (bkL (blocksR fst (H.dup :: ab2)))) (by simp))).pre _) (fun j v hj => by simp [byteL] at hj)) ?_
              rintro _ _ ⟨a94, c94, rfl, rfl⟩
              refine L.apc ?_
              refine L.nil ?_
              refine V.on ?_
              refine V.yl rfl (Y.extL rfl rfl) ?_
              refine V.yl rfl (Y.extL rfl rfl) ?_
              refine V.yl rfl (Y.as rfl) ?_
              refine V.yl rfl (Y.as rfl) ?_
              refine V.fin ?_
              refine C.ret ?_
              refine FnPost.r2 Go.Proofs.Tryz.results9 rfl rfl ?_
              rw [replyT_ok (ab2 := ab2) hS hk (by rw [hH]; exact hbad) (by rw [hH]; exact hA), hH, hsg]
              exact ⟨[blk r [.int .u32 fst, .pointer (some ⟨h, 0, none⟩), .slice b45 ab2.length c45] 76, own 35 2 b45 ab2.length c45 (spL ab2), blk h [.int .u32 base, .pointer (some ⟨q, 0, none⟩), .slice ta1 (H.t).length tc1, .slice (some ⟨rg, 0, none⟩) n n] 112, blk q [.slice a1 (H.l).length c1] 147, own 35 2 a1 (H.l).length c1 (spL (H.l)), own 5 1 ta1 (H.t).length tc1 (byteL (H.t)), own 5 1 (some ⟨rg, 0, none⟩) n n (byteL (H.ring)), own 5 1 a94 ((encS (⟨2, IntKind.u32.wrap (fst + wrap32 H.t.length), ⟨0, false, S.opt.ts, 0, S.opt.val, false, 0, (blocksR fst (H.dup :: ab2)).take 3⟩, []⟩ : Seg))).length c94 (byteL ((encS (⟨2, IntKind.u32.wrap (fst + wrap32 H.t.length), ⟨0, false, S.opt.ts, 0, S.opt.val, false, 0, (blocksR fst (H.dup :: ab2)).take 3⟩, []⟩ : Seg))))], inferInstance, a94, c94, rfl, b45, c45, ta1, tc1, a1, c1, rfl⟩
            ·
              have hsg : replySeg fst S.opt H.t.length H.dup ab2 = (⟨2, IntKind.u32.wrap (fst + wrap32 H.t.length), ⟨0, false, S.opt.ts, 0, 0, false, 0, (blocksR fst (H.dup :: ab2)).take 4⟩, []⟩ : Seg) := by unfold replySeg replyOpt; rw [if_neg (by simp [hc5]), if_neg (by simp [hc5])]
              refine C.skip ?_
              refine Then.n ?_
              refine C.fact (p := (blocksR fst (H.dup :: ab2)).length ≤ bc) (fun w hw => (own_le (hw.holds.on (own 51 2 ba (blocksR fst (H.dup :: ab2)).length bc (bkL (blocksR fst (H.dup :: ab2)))) (by simp))).2.1) (fun hbc => ?_)
              refine C.regS ?_
              first | refine L.yl (Y.fa0 fl44_7 rfl) ?_ | refine L.yl (Y.fa fl44_7 rfl) ?_ | refine L.yl (Y.fas fl44_7 rfl (by simp; omega)) ?_
              refine L.yl (Y.ld sc42 rfl rfl) ?_
              first | refine L.yl (Y.fa0 fl44_7 rfl) ?_ | refine L.yl (Y.fa fl44_7 rfl) ?_ | refine L.yl (Y.fas fl44_7 rfl (by simp; omega)) ?_
              refine L.yl (Y.ld sc42 rfl rfl) ?_
              refine L.yl (Y.len ⟨_, Go.Proofs.Tryz.underlying42⟩ rfl) ?_
              refine L.yl (Y.mv rfl) ?_
              refine L.yl (Y.min2 rfl rfl) ?_
              refine L.yl (Y.slh slt42 rfl rfl (by omega)) ?_
              rw [show (min ((blocksR fst (H.dup :: ab2)).length : Int) 4).toNat = ((blocksR fst (H.dup :: ab2)).take 4).length by rw [List.length_take]; omega]
              first | refine L.yl (Y.fa0 fl44_7 rfl) ?_ | refine L.yl (Y.fa fl44_7 rfl) ?_ | refine L.yl (Y.fas fl44_7 rfl (by simp; omega)) ?_
              refine L.st sc42 rfl rfl rfl ?_
              refine L.nil ?_
              refine C.drwS (.y 0 (.y 1 (.y 2 (.y 3 (.y 4 (.y 5 (.y 6 (.y 7 (.y 11 (.h 8 (.h 9 (.y 10 (.y 12 (.h 13 (.y 14 (.y 15 (.y 16 (.y 17 (.fin))))))))))))))))))) mixo (by kernel_rfl) ?_
              refine V.yl rfl (Y.mv rfl) ?_
              refine V.yl rfl (Y.nck rfl) ?_
              first | refine V.yl rfl (Y.fa0 fl76_0 rfl) ?_ | refine V.yl rfl (Y.fa fl76_0 rfl) ?_ | refine V.yl rfl (Y.fas fl76_0 rfl (by simp; omega)) ?_
              refine V.yl rfl (Y.ld sc22 rfl rfl) ?_
              refine V.yl rfl (Y.mv rfl) ?_
              refine V.yl rfl (Y.nck rfl) ?_
              first | refine V.yl rfl (Y.fa0 fl76_1 rfl) ?_ | refine V.yl rfl (Y.fa fl76_1 rfl) ?_ | refine V.yl rfl (Y.fas fl76_1 rfl (by simp; omega)) ?_
              refine V.yl rfl (Y.ld sc72 rfl rfl) ?_
              refine V.yl rfl (Y.lda (vs := [_, _, _, _, _, _, _, _]) ag44 rfl rfl) ?_
              refine V.hv rfl ?_
              refine L.apc ?_
              refine L.callR (Γf := [blk h [.int .u32 base, .pointer (some ⟨q, 0, none⟩), .slice ta1 (H.t).length tc1, .slice (some ⟨rg, 0, none⟩) n n] 112]) go26 rfl (fun w hw hf => he_Next h q base ta1 tc1 rg H.t n w hf) ?_
              rintro _ rfl
              refine L.nil ?_
              refine V.on ?_
              refine V.hv rfl ?_
              refine L.apc ?_
              refine L.callP go32 rfl (fun w hw => seq_Wrap _ w) ?_
              refine L.nil ?_
              refine V.on ?_
              refine V.yl rfl (Y.addW rfl rfl) ?_
              refine V.yl rfl (Y.bdL (cs := [_, _, _, _, _, _, _, _, _, _, _]) zr46 bd46 rfl rfl rfl) ?_
              refine V.hv rfl ?_
              refine L.apc ?_
              refine L.callFW (Γf := []) go31 rfl (fun w hw hf => seg_Encode (⟨2, IntKind.u32.wrap (fst + wrap32 H.t.length), ⟨0, false, S.opt.ts, 0, 0, false, 0, (blocksR fst (H.dup :: ab2)).take 4⟩, []⟩ : Seg) ba bc none 0 ⟨by dsimp only; omega, by dsimp only; omega, fun x hx => blocksR_T fst (H.dup :: ab2) x (List.mem_of_mem_take hx)⟩ (u32_b _) (by have := blocksR_len fst (H.dup :: ab2); dsimp only; rw [List.length_take]; omega) (by simp) w (by dsimp only; rw [← bkL_take]; exact (own_rs (hw.holds.on (own 51 2 ba (blocksR fst (H.dup :: ab2)).length bc (bkL (blocksR fst (H.dup :: ab2)))) (by simp))).pre _) (fun j v hj => by simp [byteL] at hj)) ?_
              rintro _ _ ⟨a94, c94, rfl, rfl⟩
              refine L.apc ?_
              refine L.nil ?_
              refine V.on ?_
              refine V.yl rfl (Y.extL rfl rfl) ?_
              refine V.yl rfl (Y.extL rfl rfl) ?_
              refine V.yl rfl (Y.as rfl) ?_
              refine V.yl rfl (Y.as rfl) ?_
              refine V.fin ?_
              refine C.ret ?_
              refine FnPost.r2 Go.Proofs.Tryz.results9 rfl rfl ?_
              rw [replyT_ok (ab2 := ab2) hS hk (by rw [hH]; exact hbad) (by rw [hH]; exact hA), hH, hsg]
              exact ⟨[blk r [.int .u32 fst, .pointer (some ⟨h, 0, none⟩), .slice b45 ab2.length c45] 76, own 35 2 b45 ab2.length c45 (spL ab2), blk h [.int .u32 base, .pointer (some ⟨q, 0, none⟩), .slice ta1 (H.t).length tc1, .slice (some ⟨rg, 0, none⟩) n n] 112, blk q [.slice a1 (H.l).length c1] 147, own 35 2 a1 (H.l).length c1 (spL (H.l)), own 5 1 ta1 (H.t).length tc1 (byteL (H.t)), own 5 1 (some ⟨rg, 0, none⟩) n n (byteL (H.ring)), own 5 1 a94 ((encS (⟨2, IntKind.u32.wrap (fst + wrap32 H.t.length), ⟨0, false, S.opt.ts, 0, 0, false, 0, (blocksR fst (H.dup :: ab2)).take 4⟩, []⟩ : Seg))).length c94 (byteL ((encS (⟨2, IntKind.u32.wrap (fst + wrap32 H.t.length), ⟨0, false, S.opt.ts, 0, 0, false, 0, (blocksR fst (H.dup :: ab2)).take 4⟩, []⟩ : Seg))))], inferInstance, a94, c94, rfl, b45, c45, ta1, tc1, a1, c1, rfl⟩
          ·
            refine L.apc ?_
            refine L.al (zs := [.int .i64 0, .bool false, .bool false, .int .u32 0, .int .u32 0, .bool false, .int .i64 0, .slice none 0 0]) zr44 rfl ?_; intro b10
            refine L.nil ?_
            refine V.on ?_
            refine V.hv rfl ?_
            refine L.apc ?_
            refine L.callFW (Γf := []) go30 rfl (fun w hw hf => du_Blocks fst H.dup b45 c45 ab2 (by omega) w (own_rs (hw.holds.on (own 35 2 b45 ab2.length c45 (spL ab2)) (by simp)))) ?_
            rintro _ _ ⟨ba, bc, rfl, rfl⟩
            refine L.apc ?_
            have hbl4 := blocksR_len fst (H.dup :: ab2)
            refine L.nil ?_
            refine V.on ?_
            refine V.yl rfl (Y.bdL (cs := [_, _, _, _, _, _, _, _]) zr44 bd44 rfl rfl rfl) ?_
            refine V.ls rfl ?_
            refine L.apc ?_
            refine L.sta (vs := [_, _, _, _, _, _, _, _]) ag44 rfl rfl rfl rfl rfl ?_
            refine L.nil ?_
            refine C.regS ?_
            refine L.yl (Y.ixa Go.Proofs.Tryz.underlying82 sc3 rfl rfl (by omega) (by omega)) ?_
            refine L.yl (Y.ld sc3 rfl rfl) ?_
            refine L.yl (Y.as rfl) ?_
            refine L.nil ?_
            refine C.seq ?_
            refine C.regS ?_
            first | refine L.yl (Y.fa0 fl44_2 rfl) ?_ | refine L.yl (Y.fa fl44_2 rfl) ?_ | refine L.yl (Y.fas fl44_2 rfl (by simp; omega)) ?_
            refine L.yl (Y.ld sc4 rfl rfl) ?_
            refine L.nil ?_
            refine C.cond rfl (fun hc6 => ?_) (fun hc6 => ?_)
            ·
              have hsg : replySeg fst S.opt H.t.length H.dup ab2 = (⟨2, IntKind.u32.wrap (fst + wrap32 H.t.length), ⟨0, false, S.opt.ts, 0, S.opt.val, false, 0, (blocksR fst (H.dup :: ab2)).take 3⟩, []⟩ : Seg) := by unfold replySeg replyOpt; rw [if_pos hc6, if_pos hc6]
              refine C.drwB [b10] (.y 0 (.y 1 (.y 2 (.y 3 (.y 4 (.y 5 (.h 6 (.y 7 (.fin))))))))) mixo (by kernel_rfl) ?_
              first | refine V.yl rfl (Y.fa0 fl46_2 rfl) ?_ | refine V.yl rfl (Y.fa fl46_2 rfl) ?_ | refine V.yl rfl (Y.fas fl46_2 rfl (by simp; omega)) ?_
              first | refine V.yl rfl (Y.fa0 fl44_3 rfl) ?_ | refine V.yl rfl (Y.fa fl44_3 rfl) ?_ | refine V.yl rfl (Y.fas fl44_3 rfl (by simp; omega)) ?_
              refine V.yl rfl (Y.ld sc22 rfl rfl) ?_
              refine V.yl rfl (Y.ixa Go.Proofs.Tryz.underlying82 sc3 rfl rfl (by omega) (by omega)) ?_
              refine V.yl rfl (Y.ld sc3 rfl rfl) ?_
              first | refine V.yl rfl (Y.fa0 fl44_4 rfl) ?_ | refine V.yl rfl (Y.fa fl44_4 rfl) ?_ | refine V.yl rfl (Y.fas fl44_4 rfl (by simp; omega)) ?_
              refine V.hv rfl ?_
              refine L.apc ?_
              refine L.st sc22 rfl rfl rfl ?_
              refine L.nil ?_
              refine V.on ?_
              refine V.yl rfl (Y.as rfl) ?_
              refine V.fin ?_
              refine Then.n ?_
              refine C.fact (p := (blocksR fst (H.dup :: ab2)).length ≤ bc) (fun w hw => (own_le (hw.holds.on (own 51 2 ba (blocksR fst (H.dup :: ab2)).length bc (bkL (blocksR fst (H.dup :: ab2)))) (by simp))).2.1) (fun hbc => ?_)
              refine C.regS ?_
              first | refine L.yl (Y.fa0 fl44_7 rfl) ?_ | refine L.yl (Y.fa fl44_7 rfl) ?_ | refine L.yl (Y.fas fl44_7 rfl (by simp; omega)) ?_
              refine L.yl (Y.ld sc42 rfl rfl) ?_
              first | refine L.yl (Y.fa0 fl44_7 rfl) ?_ | refine L.yl (Y.fa fl44_7 rfl) ?_ | refine L.yl (Y.fas fl44_7 rfl (by simp; omega)) ?_
              refine L.yl (Y.ld sc42 rfl rfl) ?_
              refine L.yl (Y.len ⟨_, Go.Proofs.Tryz.underlying42⟩ rfl) ?_
              refine L.yl (Y.mv rfl) ?_
              refine L.yl (Y.min2 rfl rfl) ?_
              refine L.yl (Y.slh slt42 rfl rfl (by omega)) ?_
              rw [show (min ((blocksR fst (H.dup :: ab2)).length : Int) 3).toNat = ((blocksR fst (H.dup :: ab2)).take 3).length by rw [List.length_take]; omega]
              first | refine L.yl (Y.fa0 fl44_7 rfl) ?_ | refine L.yl (Y.fa fl44_7 rfl) ?_ | refine L.yl (Y.fas fl44_7 rfl (by simp; omega)) ?_
              refine L.st sc42 rfl rfl rfl ?_
              refine L.nil ?_
              refine C.drwS (.y 0 (.y 1 (.y 2 (.y 3 (.y 4 (.y 5 (.y 6 (.y 7 (.y 11 (.h 8 (.h 9 (.y 10 (.y 12 (.h 13 (.y 14 (.y 15 (.y 16 (.y 17 (.fin))))))))))))))))))) mixo (by kernel_rfl) ?_
              refine V.yl rfl (Y.mv rfl) ?_
              refine V.yl rfl (Y.nck rfl) ?_
              first | refine V.yl rfl (Y.fa0 fl76_0 rfl) ?_ | refine V.yl rfl (Y.fa fl76_0 rfl) ?_ | refine V.yl rfl (Y.fas fl76_0 rfl (by simp; omega)) ?_
              refine V.yl rfl (Y.ld sc22 rfl rfl) ?_
              refine V.yl rfl (Y.mv rfl) ?_
              refine V.yl rfl (Y.nck rfl) ?_
              first | refine V.yl rfl (Y.fa0 fl76_1 rfl) ?_ | refine V.yl rfl (Y.fa fl76_1 rfl) ?_ | refine V.yl rfl (Y.fas fl76_1 rfl (by simp; omega)) ?_
              refine V.yl rfl (Y.ld sc72 rfl rfl) ?_
              refine V.yl rfl (Y.lda (vs := [_, _, _, _, _, _, _, _]) ag44 rfl rfl) ?_
              refine V.hv rfl ?_
              refine L.apc ?_
              refine L.callR (Γf := [blk h [.int .u32 base, .pointer (some ⟨q, 0, none⟩), .slice ta1 (H.t).length tc1, .slice (some ⟨rg, 0, none⟩) n n] 112]) go26 rfl (fun w hw hf => he_Next h q base ta1 tc1 rg H.t n w hf) ?_
              rintro _ rfl
              refine L.nil ?_
              refine V.on ?_
              refine V.hv rfl ?_
              refine L.apc ?_
              refine L.callP go32 rfl (fun w hw => seq_Wrap _ w) ?_
              refine L.nil ?_
              refine V.on ?_
              refine V.yl rfl (Y.addW rfl rfl) ?_
              refine V.yl rfl (Y.bdL (cs := [_, _, _, _, _, _, _, _, _, _, _]) zr46 bd46 rfl rfl rfl) ?_
              refine V.hv rfl ?_
              refine L.apc ?_
              refine L.callFW (Γf := []) go31 rfl (fun w hw hf => seg_Encode (⟨2, IntKind.u32.wrap (fst + wrap32 H.t.length), ⟨0, false, S.opt.ts, 0, S.opt.val, false, 0, (blocksR fst (H.dup :: ab2)).take 3⟩, []⟩ : Seg) ba bc none 0 ⟨by dsimp only; omega, hT.val, fun x hx => blocksR_T fst (H.dup :: ab2) x (List.mem_of_mem_take hx)⟩ (u32_b _) (by have := blocksR_len fst (H.dup :: ab2); dsimp only; rw [List.length_take]; omega) (by simp) w (by dsimp only; rw [← bkL_take]; exact (own_rs (hw.holds.on (own 51 2 ba (blocksR fst (H.dup :: ab2)).length bc (bkL (blocksR fst (H.dup :: ab2)))) (by simp))).pre _) (fun j v hj => by simp [byteL] at hj)) ?_
              rintro _ _ ⟨a94, c94, rfl, rfl⟩
              refine L.apc ?_
              refine L.nil ?_
              refine V.on ?_
              refine V.yl rfl (Y.extL rfl rfl) ?_
              refine V.yl rfl (Y.extL rfl rfl) ?_
              refine V.yl rfl (Y.as rfl) ?_
              refine V.yl rfl (Y.as rfl) ?_
              refine V.fin ?_
              refine C.ret ?_
              refine FnPost.r2 Go.Proofs.Tryz.results9 rfl rfl ?_
              rw [replyT_ok (ab2 := ab2) hS hk (by rw [hH]; exact hbad) (by rw [hH]; exact hA), hH, hsg]
              exact ⟨[blk r [.int .u32 fst, .pointer (some ⟨h, 0, none⟩), .slice b45 ab2.length c45] 76, own 35 2 b45 ab2.length c45 (spL ab2), blk h [.int .u32 base, .pointer (some ⟨q, 0, none⟩), .slice ta1 (H.t).length tc1, .slice (some ⟨rg, 0, none⟩) n n] 112, blk q [.slice a1 (H.l).length c1] 147, own 35 2 a1 (H.l).length c1 (spL (H.l)), own 5 1 ta1 (H.t).length tc1 (byteL (H.t)), own 5 1 (some ⟨rg, 0, none⟩) n n (byteL (H.ring)), own 5 1 a94 ((encS (⟨2, IntKind.u32.wrap (fst + wrap32 H.t.length), ⟨0, false, S.opt.ts, 0, S.opt.val, false, 0, (blocksR fst (H.dup :: ab2)).take 3⟩, []⟩ : Seg))).length c94 (byteL ((encS (⟨2, IntKind.u32.wrap (fst + wrap32 H.t.length), ⟨0, false, S.opt.ts, 0, S.opt.val, false, 0, (blocksR fst (H.dup :: ab2)).take 3⟩, []⟩ : Seg))))], inferInstance, a94, c94, rfl, b45, c45, ta1, tc1, a1, c1, rfl⟩
            ·
              have hsg : replySeg fst S.opt H.t.length H.dup ab2 = (⟨2, IntKind.u32.wrap (fst + wrap32 H.t.length), ⟨0, false, S.opt.ts, 0, 0, false, 0, (blocksR fst (H.dup :: ab2)).take 4⟩, []⟩ : Seg) := by unfold replySeg replyOpt; rw [if_neg (by simp [hc6]), if_neg (by simp [hc6])]
              refine C.skip ?_
              refine Then.n ?_
              refine C.fact (p := (blocksR fst (H.dup :: ab2)).length ≤ bc) (fun w hw => (own_le (hw.holds.on (own 51 2 ba (blocksR fst (H.dup :: ab2)).length bc (bkL (blocksR fst (H.dup :: ab2)))) (by simp))).2.1) (fun hbc => ?_)
              refine C.regS ?_
              first | refine L.yl (Y.fa0 fl44_7 rfl) ?_ | refine L.yl (Y.fa fl44_7 rfl) ?_ | refine L.yl (Y.fas fl44_7 rfl (by simp; omega)) ?_
              refine L.yl (Y.ld sc42 rfl rfl) ?_
              first | refine L.yl (Y.fa0 fl44_7 rfl) ?_ | refine L.yl (Y.fa fl44_7 rfl) ?_ | refine L.yl (Y.fas fl44_7 rfl (by simp; omega)) ?_
              refine L.yl (Y.ld sc42 rfl rfl) ?_
              refine L.yl (Y.len ⟨_, Go.Proofs.Tryz.underlying42⟩ rfl) ?_
              refine L.yl (Y.mv rfl) ?_
              refine L.yl (Y.min2 rfl rfl) ?_
              refine L.yl (Y.slh slt42 rfl rfl (by omega)) ?_
              rw [show (min ((blocksR fst (H.dup :: ab2)).length : Int) 4).toNat = ((blocksR fst (H.dup :: ab2)).take 4).length by rw [List.length_take]; omega]
              first | refine L.yl (Y.fa0 fl44_7 rfl) ?_ | refine L.yl (Y.fa fl44_7 rfl) ?_ | refine L.yl (Y.fas fl44_7 rfl (by simp; omega)) ?_
              refine L.st sc42 rfl rfl rfl ?_
              refine L.nil ?_
              refine C.drwS (.y 0 (.y 1 (.y 2 (.y 3 (.y 4 (.y 5 (.y 6 (.y 7 (.y 11 (.h 8 (.h 9 (.y 10 (.y 12 (.h 13 (.y 14 (.y 15 (.y 16 (.y 17 (.fin))))))))))))))))))) mixo (by kernel_rfl) ?_
              refine V.yl rfl (Y.mv rfl) ?_
              refine V.yl rfl (Y.nck rfl) ?_
              first | refine V.yl rfl (Y.fa0 fl76_0 rfl) ?_ | refine V.yl rfl (Y.fa fl76_0 rfl) ?_ | refine V.yl rfl (Y.fas fl76_0 rfl (by simp; omega)) ?_
              refine V.yl rfl (Y.ld sc22 rfl rfl) ?_
              refine V.yl rfl (Y.mv rfl) ?_
              refine V.yl rfl (Y.nck rfl) ?_
              first | refine V.yl rfl (Y.fa0 fl76_1 rfl) ?_ | refine V.yl rfl (Y.fa fl76_1 rfl) ?_ | refine V.yl rfl (Y.fas fl76_1 rfl (by simp; omega)) ?_
              refine V.yl rfl (Y.ld sc72 rfl rfl) ?_
              refine V.yl rfl (Y.lda (vs := [_, _, _, _, _, _, _, _]) ag44 rfl rfl) ?_
              refine V.hv rfl ?_
              refine L.apc ?_
              refine L.callR (Γf := [blk h [.int .u32 base, .pointer (some ⟨q, 0, none⟩), .slice ta1 (H.t).length tc1, .slice (some ⟨rg, 0, none⟩) n n] 112]) go26 rfl (fun w hw hf => he_Next h q base ta1 tc1 rg H.t n w hf) ?_
              rintro _ rfl
              refine L.nil ?_
              refine V.on ?_
              refine V.hv rfl ?_
              refine L.apc ?_
              refine L.callP go32 rfl (fun w hw => seq_Wrap _ w) ?_
              refine L.nil ?_
              refine V.on ?_
              refine V.yl rfl (Y.addW rfl rfl) ?_
              refine V.yl rfl (Y.bdL (cs := [_, _, _, _, _, _, _, _, _, _, _]) zr46 bd46 rfl rfl rfl) ?_
              refine V.hv rfl ?_
              refine L.apc ?_
              refine L.callFW (Γf := []) go31 rfl (fun w hw hf => seg_Encode (⟨2, IntKind.u32.wrap (fst + wrap32 H.t.length), ⟨0, false, S.opt.ts, 0, 0, false, 0, (blocksR fst (H.dup :: ab2)).take 4⟩, []⟩ : Seg) ba bc none 0 ⟨by dsimp only; omega, by dsimp only; omega, fun x hx => blocksR_T fst (H.dup :: ab2) x (List.mem_of_mem_take hx)⟩ (u32_b _) (by have := blocksR_len fst (H.dup :: ab2); dsimp only; rw [List.length_take]; omega) (by simp) w (by dsimp only; rw [← bkL_take]; exact (own_rs (hw.holds.on (own 51 2 ba (blocksR fst (H.dup :: ab2)).length bc (bkL (blocksR fst (H.dup :: ab2)))) (by simp))).pre _) (fun j v hj => by simp [byteL] at hj)) ?_
              rintro _ _ ⟨a94, c94, rfl, rfl⟩
              refine L.apc ?_
              refine L.nil ?_
              refine V.on ?_
              refine V.yl rfl (Y.extL rfl rfl) ?_
              refine V.yl rfl (Y.extL rfl rfl) ?_
              refine V.yl rfl (Y.as rfl) ?_
              refine V.yl rfl (Y.as rfl) ?_
              refine V.fin ?_
              refine C.ret ?_
              refine FnPost.r2 Go.Proofs.Tryz.results9 rfl rfl ?_
              rw [replyT_ok (ab2 := ab2) hS hk (by rw [hH]; exact hbad) (by rw [hH]; exact hA), hH, hsg]
              exact ⟨[blk r [.int .u32 fst, .pointer (some ⟨h, 0, none⟩), .slice b45 ab2.length c45] 76, own 35 2 b45 ab2.length c45 (spL ab2), blk h [.int .u32 base, .pointer (some ⟨q, 0, none⟩), .slice ta1 (H.t).length tc1, .slice (some ⟨rg, 0, none⟩) n n] 112, blk q [.slice a1 (H.l).length c1] 147, own 35 2 a1 (H.l).length c1 (spL (H.l)), own 5 1 ta1 (H.t).length tc1 (byteL (H.t)), own 5 1 (some ⟨rg, 0, none⟩) n n (byteL (H.ring)), own 5 1 a94 ((encS (⟨2, IntKind.u32.wrap (fst + wrap32 H.t.length), ⟨0, false, S.opt.ts, 0, 0, false, 0, (blocksR fst (H.dup :: ab2)).take 4⟩, []⟩ : Seg))).length c94 (byteL ((encS (⟨2, IntKind.u32.wrap (fst + wrap32 H.t.length), ⟨0, false, S.opt.ts, 0, 0, false, 0, (blocksR fst (H.dup :: ab2)).take 4⟩, []⟩ : Seg))))], inferInstance, a94, c94, rfl, b45, c45, ta1, tc1, a1, c1, rfl⟩
      ·
        refine L.apc ?_
        refine L.al (zs := [.int .i64 0, .int .i64 0, .int .i64 0, .bool false, .int .i64 0, .int .i64 0]) zr78 rfl ?_; intro b8
        refine L.nil ?_
        refine V.on ?_
        refine V.hv rfl ?_
        refine L.apc ?_
        refine L.callFW (Γf := [blk h [.int .u32 base, .pointer (some ⟨q, 0, none⟩), .slice ta t.length tc, .slice (some ⟨rg, 0, none⟩) n n] 112, blk q [.slice a l.length c] 147, own 35 2 a l.length c (spL l), own 5 1 ta t.length tc (byteL t), own 5 1 (some ⟨rg, 0, none⟩) n n (byteL ring)]) go28 rfl (fun w hw hf => he_Take h q base ta tc rg t ring S.body n hn a c l hl ht hr0 hr S.num sa sc (hok S (by rw [hS]) hk) w hf (by have := hw.rk_own (Γf := [blk h [.int .u32 base, .pointer (some ⟨q, 0, none⟩), .slice ta t.length tc, .slice (some ⟨rg, 0, none⟩) n n] 112, blk q [.slice a l.length c] 147, own 35 2 a l.length c (spL l), own 5 1 ta t.length tc (byteL t), own 5 1 (some ⟨rg, 0, none⟩) n n (byteL ring)]) (Γr := _) (a := sa) (t := 5) (sz := 1) (n := S.body.length) (c := sc) (xs := byteL S.body) inferInstance inferInstance; exact this)) ?_
        rintro _ _ ⟨rfl, ta1, tc1, a1, c1, rfl⟩
        refine L.apc ?_
        have hHl := addR_len' base l t ring S.num S.body hl
        have hHr := takeH_ring base l t ring S.num S.body
        obtain ⟨H, hH⟩ : ∃ H, takeH base l t ring S.num S.body = H := ⟨_, rfl⟩
        rw [hH] at hHl hHr ⊢
        refine L.nil ?_
        refine V.on ?_
        refine V.yl rfl (Y.mv rfl) ?_
        refine V.yl rfl (Y.extL rfl rfl) ?_
        refine V.yl rfl (Y.extL rfl rfl) ?_
        refine V.hv rfl ?_
        refine L.apc ?_
        refine L.sta (vs := [_, _, _, _, _, _]) ag78 rfl rfl rfl rfl rfl ?_
        refine L.nil ?_
        refine V.on ?_
        refine V.yl rfl (Y.as rfl) ?_
        refine V.fin ?_
        refine C.seq ?_
        refine C.regS ?_
        refine L.yl (Y.mv rfl) ?_
        refine L.yl (Y.nei rfl rfl) ?_
        refine L.nil ?_
        refine C.condP rfl (fun hc7 => ?_) (fun hc7 => ?_)
        ·
          refine C.regS ?_
          refine L.yl (Y.mv rfl) ?_
          refine L.yl (Y.as rfl) ?_
          refine L.yl (Y.as rfl) ?_
          refine L.nil ?_
          refine C.nil0 5 1 ?_
          refine C.ret ?_
          refine Then.r ?_
          refine FnPost.r2 Go.Proofs.Tryz.results9 rfl rfl ?_
          rw [replyT_take hS hk (by rw [hH]; exact hc7), hH]
          exact ⟨[blk r [.int .u32 fst, .pointer (some ⟨h, 0, none⟩), .slice ab0 ab.length abc] 76, own 35 2 ab0 ab.length abc (spL ab), blk h [.int .u32 base, .pointer (some ⟨q, 0, none⟩), .slice ta1 (H.t).length tc1, .slice (some ⟨rg, 0, none⟩) n n] 112, blk q [.slice a1 (H.l).length c1] 147, own 35 2 a1 (H.l).length c1 (spL (H.l)), own 5 1 ta1 (H.t).length tc1 (byteL (H.t)), own 5 1 (some ⟨rg, 0, none⟩) n n (byteL (H.ring)), own 5 1 none 0 0 []], inferInstance, none, 0, rfl, ab0, abc, ta1, tc1, a1, c1, rfl⟩
        ·
          have hbad : H.bad = 0 := Decidable.not_not.1 hc7
          refine C.skip ?_
          refine Then.n ?_
          refine C.regS ?_
          refine L.yl (Y.mv rfl) ?_
          first | refine L.yl (Y.fa0 fl78_0 rfl) ?_ | refine L.yl (Y.fa fl78_0 rfl) ?_ | refine L.yl (Y.fas fl78_0 rfl (by simp; omega)) ?_
          refine L.yl (Y.lda (vs := [_, _]) ag35 rfl rfl) ?_
          refine L.callFW (Γf := [blk r [.int .u32 fst, .pointer (some ⟨h, 0, none⟩), .slice ab0 ab.length abc] 76, blk h [.int .u32 base, .pointer (some ⟨q, 0, none⟩), .slice ta1 (H.t).length tc1, .slice (some ⟨rg, 0, none⟩) n n] 112, blk q [.slice a1 (H.l).length c1] 147, own 35 2 a1 (H.l).length c1 (spL (H.l)), own 35 2 ab0 ab.length abc (spL ab)]) go29 rfl (fun w hw hf => re_order r fst ab0 abc ab (by omega) h q base ta1 tc1 rg H.t n a1 c1 H.l hHl H.span w hf) ?_
          rintro _ _ ⟨rfl, b45, c45, rfl⟩
          refine L.apc ?_
          obtain ⟨ab2, hA⟩ : ∃ x, orderR (aboveL H.l H.t.length) ab H.span = x := ⟨_, rfl⟩
          have hab2 : ab2.length ≤ 1048576 := by
            rw [← hA]; unfold orderR; rw [List.length_append]
            have h1 := orderF_len (aboveL H.l H.t.length) (H.span :: ab)
            have h2 := filter_le H.l H.t.length
            omega
          rw [hA]
          refine L.nil ?_
          refine C.regS ?_
          refine L.yl (Y.bdC (cs := [.int .i64 4, .int .i64 3]) bt82 rfl rfl) ?_
          refine L.al (zs := [.int .i64 0, .int .i64 0]) zr82 rfl ?_; intro b9
          refine L.sta (vs := [_, _]) ag82 rfl rfl rfl rfl rfl ?_
          refine L.nil ?_
          refine C.drwS (.y 0 (.y 1 (.y 2 (.y 3 (.y 4 (.y 5 (.y 6 (.y 7 (.y 8 (.y 9 (.y 10 (.y 11 (.y 12 (.b2 13 (.y 14 (.h 15 (.last 16))) 15 (.h 13 (.y 14 (.last 16))))))))))))))))) mixo (by kernel_rfl) ?_
          first | refine V.yl rfl (Y.fa0 fl46_2 rfl) ?_ | refine V.yl rfl (Y.fa fl46_2 rfl) ?_ | refine V.yl rfl (Y.fas fl46_2 rfl (by simp; omega)) ?_
          first | refine V.yl rfl (Y.fa0 fl44_2 rfl) ?_ | refine V.yl rfl (Y.fa fl44_2 rfl) ?_ | refine V.yl rfl (Y.fas fl44_2 rfl (by simp; omega)) ?_
          refine V.yl rfl (Y.ld sc4 rfl rfl) ?_
          refine V.yl rfl (Y.mv rfl) ?_
          refine V.yl rfl (Y.nck rfl) ?_
          first | refine V.yl rfl (Y.fa0 fl76_0 rfl) ?_ | refine V.yl rfl (Y.fa fl76_0 rfl) ?_ | refine V.yl rfl (Y.fas fl76_0 rfl (by simp; omega)) ?_
          refine V.yl rfl (Y.ld sc22 rfl rfl) ?_
          first | refine V.yl rfl (Y.fa0 fl78_3 rfl) ?_ | refine V.yl rfl (Y.fa fl78_3 rfl) ?_ | refine V.yl rfl (Y.fas fl78_3 rfl (by simp; omega)) ?_
          refine V.yl rfl (Y.lda (vs := [_, _]) ag35 rfl rfl) ?_
          refine V.yl rfl (Y.mv rfl) ?_
          refine V.yl rfl (Y.nck rfl) ?_
          first | refine V.yl rfl (Y.fa0 fl76_2 rfl) ?_ | refine V.yl rfl (Y.fa fl76_2 rfl) ?_ | refine V.yl rfl (Y.fas fl76_2 rfl (by simp; omega)) ?_
          refine V.yl rfl (Y.ld sc29 rfl rfl) ?_
          refine ⟨⟨_, rfl, ?_⟩, ⟨_, rfl, ?_⟩⟩
          ·
            refine L.apc ?_
            refine L.callFW (Γf := []) go30 rfl (fun w hw hf => du_Blocks fst H.dup b45 c45 ab2 (by omega) w (own_rs (hw.holds.on (own 35 2 b45 ab2.length c45 (spL ab2)) (by simp)))) ?_
            rintro _ _ ⟨ba, bc, rfl, rfl⟩
            refine L.apc ?_
            have hbl4 := blocksR_len fst (H.dup :: ab2)
            refine L.nil ?_
            refine V.on ?_
            refine V.yl rfl (Y.bdL (cs := [_, _, _, _, _, _, _, _]) zr44 bd44 rfl rfl rfl) ?_
            refine V.hv rfl ?_
            refine L.apc ?_
            refine L.al (zs := [.int .i64 0, .bool false, .bool false, .int .u32 0, .int .u32 0, .bool false, .int .i64 0, .slice none 0 0]) zr44 rfl ?_; intro b10
            refine L.nil ?_
            refine V.on ?_
            refine V.ls rfl ?_
            refine L.apc ?_
            refine L.sta (vs := [_, _, _, _, _, _, _, _]) ag44 rfl rfl rfl rfl rfl ?_
            refine L.nil ?_
            refine C.regS ?_
            refine L.yl (Y.ixa Go.Proofs.Tryz.underlying82 sc3 rfl rfl (by omega) (by omega)) ?_
            refine L.yl (Y.ld sc3 rfl rfl) ?_
            refine L.yl (Y.as rfl) ?_
            refine L.nil ?_
            refine C.seq ?_
            refine C.regS ?_
            first | refine L.yl (Y.fa0 fl44_2 rfl) ?_ | refine L.yl (Y.fa fl44_2 rfl) ?_ | refine L.yl (Y.fas fl44_2 rfl (by simp; omega)) ?_
            refine L.yl (Y.ld sc4 rfl rfl) ?_
            refine L.nil ?_
            refine C.cond rfl (fun hc8 => ?_) (fun hc8 => ?_)
            ·
              have hsg : replySeg fst S.opt H.t.length H.dup ab2 = (⟨2, IntKind.u32.wrap (fst + wrap32 H.t.length), ⟨0, false, S.opt.ts, 0, S.opt.val, false, 0, (blocksR fst (H.dup :: ab2)).take 3⟩, []⟩ : Seg) := by unfold replySeg replyOpt; rw [if_pos hc8, if_pos hc8]
              refine C.drwB [b10] (.y 0 (.y 1 (.y 2 (.y 3 (.y 4 (.y 5 (.h 6 (.y 7 (.fin))))))))) mixo (by kernel_rfl) ?_
              first | refine V.yl rfl (Y.fa0 fl46_2 rfl) ?_ | refine V.yl rfl (Y.fa fl46_2 rfl) ?_ | refine V.yl rfl (Y.fas fl46_2 rfl (by simp; omega)) ?_
              first | refine V.yl rfl (Y.fa0 fl44_3 rfl) ?_ | refine V.yl rfl (Y.fa fl44_3 rfl) ?_ | refine V.yl rfl (Y.fas fl44_3 rfl (by simp; omega)) ?_
              refine V.yl rfl (Y.ld sc22 rfl rfl) ?_
              refine V.yl rfl (Y.ixa Go.Proofs.Tryz.underlying82 sc3 rfl rfl (by omega) (by omega)) ?_
              refine V.yl rfl (Y.ld sc3 rfl rfl) ?_
              first | refine V.yl rfl (Y.fa0 fl44_4 rfl) ?_ | refine V.yl rfl (Y.fa fl44_4 rfl) ?_ | refine V.yl rfl (Y.fas fl44_4 rfl (by simp; omega)) ?_
              refine V.hv rfl ?_
              refine L.apc ?_
              refine L.st sc22 rfl rfl rfl ?_
              refine L.nil ?_
              refine V.on ?_
              refine V.yl rfl (Y.as rfl) ?_
              refine V.fin ?_
              refine Then.n ?_
              refine C.fact (p := (blocksR fst (H.dup :: ab2)).length ≤ bc) (fun w hw => (own_le (hw.holds.on (own 51 2 ba (blocksR fst (H.dup :: ab2)).length bc (bkL (blocksR fst (H.dup :: ab2)))) (by simp))).2.1) (fun hbc => ?_)
              refine C.regS ?_
              first | refine L.yl (Y.fa0 fl44_7 rfl) ?_ | refine L.yl (Y.fa fl44_7 rfl) ?_ | refine L.yl (Y.fas fl44_7 rfl (by simp; omega)) ?_
              refine L.yl (Y.ld sc42 rfl rfl) ?_
              first | refine L.yl (Y.fa0 fl44_7 rfl) ?_ | refine L.yl (Y.fa fl44_7 rfl) ?_ | refine L.yl (Y.fas fl44_7 rfl (by simp; omega)) ?_
              refine L.yl (Y.ld sc42 rfl rfl) ?_
              refine L.yl (Y.len ⟨_, Go.Proofs.Tryz.underlying42⟩ rfl) ?_
              refine L.yl (Y.mv rfl) ?_
              refine L.yl (Y.min2 rfl rfl) ?_
              refine L.yl (Y.slh slt42 rfl rfl (by omega)) ?_
              rw [show (min ((blocksR fst (H.dup :: ab2)).length : Int) 3).toNat = ((blocksR fst (H.dup :: ab2)).take 3).length by rw [List.length_take]; omega]
              first | refine L.yl (Y.fa0 fl44_7 rfl) ?_ | refine L.yl (Y.fa fl44_7 rfl) ?_ | refine L.yl (Y.fas fl44_7 rfl (by simp; omega)) ?_
              refine L.st sc42 rfl rfl rfl ?_
              refine L.nil ?_
              refine C.drwS (.y 0 (.y 1 (.y 2 (.y 3 (.y 4 (.y 5 (.y 6 (.y 7 (.y 11 (.h 8 (.h 9 (.y 10 (.y 12 (.h 13 (.y 14 (.y 15 (.y 16 (.y 17 (.fin))))))))))))))))))) mixo (by kernel_rfl) ?_
              refine V.yl rfl (Y.mv rfl) ?_
              refine V.yl rfl (Y.nck rfl) ?_
              first | refine V.yl rfl (Y.fa0 fl76_0 rfl) ?_ | refine V.yl rfl (Y.fa fl76_0 rfl) ?_ | refine V.yl rfl (Y.fas fl76_0 rfl (by simp; omega)) ?_
              refine V.yl rfl (Y.ld sc22 rfl rfl) ?_
              refine V.yl rfl (Y.mv rfl) ?_
              refine V.yl rfl (Y.nck rfl) ?_
              first | refine V.yl rfl (Y.fa0 fl76_1 rfl) ?_ | refine V.yl rfl (Y.fa fl76_1 rfl) ?_ | refine V.yl rfl (Y.fas fl76_1 rfl (by simp; omega)) ?_
              refine V.yl rfl (Y.ld sc72 rfl rfl) ?_
              refine V.yl rfl (Y.lda (vs := [_, _, _, _, _, _, _, _]) ag44 rfl rfl) ?_
              refine V.hv rfl ?_
              refine L.apc ?_
              refine L.callR (Γf := [blk h [.int .u32 base, .pointer (some ⟨q, 0, none⟩), .slice ta1 (H.t).length tc1, .slice (some ⟨rg, 0, none⟩) n n] 112]) go26 rfl (fun w hw hf => he_Next h q base ta1 tc1 rg H.t n w hf) ?_
              rintro _ rfl
              refine L.nil ?_
              refine V.on ?_
              refine V.hv rfl ?_
              refine L.apc ?_
              refine L.callP go32 rfl (fun w hw => seq_Wrap _ w) ?_
              refine L.nil ?_
              refine V.on ?_
              refine V.yl rfl (Y.addW rfl rfl) ?_
              refine V.yl rfl (Y.bdL (cs := [_, _, _, _, _, _, _, _, _, _, _]) zr46 bd46 rfl rfl rfl) ?_
              refine V.hv rfl ?_
              refine L.apc ?_
              refine L.callFW (Γf := []) go31 rfl (fun w hw hf => seg_Encode (⟨2, IntKind.u32.wrap (fst + wrap32 H.t.length), ⟨0, false, S.opt.ts, 0, S.opt.val, false, 0, (blocksR fst (H.dup :: ab2)).take 3⟩, []⟩ : Seg) ba bc none 0 ⟨by dsimp only; omega, hT.val, fun x hx => blocksR_T fst (H.dup :: ab2) x (List.mem_of_mem_take hx)⟩ (u32_b _) (by have := blocksR_len fst (H.dup :: ab2); dsimp only; rw [List.length_take]; omega) (by simp) w (by dsimp only; rw [← bkL_take]; exact (own_rs (hw.holds.on (own 51 2 ba (blocksR fst (H.dup :: ab2)).length bc (bkL (blocksR fst (H.dup :: ab2)))) (by simp))).pre _) (fun j v hj => by simp [byteL] at hj)) ?_
              rintro _ _ ⟨a94, c94, rfl, rfl⟩
              refine L.apc ?_
              refine L.nil ?_
              refine V.on ?_
              refine V.yl rfl (Y.extL rfl rfl) ?_
              refine V.yl rfl (Y.extL rfl rfl) ?_
              refine V.yl rfl (Y.as rfl) ?_
              refine V.yl rfl (Y.as rfl) ?_
              refine V.fin ?_
              refine C.ret ?_
              refine FnPost.r2 Go.Proofs.Tryz.results9 rfl rfl ?_
              rw [replyT_ok (ab2 := ab2) hS hk (by rw [hH]; exact hbad) (by rw [hH]; exact hA), hH, hsg]
              exact ⟨[blk r [.int .u32 fst, .pointer (some ⟨h, 0, none⟩), .slice b45 ab2.length c45] 76, own 35 2 b45 ab2.length c45 (spL ab2), blk h [.int .u32 base, .pointer (some ⟨q, 0, none⟩), .slice ta1 (H.t).length tc1, .slice (some ⟨rg, 0, none⟩) n n] 112, blk q [.slice a1 (H.l).length c1] 147, own 35 2 a1 (H.l).length c1 (spL (H.l)), own 5 1 ta1 (H.t).length tc1 (byteL (H.t)), own 5 1 (some ⟨rg, 0, none⟩) n n (byteL (H.ring)), own 5 1 a94 ((encS (⟨2, IntKind.u32.wrap (fst + wrap32 H.t.length), ⟨0, false, S.opt.ts, 0, S.opt.val, false, 0, (blocksR fst (H.dup :: ab2)).take 3⟩, []⟩ : Seg))).length c94 (byteL ((encS (⟨2, IntKind.u32.wrap (fst + wrap32 H.t.length), ⟨0, false, S.opt.ts, 0, S.opt.val, false, 0, (blocksR fst (H.dup :: ab2)).take 3⟩, []⟩ : Seg))))], inferInstance, a94, c94, rfl, b45, c45, ta1, tc1, a1, c1, rfl⟩
            ·
              have hsg : replySeg fst S.opt H.t.length H.dup ab2 = (⟨2, IntKind.u32.wrap (fst + wrap32 H.t.length), ⟨0, false, S.opt.ts, 0, 0, false, 0, (blocksR fst (H.dup :: ab2)).take 4⟩, []⟩ : Seg) := by unfold replySeg replyOpt; rw [if_neg (by simp [hc8]), if_neg (by simp [hc8])]
              refine C.skip ?_
              refine Then.n ?_
              refine C.fact (p := (blocksR fst (H.dup :: ab2)).length ≤ bc) (fun w hw => (own_le (hw.holds.on (own 51 2 ba (blocksR fst (H.dup :: ab2)).length bc (bkL (blocksR fst (H.dup :: ab2)))) (by simp))).2.1) (fun hbc => ?_)
              refine C.regS ?_
              first | refine L.yl (Y.fa0 fl44_7 rfl) ?_ | refine L.yl (Y.fa fl44_7 rfl) ?_ | refine L.yl (Y.fas fl44_7 rfl (by simp; omega)) ?_
              refine L.yl (Y.ld sc42 rfl rfl) ?_
              first | refine L.yl (Y.fa0 fl44_7 rfl) ?_ | refine L.yl (Y.fa fl44_7 rfl) ?_ | refine L.yl (Y.fas fl44_7 rfl (by simp; omega)) ?_
              refine L.yl (Y.ld sc42 rfl rfl) ?_
              refine L.yl (Y.len ⟨_, Go.Proofs.Tryz.underlying42⟩ rfl) ?_
              refine L.yl (Y.mv rfl) ?_
              refine L.yl (Y.min2 rfl rfl) ?_
              refine L.yl (Y.slh slt42 rfl rfl (by omega)) ?_
              rw [show (min ((blocksR fst (H.dup :: ab2)).length : Int) 4).toNat = ((blocksR fst (H.dup :: ab2)).take 4).length by rw [List.length_take]; omega]
              first | refine L.yl (Y.fa0 fl44_7 rfl) ?_ | refine L.yl (Y.fa fl44_7 rfl) ?_ | refine L.yl (Y.fas fl44_7 rfl (by simp; omega)) ?_
              refine L.st sc42 rfl rfl rfl ?_
              refine L.nil ?_
              refine C.drwS (.y 0 (.y 1 (.y 2 (.y 3 (.y 4 (.y 5 (.y 6 (.y 7 (.y 11 (.h 8 (.h 9 (.y 10 (.y 12 (.h 13 (.y 14 (.y 15 (.y 16 (.y 17 (.fin))))))))))))))))))) mixo (by kernel_rfl) ?_
              refine V.yl rfl (Y.mv rfl) ?_
              refine V.yl rfl (Y.nck rfl) ?_
              first | refine V.yl rfl (Y.fa0 fl76_0 rfl) ?_ | refine V.yl rfl (Y.fa fl76_0 rfl) ?_ | refine V.yl rfl (Y.fas fl76_0 rfl (by simp; omega)) ?_
              refine V.yl rfl (Y.ld sc22 rfl rfl) ?_
              refine V.yl rfl (Y.mv rfl) ?_
              refine V.yl rfl (Y.nck rfl) ?_
              first | refine V.yl rfl (Y.fa0 fl76_1 rfl) ?_ | refine V.yl rfl (Y.fa fl76_1 rfl) ?_ | refine V.yl rfl (Y.fas fl76_1 rfl (by simp; omega)) ?_
              refine V.yl rfl (Y.ld sc72 rfl rfl) ?_
              refine V.yl rfl (Y.lda (vs := [_, _, _, _, _, _, _, _]) ag44 rfl rfl) ?_
              refine V.hv rfl ?_
              refine L.apc ?_
              refine L.callR (Γf := [blk h [.int .u32 base, .pointer (some ⟨q, 0, none⟩), .slice ta1 (H.t).length tc1, .slice (some ⟨rg, 0, none⟩) n n] 112]) go26 rfl (fun w hw hf => he_Next h q base ta1 tc1 rg H.t n w hf) ?_
              rintro _ rfl
              refine L.nil ?_
              refine V.on ?_
              refine V.hv rfl ?_
              refine L.apc ?_
              refine L.callP go32 rfl (fun w hw => seq_Wrap _ w) ?_
              refine L.nil ?_
              refine V.on ?_
              refine V.yl rfl (Y.addW rfl rfl) ?_
              refine V.yl rfl (Y.bdL (cs := [_, _, _, _, _, _, _, _, _, _, _]) zr46 bd46 rfl rfl rfl) ?_
              refine V.hv rfl ?_
              refine L.apc ?_
              refine L.callFW (Γf := []) go31 rfl (fun w hw hf => seg_Encode (⟨2, IntKind.u32.wrap (fst + wrap32 H.t.length), ⟨0, false, S.opt.ts, 0, 0, false, 0, (blocksR fst (H.dup :: ab2)).take 4⟩, []⟩ : Seg) ba bc none 0 ⟨by dsimp only; omega, by dsimp only; omega, fun x hx => blocksR_T fst (H.dup :: ab2) x (List.mem_of_mem_take hx)⟩ (u32_b _) (by have := blocksR_len fst (H.dup :: ab2); dsimp only; rw [List.length_take]; omega) (by simp) w (by dsimp only; rw [← bkL_take]; exact (own_rs (hw.holds.on (own 51 2 ba (blocksR fst (H.dup :: ab2)).length bc (bkL (blocksR fst (H.dup :: ab2)))) (by simp))).pre _) (fun j v hj => by simp [byteL] at hj)) ?_
              rintro _ _ ⟨a94, c94, rfl, rfl⟩
              refine L.apc ?_
              refine L.nil ?_
              refine V.on ?_
              refine V.yl rfl (Y.extL rfl rfl) ?_
              refine V.yl rfl (Y.extL rfl rfl) ?_
              refine V.yl rfl (Y.as rfl) ?_
              refine V.yl rfl (Y.as rfl) ?_
              refine V.fin ?_
              refine C.ret ?_
              refine FnPost.r2 Go.Proofs.Tryz.results9 rfl rfl ?_
              rw [replyT_ok (ab2 := ab2) hS hk (by rw [hH]; exact hbad) (by rw [hH]; exact hA), hH, hsg]
              exact ⟨[blk r [.int .u32 fst, .pointer (some ⟨h, 0, none⟩), .slice b45 ab2.length c45] 76, own 35 2 b45 ab2.length c45 (spL ab2), blk h [.int .u32 base, .pointer (some ⟨q, 0, none⟩), .slice ta1 (H.t).length tc1, .slice (some ⟨rg, 0, none⟩) n n] 112, blk q [.slice a1 (H.l).length c1] 147, own 35 2 a1 (H.l).length c1 (spL (H.l)), own 5 1 ta1 (H.t).length tc1 (byteL (H.t)), own 5 1 (some ⟨rg, 0, none⟩) n n (byteL (H.ring)), own 5 1 a94 ((encS (⟨2, IntKind.u32.wrap (fst + wrap32 H.t.length), ⟨0, false, S.opt.ts, 0, 0, false, 0, (blocksR fst (H.dup :: ab2)).take 4⟩, []⟩ : Seg))).length c94 (byteL ((encS (⟨2, IntKind.u32.wrap (fst + wrap32 H.t.length), ⟨0, false, S.opt.ts, 0, 0, false, 0, (blocksR fst (H.dup :: ab2)).take 4⟩, []⟩ : Seg))))], inferInstance, a94, c94, rfl, b45, c45, ta1, tc1, a1, c1, rfl⟩
          ·
            refine L.apc ?_
            refine L.al (zs := [.int .i64 0, .bool false, .bool false, .int .u32 0, .int .u32 0, .bool false, .int .i64 0, .slice none 0 0]) zr44 rfl ?_; intro b10
            refine L.nil ?_
            refine V.on ?_
            refine V.hv rfl ?_
            refine L.apc ?_
            refine L.callFW (Γf := []) go30 rfl (fun w hw hf => du_Blocks fst H.dup b45 c45 ab2 (by omega) w (own_rs (hw.holds.on (own 35 2 b45 ab2.length c45 (spL ab2)) (by simp)))) ?_
            rintro _ _ ⟨ba, bc, rfl, rfl⟩
            refine L.apc ?_
            have hbl4 := blocksR_len fst (H.dup :: ab2)
            refine L.nil ?_
            refine V.on ?_
            refine V.yl rfl (Y.bdL (cs := [_, _, _, _, _, _, _, _]) zr44 bd44 rfl rfl rfl) ?_
            refine V.ls rfl ?_
            refine L.apc ?_
            refine L.sta (vs := [_, _, _, _, _, _, _, _]) ag44 rfl rfl rfl rfl rfl ?_
            refine L.nil ?_
            refine C.regS ?_
            refine L.yl (Y.ixa Go.Proofs.Tryz.underlying82 sc3 rfl rfl (by omega) (by omega)) ?_
            refine L.yl (Y.ld sc3 rfl rfl) ?_
            refine L.yl (Y.as rfl) ?_
            refine L.nil ?_
            refine C.seq ?_
            refine C.regS ?_
            first | refine L.yl (Y.fa0 fl44_2 rfl) ?_ | refine L.yl (Y.fa fl44_2 rfl) ?_ | refine L.yl (Y.fas fl44_2 rfl (by simp; omega)) ?_
            refine L.yl (Y.ld sc4 rfl rfl) ?_
            refine L.nil ?_
            refine C.cond rfl (fun hc9 => ?_) (fun hc9 => ?_)
            ·
              have hsg : replySeg fst S.opt H.t.length H.dup ab2 = (⟨2, IntKind.u32.wrap (fst + wrap32 H.t.length), ⟨0, false, S.opt.ts, 0, S.opt.val, false, 0, (blocksR fst (H.dup :: ab2)).take 3⟩, []⟩ : Seg) := by unfold replySeg replyOpt; rw [if_pos hc9, if_pos hc9]
              refine C.drwB [b10] (.y 0 (.y 1 (.y 2 (.y 3 (.y 4 (.y 5 (.h 6 (.y 7 (.fin))))))))) mixo (by kernel_rfl) ?_
              first | refine V.yl rfl (Y.fa0 fl46_2 rfl) ?_ | refine V.yl rfl (Y.fa fl46_2 rfl) ?_ | refine V.yl rfl (Y.fas fl46_2 rfl (by simp; omega)) ?_
              first | refine V.yl rfl (Y.fa0 fl44_3 rfl) ?_ | refine V.yl rfl (Y.fa fl44_3 rfl) ?_ | refine V.yl rfl (Y.fas fl44_3 rfl (by simp; omega)) ?_
              refine V.yl rfl (Y.ld sc22 rfl rfl) ?_
              refine V.yl rfl (Y.ixa Go.Proofs.Tryz.underlying82 sc3 rfl rfl (by omega) (by omega)) ?_
              refine V.yl rfl (Y.ld sc3 rfl rfl) ?_
              first | refine V.yl rfl (Y.fa0 fl44_4 rfl) ?_ | refine V.yl rfl (Y.fa fl44_4 rfl) ?_ | refine V.yl rfl (Y.fas fl44_4 rfl (by simp; omega)) ?_
              refine V.hv rfl ?_
              refine L.apc ?_
              refine L.st sc22 rfl rfl rfl ?_
              refine L.nil ?_
              refine V.on ?_
              refine V.yl rfl (Y.as rfl) ?_
              refine V.fin ?_
              refine Then.n ?_
              refine C.fact (p := (blocksR fst (H.dup :: ab2)).length ≤ bc) (fun w hw => (own_le (hw.holds.on (own 51 2 ba (blocksR fst (H.dup :: ab2)).length bc (bkL (blocksR fst (H.dup :: ab2)))) (by simp))).2.1) (fun hbc => ?_)
              refine C.regS ?_
              first | refine L.yl (Y.fa0 fl44_7 rfl) ?_ | refine L.yl (Y.fa fl44_7 rfl) ?_ | refine L.yl (Y.fas fl44_7 rfl (by simp; omega)) ?_
              refine L.yl (Y.ld sc42 rfl rfl) ?_
              first | refine L.yl (Y.fa0 fl44_7 rfl) ?_ | refine L.yl (Y.fa fl44_7 rfl) ?_ | refine L.yl (Y.fas fl44_7 rfl (by simp; omega)) ?_
              refine L.yl (Y.ld sc42 rfl rfl) ?_
              refine L.yl (Y.len ⟨_, Go.Proofs.Tryz.underlying42⟩ rfl) ?_
              refine L.yl (Y.mv rfl) ?_
              refine L.yl (Y.min2 rfl rfl) ?_
              refine L.yl (Y.slh slt42 rfl rfl (by omega)) ?_
              rw [show (min ((blocksR fst (H.dup :: ab2)).length : Int) 3).toNat = ((blocksR fst (H.dup :: ab2)).take 3).length by rw [List.length_take]; omega]
              first | refine L.yl (Y.fa0 fl44_7 rfl) ?_ | refine L.yl (Y.fa fl44_7 rfl) ?_ | refine L.yl (Y.fas fl44_7 rfl (by simp; omega)) ?_
              refine L.st sc42 rfl rfl rfl ?_
              refine L.nil ?_
              refine C.drwS (.y 0 (.y 1 (.y 2 (.y 3 (.y 4 (.y 5 (.y 6 (.y 7 (.y 11 (.h 8 (.h 9 (.y 10 (.y 12 (.h 13 (.y 14 (.y 15 (.y 16 (.y 17 (.fin))))))))))))))))))) mixo (by kernel_rfl) ?_
              refine V.yl rfl (Y.mv rfl) ?_
              refine V.yl rfl (Y.nck rfl) ?_
              first | refine V.yl rfl (Y.fa0 fl76_0 rfl) ?_ | refine V.yl rfl (Y.fa fl76_0 rfl) ?_ | refine V.yl rfl (Y.fas fl76_0 rfl (by simp; omega)) ?_
              refine V.yl rfl (Y.ld sc22 rfl rfl) ?_
              refine V.yl rfl (Y.mv rfl) ?_
              refine V.yl rfl (Y.nck rfl) ?_
              first | refine V.yl rfl (Y.fa0 fl76_1 rfl) ?_ | refine V.yl rfl (Y.fa fl76_1 rfl) ?_ | refine V.yl rfl (Y.fas fl76_1 rfl (by simp; omega)) ?_
              refine V.yl rfl (Y.ld sc72 rfl rfl) ?_
              refine V.yl rfl (Y.lda (vs := [_, _, _, _, _, _, _, _]) ag44 rfl rfl) ?_
              refine V.hv rfl ?_
              refine L.apc ?_
              refine L.callR (Γf := [blk h [.int .u32 base, .pointer (some ⟨q, 0, none⟩), .slice ta1 (H.t).length tc1, .slice (some ⟨rg, 0, none⟩) n n] 112]) go26 rfl (fun w hw hf => he_Next h q base ta1 tc1 rg H.t n w hf) ?_
              rintro _ rfl
              refine L.nil ?_
              refine V.on ?_
              refine V.hv rfl ?_
              refine L.apc ?_
              refine L.callP go32 rfl (fun w hw => seq_Wrap _ w) ?_
              refine L.nil ?_
              refine V.on ?_
              refine V.yl rfl (Y.addW rfl rfl) ?_
              refine V.yl rfl (Y.bdL (cs := [_, _, _, _, _, _, _, _, _, _, _]) zr46 bd46 rfl rfl rfl) ?_
              refine V.hv rfl ?_
              refine L.apc ?_
              refine L.callFW (Γf := []) go31 rfl (fun w hw hf => seg_Encode (⟨2, IntKind.u32.wrap (fst + wrap32 H.t.length), ⟨0, false, S.opt.ts, 0, S.opt.val, false, 0, (blocksR fst (H.dup :: ab2)).take 3⟩, []⟩ : Seg) ba bc none 0 ⟨by dsimp only; omega, hT.val, fun x hx => blocksR_T fst (H.dup :: ab2) x (List.mem_of_mem_take hx)⟩ (u32_b _) (by have := blocksR_len fst (H.dup :: ab2); dsimp only; rw [List.length_take]; omega) (by simp) w (by dsimp only; rw [← bkL_take]; exact (own_rs (hw.holds.on (own 51 2 ba (blocksR fst (H.dup :: ab2)).length bc (bkL (blocksR fst (H.dup :: ab2)))) (by simp))).pre _) (fun j v hj => by simp [byteL] at hj)) ?_
              rintro _ _ ⟨a94, c94, rfl, rfl⟩
              refine L.apc ?_
              refine L.nil ?_
              refine V.on ?_
              refine V.yl rfl (Y.extL rfl rfl) ?_
              refine V.yl rfl (Y.extL rfl rfl) ?_
              refine V.yl rfl (Y.as rfl) ?_
              refine V.yl rfl (Y.as rfl) ?_
              refine V.fin ?_
              refine C.ret ?_
              refine FnPost.r2 Go.Proofs.Tryz.results9 rfl rfl ?_
              rw [replyT_ok (ab2 := ab2) hS hk (by rw [hH]; exact hbad) (by rw [hH]; exact hA), hH, hsg]
              exact ⟨[blk r [.int .u32 fst, .pointer (some ⟨h, 0, none⟩), .slice b45 ab2.length c45] 76, own 35 2 b45 ab2.length c45 (spL ab2), blk h [.int .u32 base, .pointer (some ⟨q, 0, none⟩), .slice ta1 (H.t).length tc1, .slice (some ⟨rg, 0, none⟩) n n] 112, blk q [.slice a1 (H.l).length c1] 147, own 35 2 a1 (H.l).length c1 (spL (H.l)), own 5 1 ta1 (H.t).length tc1 (byteL (H.t)), own 5 1 (some ⟨rg, 0, none⟩) n n (byteL (H.ring)), own 5 1 a94 ((encS (⟨2, IntKind.u32.wrap (fst + wrap32 H.t.length), ⟨0, false, S.opt.ts, 0, S.opt.val, false, 0, (blocksR fst (H.dup :: ab2)).take 3⟩, []⟩ : Seg))).length c94 (byteL ((encS (⟨2, IntKind.u32.wrap (fst + wrap32 H.t.length), ⟨0, false, S.opt.ts, 0, S.opt.val, false, 0, (blocksR fst (H.dup :: ab2)).take 3⟩, []⟩ : Seg))))], inferInstance, a94, c94, rfl, b45, c45, ta1, tc1, a1, c1, rfl⟩
            ·
              have hsg : replySeg fst S.opt H.t.length H.dup ab2 = (⟨2, IntKind.u32.wrap (fst + wrap32 H.t.length), ⟨0, false, S.opt.ts, 0, 0, false, 0, (blocksR fst (H.dup :: ab2)).take 4⟩, []⟩ : Seg) := by unfold replySeg replyOpt; rw [if_neg (by simp [hc9]), if_neg (by simp [hc9])]
              refine C.skip ?_
              refine Then.n ?_
              refine C.fact (p := (blocksR fst (H.dup :: ab2)).length ≤ bc) (fun w hw => (own_le (hw.holds.on (own 51 2 ba (blocksR fst (H.dup :: ab2)).length bc (bkL (blocksR fst (H.dup :: ab2)))) (by simp))).2.1) (fun hbc => ?_)
              refine C.regS ?_
              first | refine L.yl (Y.fa0 fl44_7 rfl) ?_ | refine L.yl (Y.fa fl44_7 rfl) ?_ | refine L.yl (Y.fas fl44_7 rfl (by simp; omega)) ?_
              refine L.yl (Y.ld sc42 rfl rfl) ?_
              first | refine L.yl (Y.fa0 fl44_7 rfl) ?_ | refine L.yl (Y.fa fl44_7 rfl) ?_ | refine L.yl (Y.fas fl44_7 rfl (by simp; omega)) ?_
              refine L.yl (Y.ld sc42 rfl rfl) ?_
              refine L.yl (Y.len ⟨_, Go.Proofs.Tryz.underlying42⟩ rfl) ?_
              refine L.yl (Y.mv rfl) ?_
              refine L.yl (Y.min2 rfl rfl) ?_
              refine L.yl (Y.slh slt42 rfl rfl (by omega)) ?_
              rw [show (min ((blocksR fst (H.dup :: ab2)).length : Int) 4).toNat = ((blocksR fst (H.dup :: ab2)).take 4).length by rw [List.length_take]; omega]
              first | refine L.yl (Y.fa0 fl44_7 rfl) ?_ | refine L.yl (Y.fa fl44_7 rfl) ?_ | refine L.yl (Y.fas fl44_7 rfl (by simp; omega)) ?_
              refine L.st sc42 rfl rfl rfl ?_
              refine L.nil ?_
              refine C.drwS (.y 0 (.y 1 (.y 2 (.y 3 (.y 4 (.y 5 (.y 6 (.y 7 (.y 11 (.h 8 (.h 9 (.y 10 (.y 12 (.h 13 (.y 14 (.y 15 (.y 16 (.y 17 (.fin))))))))))))))))))) mixo (by kernel_rfl) ?_
              refine V.yl rfl (Y.mv rfl) ?_
              refine V.yl rfl (Y.nck rfl) ?_
              first | refine V.yl rfl (Y.fa0 fl76_0 rfl) ?_ | refine V.yl rfl (Y.fa fl76_0 rfl) ?_ | refine V.yl rfl (Y.fas fl76_0 rfl (by simp; omega)) ?_
              refine V.yl rfl (Y.ld sc22 rfl rfl) ?_
              refine V.yl rfl (Y.mv rfl) ?_
              refine V.yl rfl (Y.nck rfl) ?_
              first | refine V.yl rfl (Y.fa0 fl76_1 rfl) ?_ | refine V.yl rfl (Y.fa fl76_1 rfl) ?_ | refine V.yl rfl (Y.fas fl76_1 rfl (by simp; omega)) ?_
              refine V.yl rfl (Y.ld sc72 rfl rfl) ?_
              refine V.yl rfl (Y.lda (vs := [_, _, _, _, _, _, _, _]) ag44 rfl rfl) ?_
              refine V.hv rfl ?_
              refine L.apc ?_
              refine L.callR (Γf := [blk h [.int .u32 base, .pointer (some ⟨q, 0, none⟩), .slice ta1 (H.t).length tc1, .slice (some ⟨rg, 0, none⟩) n n] 112]) go26 rfl (fun w hw hf => he_Next h q base ta1 tc1 rg H.t n w hf) ?_
              rintro _ rfl
              refine L.nil ?_
              refine V.on ?_
              refine V.hv rfl ?_
              refine L.apc ?_
              refine L.callP go32 rfl (fun w hw => seq_Wrap _ w) ?_
              refine L.nil ?_
              refine V.on ?_
              refine V.yl rfl (Y.addW rfl rfl) ?_
              refine V.yl rfl (Y.bdL (cs := [_, _, _, _, _, _, _, _, _, _, _]) zr46 bd46 rfl rfl rfl) ?_
              refine V.hv rfl ?_
              refine L.apc ?_
              refine L.callFW (Γf := []) go31 rfl (fun w hw hf => seg_Encode (⟨2, IntKind.u32.wrap (fst + wrap32 H.t.length), ⟨0, false, S.opt.ts, 0, 0, false, 0, (blocksR fst (H.dup :: ab2)).take 4⟩, []⟩ : Seg) ba bc none 0 ⟨by dsimp only; omega, by dsimp only; omega, fun x hx => blocksR_T fst (H.dup :: ab2) x (List.mem_of_mem_take hx)⟩ (u32_b _) (by have := blocksR_len fst (H.dup :: ab2); dsimp only; rw [List.length_take]; omega) (by simp) w (by dsimp only; rw [← bkL_take]; exact (own_rs (hw.holds.on (own 51 2 ba (blocksR fst (H.dup :: ab2)).length bc (bkL (blocksR fst (H.dup :: ab2)))) (by simp))).pre _) (fun j v hj => by simp [byteL] at hj)) ?_
              rintro _ _ ⟨a94, c94, rfl, rfl⟩
              refine L.apc ?_
              refine L.nil ?_
              refine V.on ?_
              refine V.yl rfl (Y.extL rfl rfl) ?_
              refine V.yl rfl (Y.extL rfl rfl) ?_
              refine V.yl rfl (Y.as rfl) ?_
              refine V.yl rfl (Y.as rfl) ?_
              refine V.fin ?_
              refine C.ret ?_
              refine FnPost.r2 Go.Proofs.Tryz.results9 rfl rfl ?_
              rw [replyT_ok (ab2 := ab2) hS hk (by rw [hH]; exact hbad) (by rw [hH]; exact hA), hH, hsg]
              exact ⟨[blk r [.int .u32 fst, .pointer (some ⟨h, 0, none⟩), .slice b45 ab2.length c45] 76, own 35 2 b45 ab2.length c45 (spL ab2), blk h [.int .u32 base, .pointer (some ⟨q, 0, none⟩), .slice ta1 (H.t).length tc1, .slice (some ⟨rg, 0, none⟩) n n] 112, blk q [.slice a1 (H.l).length c1] 147, own 35 2 a1 (H.l).length c1 (spL (H.l)), own 5 1 ta1 (H.t).length tc1 (byteL (H.t)), own 5 1 (some ⟨rg, 0, none⟩) n n (byteL (H.ring)), own 5 1 a94 ((encS (⟨2, IntKind.u32.wrap (fst + wrap32 H.t.length), ⟨0, false, S.opt.ts, 0, 0, false, 0, (blocksR fst (H.dup :: ab2)).take 4⟩, []⟩ : Seg))).length c94 (byteL ((encS (⟨2, IntKind.u32.wrap (fst + wrap32 H.t.length), ⟨0, false, S.opt.ts, 0, 0, false, 0, (blocksR fst (H.dup :: ab2)).take 4⟩, []⟩ : Seg))))], inferInstance, a94, c94, rfl, b45, c45, ta1, tc1, a1, c1, rfl⟩
end Go.Proofs.YtcbhcdcobgdddaaGreat
set_option maxHeartbeats 1000000
namespace Go.Proofs.YtcbhcdcobgdddaaGreat
open Go Go.X Go.Rep Go.Shelf
theorem go87 : Goes Go.Proofs.Tryz.prog 87 := enters_of Go.Proofs.Tryz.func87 (by kernel_rfl) rfl
theorem pow256_le {a b : Nat} (h : a ≤ b) : 256 ^ a ≤ 256 ^ b := Nat.pow_le_pow_right (by omega) h
theorem beB_step (n k i : Nat) (hi : i < k) : beB n (k - i) = UInt8.ofNat (n / 256 ^ (k - (i + 1))) :: beB n (k - (i + 1)) := by
  obtain ⟨j, hj⟩ : ∃ j, k - i = j + 1 := ⟨k - i - 1, by omega⟩
  rw [hj, show k - (i + 1) = j by omega]; rfl
theorem mod256 (m : Nat) : IntKind.u8.wrap (((m % 256 : Nat)) : Int) = ((UInt8.ofNat m).toNat : Int) := by
  rw [u8_lt _ (Nat.mod_lt _ (by omega))]; simp
theorem beN_take (b : List UInt8) (i : Nat) (u : UInt8) (h : b[i]? = some u) : beN (b.take (i + 1)) = beN (b.take i) * 256 + u.toNat := by
  rw [List.take_add_one, h]; exact beN_append _ _
theorem beN4 (b : List UInt8) (i : Nat) (h : i ≤ 3) : beN (b.take i) * 256 + 255 < 4294967296 := by
  have h1 := beN_lt (b.take i)
  have h2 : 256 ^ (b.take i).length ≤ 256 ^ 3 := pow256_le (by rw [List.length_take]; omega)
  omega
theorem val_step (v c : Nat) (h : v * 256 + 255 < 4294967296) (hc : c < 256) : IntKind.u32.wrap (IntKind.u32.wrap ((v : Int) * 256) + IntKind.u32.wrap (c : Int)) = ((v * 256 + c : Nat) : Int) := by
  show ((v : Int) * 256 % 4294967296 + (c : Int) % 4294967296) % 4294967296 = _
  omega
/-- the sum, byte by byte -/
def fold1 (n : Nat) : Nat := if 65535 < n then n % 65536 + n / 65536 else n
theorem fold1_lin {n : Nat} (h : n ≤ 131070) : fold1 n = if n ≤ 65535 then n else n - 65535 := by
  unfold fold1
  by_cases h1 : n ≤ 65535
  · rw [if_neg (by omega), if_pos h1]
  · rw [if_pos (by omega), if_neg h1]; omega
theorem addN_lin {s m : Nat} (h : s + m ≤ 131070) : addN s m = if s + m ≤ 65535 then s + m else s + m - 65535 := by
  unfold addN
  by_cases h1 : s + m ≤ 65535
  · rw [if_pos h1, Nat.div_eq_of_lt (by omega), Nat.mod_eq_of_lt (a := s + m) (by omega), Nat.add_zero, Nat.mod_eq_of_lt (by omega)]
  · rw [if_neg h1]
    have hd : (s + m) / 65536 = 0 ∨ (s + m) / 65536 = 1 := by omega
    rcases hd with hd | hd
    · have : s + m = 65535 + 0 ∨ s + m < 65536 := by omega
      rw [hd]; omega
    · rw [hd]
      have hm : (s + m) % 65536 = s + m - 65536 := by omega
      rw [hm, Nat.mod_eq_of_lt (by omega)]; omega
theorem fold1_le {n : Nat} (h : n ≤ 131070) : fold1 n ≤ 65535 := by unfold fold1; split <;> omega
def sumG : Bool → Nat → List UInt8 → Nat
  | _, s, [] => s
  | false, s, c :: r => sumG true (fold1 (s + 256 * c.toNat)) r
  | true, s, c :: r => sumG false (fold1 (s + c.toNat)) r
theorem sumG_eq : ∀ (b : List UInt8) (s : Nat), s ≤ 65535 → sumG false s b = (wordsB b).foldl addN s
  | [], s, h => rfl
  | [x], s, h => by
    have := x.toNat_lt
    simp only [sumG, wordsB, List.foldl_cons, List.foldl_nil]
    rw [fold1_lin (by omega), addN_lin (by omega)]; (repeat' split) <;> omega
  | x :: u :: r, s, h => by
    have hx := x.toNat_lt
    have hu := u.toNat_lt
    have h1 : fold1 (fold1 (s + 256 * x.toNat) + u.toNat) = addN s (x.toNat * 256 + u.toNat) := by
      have hh := fold1_le (n := s + 256 * x.toNat) (by omega)
      rw [fold1_lin (by omega), fold1_lin (n := s + 256 * x.toNat) (by omega), addN_lin (by omega)]; (repeat' split) <;> omega
    have h2 : fold1 (fold1 (s + 256 * x.toNat) + u.toNat) ≤ 65535 := fold1_le (by have := fold1_le (n := s + 256 * x.toNat) (by omega); omega)
    simp only [sumG, wordsB, List.foldl_cons]
    rw [sumG_eq r _ h2, h1]
theorem sumG_step0 {b : List UInt8} {i : Nat} {u : UInt8} (s : Nat) (h : b[i]? = some u) : sumG false s (b.drop i) = sumG true (fold1 (s + 256 * u.toNat)) (b.drop (i + 1)) := by
  obtain ⟨h1, h2⟩ := List.getElem?_eq_some_iff.1 h
  rw [List.drop_eq_getElem_cons h1, h2]; rfl
theorem sumG_step1 {b : List UInt8} {i : Nat} {u : UInt8} (s : Nat) (h : b[i]? = some u) : sumG true s (b.drop i) = sumG false (fold1 (s + u.toNat)) (b.drop (i + 1)) := by
  obtain ⟨h1, h2⟩ := List.getElem?_eq_some_iff.1 h
  rw [List.drop_eq_getElem_cons h1, h2]; rfl
theorem sumG_end (o : Bool) (s : Nat) {b : List UInt8} {i : Nat} (h : b.length ≤ i) : sumG o s (b.drop i) = s := by rw [List.drop_eq_nil_of_le h]; cases o <;> rfl
theorem rf_Number (n k : Nat) (hn : n < 4294967296) (hk : k ≤ 4) (w : World) : Calls Go.Proofs.Tryz.prog 85 #[.int .u32 n, .int .i64 k] w (Post w [] (RW fun r Γ => ∃ a c, r = .slice a k c ∧ Γ = [own 5 1 a k c (byteL (beB n k))])) := by
  refine spec_of Go.Proofs.Tryz.func85 rfl Go.Proofs.Tryz.ntmps85 rfl (Holds.nil w) ?_
  change C _ _ _ _ _ _ _ ⟨[(0, _), (1, _)], []⟩ _
  refine C.regS ?_
  refine L.yl (Y.as rfl) ?_
  refine L.nil ?_
  refine C.regS ?_
  refine L.yl (Y.as rfl) ?_
  refine L.nil ?_
  refine C.seq ?_
  refine C.nil0 5 1 ?_
  refine C.regS ?_
  refine L.yl (Y.as rfl) ?_
  refine L.nil ?_
  refine C.block ?_
  refine C.loop (σ := Nat × Option Addr × Nat × List UInt8) (fun (i, a, c, X) => [(0, .int .u32 n), (1, .int .i64 k), (5, .slice a X.length c), (6, .int .i64 i)]) (fun (i, a, c, X) => [own 5 1 a X.length c (byteL X)]) (fun (i, a, c, X) => i ≤ k ∧ X.length = i ∧ X ++ beB n (k - i) = beB n k) (fun (i, a, c, X) => k - i) (0, none, 0, []) ?_ ?_ ?_ ?_
  · repeat (first | exact trivial | refine ⟨rfl, ?_⟩)
  · exact .of (.refl _)
  · exact ⟨Nat.zero_le _, rfl, rfl⟩
  · rintro ⟨i, a, c, X⟩ ⟨hI0, hI1, hI2⟩
    try dsimp only
    refine C.seq ?_
    refine C.regS ?_
    refine L.yl (Y.mv rfl) ?_
    refine L.yl (Y.mv rfl) ?_
    refine L.yl (Y.lss rfl rfl) ?_
    refine L.nil ?_
    refine C.condP rfl (fun hc1 => ?_) (fun hc1 => ?_)
    ·
      refine C.skip ?_
      refine Then.n ?_
      refine C.seq ?_
      refine C.block ?_
      refine C.regS ?_
      refine L.yl (Y.as rfl) ?_
      refine L.nil ?_
      refine C.seq ?_
      refine C.regS ?_
      refine L.yl (Y.mv rfl) ?_
      first | refine L.yl (Y.add rfl rfl (by omega)) ?_ | refine L.yl (Y.addW rfl rfl) ?_
      refine L.yl (Y.as rfl) ?_
      refine L.nil ?_
      refine C.block ?_
      refine C.loop (σ := Nat) (fun j => [(0, .int .u32 n), (1, .int .i64 k), (5, .slice a X.length c), (6, .int .i64 i), (7, .int .u32 ((256 ^ (j - (i + 1)) : Nat) : Int)), (8, .int .i64 j)]) (fun j => [own 5 1 a X.length c (byteL X)]) (fun j => i + 1 ≤ j ∧ j ≤ k) (fun j => k - j) (i + 1) ?_ ?_ ?_ ?_
      · rw [Nat.sub_self]; repeat (first | exact trivial | refine ⟨rfl, ?_⟩)
      · first | exact .of (.refl _) | exact inferInstance | (dsimp only; exact inferInstance)
      · exact ⟨Nat.le_refl _, by omega⟩
      · rintro j ⟨hJ0, hJ1⟩
        have hpw : 256 ^ (j - (i + 1)) ≤ 256 ^ 3 := pow256_le (by omega)
        have hpp : 0 < 256 ^ (j - (i + 1)) := Nat.pow_pos (by omega)
        try dsimp only
        refine C.seq ?_
        refine C.regS ?_
        refine L.yl (Y.mv rfl) ?_
        refine L.yl (Y.mv rfl) ?_
        refine L.yl (Y.lss rfl rfl) ?_
        refine L.nil ?_
        refine C.condP rfl (fun hc2 => ?_) (fun hc2 => ?_)
        ·
          refine C.skip ?_
          refine Then.n ?_
          refine C.seq ?_
          refine C.block ?_
          refine C.reg ?_
          refine L.yl (Y.mv rfl) ?_
          refine L.yl (Y.mulW rfl rfl) ?_
          refine L.yl (Y.as rfl) ?_
          refine L.nil ?_
          refine InBlo.n ?_
          refine Then.n ?_
          refine C.reg ?_
          refine L.yl (Y.mv rfl) ?_
          first | refine L.yl (Y.add rfl rfl (by omega)) ?_ | refine L.yl (Y.addW rfl rfl) ?_
          refine L.yl (Y.as rfl) ?_
          refine L.nil ?_
          rw [show IntKind.u32.wrap (((256 ^ (j - (i + 1)) : Nat) : Int) * 256) = ((256 ^ (j + 1 - (i + 1)) : Nat) : Int) by rw [show j + 1 - (i + 1) = (j - (i + 1)) + 1 by omega, Nat.pow_succ, ← u32_lt (256 ^ (j - (i + 1)) * 256) (by have : 256 ^ (j - (i + 1)) ≤ 256 ^ 2 := pow256_le (by omega); omega)]; simp]
          exact ⟨j + 1, (by repeat (first | exact trivial | refine ⟨rfl, ?_⟩ | refine ⟨congrArg some (by simp), ?_⟩ | refine ⟨congrArg some (by simp; omega), ?_⟩)), rfl, (by first | exact inferInstance | (dsimp only; exact inferInstance)), ⟨by omega, by omega⟩, (by first | omega | (dsimp only; omega))⟩
        ·
          obtain rfl : k = j := by omega
          refine C.exit ?_
          refine Then.x ?_
          refine Then.x ?_
          refine InBlo.x ?_
          refine Then.n ?_
          refine C.reg ?_
          refine L.yl (Y.mv rfl) ?_
          refine L.yl (Y.mv rfl) ?_
          refine L.yl (Y.mv rfl) ?_
          refine L.yl (Y.quoN rfl rfl hpp (u32_lt _ (Nat.lt_of_le_of_lt (Nat.div_le_self _ _) hn))) ?_
          refine L.yl (Y.remN (q := 256) rfl rfl (by omega)) ?_
          refine L.yl (Y.cvW Go.Proofs.Tryz.underlying5 ⟨_, Go.Proofs.Tryz.underlying22⟩ rfl) ?_
          rw [mod256]
          refine L.bs1 elt31 rfl rfl ?_; intro b29
          refine L.app elt31 rfl rfl (by rfl) (by first | (simp; done) | (simp [byteL]; done)) (by omega) (by omega) ?_; intro a30 c30
          refine L.yl (Y.as rfl) ?_
          refine L.nil ?_
          refine InBlo.n ?_
          refine Then.n ?_
          refine C.reg ?_
          refine L.yl (Y.mv rfl) ?_
          first | refine L.yl (Y.add rfl rfl (by omega)) ?_ | refine L.yl (Y.addW rfl rfl) ?_
          refine L.yl (Y.as rfl) ?_
          refine L.nil ?_
          rw [show X.length + 1 = (X ++ [UInt8.ofNat (n / 256 ^ (k - (i + 1)))]).length by simp, show byteL X ++ [Value.int .u8 ((UInt8.ofNat (n / 256 ^ (k - (i + 1)))).toNat : Int)] = byteL (X ++ [UInt8.ofNat (n / 256 ^ (k - (i + 1)))]) by simp [byteL]]
          exact ⟨(i + 1, a30, c30, X ++ [UInt8.ofNat (n / 256 ^ (k - (i + 1)))]), (by repeat (first | exact trivial | refine ⟨rfl, ?_⟩ | refine ⟨congrArg some (by simp), ?_⟩ | refine ⟨congrArg some (by simp; omega), ?_⟩)), rfl, (by first | exact inferInstance | (dsimp only; exact inferInstance)), ⟨by omega, by simp; omega, by dsimp only; rw [List.append_assoc, List.singleton_append, ← beB_step n k i (by omega)]; exact hI2⟩, (by first | omega | (dsimp only; omega))⟩
    ·
      refine C.exit ?_
      refine Then.x ?_
      refine Then.x ?_
      refine InBlo.x ?_
      refine Then.n ?_
      refine C.regS ?_
      refine L.yl (Y.mv rfl) ?_
      refine L.yl (Y.as rfl) ?_
      refine L.nil ?_
      refine C.ret ?_
      refine FnPost.r1 Go.Proofs.Tryz.results85 rfl ?_
      obtain rfl : i = k := by omega
      have hX : X = beB n i := by rw [Nat.sub_self] at hI2; simpa [beB] using hI2
      subst hX
      rw [hI1]
      exact ⟨[own 5 1 a i c (byteL (beB n i))], inferInstance, a, c, rfl, rfl⟩
theorem rf_Value (a : Option Addr) (b : List UInt8) (c : Nat) (hb : b.length ≤ 4) (w : World) (h : Rs w a (byteL b)) : Pur Go.Proofs.Tryz.prog 40 [.slice a b.length c] (.int .u32 (beN b : Nat)) w := by
  have hrd : ∀ Γ, Rd w (fps []) Γ a (byteL b) := fun Γ => Rd.old0 h Γ
  refine pur_of Go.Proofs.Tryz.func40 rfl Go.Proofs.Tryz.ntmps40 rfl ?_
  change C _ _ _ _ _ _ _ ⟨[(0, _)], []⟩ _
  refine C.regS ?_
  refine L.yl (Y.as rfl) ?_
  refine L.nil ?_
  refine C.regS ?_
  refine L.yl (Y.as rfl) ?_
  refine L.nil ?_
  refine C.seq ?_
  refine C.regS ?_
  refine L.yl (Y.as rfl) ?_
  refine L.nil ?_
  refine C.block ?_
  refine C.loop (σ := Nat) (fun i => [(0, .slice a b.length c), (3, .int .u32 (beN (b.take i) : Nat)), (4, .int .i64 i)]) (fun i => []) (fun i => i ≤ b.length) (fun i => b.length - i) 0 ?_ ?_ ?_ ?_
  · repeat (first | exact trivial | refine ⟨rfl, ?_⟩)
  · first | exact .of (.refl _) | exact inferInstance | (dsimp only; exact inferInstance)
  · exact Nat.zero_le _
  · rintro i hI0
    try dsimp only
    refine C.seq ?_
    refine C.regS ?_
    refine L.yl (Y.mv rfl) ?_
    refine L.yl (Y.mv rfl) ?_
    refine L.yl (Y.len ⟨_, Go.Proofs.Tryz.underlying31⟩ rfl) ?_
    refine L.yl (Y.lss rfl rfl) ?_
    refine L.nil ?_
    refine C.condP rfl (fun hc1 => ?_) (fun hc1 => ?_)
    ·
      obtain ⟨u0, hu0⟩ : ∃ u, b[i]? = some u := ⟨_, List.getElem?_eq_getElem (by omega)⟩
      refine C.skip ?_
      refine Then.n ?_
      refine C.seq ?_
      refine C.block ?_
      refine C.reg ?_
      refine L.yl (Y.mv rfl) ?_
      refine L.yl (Y.mulW rfl rfl) ?_
      refine L.yl (Y.mv rfl) ?_
      refine L.yl (Y.mv rfl) ?_
      refine L.yl (Y.ix slt31 rfl rfl (by rw [byteL_length]; omega) (by omega) (by omega)) ?_
      first | refine L.yl (Y.ld sc5 rfl rfl) ?_ | refine L.yl (Y.lds sc5 rfl (get_byteL hu0 (by simp))) ?_
      refine L.yl (Y.cvW Go.Proofs.Tryz.underlying22 ⟨_, Go.Proofs.Tryz.underlying5⟩ rfl) ?_
      refine L.yl (Y.addW rfl rfl) ?_
      refine L.yl (Y.as rfl) ?_
      refine L.nil ?_
      refine InBlo.n ?_
      refine Then.n ?_
      refine C.reg ?_
      refine L.yl (Y.mv rfl) ?_
      first | refine L.yl (Y.add rfl rfl (by omega)) ?_ | refine L.yl (Y.addW rfl rfl) ?_
      refine L.yl (Y.as rfl) ?_
      refine L.nil ?_
      rw [show IntKind.u32.wrap (IntKind.u32.wrap ((beN (b.take i) : Nat) * 256) + IntKind.u32.wrap (u0.toNat : Int)) = ((beN (b.take (i + 1)) : Nat) : Int) by rw [beN_take b i u0 hu0]; exact val_step _ _ (beN4 b i (by omega)) u0.toNat_lt]
      exact ⟨i + 1, (by repeat (first | exact trivial | refine ⟨rfl, ?_⟩ | refine ⟨congrArg some (by simp), ?_⟩ | refine ⟨congrArg some (by simp; omega), ?_⟩)), rfl, (by first | exact inferInstance | (dsimp only; exact inferInstance)), (by first | omega | (dsimp only; omega)), (by first | omega | (dsimp only; omega))⟩
    ·
      refine C.exit ?_
      refine Then.x ?_
      refine Then.x ?_
      refine InBlo.x ?_
      refine Then.n ?_
      refine C.regS ?_
      refine L.yl (Y.mv rfl) ?_
      refine L.yl (Y.as rfl) ?_
      refine L.nil ?_
      refine C.ret ?_
      refine FnPost.r1 Go.Proofs.Tryz.results40 rfl ?_
      rw [List.take_of_length_le (by omega)]
theorem rf_Fold (n : Nat) (hn : n ≤ 131070) (w : World) : Pur Go.Proofs.Tryz.prog 87 [.int .i64 n] (.int .i64 (fold1 n : Nat)) w := by
  refine pur_of Go.Proofs.Tryz.func87 rfl Go.Proofs.Tryz.ntmps87 rfl ?_
  change C _ _ _ _ _ _ _ ⟨[(0, _)], []⟩ _
  refine C.regS ?_
  refine L.yl (Y.as rfl) ?_
  refine L.nil ?_
  refine C.seq ?_
  refine C.block ?_
  refine C.loop (σ := Nat) (fun m => [(0, .int .i64 m)]) (fun m => []) (fun m => m ≤ 131070 ∧ fold1 m = fold1 n) (fun m => m) n ?_ ?_ ?_ ?_
  · repeat (first | exact trivial | refine ⟨rfl, ?_⟩)
  · first | exact .of (.refl _) | exact inferInstance | (dsimp only; exact inferInstance)
  · exact ⟨hn, rfl⟩
  · rintro m ⟨hI0, hI1⟩
    try dsimp only
    refine C.seq ?_
    refine C.regS ?_
    refine L.yl (Y.mv rfl) ?_
    refine L.yl (Y.gtr rfl rfl) ?_
    refine L.nil ?_
    refine C.condP rfl (fun hc1 => ?_) (fun hc1 => ?_)
    ·
      refine C.skip ?_
      refine Then.n ?_
      refine C.block ?_
      refine C.reg ?_
      refine L.yl (Y.mv rfl) ?_
      refine L.yl (Y.remN (q := 65536) rfl rfl (by omega)) ?_
      refine L.yl (Y.mv rfl) ?_
      refine L.yl (Y.quoN (q := 65536) rfl rfl (by omega) (wrap64_id (by omega))) ?_
      first | refine L.yl (Y.add rfl rfl (by omega)) ?_ | refine L.yl (Y.addW rfl rfl) ?_
      refine L.yl (Y.as rfl) ?_
      refine L.nil ?_
      refine InBlo.n ?_
      rw [show ((m % 65536 : Nat) : Int) + ((m / 65536 : Nat) : Int) = ((m % 65536 + m / 65536 : Nat) : Int) from rfl]
      exact ⟨m % 65536 + m / 65536, (by repeat (first | exact trivial | refine ⟨rfl, ?_⟩ | refine ⟨congrArg some (by simp), ?_⟩ | refine ⟨congrArg some (by simp; omega), ?_⟩)), rfl, (by first | exact inferInstance | (dsimp only; exact inferInstance)), ⟨by omega, by (try dsimp only); rw [← hI1]; unfold fold1; rw [if_pos (show 65535 < m by omega), if_neg (by omega)]⟩, (by first | omega | (dsimp only; omega))⟩
    ·
      refine C.exit ?_
      refine Then.x ?_
      refine Then.x ?_
      refine InBlo.x ?_
      refine Then.n ?_
      refine C.regS ?_
      refine L.yl (Y.mv rfl) ?_
      refine L.yl (Y.as rfl) ?_
      refine L.nil ?_
      refine C.ret ?_
      refine FnPost.r1 Go.Proofs.Tryz.results87 rfl ?_
      rw [← hI1]; unfold fold1; rw [if_neg (by omega)]
theorem rf_SumOf (a : Option Addr) (b : List UInt8) (c : Nat) (hb : b.length ≤ 4294967296) (w : World) (h : Rs w a (byteL b)) : Pur Go.Proofs.Tryz.prog 38 [.slice a b.length c] (.int .i64 (sumN b : Nat)) w := by
  have hrd : ∀ Γ, Rd w (fps []) Γ a (byteL b) := fun Γ => Rd.old0 h Γ
  have hs0 : sumG false 0 b = sumN b := sumG_eq b 0 (by omega)
  refine pur_of Go.Proofs.Tryz.func38 rfl Go.Proofs.Tryz.ntmps38 rfl ?_
  change C _ _ _ _ _ _ _ ⟨[(0, _)], []⟩ _
  refine C.regS ?_
  refine L.yl (Y.as rfl) ?_
  refine L.nil ?_
  refine C.regS ?_
  refine L.yl (Y.as rfl) ?_
  refine L.nil ?_
  refine C.seq ?_
  refine C.regS ?_
  refine L.yl (Y.as rfl) ?_
  refine L.nil ?_
  refine C.block ?_
  refine C.loop (σ := Nat × Nat) (fun (i, s) => [(0, .slice a b.length c), (3, .int .i64 s), (4, .int .i64 i)]) (fun (i, s) => []) (fun (i, s) => i ≤ b.length ∧ s ≤ 65535 ∧ sumG (if i % 2 = 0 then false else true) s (b.drop i) = sumN b) (fun (i, s) => b.length - i) (0, 0) ?_ ?_ ?_ ?_
  · repeat (first | exact trivial | refine ⟨rfl, ?_⟩)
  · first | exact .of (.refl _) | exact inferInstance | (dsimp only; exact inferInstance)
  · exact ⟨Nat.zero_le _, by omega, hs0⟩
  · rintro ⟨i, s⟩ ⟨hI0, hI1, hI2⟩
    try dsimp only
    refine C.seq ?_
    refine C.regS ?_
    refine L.yl (Y.mv rfl) ?_
    refine L.yl (Y.mv rfl) ?_
    refine L.yl (Y.len ⟨_, Go.Proofs.Tryz.underlying31⟩ rfl) ?_
    refine L.yl (Y.lss rfl rfl) ?_
    refine L.nil ?_
    refine C.condP rfl (fun hc1 => ?_) (fun hc1 => ?_)
    ·
      obtain ⟨u0, hu0⟩ : ∃ u, b[i]? = some u := ⟨_, List.getElem?_eq_getElem (by omega)⟩
      have hu1 := u0.toNat_lt
      refine C.skip ?_
      refine Then.n ?_
      refine C.seq ?_
      refine C.block ?_
      refine C.regS ?_
      refine L.yl (Y.mv rfl) ?_
      refine L.yl (Y.rem rfl rfl (by omega) (by omega)) ?_
      refine L.yl (Y.eqi rfl rfl) ?_
      refine L.nil ?_
      refine C.condP rfl (fun hc2 => ?_) (fun hc2 => ?_)
      ·
        refine C.reg ?_
        refine L.yl (Y.mv rfl) ?_
        refine L.yl (Y.mv rfl) ?_
        refine L.yl (Y.mv rfl) ?_
        refine L.yl (Y.ix slt31 rfl rfl (by rw [byteL_length]; omega) (by omega) (by omega)) ?_
        first | refine L.yl (Y.ld sc5 rfl rfl) ?_ | refine L.yl (Y.lds sc5 rfl (get_byteL hu0 (by simp))) ?_
        first | refine L.yl (Y.cvI Go.Proofs.Tryz.underlying3 ⟨_, Go.Proofs.Tryz.underlying5⟩ rfl (by omega)) ?_ | refine L.yl (Y.cvW Go.Proofs.Tryz.underlying3 ⟨_, Go.Proofs.Tryz.underlying5⟩ rfl) ?_
        first | refine L.yl (Y.mul rfl rfl (by omega)) ?_ | refine L.yl (Y.mulW rfl rfl) ?_
        first | refine L.yl (Y.add rfl rfl (by omega)) ?_ | refine L.yl (Y.addW rfl rfl) ?_
        rw [show (s : Int) + 256 * (u0.toNat : Int) = ((s + 256 * u0.toNat : Nat) : Int) by omega]
        refine L.callP go87 rfl (fun w hw => rf_Fold _ (by omega) w) ?_
        refine L.yl (Y.as rfl) ?_
        refine L.nil ?_
        refine InBlo.n ?_
        refine Then.n ?_
        refine C.reg ?_
        refine L.yl (Y.mv rfl) ?_
        first | refine L.yl (Y.add rfl rfl (by omega)) ?_ | refine L.yl (Y.addW rfl rfl) ?_
        refine L.yl (Y.as rfl) ?_
        refine L.nil ?_
        exact ⟨(i + 1, fold1 (s + 256 * u0.toNat)), (by repeat (first | exact trivial | refine ⟨rfl, ?_⟩ | refine ⟨congrArg some (by simp), ?_⟩ | refine ⟨congrArg some (by simp; omega), ?_⟩)), rfl, (by first | exact inferInstance | (dsimp only; exact inferInstance)), ⟨by omega, fold1_le (by have := u0.toNat_lt; omega), by dsimp only; rw [if_neg (show ¬ (i + 1) % 2 = 0 by omega)]; rw [if_pos (show i % 2 = 0 by omega), sumG_step0 s hu0] at hI2; exact hI2⟩, (by first | omega | (dsimp only; omega))⟩
      ·
        refine C.reg ?_
        refine L.yl (Y.mv rfl) ?_
        refine L.yl (Y.mv rfl) ?_
        refine L.yl (Y.mv rfl) ?_
        refine L.yl (Y.ix slt31 rfl rfl (by rw [byteL_length]; omega) (by omega) (by omega)) ?_
        first | refine L.yl (Y.ld sc5 rfl rfl) ?_ | refine L.yl (Y.lds sc5 rfl (get_byteL hu0 (by simp))) ?_
        first | refine L.yl (Y.cvI Go.Proofs.Tryz.underlying3 ⟨_, Go.Proofs.Tryz.underlying5⟩ rfl (by omega)) ?_ | refine L.yl (Y.cvW Go.Proofs.Tryz.underlying3 ⟨_, Go.Proofs.Tryz.underlying5⟩ rfl) ?_
        first | refine L.yl (Y.add rfl rfl (by omega)) ?_ | refine L.yl (Y.addW rfl rfl) ?_
        rw [show (s : Int) + (u0.toNat : Int) = ((s + u0.toNat : Nat) : Int) by omega]
        refine L.callP go87 rfl (fun w hw => rf_Fold _ (by omega) w) ?_
        refine L.yl (Y.as rfl) ?_
        refine L.nil ?_
        refine InBlo.n ?_
        refine Then.n ?_
        refine C.reg ?_
        refine L.yl (Y.mv rfl) ?_
        first | refine L.yl (Y.add rfl rfl (by omega)) ?_ | refine L.yl (Y.addW rfl rfl) ?_
        refine L.yl (Y.as rfl) ?_
        refine L.nil ?_
        exact ⟨(i + 1, fold1 (s + u0.toNat)), (by repeat (first | exact trivial | refine ⟨rfl, ?_⟩ | refine ⟨congrArg some (by simp), ?_⟩ | refine ⟨congrArg some (by simp; omega), ?_⟩)), rfl, (by first | exact inferInstance | (dsimp only; exact inferInstance)), ⟨by omega, fold1_le (by have := u0.toNat_lt; omega), by dsimp only; rw [if_pos (show (i + 1) % 2 = 0 by omega)]; rw [if_neg (show ¬ i % 2 = 0 by omega), sumG_step1 s hu0] at hI2; exact hI2⟩, (by first | omega | (dsimp only; omega))⟩
    ·
      refine C.exit ?_
      refine Then.x ?_
      refine Then.x ?_
      refine InBlo.x ?_
      refine Then.n ?_
      refine C.regS ?_
      refine L.yl (Y.mv rfl) ?_
      refine L.yl (Y.as rfl) ?_
      refine L.nil ?_
      refine C.ret ?_
      refine FnPost.r1 Go.Proofs.Tryz.results38 rfl ?_
      rw [sumG_end _ _ (by omega)] at hI2; rw [← hI2]
end Go.Proofs.YtcbhcdcobgdddaaGreat
set_option maxHeartbeats 1000000
namespace Go.Proofs.YtcbhcdcobgdddaaGreat
open Go Go.X Go.Rep Go.Shelf
theorem go131 : Goes Go.Proofs.Tryz.prog 131 := enters_of Go.Proofs.Tryz.func131 (by kernel_rfl) rfl
theorem go155 : Goes Go.Proofs.Tryz.prog 155 := enters_of Go.Proofs.Tryz.func155 (by kernel_rfl) rfl
theorem rf_Bare (o : Opts) (a : Option Addr) (c : Nat) (hl : o.blocks.length ≤ 65536) (w : World) : Pur Go.Proofs.Tryz.prog 155 [.agg (optCs o a c).toArray] (.int .i64 (bareN o : Nat)) w := by
  refine pur_of Go.Proofs.Tryz.func155 rfl Go.Proofs.Tryz.ntmps155 rfl ?_
  change C _ _ _ _ _ _ _ ⟨[(0, _)], []⟩ _
  refine C.regS ?_
  refine L.bxa rfl ?_; intro b1
  refine L.yl (Y.as rfl) ?_
  refine L.nil ?_
  refine C.regS ?_
  refine L.yl (Y.as rfl) ?_
  refine L.nil ?_
  refine C.cut (fun (n : Nat) => [(1, .pointer (some ⟨b1, 0, none⟩)), (3, .int .i64 n)]) [] (fun _ => [blk b1 (optCs o a c) 44]) (fun n => n = (if o.mss ≠ 0 then 4 else 0) ∧ n ≤ 1000000) ?_ ?_
  ·
    refine C.regS ?_
    first | refine L.yl (Y.fa0 fl44_0 rfl) ?_ | refine L.yl (Y.fa fl44_0 rfl) ?_ | refine L.yl (Y.fas fl44_0 rfl (by simp; omega)) ?_
    refine L.yl (Y.ld sc3 rfl rfl) ?_
    refine L.yl (Y.nei rfl rfl) ?_
    refine L.nil ?_
    refine C.condP rfl (fun hc1 => ?_) (fun hc1 => ?_)
    ·
      refine C.reg ?_
      refine L.yl (Y.mv rfl) ?_
      first | refine L.yl (Y.add rfl rfl (by omega)) ?_ | refine L.yl (Y.addW rfl rfl) ?_
      refine L.yl (Y.as rfl) ?_
      refine L.nil ?_
      refine Then.n ?_
      exact ⟨0 + 4, (by repeat (first | exact trivial | refine ⟨rfl, ?_⟩ | refine ⟨congrArg some (congrArg (Value.int .i64) (by omega)), ?_⟩ | refine ⟨congrArg some (congrArg (Value.int .i64) (by omega)), ?_⟩)), rfl, (by first | exact inferInstance | (dsimp only; exact inferInstance)), by simp [*], by omega⟩
    ·
      refine C.skip ?_
      refine Then.n ?_
      exact ⟨0 + 0, (by repeat (first | exact trivial | refine ⟨rfl, ?_⟩ | refine ⟨congrArg some (congrArg (Value.int .i64) (by omega)), ?_⟩ | refine ⟨congrArg some (congrArg (Value.int .i64) (by omega)), ?_⟩)), rfl, (by first | exact inferInstance | (dsimp only; exact inferInstance)), by simp [*], by omega⟩
  · rintro n1 hn1
    have hb1 : n1 ≤ 100 := by rw [hn1.1]; (repeat' split) <;> omega
    refine C.cut (fun (n : Nat) => [(1, .pointer (some ⟨b1, 0, none⟩)), (3, .int .i64 n)]) [] (fun _ => [blk b1 (optCs o a c) 44]) (fun n => n = (if o.mss ≠ 0 then 4 else 0) + (if o.permit = true then 2 else 0) ∧ n ≤ 1000000) ?_ ?_
    ·
      refine C.regS ?_
      first | refine L.yl (Y.fa0 fl44_1 rfl) ?_ | refine L.yl (Y.fa fl44_1 rfl) ?_ | refine L.yl (Y.fas fl44_1 rfl (by simp; omega)) ?_
      refine L.yl (Y.ld sc4 rfl rfl) ?_
      refine L.nil ?_
      refine C.cond rfl (fun hc2 => ?_) (fun hc2 => ?_)
      ·
        refine C.reg ?_
        refine L.yl (Y.mv rfl) ?_
        first | refine L.yl (Y.add rfl rfl (by omega)) ?_ | refine L.yl (Y.addW rfl rfl) ?_
        refine L.yl (Y.as rfl) ?_
        refine L.nil ?_
        refine Then.n ?_
        exact ⟨n1 + 2, (by repeat (first | exact trivial | refine ⟨rfl, ?_⟩ | refine ⟨congrArg some (congrArg (Value.int .i64) (by omega)), ?_⟩ | refine ⟨congrArg some (congrArg (Value.int .i64) (by omega)), ?_⟩)), rfl, (by first | exact inferInstance | (dsimp only; exact inferInstance)), by simp [*], by have := hn1.2; have := hb1; omega⟩
      ·
        refine C.skip ?_
        refine Then.n ?_
        exact ⟨n1 + 0, (by repeat (first | exact trivial | refine ⟨rfl, ?_⟩ | refine ⟨congrArg some (congrArg (Value.int .i64) (by omega)), ?_⟩ | refine ⟨congrArg some (congrArg (Value.int .i64) (by omega)), ?_⟩)), rfl, (by first | exact inferInstance | (dsimp only; exact inferInstance)), by simp [*], by have := hn1.2; have := hb1; omega⟩
    · rintro n2 hn2
      have hb2 : n2 ≤ 100 := by rw [hn2.1]; (repeat' split) <;> omega
      refine C.cut (fun (n : Nat) => [(1, .pointer (some ⟨b1, 0, none⟩)), (3, .int .i64 n)]) [] (fun _ => [blk b1 (optCs o a c) 44]) (fun n => n = (if o.mss ≠ 0 then 4 else 0) + (if o.permit = true then 2 else 0) + (if o.ts = true then 10 else 0) ∧ n ≤ 1000000) ?_ ?_
      ·
        refine C.regS ?_
        first | refine L.yl (Y.fa0 fl44_2 rfl) ?_ | refine L.yl (Y.fa fl44_2 rfl) ?_ | refine L.yl (Y.fas fl44_2 rfl (by simp; omega)) ?_
        refine L.yl (Y.ld sc4 rfl rfl) ?_
        refine L.nil ?_
        refine C.cond rfl (fun hc3 => ?_) (fun hc3 => ?_)
        ·
          refine C.reg ?_
          refine L.yl (Y.mv rfl) ?_
          first | refine L.yl (Y.add rfl rfl (by omega)) ?_ | refine L.yl (Y.addW rfl rfl) ?_
          refine L.yl (Y.as rfl) ?_
          refine L.nil ?_
          refine Then.n ?_
          exact ⟨n2 + 10, (by repeat (first | exact trivial | refine ⟨rfl, ?_⟩ | refine ⟨congrArg some (congrArg (Value.int .i64) (by omega)), ?_⟩ | refine ⟨congrArg some (congrArg (Value.int .i64) (by omega)), ?_⟩)), rfl, (by first | exact inferInstance | (dsimp only; exact inferInstance)), by simp [*], by have := hn2.2; have := hb2; omega⟩
        ·
          refine C.skip ?_
          refine Then.n ?_
          exact ⟨n2 + 0, (by repeat (first | exact trivial | refine ⟨rfl, ?_⟩ | refine ⟨congrArg some (congrArg (Value.int .i64) (by omega)), ?_⟩ | refine ⟨congrArg some (congrArg (Value.int .i64) (by omega)), ?_⟩)), rfl, (by first | exact inferInstance | (dsimp only; exact inferInstance)), by simp [*], by have := hn2.2; have := hb2; omega⟩
      · rintro n3 hn3
        have hb3 : n3 ≤ 100 := by rw [hn3.1]; (repeat' split) <;> omega
        refine C.cut (fun (n : Nat) => [(1, .pointer (some ⟨b1, 0, none⟩)), (3, .int .i64 n)]) [] (fun _ => [blk b1 (optCs o a c) 44]) (fun n => n = (if o.mss ≠ 0 then 4 else 0) + (if o.permit = true then 2 else 0) + (if o.ts = true then 10 else 0) + (if o.has = true then 3 else 0) ∧ n ≤ 1000000) ?_ ?_
        ·
          refine C.regS ?_
          first | refine L.yl (Y.fa0 fl44_5 rfl) ?_ | refine L.yl (Y.fa fl44_5 rfl) ?_ | refine L.yl (Y.fas fl44_5 rfl (by simp; omega)) ?_
          refine L.yl (Y.ld sc4 rfl rfl) ?_
          refine L.nil ?_
          refine C.cond rfl (fun hc4 => ?_) (fun hc4 => ?_)
          ·
            refine C.reg ?_
            refine L.yl (Y.mv rfl) ?_
            first | refine L.yl (Y.add rfl rfl (by omega)) ?_ | refine L.yl (Y.addW rfl rfl) ?_
            refine L.yl (Y.as rfl) ?_
            refine L.nil ?_
            refine Then.n ?_
            exact ⟨n3 + 3, (by repeat (first | exact trivial | refine ⟨rfl, ?_⟩ | refine ⟨congrArg some (congrArg (Value.int .i64) (by omega)), ?_⟩ | refine ⟨congrArg some (congrArg (Value.int .i64) (by omega)), ?_⟩)), rfl, (by first | exact inferInstance | (dsimp only; exact inferInstance)), by simp [*], by have := hn3.2; have := hb3; omega⟩
          ·
            refine C.skip ?_
            refine Then.n ?_
            exact ⟨n3 + 0, (by repeat (first | exact trivial | refine ⟨rfl, ?_⟩ | refine ⟨congrArg some (congrArg (Value.int .i64) (by omega)), ?_⟩ | refine ⟨congrArg some (congrArg (Value.int .i64) (by omega)), ?_⟩)), rfl, (by first | exact inferInstance | (dsimp only; exact inferInstance)), by simp [*], by have := hn3.2; have := hb3; omega⟩
        · rintro n4 hn4
          have hb4 : n4 ≤ 100 := by rw [hn4.1]; (repeat' split) <;> omega
          refine C.cut (fun (n : Nat) => [(1, .pointer (some ⟨b1, 0, none⟩)), (3, .int .i64 n)]) [] (fun _ => [blk b1 (optCs o a c) 44]) (fun n => n = (if o.mss ≠ 0 then 4 else 0) + (if o.permit = true then 2 else 0) + (if o.ts = true then 10 else 0) + (if o.has = true then 3 else 0) + (if 0 < o.blocks.length then 2 + 8 * o.blocks.length else 0) ∧ n ≤ 1000000) ?_ ?_
          ·
            refine C.regS ?_
            first | refine L.yl (Y.fa0 fl44_7 rfl) ?_ | refine L.yl (Y.fa fl44_7 rfl) ?_ | refine L.yl (Y.fas fl44_7 rfl (by simp; omega)) ?_
            refine L.yl (Y.ld sc42 rfl rfl) ?_
            refine L.yl (Y.len ⟨_, Go.Proofs.Tryz.underlying42⟩ rfl) ?_
            refine L.yl (Y.gtr rfl rfl) ?_
            refine L.nil ?_
            refine C.condP rfl (fun hc5 => ?_) (fun hc5 => ?_)
            ·
              refine C.reg ?_
              refine L.yl (Y.mv rfl) ?_
              first | refine L.yl (Y.add rfl rfl (by omega)) ?_ | refine L.yl (Y.addW rfl rfl) ?_
              first | refine L.yl (Y.fa0 fl44_7 rfl) ?_ | refine L.yl (Y.fa fl44_7 rfl) ?_ | refine L.yl (Y.fas fl44_7 rfl (by simp; omega)) ?_
              refine L.yl (Y.ld sc42 rfl rfl) ?_
              refine L.yl (Y.len ⟨_, Go.Proofs.Tryz.underlying42⟩ rfl) ?_
              first | refine L.yl (Y.mul rfl rfl (by omega)) ?_ | refine L.yl (Y.mulW rfl rfl) ?_
              first | refine L.yl (Y.add rfl rfl (by omega)) ?_ | refine L.yl (Y.addW rfl rfl) ?_
              refine L.yl (Y.as rfl) ?_
              refine L.nil ?_
              refine Then.n ?_
              exact ⟨n4 + (2 + 8 * o.blocks.length), (by repeat (first | exact trivial | refine ⟨rfl, ?_⟩ | refine ⟨congrArg some (congrArg (Value.int .i64) (by omega)), ?_⟩ | refine ⟨congrArg some (congrArg (Value.int .i64) (by omega)), ?_⟩)), rfl, (by first | exact inferInstance | (dsimp only; exact inferInstance)), by rw [if_pos (show 0 < o.blocks.length by omega), hn4.1], by have := hn4.2; have := hb4; omega⟩
            ·
              refine C.skip ?_
              refine Then.n ?_
              exact ⟨n4 + 0, (by repeat (first | exact trivial | refine ⟨rfl, ?_⟩ | refine ⟨congrArg some (congrArg (Value.int .i64) (by omega)), ?_⟩ | refine ⟨congrArg some (congrArg (Value.int .i64) (by omega)), ?_⟩)), rfl, (by first | exact inferInstance | (dsimp only; exact inferInstance)), by rw [if_neg (show ¬ 0 < o.blocks.length by omega), hn4.1], by have := hn4.2; have := hb4; omega⟩
          · rintro n5 hn5
            have hb5 : n5 ≤ 1000000 := by rw [hn5.1]; (repeat' split) <;> omega
            refine C.regS ?_
            refine L.yl (Y.mv rfl) ?_
            refine L.yl (Y.as rfl) ?_
            refine L.nil ?_
            refine C.ret ?_
            refine FnPost.r1 Go.Proofs.Tryz.results155 rfl ?_
            rw [hn5.1]; rfl
theorem rf_Size (o : Opts) (a : Option Addr) (c : Nat) (hl : o.blocks.length ≤ 65536) (w : World) : Pur Go.Proofs.Tryz.prog 131 [.agg (optCs o a c).toArray] (.int .i64 (sizeN o : Nat)) w := by
  have hbn := bareN_le o
  refine pur_of Go.Proofs.Tryz.func131 rfl Go.Proofs.Tryz.ntmps131 rfl ?_
  change C _ _ _ _ _ _ _ ⟨[(0, _)], []⟩ _
  refine C.regS ?_
  refine L.bxa rfl ?_; intro b1
  refine L.yl (Y.as rfl) ?_
  refine L.nil ?_
  refine C.seq ?_
  refine C.regS ?_
  first | refine L.yl (Y.fa0 fl44_7 rfl) ?_ | refine L.yl (Y.fa fl44_7 rfl) ?_ | refine L.yl (Y.fas fl44_7 rfl (by simp; omega)) ?_
  refine L.yl (Y.ld sc42 rfl rfl) ?_
  refine L.yl (Y.len ⟨_, Go.Proofs.Tryz.underlying42⟩ rfl) ?_
  refine L.yl (Y.gtr rfl rfl) ?_
  refine L.nil ?_
  refine C.condP rfl (fun hc1 => ?_) (fun hc1 => ?_)
  ·
    refine C.regS ?_
    refine L.yl (Y.as rfl) ?_
    refine L.nil ?_
    refine C.ret ?_
    refine Then.r ?_
    refine FnPost.r1 Go.Proofs.Tryz.results131 rfl ?_
    unfold sizeN; rw [if_pos (by omega)]; rfl
  ·
    refine C.skip ?_
    refine Then.n ?_
    refine C.regS ?_
    refine L.yl (Y.lda (vs := [_, _, _, _, _, _, _, _]) ag44 rfl rfl) ?_
    refine L.callP go155 rfl (fun w hw => rf_Bare o _ _ hl w) ?_
    refine L.yl (Y.as rfl) ?_
    refine L.nil ?_
    refine C.seq ?_
    refine C.block ?_
    refine C.loop (σ := Nat) (fun n => [(3, .int .i64 n)]) (fun n => []) (fun n => (n + 3) / 4 * 4 = (bareN o + 3) / 4 * 4 ∧ n ≤ 4000000) (fun n => (4 - n % 4) % 4) (bareN o) ?_ ?_ ?_ ?_
    · repeat (first | exact trivial | refine ⟨rfl, ?_⟩)
    · first | exact .of (.refl _) | exact inferInstance | (dsimp only; exact inferInstance)
    · exact ⟨rfl, by omega⟩
    · rintro n ⟨hI0, hI1⟩
      try dsimp only
      refine C.seq ?_
      refine C.regS ?_
      refine L.yl (Y.mv rfl) ?_
      refine L.yl (Y.remN (q := 4) rfl rfl (by omega)) ?_
      refine L.yl (Y.nei rfl rfl) ?_
      refine L.nil ?_
      refine C.condP rfl (fun hc2 => ?_) (fun hc2 => ?_)
      ·
        refine C.skip ?_
        refine Then.n ?_
        refine C.block ?_
        refine C.reg ?_
        refine L.yl (Y.mv rfl) ?_
        first | refine L.yl (Y.add rfl rfl (by omega)) ?_ | refine L.yl (Y.addW rfl rfl) ?_
        refine L.yl (Y.as rfl) ?_
        refine L.nil ?_
        refine InBlo.n ?_
        rw [show (n : Int) + 1 = ((n + 1 : Nat) : Int) from rfl]
        exact ⟨n + 1, (by repeat (first | exact trivial | refine ⟨rfl, ?_⟩ | refine ⟨congrArg some (by simp), ?_⟩ | refine ⟨congrArg some (by simp; omega), ?_⟩)), rfl, (by first | exact inferInstance | (dsimp only; exact inferInstance)), ⟨by omega, by omega⟩, (by first | omega | (dsimp only; omega))⟩
      ·
        refine C.exit ?_
        refine Then.x ?_
        refine Then.x ?_
        refine InBlo.x ?_
        refine Then.n ?_
        refine C.regS ?_
        refine L.yl (Y.mv rfl) ?_
        refine L.yl (Y.as rfl) ?_
        refine L.nil ?_
        refine C.ret ?_
        refine FnPost.r1 Go.Proofs.Tryz.results131 rfl ?_
        unfold sizeN; rw [if_neg (by omega)]; first | rfl | (congr 1; omega)
theorem rf_Check (o : Opts) (a : Option Addr) (c : Nat) (hl : o.blocks.length ≤ 65536) (w : World) : Pur Go.Proofs.Tryz.prog 90 [.agg (optCs o a c).toArray] (.int .i64 (chkO o)) w := by
  refine pur_of Go.Proofs.Tryz.func90 rfl Go.Proofs.Tryz.ntmps90 rfl ?_
  change C _ _ _ _ _ _ _ ⟨[(0, _)], []⟩ _
  refine C.regS ?_
  refine L.bxa rfl ?_; intro b1
  refine L.yl (Y.as rfl) ?_
  refine L.nil ?_
  refine C.seq ?_
  refine C.test (o.mss < 0 ∨ 65535 < o.mss ∨ o.scale < 0 ∨ 14 < o.scale) ?_ (fun hc1 => ?_) (fun hc1 => ?_)
  ·
    first | refine L.yl (Y.fa0 fl44_0 rfl) ?_ | refine L.yl (Y.fa fl44_0 rfl) ?_ | refine L.yl (Y.fas fl44_0 rfl (by simp; omega)) ?_
    refine L.yl (Y.ld sc3 rfl rfl) ?_
    refine L.yl (Y.lss rfl rfl) ?_
    refine L.yl (Y.mv rfl) ?_
    first | refine L.gsplit (i := 6) rfl (fun hg6 => ?_) (fun hg6 => ?_) | refine L.gsplitB (i := 6) rfl (fun hg6 => ?_) (fun hg6 => ?_)
    ·
      refine L.gOff (t := 6) rfl rfl rfl ?_
      refine L.gOff (t := 6) rfl rfl rfl ?_
      refine L.gOff (t := 6) rfl rfl rfl ?_
      refine L.yl (Y.pickT rfl rfl) ?_
      refine L.yl (Y.mv rfl) ?_
      refine L.gOff (t := 11) rfl rfl rfl ?_
      refine L.gOff (t := 11) rfl rfl rfl ?_
      refine L.gOff (t := 11) rfl rfl rfl ?_
      refine L.yl (Y.pickT rfl rfl) ?_
      refine L.yl (Y.mv rfl) ?_
      refine L.gOff (t := 16) rfl rfl rfl ?_
      refine L.gOff (t := 16) rfl rfl rfl ?_
      refine L.gOff (t := 16) rfl rfl rfl ?_
      refine L.yl (Y.pickT rfl rfl) ?_
      refine L.nil ?_
      exact ⟨_, rfl, by first | (simp [*]; done) | (simp [*] <;> omega) | (simp_all; done) | (simp_all <;> omega), (by repeat (first | exact Inc.refl _ | refine Inc.cons rfl ?_)), rfl, rfl⟩
    ·
      refine L.gOn (t := 6) rfl rfl ?_
      first | refine L.yl (Y.fa0 fl44_0 rfl) ?_ | refine L.yl (Y.fa fl44_0 rfl) ?_ | refine L.yl (Y.fas fl44_0 rfl (by simp; omega)) ?_
      refine L.gOn (t := 6) rfl rfl ?_
      refine L.yl (Y.ld sc3 rfl rfl) ?_
      refine L.gOn (t := 6) rfl rfl ?_
      refine L.yl (Y.gtr rfl rfl) ?_
      refine L.yl (Y.pickF rfl rfl) ?_
      refine L.yl (Y.mv rfl) ?_
      first | refine L.gsplit (i := 11) rfl (fun hg11 => ?_) (fun hg11 => ?_) | refine L.gsplitB (i := 11) rfl (fun hg11 => ?_) (fun hg11 => ?_)
      ·
        refine L.gOff (t := 11) rfl rfl rfl ?_
        refine L.gOff (t := 11) rfl rfl rfl ?_
        refine L.gOff (t := 11) rfl rfl rfl ?_
        refine L.yl (Y.pickT rfl rfl) ?_
        refine L.yl (Y.mv rfl) ?_
        refine L.gOff (t := 16) rfl rfl rfl ?_
        refine L.gOff (t := 16) rfl rfl rfl ?_
        refine L.gOff (t := 16) rfl rfl rfl ?_
        refine L.yl (Y.pickT rfl rfl) ?_
        refine L.nil ?_
        exact ⟨_, rfl, by first | (simp [*]; done) | (simp [*] <;> omega) | (simp_all; done) | (simp_all <;> omega), (by repeat (first | exact Inc.refl _ | refine Inc.cons rfl ?_)), rfl, rfl⟩
      ·
        refine L.gOn (t := 11) rfl rfl ?_
        first | refine L.yl (Y.fa0 fl44_6 rfl) ?_ | refine L.yl (Y.fa fl44_6 rfl) ?_ | refine L.yl (Y.fas fl44_6 rfl (by simp; omega)) ?_
        refine L.gOn (t := 11) rfl rfl ?_
        refine L.yl (Y.ld sc3 rfl rfl) ?_
        refine L.gOn (t := 11) rfl rfl ?_
        refine L.yl (Y.lss rfl rfl) ?_
        refine L.yl (Y.pickF rfl rfl) ?_
        refine L.yl (Y.mv rfl) ?_
        first | refine L.gsplit (i := 16) rfl (fun hg16 => ?_) (fun hg16 => ?_) | refine L.gsplitB (i := 16) rfl (fun hg16 => ?_) (fun hg16 => ?_)
        ·
          refine L.gOff (t := 16) rfl rfl rfl ?_
          refine L.gOff (t := 16) rfl rfl rfl ?_
          refine L.gOff (t := 16) rfl rfl rfl ?_
          refine L.yl (Y.pickT rfl rfl) ?_
          refine L.nil ?_
          exact ⟨_, rfl, by first | (simp [*]; done) | (simp [*] <;> omega) | (simp_all; done) | (simp_all <;> omega), (by repeat (first | exact Inc.refl _ | refine Inc.cons rfl ?_)), rfl, rfl⟩
        ·
          refine L.gOn (t := 16) rfl rfl ?_
          first | refine L.yl (Y.fa0 fl44_6 rfl) ?_ | refine L.yl (Y.fa fl44_6 rfl) ?_ | refine L.yl (Y.fas fl44_6 rfl (by simp; omega)) ?_
          refine L.gOn (t := 16) rfl rfl ?_
          refine L.yl (Y.ld sc3 rfl rfl) ?_
          refine L.gOn (t := 16) rfl rfl ?_
          refine L.yl (Y.gtr rfl rfl) ?_
          refine L.yl (Y.pickF rfl rfl) ?_
          refine L.nil ?_
          exact ⟨_, rfl, by first | (simp [*]; done) | (simp [*] <;> omega) | (simp_all; done) | (simp_all <;> omega), (by repeat (first | exact Inc.refl _ | refine Inc.cons rfl ?_)), rfl, rfl⟩
  ·
    refine C.regS ?_
    refine L.yl (Y.as rfl) ?_
    refine L.nil ?_
    refine C.ret ?_
    refine Then.r ?_
    refine FnPost.r1 Go.Proofs.Tryz.results90 rfl ?_
    unfold chkO; rw [if_pos hc1]
  ·
    refine C.skip ?_
    refine Then.n ?_
    refine C.seq ?_
    refine C.test (o.scale ≠ 0 ∧ o.has = false) ?_ (fun hc2 => ?_) (fun hc2 => ?_)
    ·
      first | refine L.yl (Y.fa0 fl44_6 rfl) ?_ | refine L.yl (Y.fa fl44_6 rfl) ?_ | refine L.yl (Y.fas fl44_6 rfl (by simp; omega)) ?_
      refine L.yl (Y.ld sc3 rfl rfl) ?_
      refine L.yl (Y.nei rfl rfl) ?_
      refine L.yl (Y.mv rfl) ?_
      first | refine L.gsplit (i := 24) rfl (fun hg24 => ?_) (fun hg24 => ?_) | refine L.gsplitB (i := 24) rfl (fun hg24 => ?_) (fun hg24 => ?_)
      ·
        refine L.gOn (t := 24) rfl rfl ?_
        first | refine L.yl (Y.fa0 fl44_5 rfl) ?_ | refine L.yl (Y.fa fl44_5 rfl) ?_ | refine L.yl (Y.fas fl44_5 rfl (by simp; omega)) ?_
        refine L.gOn (t := 24) rfl rfl ?_
        refine L.yl (Y.ld sc4 rfl rfl) ?_
        refine L.gOn (t := 24) rfl rfl ?_
        first | refine L.yl (Y.notP rfl) ?_ | refine L.yl (Y.not rfl) ?_
        refine L.yl (Y.pickT rfl rfl) ?_
        refine L.nil ?_
        exact ⟨_, rfl, by first | (simp [*]; done) | (simp [*] <;> omega) | (simp_all; done) | (simp_all <;> omega), (by repeat (first | exact Inc.refl _ | refine Inc.cons rfl ?_)), rfl, rfl⟩
      ·
        refine L.gOff (t := 24) rfl rfl rfl ?_
        refine L.gOff (t := 24) rfl rfl rfl ?_
        refine L.gOff (t := 24) rfl rfl rfl ?_
        refine L.yl (Y.pickF rfl rfl) ?_
        refine L.nil ?_
        exact ⟨_, rfl, by first | (simp [*]; done) | (simp [*] <;> omega) | (simp_all; done) | (simp_all <;> omega), (by repeat (first | exact Inc.refl _ | refine Inc.cons rfl ?_)), rfl, rfl⟩
    ·
      refine C.regS ?_
      refine L.yl (Y.as rfl) ?_
      refine L.nil ?_
      refine C.ret ?_
      refine Then.r ?_
      refine FnPost.r1 Go.Proofs.Tryz.results90 rfl ?_
      unfold chkO; rw [if_neg hc1, if_pos (.inl hc2)]
    ·
      refine C.skip ?_
      refine Then.n ?_
      refine C.seq ?_
      refine C.test ((o.val ≠ 0 ∨ o.ecr ≠ 0) ∧ o.ts = false) ?_ (fun hc3 => ?_) (fun hc3 => ?_)
      ·
        first | refine L.yl (Y.fa0 fl44_3 rfl) ?_ | refine L.yl (Y.fa fl44_3 rfl) ?_ | refine L.yl (Y.fas fl44_3 rfl (by simp; omega)) ?_
        refine L.yl (Y.ld sc22 rfl rfl) ?_
        refine L.yl (Y.nei rfl rfl) ?_
        refine L.yl (Y.mv rfl) ?_
        first | refine L.gsplit (i := 32) rfl (fun hg32 => ?_) (fun hg32 => ?_) | refine L.gsplitB (i := 32) rfl (fun hg32 => ?_) (fun hg32 => ?_)
        ·
          refine L.gOff (t := 32) rfl rfl rfl ?_
          refine L.gOff (t := 32) rfl rfl rfl ?_
          refine L.gOff (t := 32) rfl rfl rfl ?_
          refine L.yl (Y.pickT rfl rfl) ?_
          refine L.yl (Y.mv rfl) ?_
          refine L.gOn (t := 37) rfl rfl ?_
          first | refine L.yl (Y.fa0 fl44_2 rfl) ?_ | refine L.yl (Y.fa fl44_2 rfl) ?_ | refine L.yl (Y.fas fl44_2 rfl (by simp; omega)) ?_
          refine L.gOn (t := 37) rfl rfl ?_
          refine L.yl (Y.ld sc4 rfl rfl) ?_
          refine L.gOn (t := 37) rfl rfl ?_
          first | refine L.yl (Y.notP rfl) ?_ | refine L.yl (Y.not rfl) ?_
          refine L.yl (Y.pickT rfl rfl) ?_
          refine L.nil ?_
          exact ⟨_, rfl, by first | (simp [*]; done) | (simp [*] <;> omega) | (simp_all; done) | (simp_all <;> omega), (by repeat (first | exact Inc.refl _ | refine Inc.cons rfl ?_)), rfl, rfl⟩
        ·
          refine L.gOn (t := 32) rfl rfl ?_
          first | refine L.yl (Y.fa0 fl44_4 rfl) ?_ | refine L.yl (Y.fa fl44_4 rfl) ?_ | refine L.yl (Y.fas fl44_4 rfl (by simp; omega)) ?_
          refine L.gOn (t := 32) rfl rfl ?_
          refine L.yl (Y.ld sc22 rfl rfl) ?_
          refine L.gOn (t := 32) rfl rfl ?_
          refine L.yl (Y.nei rfl rfl) ?_
          refine L.yl (Y.pickF rfl rfl) ?_
          refine L.yl (Y.mv rfl) ?_
          first | refine L.gsplit (i := 37) rfl (fun hg37 => ?_) (fun hg37 => ?_) | refine L.gsplitB (i := 37) rfl (fun hg37 => ?_) (fun hg37 => ?_)
          ·
            refine L.gOn (t := 37) rfl rfl ?_
            first | refine L.yl (Y.fa0 fl44_2 rfl) ?_ | refine L.yl (Y.fa fl44_2 rfl) ?_ | refine L.yl (Y.fas fl44_2 rfl (by simp; omega)) ?_
            refine L.gOn (t := 37) rfl rfl ?_
            refine L.yl (Y.ld sc4 rfl rfl) ?_
            refine L.gOn (t := 37) rfl rfl ?_
            first | refine L.yl (Y.notP rfl) ?_ | refine L.yl (Y.not rfl) ?_
            refine L.yl (Y.pickT rfl rfl) ?_
            refine L.nil ?_
            exact ⟨_, rfl, by first | (simp [*]; done) | (simp [*] <;> omega) | (simp_all; done) | (simp_all <;> omega), (by repeat (first | exact Inc.refl _ | refine Inc.cons rfl ?_)), rfl, rfl⟩
          ·
            refine L.gOff (t := 37) rfl rfl rfl ?_
            refine L.gOff (t := 37) rfl rfl rfl ?_
            refine L.gOff (t := 37) rfl rfl rfl ?_
            refine L.yl (Y.pickF rfl rfl) ?_
            refine L.nil ?_
            exact ⟨_, rfl, by first | (simp [*]; done) | (simp [*] <;> omega) | (simp_all; done) | (simp_all <;> omega), (by repeat (first | exact Inc.refl _ | refine Inc.cons rfl ?_)), rfl, rfl⟩
      ·
        refine C.regS ?_
        refine L.yl (Y.as rfl) ?_
        refine L.nil ?_
        refine C.ret ?_
        refine Then.r ?_
        refine FnPost.r1 Go.Proofs.Tryz.results90 rfl ?_
        unfold chkO; rw [if_neg hc1, if_pos (.inr hc3)]
      ·
        refine C.skip ?_
        refine Then.n ?_
        refine C.seq ?_
        refine C.test (4 < o.blocks.length ∨ 40 < sizeN o) ?_ (fun hc4 => ?_) (fun hc4 => ?_)
        ·
          first | refine L.yl (Y.fa0 fl44_7 rfl) ?_ | refine L.yl (Y.fa fl44_7 rfl) ?_ | refine L.yl (Y.fas fl44_7 rfl (by simp; omega)) ?_
          refine L.yl (Y.ld sc42 rfl rfl) ?_
          refine L.yl (Y.len ⟨_, Go.Proofs.Tryz.underlying42⟩ rfl) ?_
          refine L.yl (Y.gtr rfl rfl) ?_
          refine L.yl (Y.mv rfl) ?_
          first | refine L.gsplit (i := 46) rfl (fun hg46 => ?_) (fun hg46 => ?_) | refine L.gsplitB (i := 46) rfl (fun hg46 => ?_) (fun hg46 => ?_)
          ·
            refine L.gOff (t := 46) rfl rfl rfl ?_
            refine L.gOff (t := 46) rfl rfl rfl ?_
            refine L.gOff (t := 46) rfl rfl rfl ?_
            refine L.yl (Y.pickT rfl rfl) ?_
            refine L.nil ?_
            exact ⟨_, rfl, by first | (simp [*]; done) | (simp [*] <;> omega) | (simp_all; done) | (simp_all <;> omega), (by repeat (first | exact Inc.refl _ | refine Inc.cons rfl ?_)), rfl, rfl⟩
          ·
            refine L.gOn (t := 46) rfl rfl ?_
            refine L.yl (Y.lda (vs := [_, _, _, _, _, _, _, _]) ag44 rfl rfl) ?_
            refine L.gOn (t := 46) rfl rfl ?_
            refine L.callP go131 rfl (fun w hw => rf_Size o _ _ hl w) ?_
            refine L.gOn (t := 46) rfl rfl ?_
            refine L.yl (Y.gtr rfl rfl) ?_
            refine L.yl (Y.pickF rfl rfl) ?_
            refine L.nil ?_
            exact ⟨_, rfl, by first | (simp [*]; done) | (simp [*] <;> omega) | (simp_all; done) | (simp_all <;> omega), (by repeat (first | exact Inc.refl _ | refine Inc.cons rfl ?_)), rfl, rfl⟩
        ·
          refine C.regS ?_
          refine L.yl (Y.as rfl) ?_
          refine L.nil ?_
          refine C.ret ?_
          refine Then.r ?_
          refine FnPost.r1 Go.Proofs.Tryz.results90 rfl ?_
          unfold chkO; rw [if_neg hc1, if_neg (fun h => h.elim hc2 hc3), if_pos hc4]
        ·
          refine C.skip ?_
          refine Then.n ?_
          refine C.regS ?_
          refine L.yl (Y.as rfl) ?_
          refine L.nil ?_
          refine C.ret ?_
          refine FnPost.r1 Go.Proofs.Tryz.results90 rfl ?_
          unfold chkO; rw [if_neg hc1, if_neg (fun h => h.elim hc2 hc3), if_neg hc4]
end Go.Proofs.YtcbhcdcobgdddaaGreat
set_option maxHeartbeats 1000000
namespace Go.Proofs.YtcbhcdcobgdddaaGreat
open Go Go.X Go.Rep Go.Shelf
theorem go85 : Goes Go.Proofs.Tryz.prog 85 := enters_of Go.Proofs.Tryz.func85 (by kernel_rfl) rfl
theorem go90 : Goes Go.Proofs.Tryz.prog 90 := enters_of Go.Proofs.Tryz.func90 (by kernel_rfl) rfl
theorem byteL_app (a b : List UInt8) : byteL a ++ byteL b = byteL (a ++ b) := by simp [byteL]
theorem rf_optEncode (o : Opts) (ht : OptT o) (a : Option Addr) (c : Nat) (hl : o.blocks.length ≤ 65536) (w : World) (h : Rs w a (bkL o.blocks)) : Calls Go.Proofs.Tryz.prog 84 #[.agg (optCs o a c).toArray] w (Post w [] (RW fun r Γ => ∃ a1 c1, r = .tuple #[.slice a1 (encR o).length c1, .int .i64 (chkO o)] ∧ Γ = [own 5 1 a1 (encR o).length c1 (byteL (encR o))])) := by
  have hrd : ∀ Γ, Rd w (fps []) Γ a (bkL o.blocks) := fun Γ => Rd.old0 h Γ
  refine spec_of Go.Proofs.Tryz.func84 rfl Go.Proofs.Tryz.ntmps84 rfl (Holds.nil w) ?_
  change C _ _ _ _ _ _ _ ⟨[(0, _)], []⟩ _
  refine C.regS ?_
  refine L.bxa rfl ?_; intro b1
  refine L.yl (Y.as rfl) ?_
  refine L.yl (Y.as rfl) ?_
  refine L.nil ?_
  refine C.regS ?_
  refine L.yl (Y.lda (vs := [_, _, _, _, _, _, _, _]) ag44 rfl rfl) ?_
  refine L.callP go90 rfl (fun w hw => rf_Check o _ _ hl w) ?_
  refine L.yl (Y.as rfl) ?_
  refine L.nil ?_
  refine C.seq ?_
  refine C.regS ?_
  refine L.yl (Y.mv rfl) ?_
  refine L.yl (Y.nei rfl rfl) ?_
  refine L.nil ?_
  refine C.condP rfl (fun hc1 => ?_) (fun hc1 => ?_)
  ·
    refine C.nil0 5 1 ?_
    refine C.regS ?_
    refine L.yl (Y.mv rfl) ?_
    refine L.yl (Y.as rfl) ?_
    refine L.yl (Y.as rfl) ?_
    refine L.nil ?_
    refine C.ret ?_
    refine Then.r ?_
    refine FnPost.r2 Go.Proofs.Tryz.results84 rfl rfl ?_
    refine ⟨[own 5 1 none 0 0 []], inferInstance, none, 0, ?_, ?_⟩
    rotate_left
    · rw [show encR o = [] from if_neg hc1]; rfl
    · rw [show encR o = [] from if_neg hc1]; rfl
  ·
    have hc0 : chkO o = 0 := Decidable.not_not.1 hc1
    have ho := chkO_ok hc0
    have hlen := encO_length ho
    have hsz := ho.size
    have hbn := bareN_le o
    have hl4 := ho.len
    obtain ⟨hm1, hm2⟩ := ho.mss
    obtain ⟨hs1, hs2⟩ := ho.scale
    have hv1 := ht.val
    have hv2 := ht.ecr
    refine C.skip ?_
    refine Then.n ?_
    refine C.nil0 5 1 ?_
    refine C.wk (Δ := [blk b1 (optCs o a c) 44, own 5 1 none 0 0 []]) inferInstance ?_
    refine C.regS ?_
    refine L.yl (Y.as rfl) ?_
    refine L.nil ?_
    refine C.cut (fun (x : Option Addr × Nat) => [(1, .pointer (some ⟨b1, 0, none⟩)), (5, .slice x.1 (wpTo o 1).length x.2)]) [] (fun x => [blk b1 (optCs o a c) 44, own 5 1 x.1 (wpTo o 1).length x.2 (byteL (wpTo o 1))]) (fun _ => True) ?_ ?_
    ·
      refine C.regS ?_
      first | refine L.yl (Y.fa0 fl44_0 rfl) ?_ | refine L.yl (Y.fa fl44_0 rfl) ?_ | refine L.yl (Y.fas fl44_0 rfl (by simp; omega)) ?_
      refine L.yl (Y.ld sc3 rfl rfl) ?_
      refine L.yl (Y.nei rfl rfl) ?_
      refine L.nil ?_
      refine C.condP rfl (fun hc2 => ?_) (fun hc2 => ?_)
      ·
        refine C.drwF (Δ := [own 5 1 none 0 0 []]) (.y 0 (.y 3 (.y 4 (.y 5 (.h 1 (.h 2 (.h 6 (.h 7 (.y 8 (.fin)))))))))) mixo (by kernel_rfl) ?_
        refine V.yl rfl (Y.mv rfl) ?_
        first | refine V.yl rfl (Y.fa0 fl44_0 rfl) ?_ | refine V.yl rfl (Y.fa fl44_0 rfl) ?_ | refine V.yl rfl (Y.fas fl44_0 rfl (by simp; omega)) ?_
        refine V.yl rfl (Y.ld sc3 rfl rfl) ?_
        refine V.yl rfl (Y.cvW Go.Proofs.Tryz.underlying22 ⟨_, Go.Proofs.Tryz.underlying3⟩ rfl) ?_
        rw [show IntKind.u32.wrap o.mss = ((o.mss.toNat : Nat) : Int) from by show o.mss % 4294967296 = _; omega]
        refine V.hv rfl ?_
        refine L.apc ?_
        refine L.bsl elt31 rfl rfl rfl (by decide) ?_; intro b16
        rw [show cellsL [Value.int .u8 2, Value.int .u8 4] = byteL [2, 4] from rfl]
        refine L.nil ?_
        refine V.on ?_
        refine V.hv rfl ?_
        refine L.apc ?_
        refine L.app elt31 rfl rfl (by rfl) (by first | (simp; done) | (simp [byteL]; done)) (by omega) (by omega) ?_; intro a17 c17
        refine L.nil ?_
        refine V.on ?_
        refine V.hv rfl ?_
        refine L.apc ?_
        refine L.callFW (Γf := []) go85 rfl (fun w hw hf => rf_Number o.mss.toNat 2 (by omega) (by omega) w) ?_
        rintro _ _ ⟨na, nc, rfl, rfl⟩
        refine L.apc ?_
        refine L.nil ?_
        refine V.on ?_
        refine V.hv rfl ?_
        refine L.apc ?_
        refine L.app elt31 rfl rfl (by rfl) (by simp [byteL, beB_length]) (by omega) (by omega) ?_; intro a22 c22
        refine L.nil ?_
        refine V.on ?_
        refine V.yl rfl (Y.as rfl) ?_
        refine V.fin ?_
        refine Then.n ?_
        have hw : wpTo o 1 = [2, 4] ++ beB o.mss.toNat 2 := by show wpTo o 0 ++ wp1 o = _; simp only [wp1, if_pos hc2, List.append_assoc, wpTo, List.nil_append]
        rw [List.nil_append, show 0 + 2 + 2 = (wpTo o 1).length by rw [hw]; simp [beB_length] <;> omega, byteL_app, ← hw]
        exact ⟨(a22, c22), (by repeat (first | exact trivial | refine ⟨rfl, ?_⟩ | refine ⟨congrArg some (by simp), ?_⟩ | refine ⟨congrArg some (by simp; omega), ?_⟩)), rfl, (by dsimp only; exact inferInstance), trivial⟩
      ·
        refine C.skip ?_
        refine Then.n ?_
        have hw : wpTo o 1 = [] := by show wpTo o 0 ++ wp1 o = _; simp only [wp1, if_neg hc2, wpTo, List.append_nil]
        rw [hw]
        exact ⟨(none, 0), (by repeat (first | exact trivial | refine ⟨rfl, ?_⟩ | refine ⟨congrArg some (by simp), ?_⟩ | refine ⟨congrArg some (by simp; omega), ?_⟩)), rfl, (by show Wk _ [blk b1 (optCs o a c) 44, own 5 1 none 0 0 []]; exact inferInstance), trivial⟩
    · rintro ⟨a1, c1⟩ -
      try dsimp only
      have hx1 : (wpTo o 1).length ≤ 53 := by have := wpTo_mono o (show 1 ≤ 5 by omega); have h5 := wpTo_length o; omega
      refine C.cut (fun (x : Option Addr × Nat) => [(1, .pointer (some ⟨b1, 0, none⟩)), (5, .slice x.1 (wpTo o 2).length x.2)]) [] (fun x => [blk b1 (optCs o a c) 44, own 5 1 x.1 (wpTo o 2).length x.2 (byteL (wpTo o 2))]) (fun _ => True) ?_ ?_
      ·
        refine C.regS ?_
        first | refine L.yl (Y.fa0 fl44_1 rfl) ?_ | refine L.yl (Y.fa fl44_1 rfl) ?_ | refine L.yl (Y.fas fl44_1 rfl (by simp; omega)) ?_
        refine L.yl (Y.ld sc4 rfl rfl) ?_
        refine L.nil ?_
        refine C.cond rfl (fun hc3 => ?_) (fun hc3 => ?_)
        ·
          refine C.reg ?_
          refine L.yl (Y.mv rfl) ?_
          refine L.bsl elt31 rfl rfl rfl (by decide) ?_; intro b26
          rw [show cellsL [Value.int .u8 4, Value.int .u8 2] = byteL [4, 2] from rfl]
          refine L.app elt31 rfl rfl (by rfl) (by first | (simp; done) | (simp [byteL]; done)) (by omega) (by omega) ?_; intro a27 c27
          refine L.yl (Y.as rfl) ?_
          refine L.nil ?_
          refine Then.n ?_
          have hw : wpTo o 2 = wpTo o 1 ++ [4, 2] := by show wpTo o 1 ++ wp2 o = _; simp only [wp2, if_pos hc3, List.append_assoc]
          rw [show (wpTo o 1).length + 2 = (wpTo o 2).length by rw [hw]; simp [beB_length] <;> omega, byteL_app, ← hw]
          exact ⟨(a27, c27), (by repeat (first | exact trivial | refine ⟨rfl, ?_⟩ | refine ⟨congrArg some (by simp), ?_⟩ | refine ⟨congrArg some (by simp; omega), ?_⟩)), rfl, (by dsimp only; exact inferInstance), trivial⟩
        ·
          have hc3 : ¬ o.permit = true := by simp [hc3]
          refine C.skip ?_
          refine Then.n ?_
          have hw : wpTo o 2 = wpTo o 1 := by show wpTo o 1 ++ wp2 o = _; simp only [wp2, if_neg hc3, List.append_nil]
          rw [← hw]
          exact ⟨(a1, c1), (by repeat (first | exact trivial | refine ⟨rfl, ?_⟩ | refine ⟨congrArg some (by simp), ?_⟩ | refine ⟨congrArg some (by simp; omega), ?_⟩)), rfl, (by dsimp only; exact inferInstance), trivial⟩
      · rintro ⟨a1, c1⟩ -
        try dsimp only
        have hx2 : (wpTo o 2).length ≤ 53 := by have := wpTo_mono o (show 2 ≤ 5 by omega); have h5 := wpTo_length o; omega
        refine C.cut (fun (x : Option Addr × Nat) => [(1, .pointer (some ⟨b1, 0, none⟩)), (5, .slice x.1 (wpTo o 3).length x.2)]) [] (fun x => [blk b1 (optCs o a c) 44, own 5 1 x.1 (wpTo o 3).length x.2 (byteL (wpTo o 3))]) (fun _ => True) ?_ ?_
        ·
          refine C.regS ?_
          first | refine L.yl (Y.fa0 fl44_2 rfl) ?_ | refine L.yl (Y.fa fl44_2 rfl) ?_ | refine L.yl (Y.fas fl44_2 rfl (by simp; omega)) ?_
          refine L.yl (Y.ld sc4 rfl rfl) ?_
          refine L.nil ?_
          refine C.cond rfl (fun hc4 => ?_) (fun hc4 => ?_)
          ·
            refine C.drwFS (Δ := [own 5 1 a1 (wpTo o 2).length c1 (byteL (wpTo o 2))]) (.y 0 (.y 3 (.y 4 (.h 1 (.h 2 (.h 5 (.h 6 (.y 7 (.fin))))))))) mixo (by kernel_rfl) ?_
            refine V.yl rfl (Y.mv rfl) ?_
            first | refine V.yl rfl (Y.fa0 fl44_3 rfl) ?_ | refine V.yl rfl (Y.fa fl44_3 rfl) ?_ | refine V.yl rfl (Y.fas fl44_3 rfl (by simp; omega)) ?_
            refine V.yl rfl (Y.ld sc22 rfl rfl) ?_
            refine V.hv rfl ?_
            refine L.apc ?_
            refine L.bsl elt31 rfl rfl rfl (by decide) ?_; intro b31
            rw [show cellsL [Value.int .u8 8, Value.int .u8 10] = byteL [8, 10] from rfl]
            refine L.nil ?_
            refine V.on ?_
            refine V.hv rfl ?_
            refine L.apc ?_
            refine L.app elt31 rfl rfl (by rfl) (by first | (simp; done) | (simp [byteL]; done)) (by omega) (by omega) ?_; intro a32 c32
            refine L.nil ?_
            refine V.on ?_
            refine V.hv rfl ?_
            refine L.apc ?_
            rw [show o.val = ((o.val.toNat : Nat) : Int) from by omega]
            refine L.callFW (Γf := []) go85 rfl (fun w hw hf => rf_Number o.val.toNat 4 (by omega) (by omega) w) ?_
            rintro _ _ ⟨na, nc, rfl, rfl⟩
            refine L.apc ?_
            refine L.nil ?_
            refine V.on ?_
            refine V.hv rfl ?_
            refine L.apc ?_
            refine L.app elt31 rfl rfl (by rfl) (by simp [byteL, beB_length]) (by omega) (by omega) ?_; intro a36 c36
            refine L.nil ?_
            refine V.on ?_
            refine V.yl rfl (Y.as rfl) ?_
            refine V.fin ?_
            refine C.reg ?_
            refine L.yl (Y.mv rfl) ?_
            first | refine L.yl (Y.fa0 fl44_4 rfl) ?_ | refine L.yl (Y.fa fl44_4 rfl) ?_ | refine L.yl (Y.fas fl44_4 rfl (by simp; omega)) ?_
            refine L.yl (Y.ld sc22 rfl rfl) ?_
            rw [show o.ecr = ((o.ecr.toNat : Nat) : Int) from by omega]
            refine L.callFW (Γf := []) go85 rfl (fun w hw hf => rf_Number o.ecr.toNat 4 (by omega) (by omega) w) ?_
            rintro _ _ ⟨na2, nc2, rfl, rfl⟩
            refine L.apc ?_
            refine L.app elt31 rfl rfl (by rfl) (by simp [byteL, beB_length]) (by omega) (by omega) ?_; intro a41 c41
            refine L.yl (Y.as rfl) ?_
            refine L.nil ?_
            refine Then.n ?_
            have hw : wpTo o 3 = wpTo o 2 ++ [8, 10] ++ beB o.val.toNat 4 ++ beB o.ecr.toNat 4 := by show wpTo o 2 ++ wp3 o = _; simp only [wp3, if_pos hc4, List.append_assoc]
            rw [show (wpTo o 2).length + 2 + 4 + 4 = (wpTo o 3).length by rw [hw]; simp [beB_length] <;> omega, byteL_app, byteL_app, byteL_app, ← hw]
            exact ⟨(a41, c41), (by repeat (first | exact trivial | refine ⟨rfl, ?_⟩ | refine ⟨congrArg some (by simp), ?_⟩ | refine ⟨congrArg some (by simp; omega), ?_⟩)), rfl, (by dsimp only; exact inferInstance), trivial⟩
          ·
            have hc4 : ¬ o.ts = true := by simp [hc4]
            refine C.skip ?_
            refine Then.n ?_
            have hw : wpTo o 3 = wpTo o 2 := by show wpTo o 2 ++ wp3 o = _; simp only [wp3, if_neg hc4, List.append_nil]
            rw [← hw]
            exact ⟨(a1, c1), (by repeat (first | exact trivial | refine ⟨rfl, ?_⟩ | refine ⟨congrArg some (by simp), ?_⟩ | refine ⟨congrArg some (by simp; omega), ?_⟩)), rfl, (by dsimp only; exact inferInstance), trivial⟩
        · rintro ⟨a1, c1⟩ -
          try dsimp only
          have hx3 : (wpTo o 3).length ≤ 53 := by have := wpTo_mono o (show 3 ≤ 5 by omega); have h5 := wpTo_length o; omega
          refine C.cut (fun (x : Option Addr × Nat) => [(1, .pointer (some ⟨b1, 0, none⟩)), (5, .slice x.1 (wpTo o 4).length x.2)]) [] (fun x => [blk b1 (optCs o a c) 44, own 5 1 x.1 (wpTo o 4).length x.2 (byteL (wpTo o 4))]) (fun _ => True) ?_ ?_
          ·
            refine C.regS ?_
            first | refine L.yl (Y.fa0 fl44_5 rfl) ?_ | refine L.yl (Y.fa fl44_5 rfl) ?_ | refine L.yl (Y.fas fl44_5 rfl (by simp; omega)) ?_
            refine L.yl (Y.ld sc4 rfl rfl) ?_
            refine L.nil ?_
            refine C.cond rfl (fun hc5 => ?_) (fun hc5 => ?_)
            ·
              refine C.reg ?_
              refine L.yl (Y.mv rfl) ?_
              first | refine L.yl (Y.fa0 fl44_6 rfl) ?_ | refine L.yl (Y.fa fl44_6 rfl) ?_ | refine L.yl (Y.fas fl44_6 rfl (by simp; omega)) ?_
              refine L.yl (Y.ld sc3 rfl rfl) ?_
              refine L.yl (Y.cvW Go.Proofs.Tryz.underlying5 ⟨_, Go.Proofs.Tryz.underlying3⟩ rfl) ?_
              refine L.bsl elt31 rfl rfl rfl (by decide) ?_; intro b48
              rw [u8_of o.scale ⟨hs1, by omega⟩, show cellsL [Value.int .u8 3, Value.int .u8 3, Value.int .u8 ((UInt8.ofNat o.scale.toNat).toNat : Int)] = byteL [3, 3, UInt8.ofNat o.scale.toNat] from rfl]
              refine L.app elt31 rfl rfl (by rfl) (by first | (simp; done) | (simp [byteL]; done)) (by omega) (by omega) ?_; intro a49 c49
              refine L.yl (Y.as rfl) ?_
              refine L.nil ?_
              refine Then.n ?_
              have hw : wpTo o 4 = wpTo o 3 ++ [3, 3, UInt8.ofNat o.scale.toNat] := by show wpTo o 3 ++ wp4 o = _; simp only [wp4, if_pos hc5, List.append_assoc]
              rw [show (wpTo o 3).length + 3 = (wpTo o 4).length by rw [hw]; simp [beB_length] <;> omega, byteL_app, ← hw]
              exact ⟨(a49, c49), (by repeat (first | exact trivial | refine ⟨rfl, ?_⟩ | refine ⟨congrArg some (by simp), ?_⟩ | refine ⟨congrArg some (by simp; omega), ?_⟩)), rfl, (by dsimp only; exact inferInstance), trivial⟩
            ·
              have hc5 : ¬ o.has = true := by simp [hc5]
              refine C.skip ?_
              refine Then.n ?_
              have hw : wpTo o 4 = wpTo o 3 := by show wpTo o 3 ++ wp4 o = _; simp only [wp4, if_neg hc5, List.append_nil]
              rw [← hw]
              exact ⟨(a1, c1), (by repeat (first | exact trivial | refine ⟨rfl, ?_⟩ | refine ⟨congrArg some (by simp), ?_⟩ | refine ⟨congrArg some (by simp; omega), ?_⟩)), rfl, (by dsimp only; exact inferInstance), trivial⟩
          · rintro ⟨a1, c1⟩ -
            try dsimp only
            have hx4 : (wpTo o 4).length ≤ 53 := by have := wpTo_mono o (show 4 ≤ 5 by omega); have h5 := wpTo_length o; omega
            refine C.cut (fun (x : Option Addr × Nat) => [(1, .pointer (some ⟨b1, 0, none⟩)), (5, .slice x.1 (wpTo o 5).length x.2)]) [] (fun x => [blk b1 (optCs o a c) 44, own 5 1 x.1 (wpTo o 5).length x.2 (byteL (wpTo o 5))]) (fun _ => True) ?_ ?_
            ·
              refine C.regS ?_
              first | refine L.yl (Y.fa0 fl44_7 rfl) ?_ | refine L.yl (Y.fa fl44_7 rfl) ?_ | refine L.yl (Y.fas fl44_7 rfl (by simp; omega)) ?_
              refine L.yl (Y.ld sc42 rfl rfl) ?_
              refine L.yl (Y.len ⟨_, Go.Proofs.Tryz.underlying42⟩ rfl) ?_
              refine L.yl (Y.gtr rfl rfl) ?_
              refine L.nil ?_
              refine C.condP rfl (fun hc6 => ?_) (fun hc6 => ?_)
              ·
                refine C.regS ?_
                refine L.yl (Y.mv rfl) ?_
                first | refine L.yl (Y.fa0 fl44_7 rfl) ?_ | refine L.yl (Y.fa fl44_7 rfl) ?_ | refine L.yl (Y.fas fl44_7 rfl (by simp; omega)) ?_
                refine L.yl (Y.ld sc42 rfl rfl) ?_
                refine L.yl (Y.len ⟨_, Go.Proofs.Tryz.underlying42⟩ rfl) ?_
                first | refine L.yl (Y.mul rfl rfl (by omega)) ?_ | refine L.yl (Y.mulW rfl rfl) ?_
                first | refine L.yl (Y.add rfl rfl (by omega)) ?_ | refine L.yl (Y.addW rfl rfl) ?_
                refine L.yl (Y.cvW Go.Proofs.Tryz.underlying5 ⟨_, Go.Proofs.Tryz.underlying3⟩ rfl) ?_
                refine L.bsl elt31 rfl rfl rfl (by decide) ?_; intro b61
                rw [lit5 _ hl hl4]
                refine L.app elt31 rfl rfl (by rfl) (by first | (simp; done) | (simp [byteL]; done)) (by omega) (by omega) ?_; intro a62 c62
                rw [byteL_app, show (wpTo o 4).length + 2 = (wpTo o 4 ++ [5, UInt8.ofNat (2 + 8 * o.blocks.length)]).length by simp]
                refine L.yl (Y.as rfl) ?_
                refine L.nil ?_
                refine C.regS ?_
                refine L.yl (Y.as rfl) ?_
                refine L.nil ?_
                refine C.block ?_
                refine C.loop (σ := Nat × Option Addr × Nat × List UInt8) (fun (i, a2, c2, X) => [(1, .pointer (some ⟨b1, 0, none⟩)), (5, .slice a2 X.length c2), (6, .int .i64 i)]) (fun (i, a2, c2, X) => [blk b1 (optCs o a c) 44, own 5 1 a2 X.length c2 (byteL X)]) (fun (i, a2, c2, X) => i ≤ o.blocks.length ∧ X = ((wpTo o 4 ++ [5, UInt8.ofNat (2 + 8 * o.blocks.length)]) ++ (o.blocks.take i).flatMap bkB) ∧ X.length ≤ 100 + 8 * i) (fun (i, a2, c2, X) => o.blocks.length - i) (0, a62, c62, (wpTo o 4 ++ [5, UInt8.ofNat (2 + 8 * o.blocks.length)])) ?_ ?_ ?_ ?_
                · repeat (first | exact trivial | refine ⟨rfl, ?_⟩)
                · show Wk _ [blk b1 (optCs o a c) 44, own 5 1 a62 ((wpTo o 4 ++ [5, UInt8.ofNat (2 + 8 * o.blocks.length)])).length c62 (byteL ((wpTo o 4 ++ [5, UInt8.ofNat (2 + 8 * o.blocks.length)])))]; exact inferInstance
                · exact ⟨Nat.zero_le _, by simp, by simp; omega⟩
                · rintro ⟨i, a2, c2, X⟩ ⟨hI0, hI1, hI2⟩
                  try dsimp only
                  refine C.seq ?_
                  refine C.regS ?_
                  refine L.yl (Y.mv rfl) ?_
                  first | refine L.yl (Y.fa0 fl44_7 rfl) ?_ | refine L.yl (Y.fa fl44_7 rfl) ?_ | refine L.yl (Y.fas fl44_7 rfl (by simp; omega)) ?_
                  refine L.yl (Y.ld sc42 rfl rfl) ?_
                  refine L.yl (Y.len ⟨_, Go.Proofs.Tryz.underlying42⟩ rfl) ?_
                  refine L.yl (Y.lss rfl rfl) ?_
                  refine L.nil ?_
                  refine C.condP rfl (fun hc7 => ?_) (fun hc7 => ?_)
                  ·
                    obtain ⟨b0, hb0⟩ : ∃ u, o.blocks[i]? = some u := ⟨_, List.getElem?_eq_getElem (by omega)⟩
                    obtain ⟨hb1, hb2⟩ := ht.bks b0 (List.mem_of_getElem? hb0)
                    refine C.skip ?_
                    refine Then.n ?_
                    refine C.seq ?_
                    refine C.block ?_
                    refine C.regS ?_
                    refine L.yl (Y.mv rfl) ?_
                    first | refine L.yl (Y.fa0 fl44_7 rfl) ?_ | refine L.yl (Y.fa fl44_7 rfl) ?_ | refine L.yl (Y.fas fl44_7 rfl (by simp; omega)) ?_
                    refine L.yl (Y.ld sc42 rfl rfl) ?_
                    refine L.yl (Y.mv rfl) ?_
                    refine L.yl (Y.ix slt42 rfl rfl (by rw [bkL_length]) (by omega) (by omega)) ?_
                    first | refine L.yl (Y.fa0 fl51_0 rfl) ?_ | refine L.yl (Y.fa fl51_0 rfl) ?_ | refine L.yl (Y.fas fl51_0 rfl (by rw [bkL_length]; omega)) ?_
                    first | refine L.yl (Y.ld sc22 rfl rfl) ?_ | refine L.yl (Y.lds sc22 rfl (by rw [show (((i : Nat) : Int).toNat * 2 + 0) = i * 2 + 0 from rfl, bkL_get o.blocks i 0 _ hb0 (by omega)]; rfl)) ?_
                    rw [show b0.1 = ((b0.1.toNat : Nat) : Int) from by omega]
                    refine L.callFW (Γf := []) go85 rfl (fun w hw hf => rf_Number b0.1.toNat 4 (by omega) (by omega) w) ?_
                    rintro _ _ ⟨na, nc, rfl, rfl⟩
                    refine L.apc ?_
                    refine L.app elt31 rfl rfl (by rfl) (by simp [byteL, beB_length]) (by omega) (by omega) ?_; intro a78 c78
                    refine L.yl (Y.as rfl) ?_
                    refine L.nil ?_
                    refine C.reg ?_
                    refine L.yl (Y.mv rfl) ?_
                    first | refine L.yl (Y.fa0 fl44_7 rfl) ?_ | refine L.yl (Y.fa fl44_7 rfl) ?_ | refine L.yl (Y.fas fl44_7 rfl (by simp; omega)) ?_
                    refine L.yl (Y.ld sc42 rfl rfl) ?_
                    refine L.yl (Y.mv rfl) ?_
                    refine L.yl (Y.ix slt42 rfl rfl (by rw [bkL_length]) (by omega) (by omega)) ?_
                    first | refine L.yl (Y.fa0 fl51_1 rfl) ?_ | refine L.yl (Y.fa fl51_1 rfl) ?_ | refine L.yl (Y.fas fl51_1 rfl (by rw [bkL_length]; omega)) ?_
                    first | refine L.yl (Y.ld sc22 rfl rfl) ?_ | refine L.yl (Y.lds sc22 rfl (by rw [show (((i : Nat) : Int).toNat * 2 + 1) = i * 2 + 1 from rfl, bkL_get o.blocks i 1 _ hb0 (by omega)]; rfl)) ?_
                    rw [show b0.2 = ((b0.2.toNat : Nat) : Int) from by omega]
                    refine L.callFW (Γf := []) go85 rfl (fun w hw hf => rf_Number b0.2.toNat 4 (by omega) (by omega) w) ?_
                    rintro _ _ ⟨na2, nc2, rfl, rfl⟩
                    refine L.apc ?_
                    refine L.app elt31 rfl rfl (by rfl) (by simp [byteL, beB_length]) (by omega) (by omega) ?_; intro a87 c87
                    refine L.yl (Y.as rfl) ?_
                    refine L.nil ?_
                    refine InBlo.n ?_
                    refine Then.n ?_
                    refine C.reg ?_
                    refine L.yl (Y.mv rfl) ?_
                    first | refine L.yl (Y.add rfl rfl (by omega)) ?_ | refine L.yl (Y.addW rfl rfl) ?_
                    refine L.yl (Y.as rfl) ?_
                    refine L.nil ?_
                    rw [byteL_app, byteL_app, show X.length + 4 + 4 = (X ++ beB b0.1.toNat 4 ++ beB b0.2.toNat 4).length by simp [beB_length]]
                    exact ⟨(i + 1, a87, c87, X ++ beB b0.1.toNat 4 ++ beB b0.2.toNat 4), (by repeat (first | exact trivial | refine ⟨rfl, ?_⟩ | refine ⟨congrArg some (by simp), ?_⟩ | refine ⟨congrArg some (by simp; omega), ?_⟩)), rfl, (by first | exact inferInstance | (dsimp only; exact inferInstance)), ⟨by omega, by dsimp only; rw [List.take_add_one, hb0]; simp [hI1, bkB], by simp [beB_length]; omega⟩, (by first | omega | (dsimp only; omega))⟩
                  ·
                    subst hI1
                    refine C.exit ?_
                    refine Then.x ?_
                    refine Then.x ?_
                    refine InBlo.x ?_
                    refine Then.n ?_
                    obtain rfl : i = o.blocks.length := by omega
                    have hw : wpTo o 5 = ((wpTo o 4 ++ [5, UInt8.ofNat (2 + 8 * o.blocks.length)]) ++ (o.blocks.take o.blocks.length).flatMap bkB) := by show wpTo o 4 ++ wp5 o = _; rw [List.take_of_length_le (by omega)]; simp only [wp5, if_pos (show 0 < o.blocks.length by omega), List.append_assoc]
                    rw [← hw]
                    exact ⟨(a2, c2), (by repeat (first | exact trivial | refine ⟨rfl, ?_⟩ | refine ⟨congrArg some (by simp), ?_⟩ | refine ⟨congrArg some (by simp; omega), ?_⟩)), rfl, (by dsimp only; exact inferInstance), trivial⟩
              ·
                refine C.skip ?_
                refine Then.n ?_
                have hb0 : o.blocks = [] := List.length_eq_zero_iff.1 (by omega)
                have hw : wpTo o 5 = wpTo o 4 := by show wpTo o 4 ++ wp5 o = _; simp [wp5, hb0]
                rw [← hw]
                exact ⟨(a1, c1), (by repeat (first | exact trivial | refine ⟨rfl, ?_⟩ | refine ⟨congrArg some (by simp), ?_⟩ | refine ⟨congrArg some (by simp; omega), ?_⟩)), rfl, (by dsimp only; exact inferInstance), trivial⟩
            · rintro ⟨a1, c1⟩ -
              try dsimp only
              have hx5 : (wpTo o 5).length ≤ 53 := by have := wpTo_mono o (show 5 ≤ 5 by omega); have h5 := wpTo_length o; omega
              refine C.seq ?_
              refine C.block ?_
              refine C.loop (σ := Option Addr × Nat × List UInt8) (fun (a2, c2, X) => [(5, .slice a2 X.length c2)]) (fun (a2, c2, X) => [own 5 1 a2 X.length c2 (byteL X)]) (fun (a2, c2, X) => padL X = encO o ∧ X.length ≤ 65536) (fun (a2, c2, X) => (4 - X.length % 4) % 4) (a1, c1, wpTo o 5) ?_ ?_ ?_ ?_
              · repeat (first | exact trivial | refine ⟨rfl, ?_⟩)
              · first | exact .of (.refl _) | exact inferInstance | (dsimp only; exact inferInstance)
              · exact ⟨rfl, by omega⟩
              · rintro ⟨a2, c2, X⟩ ⟨hJ1, hJ2⟩
                try dsimp only
                refine C.seq ?_
                refine C.regS ?_
                refine L.yl (Y.mv rfl) ?_
                refine L.yl (Y.len ⟨_, Go.Proofs.Tryz.underlying31⟩ rfl) ?_
                refine L.yl (Y.remN (q := 4) rfl rfl (by omega)) ?_
                refine L.yl (Y.nei rfl rfl) ?_
                refine L.nil ?_
                refine C.condP rfl (fun hc8 => ?_) (fun hc8 => ?_)
                ·
                  refine C.skip ?_
                  refine Then.n ?_
                  refine C.block ?_
                  refine C.reg ?_
                  refine L.yl (Y.mv rfl) ?_
                  refine L.bs1 elt31 rfl rfl ?_; intro b93
                  refine L.app elt31 rfl rfl (by rfl) (by first | (simp; done) | (simp [byteL]; done)) (by omega) (by omega) ?_; intro a94 c94
                  refine L.yl (Y.as rfl) ?_
                  refine L.nil ?_
                  refine InBlo.n ?_
                  rw [show X.length + 1 = (X ++ [0]).length by simp, show byteL X ++ [Value.int .u8 0] = byteL (X ++ [0]) by simp [byteL]]
                  exact ⟨(a94, c94, X ++ [0]), (by repeat (first | exact trivial | refine ⟨rfl, ?_⟩ | refine ⟨congrArg some (by simp), ?_⟩ | refine ⟨congrArg some (by simp; omega), ?_⟩)), rfl, (by first | exact inferInstance | (dsimp only; exact inferInstance)), ⟨by rw [padL_step (by omega)]; exact hJ1, by simp; have := padL_length X; rw [hJ1, hlen] at this; omega⟩, by simp; omega⟩
                ·
                  refine C.exit ?_
                  refine Then.x ?_
                  refine Then.x ?_
                  refine InBlo.x ?_
                  refine Then.n ?_
                  refine C.regS ?_
                  refine L.yl (Y.mv rfl) ?_
                  refine L.yl (Y.as rfl) ?_
                  refine L.yl (Y.as rfl) ?_
                  refine L.nil ?_
                  refine C.ret ?_
                  refine FnPost.r2 Go.Proofs.Tryz.results84 rfl rfl ?_
                  have hX : X = encO o := by rw [← hJ1, padL_stop (by omega)]
                  subst hX
                  refine ⟨[own 5 1 a2 (encO o).length c2 (byteL (encO o))], inferInstance, a2, c2, ?_, ?_⟩
                  · rw [show encR o = encO o from if_pos hc0, hc0]
                  · rw [show encR o = encO o from if_pos hc0]
end Go.Proofs.YtcbhcdcobgdddaaGreat
set_option maxHeartbeats 1000000
namespace Go.Proofs.YtcbhcdcobgdddaaGreat
open Go Go.X Go.Rep Go.Shelf
theorem go40 : Goes Go.Proofs.Tryz.prog 40 := enters_of Go.Proofs.Tryz.func40 (by kernel_rfl) rfl
theorem rf_right (k n : Nat) (hk : k ≤ 255) (hn : n ≤ 255) (h2 : 2 ≤ n) (w : World) : Pur Go.Proofs.Tryz.prog 88 [.int .i64 k, .int .i64 n] (.bool (decide (okB k (n - 2)))) w := by
  refine pur_of Go.Proofs.Tryz.func88 rfl Go.Proofs.Tryz.ntmps88 rfl ?_
  change C _ _ _ _ _ _ _ ⟨[(0, _), (1, _)], []⟩ _
  refine C.regS ?_
  refine L.yl (Y.as rfl) ?_
  refine L.nil ?_
  refine C.seq ?_
  refine C.regS ?_
  refine L.yl (Y.mv rfl) ?_
  refine L.nil ?_
  refine C.block ?_
  refine C.regS ?_
  refine L.yl (Y.eqi rfl rfl) ?_
  refine L.yl (Y.as rfl) ?_
  refine L.nil ?_
  refine C.condP rfl (fun hc1 => ?_) (fun hc1 => ?_)
  ·
    refine C.regS ?_
    refine L.yl (Y.mv rfl) ?_
    refine L.yl (Y.eqi rfl rfl) ?_
    refine L.yl (Y.as rfl) ?_
    refine L.nil ?_
    refine C.ret ?_
    refine InBlo.r ?_
    refine Then.r ?_
    refine FnPost.r1 Go.Proofs.Tryz.results88 rfl ?_
    refine congrArg Value.bool ?_
    first | exact decide_eq_decide.2 (by unfold okB; (repeat' split) <;> omega) | exact (decide_eq_true (by unfold okB; (repeat' split) <;> first | omega | trivial)).symm
  ·
    refine C.regS ?_
    refine L.yl (Y.eqi rfl rfl) ?_
    refine L.yl (Y.as rfl) ?_
    refine L.nil ?_
    refine C.condP rfl (fun hc2 => ?_) (fun hc2 => ?_)
    ·
      refine C.regS ?_
      refine L.yl (Y.mv rfl) ?_
      refine L.yl (Y.eqi rfl rfl) ?_
      refine L.yl (Y.as rfl) ?_
      refine L.nil ?_
      refine C.ret ?_
      refine InBlo.r ?_
      refine Then.r ?_
      refine FnPost.r1 Go.Proofs.Tryz.results88 rfl ?_
      refine congrArg Value.bool ?_
      first | exact decide_eq_decide.2 (by unfold okB; (repeat' split) <;> omega) | exact (decide_eq_true (by unfold okB; (repeat' split) <;> first | omega | trivial)).symm
    ·
      refine C.regS ?_
      refine L.yl (Y.eqi rfl rfl) ?_
      refine L.yl (Y.as rfl) ?_
      refine L.nil ?_
      refine C.condP rfl (fun hc3 => ?_) (fun hc3 => ?_)
      ·
        refine C.regS ?_
        refine L.yl (Y.mv rfl) ?_
        refine L.yl (Y.eqi rfl rfl) ?_
        refine L.yl (Y.as rfl) ?_
        refine L.nil ?_
        refine C.ret ?_
        refine InBlo.r ?_
        refine Then.r ?_
        refine FnPost.r1 Go.Proofs.Tryz.results88 rfl ?_
        refine congrArg Value.bool ?_
        first | exact decide_eq_decide.2 (by unfold okB; (repeat' split) <;> omega) | exact (decide_eq_true (by unfold okB; (repeat' split) <;> first | omega | trivial)).symm
      ·
        refine C.regS ?_
        refine L.yl (Y.eqi rfl rfl) ?_
        refine L.yl (Y.as rfl) ?_
        refine L.nil ?_
        refine C.condP rfl (fun hc4 => ?_) (fun hc4 => ?_)
        ·
          refine C.regS ?_
          refine L.yl (Y.mv rfl) ?_
          refine L.yl (Y.eqi rfl rfl) ?_
          refine L.yl (Y.mv rfl) ?_
          first | refine L.gsplit (i := 22) rfl (fun hg22 => ?_) (fun hg22 => ?_) | refine L.gsplitB (i := 22) rfl (fun hg22 => ?_) (fun hg22 => ?_)
          ·
            refine L.gOff (t := 22) rfl rfl rfl ?_
            refine L.gOff (t := 22) rfl rfl rfl ?_
            refine L.yl (Y.pickT rfl rfl) ?_
            refine L.yl (Y.mv rfl) ?_
            refine L.gOff (t := 26) rfl rfl rfl ?_
            refine L.gOff (t := 26) rfl rfl rfl ?_
            refine L.yl (Y.pickT rfl rfl) ?_
            refine L.yl (Y.mv rfl) ?_
            refine L.gOff (t := 30) rfl rfl rfl ?_
            refine L.gOff (t := 30) rfl rfl rfl ?_
            refine L.yl (Y.pickT rfl rfl) ?_
            refine L.yl (Y.as rfl) ?_
            refine L.nil ?_
            refine C.ret ?_
            refine InBlo.r ?_
            refine Then.r ?_
            refine FnPost.r1 Go.Proofs.Tryz.results88 rfl ?_
            refine congrArg Value.bool ?_
            first | exact decide_eq_decide.2 (by unfold okB; (repeat' split) <;> omega) | exact (decide_eq_true (by unfold okB; (repeat' split) <;> first | omega | trivial)).symm
          ·
            refine L.gOn (t := 22) rfl rfl ?_
            refine L.yl (Y.mv rfl) ?_
            refine L.gOn (t := 22) rfl rfl ?_
            refine L.yl (Y.eqi rfl rfl) ?_
            refine L.yl (Y.pickF rfl rfl) ?_
            refine L.yl (Y.mv rfl) ?_
            first | refine L.gsplit (i := 26) rfl (fun hg26 => ?_) (fun hg26 => ?_) | refine L.gsplitB (i := 26) rfl (fun hg26 => ?_) (fun hg26 => ?_)
            ·
              refine L.gOff (t := 26) rfl rfl rfl ?_
              refine L.gOff (t := 26) rfl rfl rfl ?_
              refine L.yl (Y.pickT rfl rfl) ?_
              refine L.yl (Y.mv rfl) ?_
              refine L.gOff (t := 30) rfl rfl rfl ?_
              refine L.gOff (t := 30) rfl rfl rfl ?_
              refine L.yl (Y.pickT rfl rfl) ?_
              refine L.yl (Y.as rfl) ?_
              refine L.nil ?_
              refine C.ret ?_
              refine InBlo.r ?_
              refine Then.r ?_
              refine FnPost.r1 Go.Proofs.Tryz.results88 rfl ?_
              refine congrArg Value.bool ?_
              first | exact decide_eq_decide.2 (by unfold okB; (repeat' split) <;> omega) | exact (decide_eq_true (by unfold okB; (repeat' split) <;> first | omega | trivial)).symm
            ·
              refine L.gOn (t := 26) rfl rfl ?_
              refine L.yl (Y.mv rfl) ?_
              refine L.gOn (t := 26) rfl rfl ?_
              refine L.yl (Y.eqi rfl rfl) ?_
              refine L.yl (Y.pickF rfl rfl) ?_
              refine L.yl (Y.mv rfl) ?_
              first | refine L.gsplit (i := 30) rfl (fun hg30 => ?_) (fun hg30 => ?_) | refine L.gsplitB (i := 30) rfl (fun hg30 => ?_) (fun hg30 => ?_)
              ·
                refine L.gOff (t := 30) rfl rfl rfl ?_
                refine L.gOff (t := 30) rfl rfl rfl ?_
                refine L.yl (Y.pickT rfl rfl) ?_
                refine L.yl (Y.as rfl) ?_
                refine L.nil ?_
                refine C.ret ?_
                refine InBlo.r ?_
                refine Then.r ?_
                refine FnPost.r1 Go.Proofs.Tryz.results88 rfl ?_
                refine congrArg Value.bool ?_
                first | exact decide_eq_decide.2 (by unfold okB; (repeat' split) <;> omega) | exact (decide_eq_true (by unfold okB; (repeat' split) <;> first | omega | trivial)).symm
              ·
                refine L.gOn (t := 30) rfl rfl ?_
                refine L.yl (Y.mv rfl) ?_
                refine L.gOn (t := 30) rfl rfl ?_
                refine L.yl (Y.eqi rfl rfl) ?_
                refine L.yl (Y.pickF rfl rfl) ?_
                refine L.yl (Y.as rfl) ?_
                refine L.nil ?_
                refine C.ret ?_
                refine InBlo.r ?_
                refine Then.r ?_
                refine FnPost.r1 Go.Proofs.Tryz.results88 rfl ?_
                refine congrArg Value.bool ?_
                first | exact decide_eq_decide.2 (by unfold okB; (repeat' split) <;> omega) | exact (decide_eq_true (by unfold okB; (repeat' split) <;> first | omega | trivial)).symm
        ·
          refine C.regS ?_
          refine L.yl (Y.eqi rfl rfl) ?_
          refine L.yl (Y.as rfl) ?_
          refine L.nil ?_
          refine C.condP rfl (fun hc5 => ?_) (fun hc5 => ?_)
          ·
            refine C.regS ?_
            refine L.yl (Y.mv rfl) ?_
            refine L.yl (Y.eqi rfl rfl) ?_
            refine L.yl (Y.as rfl) ?_
            refine L.nil ?_
            refine C.ret ?_
            refine InBlo.r ?_
            refine Then.r ?_
            refine FnPost.r1 Go.Proofs.Tryz.results88 rfl ?_
            refine congrArg Value.bool ?_
            first | exact decide_eq_decide.2 (by unfold okB; (repeat' split) <;> omega) | exact (decide_eq_true (by unfold okB; (repeat' split) <;> first | omega | trivial)).symm
          ·
            refine C.skip ?_
            refine InBlo.n ?_
            refine Then.n ?_
            refine C.regS ?_
            refine L.yl (Y.as rfl) ?_
            refine L.nil ?_
            refine C.ret ?_
            refine FnPost.r1 Go.Proofs.Tryz.results88 rfl ?_
            refine congrArg Value.bool ?_
            first | exact decide_eq_decide.2 (by unfold okB; (repeat' split) <;> omega) | exact (decide_eq_true (by unfold okB; (repeat' split) <;> first | omega | trivial)).symm
theorem rs_sub {w : World} {da : Option Addr} {b : List UInt8} (h : Rs w da (byteL b)) (i k m : Nat) (hm : i + k ≤ b.length) (hmk : m = 0 → k = 0) : Rs w (cutA da (i * 1) m) (byteL ((b.drop i).take k)) := by
  have h1 := h.cut (i * 1) m (k * 1) (by omega)
  rw [← byteL_take, ← byteL_drop]
  simpa using h1
theorem rdV_at {b : List UInt8} {i k : Nat} (h : i + k ≤ b.length) : rdV b i k = (beN ((b.drop i).take k) : Nat) := rdV_ok h
theorem beN_4 (b : List UInt8) (h : b.length ≤ 4) : beN b < 4294967296 := by
  have h1 := beN_lt b
  have h2 : 256 ^ b.length ≤ 256 ^ 4 := pow256_le h
  omega
theorem rf_put (o : Opts) (oa : Option Addr) (oc k : Nat) (hk : k ≤ 255) (b : List UInt8) (da : Option Addr) (dc : Nat) (hb : b.length ≤ 253) (hbc : b.length ≤ dc) (hdc : dc ≤ 9223372036854775807) (hok : okB k b.length) (w : World) (hw : X.Holds w [own 51 2 oa o.blocks.length oc (bkL o.blocks)]) (h2 : ∀ w2, Keep (fps [own 51 2 oa o.blocks.length oc (bkL o.blocks)]) w w2 → Rs w2 da (byteL b)) : Calls Go.Proofs.Tryz.prog 89 #[.agg (optCs o oa oc).toArray, .int .i64 k, .slice da b.length dc] w (Post w [own 51 2 oa o.blocks.length oc (bkL o.blocks)] (RW fun r Γ => ∃ a c, r = .agg (optCs (putO o k b) a c).toArray ∧ Γ = [own 51 2 a (putO o k b).blocks.length c (bkL (putO o k b).blocks)])) := by
  haveI hrd : ∀ Γ, Rd w (fps [own 51 2 oa o.blocks.length oc (bkL o.blocks)]) Γ da (byteL b) := fun Γ => ⟨fun w2 hw2 => h2 w2 hw2.keep⟩
  refine spec_of Go.Proofs.Tryz.func89 rfl Go.Proofs.Tryz.ntmps89 rfl hw ?_
  change C _ _ _ _ _ _ _ ⟨[(0, _), (1, _), (2, _)], []⟩ _
  refine C.regS ?_
  refine L.bxa rfl ?_; intro b3
  refine L.al (zs := [.int .i64 0, .bool false, .bool false, .int .u32 0, .int .u32 0, .bool false, .int .i64 0, .slice none 0 0]) zr44 rfl ?_; intro b6
  refine L.nil ?_
  refine C.seq ?_
  refine C.regS ?_
  refine L.yl (Y.mv rfl) ?_
  refine L.nil ?_
  refine C.block ?_
  refine C.regS ?_
  refine L.yl (Y.eqi rfl rfl) ?_
  refine L.yl (Y.as rfl) ?_
  refine L.nil ?_
  refine C.condP rfl (fun hc1 => ?_) (fun hc1 => ?_)
  ·
    have hlen : b.length = 2 := by have h := hok; unfold okB at h; rw [if_pos (by omega)] at h; exact h
    refine C.reg ?_
    refine L.yl (Y.mv rfl) ?_
    refine L.callP go40 rfl (fun w hw => rf_Value da b dc (by omega) w ((hrd _).rd w hw)) ?_
    have hbn := beN_4 b (by omega)
    first | refine L.yl (Y.cvI Go.Proofs.Tryz.underlying3 ⟨_, Go.Proofs.Tryz.underlying22⟩ rfl (by omega)) ?_ | refine L.yl (Y.cvW Go.Proofs.Tryz.underlying3 ⟨_, Go.Proofs.Tryz.underlying22⟩ rfl) ?_
    first | refine L.yl (Y.fa0 fl44_0 rfl) ?_ | refine L.yl (Y.fa fl44_0 rfl) ?_ | refine L.yl (Y.fas fl44_0 rfl (by simp; omega)) ?_
    refine L.st sc3 rfl rfl rfl ?_
    refine L.nil ?_
    refine InBlo.n ?_
    refine Then.n ?_
    refine C.regS ?_
    refine L.yl (Y.lda (vs := [_, _, _, _, _, _, _, _]) ag44 rfl rfl) ?_
    refine L.sta (vs := [_, _, _, _, _, _, _, _]) ag44 rfl rfl rfl rfl rfl ?_
    refine L.nil ?_
    refine C.ret ?_
    refine FnPost.rg (xs := [.cell 6 44]) (congrArg Array.toList Go.Proofs.Tryz.results89) (ra_ag (us := [_, _, _, _, _, _, _, _]) rfl ag44 rfl ra_nil) ?_
    rw [show putO o k b = { o with mss := rdV b 0 2 } from by unfold putO; rw [if_pos (show k = 2 by omega)], show rdV b 0 2 = ((beN b : Nat) : Int) by rw [rdV_at (by omega), List.drop_zero, List.take_of_length_le (by omega)]]
    exact ⟨[own 51 2 oa o.blocks.length oc (bkL o.blocks)], inferInstance, oa, oc, rfl, rfl⟩
  ·
    refine C.regS ?_
    refine L.yl (Y.eqi rfl rfl) ?_
    refine L.yl (Y.as rfl) ?_
    refine L.nil ?_
    refine C.condP rfl (fun hc2 => ?_) (fun hc2 => ?_)
    ·
      have hlen : b.length = 1 := by have h := hok; unfold okB at h; rw [if_neg (by omega), if_pos (by omega)] at h; exact h
      obtain ⟨u0, hu0⟩ : ∃ u, b[0]? = some u := ⟨_, List.getElem?_eq_getElem (by omega)⟩
      have hu1 := u0.toNat_lt
      refine C.regS ?_
      first | refine L.yl (Y.fa0 fl44_5 rfl) ?_ | refine L.yl (Y.fa fl44_5 rfl) ?_ | refine L.yl (Y.fas fl44_5 rfl (by simp; omega)) ?_
      refine L.st sc4 rfl rfl rfl ?_
      refine L.nil ?_
      refine C.reg ?_
      refine L.yl (Y.mv rfl) ?_
      refine L.yl (Y.ix slt31 rfl rfl (by rw [byteL_length]; omega) (by omega) (by omega)) ?_
      first | refine L.yl (Y.ld sc5 rfl rfl) ?_ | refine L.yl (Y.lds sc5 rfl (get_byteL hu0 (by rfl))) ?_
      first | refine L.yl (Y.cvI Go.Proofs.Tryz.underlying3 ⟨_, Go.Proofs.Tryz.underlying5⟩ rfl (by omega)) ?_ | refine L.yl (Y.cvW Go.Proofs.Tryz.underlying3 ⟨_, Go.Proofs.Tryz.underlying5⟩ rfl) ?_
      refine L.yl (Y.min2 rfl rfl) ?_
      first | refine L.yl (Y.fa0 fl44_6 rfl) ?_ | refine L.yl (Y.fa fl44_6 rfl) ?_ | refine L.yl (Y.fas fl44_6 rfl (by simp; omega)) ?_
      refine L.st sc3 rfl rfl rfl ?_
      refine L.nil ?_
      refine InBlo.n ?_
      refine Then.n ?_
      refine C.regS ?_
      refine L.yl (Y.lda (vs := [_, _, _, _, _, _, _, _]) ag44 rfl rfl) ?_
      refine L.sta (vs := [_, _, _, _, _, _, _, _]) ag44 rfl rfl rfl rfl rfl ?_
      refine L.nil ?_
      refine C.ret ?_
      refine FnPost.rg (xs := [.cell 6 44]) (congrArg Array.toList Go.Proofs.Tryz.results89) (ra_ag (us := [_, _, _, _, _, _, _, _]) rfl ag44 rfl ra_nil) ?_
      rw [show putO o k b = { o with has := true, scale := min (rdV b 0 1) 14 } from by unfold putO; rw [if_neg (show ¬ k = 2 by omega), if_pos (show k = 3 by omega)], rdV_one hu0]
      exact ⟨[own 51 2 oa o.blocks.length oc (bkL o.blocks)], inferInstance, oa, oc, rfl, rfl⟩
    ·
      refine C.regS ?_
      refine L.yl (Y.eqi rfl rfl) ?_
      refine L.yl (Y.as rfl) ?_
      refine L.nil ?_
      refine C.condP rfl (fun hc3 => ?_) (fun hc3 => ?_)
      ·
        refine C.reg ?_
        first | refine L.yl (Y.fa0 fl44_1 rfl) ?_ | refine L.yl (Y.fa fl44_1 rfl) ?_ | refine L.yl (Y.fas fl44_1 rfl (by simp; omega)) ?_
        refine L.st sc4 rfl rfl rfl ?_
        refine L.nil ?_
        refine InBlo.n ?_
        refine Then.n ?_
        refine C.regS ?_
        refine L.yl (Y.lda (vs := [_, _, _, _, _, _, _, _]) ag44 rfl rfl) ?_
        refine L.sta (vs := [_, _, _, _, _, _, _, _]) ag44 rfl rfl rfl rfl rfl ?_
        refine L.nil ?_
        refine C.ret ?_
        refine FnPost.rg (xs := [.cell 6 44]) (congrArg Array.toList Go.Proofs.Tryz.results89) (ra_ag (us := [_, _, _, _, _, _, _, _]) rfl ag44 rfl ra_nil) ?_
        rw [show putO o k b = { o with permit := true } from by unfold putO; rw [if_neg (show ¬ k = 2 by omega), if_neg (show ¬ k = 3 by omega), if_pos (show k = 4 by omega)]]
        exact ⟨[own 51 2 oa o.blocks.length oc (bkL o.blocks)], inferInstance, oa, oc, rfl, rfl⟩
      ·
        refine C.regS ?_
        refine L.yl (Y.eqi rfl rfl) ?_
        refine L.yl (Y.as rfl) ?_
        refine L.nil ?_
        refine C.condP rfl (fun hc4 => ?_) (fun hc4 => ?_)
        ·
          have hlen : b.length = 8 := by have h := hok; unfold okB at h; rw [if_neg (by omega), if_neg (by omega), if_neg (by omega), if_pos (by omega)] at h; exact h
          refine C.regS ?_
          first | refine L.yl (Y.fa0 fl44_2 rfl) ?_ | refine L.yl (Y.fa fl44_2 rfl) ?_ | refine L.yl (Y.fas fl44_2 rfl (by simp; omega)) ?_
          refine L.st sc4 rfl rfl rfl ?_
          refine L.nil ?_
          refine C.regS ?_
          refine L.yl (Y.mv rfl) ?_
          refine L.yl (Y.slh slt31 rfl rfl (by omega)) ?_
          rw [show ((4 : Int)).toNat = (b.take 4).length by rw [List.length_take]; omega]
          refine L.callP go40 rfl (fun w hw => rf_Value da (b.take 4) dc (by rw [List.length_take]; omega) w (by rw [← byteL_take]; exact ((hrd _).rd w hw).pre 4)) ?_
          first | refine L.yl (Y.fa0 fl44_3 rfl) ?_ | refine L.yl (Y.fa fl44_3 rfl) ?_ | refine L.yl (Y.fas fl44_3 rfl (by simp; omega)) ?_
          refine L.st sc22 rfl rfl rfl ?_
          refine L.nil ?_
          refine C.reg ?_
          refine L.yl (Y.mv rfl) ?_
          refine L.yl (Y.sl1 slt31 rfl rfl (by omega) (by omega)) ?_
          rw [show b.length - ((4 : Int)).toNat = ((b.drop 4).take 4).length by rw [List.length_take, List.length_drop]; omega]
          refine L.callP go40 rfl (fun w hw => rf_Value (cutA da (((4 : Int)).toNat * 1) (dc - ((4 : Int)).toNat)) ((b.drop 4).take 4) (dc - ((4 : Int)).toNat) (by rw [List.length_take]; omega) w (rs_sub ((hrd _).rd w hw) (4) 4 (dc - 4) (by omega) (by omega))) ?_
          first | refine L.yl (Y.fa0 fl44_4 rfl) ?_ | refine L.yl (Y.fa fl44_4 rfl) ?_ | refine L.yl (Y.fas fl44_4 rfl (by simp; omega)) ?_
          refine L.st sc22 rfl rfl rfl ?_
          refine L.nil ?_
          refine InBlo.n ?_
          refine Then.n ?_
          refine C.regS ?_
          refine L.yl (Y.lda (vs := [_, _, _, _, _, _, _, _]) ag44 rfl rfl) ?_
          refine L.sta (vs := [_, _, _, _, _, _, _, _]) ag44 rfl rfl rfl rfl rfl ?_
          refine L.nil ?_
          refine C.ret ?_
          refine FnPost.rg (xs := [.cell 6 44]) (congrArg Array.toList Go.Proofs.Tryz.results89) (ra_ag (us := [_, _, _, _, _, _, _, _]) rfl ag44 rfl ra_nil) ?_
          rw [show putO o k b = { o with ts := true, val := rdV b 0 4, ecr := rdV b 4 4 } from by unfold putO; rw [if_neg (show ¬ k = 2 by omega), if_neg (show ¬ k = 3 by omega), if_neg (show ¬ k = 4 by omega), if_pos (show k = 8 by omega)], rdV_at (i := 0) (by omega), rdV_at (i := 4) (by omega), List.drop_zero]
          exact ⟨[own 51 2 oa o.blocks.length oc (bkL o.blocks)], inferInstance, oa, oc, rfl, rfl⟩
        ·
          refine C.regS ?_
          refine L.yl (Y.eqi rfl rfl) ?_
          refine L.yl (Y.as rfl) ?_
          refine L.nil ?_
          refine C.condP rfl (fun hc5 => ?_) (fun hc5 => ?_)
          ·
            obtain ⟨hl1, hl2, hl3⟩ : b.length % 8 = 0 ∧ 1 ≤ b.length / 8 ∧ b.length / 8 ≤ 4 := by have h := hok; unfold okB at h; rw [if_neg (by omega), if_neg (by omega), if_neg (by omega), if_neg (by omega), if_pos (by omega)] at h; exact h
            refine C.nil0 51 2 ?_
            refine C.regS ?_
            refine L.yl (Y.as rfl) ?_
            refine L.nil ?_
            refine C.seq ?_
            refine C.regS ?_
            refine L.yl (Y.as rfl) ?_
            refine L.nil ?_
            refine C.block ?_
            refine C.loop (σ := Nat × Option Addr × Nat × List (Int × Int)) (fun (j, a2, c2, X) => [(2, .slice da b.length dc), (3, .pointer (some ⟨b3, 0, none⟩)), (6, .pointer (some ⟨b6, 0, none⟩)), (7, .slice a2 X.length c2), (8, .int .i64 ((8 * j : Nat) : Int))]) (fun (j, a2, c2, X) => [own 51 2 a2 X.length c2 (bkL X), blk b6 [.int .i64 0, .bool false, .bool false, .int .u32 0, .int .u32 0, .bool false, .int .i64 0, .slice none 0 0] 44, blk b3 (optCs o oa oc) 44]) (fun (j, a2, c2, X) => j ≤ b.length / 8 ∧ X = blks b j) (fun (j, a2, c2, X) => b.length / 8 - j) (0, none, 0, []) ?_ ?_ ?_ ?_
            · repeat (first | exact trivial | refine ⟨rfl, ?_⟩)
            · show Wk _ [own 51 2 none 0 0 [], blk b6 [.int .i64 0, .bool false, .bool false, .int .u32 0, .int .u32 0, .bool false, .int .i64 0, .slice none 0 0] 44, blk b3 (optCs o oa oc) 44]; exact inferInstance
            · exact ⟨Nat.zero_le _, rfl⟩
            · rintro ⟨j, a2, c2, X⟩ ⟨hI0, hI1⟩
              have hXl : X.length = j := by rw [hI1, blks_length]
              try dsimp only
              refine C.seq ?_
              refine C.regS ?_
              refine L.yl (Y.mv rfl) ?_
              refine L.yl (Y.mv rfl) ?_
              refine L.yl (Y.len ⟨_, Go.Proofs.Tryz.underlying31⟩ rfl) ?_
              refine L.yl (Y.lss rfl rfl) ?_
              refine L.nil ?_
              refine C.condP rfl (fun hc6 => ?_) (fun hc6 => ?_)
              ·
                refine C.skip ?_
                refine Then.n ?_
                refine C.seq ?_
                refine C.block ?_
                refine C.drwF (Δ := [own 51 2 a2 X.length c2 (bkL X)]) (.y 0 (.y 1 (.y 2 (.y 3 (.y 4 (.y 5 (.y 7 (.y 8 (.y 9 (.y 10 (.y 11 (.y 12 (.h 6 (.h 13 (.y 14 (.h 15 (.h 16 (.y 17 (.fin))))))))))))))))))) mixo (by kernel_rfl) ?_
                refine V.yl rfl (Y.mv rfl) ?_
                refine V.yl rfl (Y.mv rfl) ?_
                refine V.yl rfl (Y.mv rfl) ?_
                refine V.yl rfl (Y.mv rfl) ?_
                first | refine V.yl rfl (Y.add rfl rfl (by omega)) ?_ | refine V.yl rfl (Y.addW rfl rfl) ?_
                rw [show ((8 * j : Nat) : Int) + 4 = ((8 * j + 4 : Nat) : Int) from rfl]
                refine V.yl rfl (Y.sl2 slt31 rfl rfl rfl (by omega)) ?_
                refine V.yl rfl (Y.mv rfl) ?_
                refine V.yl rfl (Y.mv rfl) ?_
                first | refine V.yl rfl (Y.add rfl rfl (by omega)) ?_ | refine V.yl rfl (Y.addW rfl rfl) ?_
                rw [show ((8 * j : Nat) : Int) + 4 = ((8 * j + 4 : Nat) : Int) from rfl]
                refine V.yl rfl (Y.mv rfl) ?_
                first | refine V.yl rfl (Y.add rfl rfl (by omega)) ?_ | refine V.yl rfl (Y.addW rfl rfl) ?_
                rw [show ((8 * j : Nat) : Int) + 8 = ((8 * j + 8 : Nat) : Int) from rfl]
                refine V.yl rfl (Y.sl2 slt31 rfl rfl rfl (by omega)) ?_
                refine V.hv rfl ?_
                refine L.apc ?_
                try simp only [Int.toNat_natCast]
                rw [show 8 * j + 4 - 8 * j = ((b.drop (8 * j)).take 4).length by rw [List.length_take, List.length_drop]; omega]
                refine L.callP go40 rfl (fun w hw => rf_Value (cutA da (8 * j * 1) (dc - 8 * j)) ((b.drop (8 * j)).take 4) (dc - 8 * j) (by rw [List.length_take]; omega) w (rs_sub ((hrd _).rd w hw) (8 * j) 4 (dc - 8 * j) (by omega) (by omega))) ?_
                refine L.nil ?_
                refine V.on ?_
                refine V.hv rfl ?_
                refine L.apc ?_
                try simp only [Int.toNat_natCast]
                rw [show 8 * j + 8 - (8 * j + 4) = ((b.drop (8 * j + 4)).take 4).length by rw [List.length_take, List.length_drop]; omega]
                refine L.callP go40 rfl (fun w hw => rf_Value (cutA da ((8 * j + 4) * 1) (dc - (8 * j + 4))) ((b.drop (8 * j + 4)).take 4) (dc - (8 * j + 4)) (by rw [List.length_take]; omega) w (rs_sub ((hrd _).rd w hw) (8 * j + 4) 4 (dc - (8 * j + 4)) (by omega) (by omega))) ?_
                refine L.nil ?_
                refine V.on ?_
                refine V.yl rfl (Y.bdL (cs := [_, _]) zr51 bd51 rfl rfl rfl) ?_
                refine V.hv rfl ?_
                refine L.apc ?_
                refine L.bsA (vs := [_, _]) elt42 rfl rfl (by decide) ?_; intro b62
                refine L.nil ?_
                refine V.on ?_
                refine V.hv rfl ?_
                refine L.apc ?_
                refine L.app elt42 rfl rfl (by rfl) (by first | (simp; done) | (simp [byteL]; done)) (by omega) (by omega) ?_; intro a63 c63
                refine L.nil ?_
                refine V.on ?_
                refine V.yl rfl (Y.as rfl) ?_
                refine V.fin ?_
                refine InBlo.n ?_
                refine Then.n ?_
                refine C.reg ?_
                refine L.yl (Y.mv rfl) ?_
                first | refine L.yl (Y.add rfl rfl (by omega)) ?_ | refine L.yl (Y.addW rfl rfl) ?_
                refine L.yl (Y.as rfl) ?_
                refine L.nil ?_
                rw [show X.length + 1 = (X ++ [(rdV b (8 * j) 4, rdV b (8 * j + 4) 4)]).length by simp, show bkL X ++ [Value.int .u32 ((beN ((b.drop (8 * j)).take 4) : Nat) : Int), Value.int .u32 ((beN ((b.drop (8 * j + 4)).take 4) : Nat) : Int)] = bkL (X ++ [(rdV b (8 * j) 4, rdV b (8 * j + 4) 4)]) by rw [bkL_append, rdV_at (by omega), rdV_at (by omega)]; rfl, show ((8 * j : Nat) : Int) + 8 = ((8 * (j + 1) : Nat) : Int) by omega]
                exact ⟨(j + 1, a63, c63, X ++ [(rdV b (8 * j) 4, rdV b (8 * j + 4) 4)]), (by repeat (first | exact trivial | refine ⟨rfl, ?_⟩ | refine ⟨congrArg some (by simp), ?_⟩ | refine ⟨congrArg some (by simp; omega), ?_⟩)), rfl, (by first | exact inferInstance | (dsimp only; exact inferInstance)), ⟨by omega, by dsimp only; rw [blks_succ, hI1]⟩, (by first | omega | (dsimp only; omega))⟩
              ·
                refine C.exit ?_
                refine Then.x ?_
                refine Then.x ?_
                refine InBlo.x ?_
                refine Then.n ?_
                refine C.reg ?_
                refine L.yl (Y.mv rfl) ?_
                first | refine L.yl (Y.fa0 fl44_7 rfl) ?_ | refine L.yl (Y.fa fl44_7 rfl) ?_ | refine L.yl (Y.fas fl44_7 rfl (by simp; omega)) ?_
                refine L.st sc42 rfl rfl rfl ?_
                refine L.nil ?_
                refine InBlo.n ?_
                refine Then.n ?_
                refine C.regS ?_
                refine L.yl (Y.lda (vs := [_, _, _, _, _, _, _, _]) ag44 rfl rfl) ?_
                refine L.sta (vs := [_, _, _, _, _, _, _, _]) ag44 rfl rfl rfl rfl rfl ?_
                refine L.nil ?_
                refine C.ret ?_
                refine FnPost.rg (xs := [.cell 6 44]) (congrArg Array.toList Go.Proofs.Tryz.results89) (ra_ag (us := [_, _, _, _, _, _, _, _]) rfl ag44 rfl ra_nil) ?_
                obtain rfl : j = b.length / 8 := by omega
                subst hI1
                rw [show putO o k b = { o with blocks := blks b (b.length / 8) } from by unfold putO; rw [if_neg (show ¬ k = 2 by omega), if_neg (show ¬ k = 3 by omega), if_neg (show ¬ k = 4 by omega), if_neg (show ¬ k = 8 by omega), if_pos (show k = 5 by omega)]]
                exact ⟨[own 51 2 a2 (blks b (b.length / 8)).length c2 (bkL (blks b (b.length / 8)))], inferInstance, a2, c2, rfl, rfl⟩
          ·
            refine C.skip ?_
            refine InBlo.n ?_
            refine Then.n ?_
            refine C.regS ?_
            refine L.yl (Y.lda (vs := [_, _, _, _, _, _, _, _]) ag44 rfl rfl) ?_
            refine L.sta (vs := [_, _, _, _, _, _, _, _]) ag44 rfl rfl rfl rfl rfl ?_
            refine L.nil ?_
            refine C.ret ?_
            refine FnPost.rg (xs := [.cell 6 44]) (congrArg Array.toList Go.Proofs.Tryz.results89) (ra_ag (us := [_, _, _, _, _, _, _, _]) rfl ag44 rfl ra_nil) ?_
            rw [show putO o k b = o from by unfold putO; rw [if_neg (show ¬ k = 2 by omega), if_neg (show ¬ k = 3 by omega), if_neg (show ¬ k = 4 by omega), if_neg (show ¬ k = 8 by omega), if_neg (show ¬ k = 5 by omega)]]
            exact ⟨[own 51 2 oa o.blocks.length oc (bkL o.blocks)], inferInstance, oa, oc, rfl, rfl⟩
end Go.Proofs.YtcbhcdcobgdddaaGreat
set_option maxHeartbeats 1000000
namespace Go.Proofs.YtcbhcdcobgdddaaGreat
open Go Go.X Go.Rep Go.Shelf
theorem go88 : Goes Go.Proofs.Tryz.prog 88 := enters_of Go.Proofs.Tryz.func88 (by kernel_rfl) rfl
theorem go89 : Goes Go.Proofs.Tryz.prog 89 := enters_of Go.Proofs.Tryz.func89 (by kernel_rfl) rfl
theorem rf_Parse (a : Option Addr) (b : List UInt8) (c : Nat) (hbc : b.length ≤ c) (hc : c ≤ 9223372036854775807) (w : World) (h : Rs w a (byteL b)) : Calls Go.Proofs.Tryz.prog 39 #[.slice a b.length c] w (Post w [] (RW fun r Γ => ∃ a1 c1, r = .tuple #[.agg (optCs (parseO b).1 a1 c1).toArray, .int .i64 (parseO b).2] ∧ Γ = [own 51 2 a1 (parseO b).1.blocks.length c1 (bkL (parseO b).1.blocks)])) := by
  have hrd : ∀ Γ, Rd w (fps []) Γ a (byteL b) := fun Γ => Rd.old0 h Γ
  refine spec_of Go.Proofs.Tryz.func39 rfl Go.Proofs.Tryz.ntmps39 rfl (Holds.nil w) ?_
  change C _ _ _ _ _ _ _ ⟨[(0, _)], []⟩ _
  refine C.regS ?_
  refine L.al (zs := [.int .i64 0, .bool false, .bool false, .int .u32 0, .int .u32 0, .bool false, .int .i64 0, .slice none 0 0]) zr44 rfl ?_; intro b2
  refine L.yl (Y.as rfl) ?_
  refine L.nil ?_
  refine C.regS ?_
  refine L.yl (Y.bdL (cs := [_, _, _, _, _, _, _, _]) zr44 bd44 rfl rfl rfl) ?_
  refine L.al (zs := [.int .i64 0, .bool false, .bool false, .int .u32 0, .int .u32 0, .bool false, .int .i64 0, .slice none 0 0]) zr44 rfl ?_; intro b4
  refine L.sta (vs := [_, _, _, _, _, _, _, _]) ag44 rfl rfl rfl rfl rfl ?_
  refine L.nil ?_
  refine C.seq ?_
  refine C.regS ?_
  refine L.yl (Y.mv rfl) ?_
  refine L.yl (Y.len ⟨_, Go.Proofs.Tryz.underlying31⟩ rfl) ?_
  refine L.yl (Y.gtr rfl rfl) ?_
  refine L.nil ?_
  refine C.condP rfl (fun hc1 => ?_) (fun hc1 => ?_)
  ·
    refine C.regS ?_
    refine L.yl (Y.lda (vs := [_, _, _, _, _, _, _, _]) ag44 rfl rfl) ?_
    refine L.sta (vs := [_, _, _, _, _, _, _, _]) ag44 rfl rfl rfl rfl rfl ?_
    refine L.yl (Y.as rfl) ?_
    refine L.nil ?_
    refine C.nil0 51 2 ?_
    refine C.ret ?_
    refine Then.r ?_
    refine FnPost.rg (xs := [.cell 2 44, .tmp 3]) (congrArg Array.toList Go.Proofs.Tryz.results39) (ra_ag (us := [_, _, _, _, _, _, _, _]) rfl ag44 rfl (ra_tmp rfl ra_nil)) ?_
    refine ⟨[own 51 2 none 0 0 []], inferInstance, none, 0, ?_, ?_⟩
    · rw [show parseO b = (Opts.zero, 9) from if_pos (by omega)]; rfl
    · rw [show parseO b = (Opts.zero, 9) from if_pos (by omega)]; rfl
  ·
    refine C.skip ?_
    refine Then.n ?_
    refine C.regS ?_
    refine L.yl (Y.as rfl) ?_
    refine L.nil ?_
    refine C.seq ?_
    refine C.block ?_
    refine C.nil0 51 2 ?_
    refine C.loop (σ := Nat × Opts × Option Addr × Nat × Nat) (fun (i, o, oa, oc, f) => [(0, .slice a b.length c), (2, .pointer (some ⟨b2, 0, none⟩)), (4, .pointer (some ⟨b4, 0, none⟩)), (5, .int .i64 i)]) (fun (i, o, oa, oc, f) => [blk b4 (optCs o oa oc) 44, own 51 2 oa o.blocks.length oc (bkL o.blocks), blk b2 [.int .i64 0, .bool false, .bool false, .int .u32 0, .int .u32 0, .bool false, .int .i64 0, .slice none 0 0] 44]) (fun (i, o, oa, oc, f) => i ≤ b.length ∧ b.length < i + f ∧ parseG b f i o = parseO b) (fun (i, o, oa, oc, f) => b.length - i) (0, Opts.zero, none, 0, b.length + 1) ?_ ?_ ?_ ?_
    · repeat (first | exact trivial | refine ⟨rfl, ?_⟩)
    · show Wk _ [blk b4 [.int .i64 0, .bool false, .bool false, .int .u32 0, .int .u32 0, .bool false, .int .i64 0, .slice none 0 0] 44, own 51 2 none 0 0 [], blk b2 [.int .i64 0, .bool false, .bool false, .int .u32 0, .int .u32 0, .bool false, .int .i64 0, .slice none 0 0] 44]; exact inferInstance
    · exact ⟨Nat.zero_le _, by omega, (if_neg (show ¬ 40 < b.length by omega)).symm⟩
    · rintro ⟨i, o, oa, oc, f⟩ ⟨hI1, hI2, hI3⟩
      obtain ⟨f, rfl⟩ : ∃ f0, f = f0 + 1 := ⟨f - 1, by omega⟩
      unfold parseG at hI3
      try dsimp only
      refine C.seq ?_
      refine C.regS ?_
      refine L.yl (Y.mv rfl) ?_
      refine L.yl (Y.mv rfl) ?_
      refine L.yl (Y.len ⟨_, Go.Proofs.Tryz.underlying31⟩ rfl) ?_
      refine L.yl (Y.lss rfl rfl) ?_
      refine L.nil ?_
      refine C.condP rfl (fun hc2 => ?_) (fun hc2 => ?_)
      ·
        obtain ⟨u0, hu0⟩ : ∃ u, b[i]? = some u := ⟨_, List.getElem?_eq_getElem (by omega)⟩
        rw [if_neg (show ¬ b.length ≤ i by omega), getD_of hu0] at hI3
        have hlt0 := u0.toNat_lt
        refine C.skip ?_
        refine Then.n ?_
        refine C.block ?_
        refine C.regS ?_
        refine L.yl (Y.mv rfl) ?_
        refine L.yl (Y.mv rfl) ?_
        refine L.yl (Y.ix slt31 rfl rfl (by rw [byteL_length]; omega) (by omega) (by omega)) ?_
        first | refine L.yl (Y.ld sc5 rfl rfl) ?_ | refine L.yl (Y.lds sc5 rfl (get_byteL hu0 (by simp))) ?_
        first | refine L.yl (Y.cvI Go.Proofs.Tryz.underlying3 ⟨_, Go.Proofs.Tryz.underlying5⟩ rfl (by omega)) ?_ | refine L.yl (Y.cvW Go.Proofs.Tryz.underlying3 ⟨_, Go.Proofs.Tryz.underlying5⟩ rfl) ?_
        refine L.yl (Y.as rfl) ?_
        refine L.nil ?_
        refine C.seq ?_
        refine C.regS ?_
        refine L.yl (Y.mv rfl) ?_
        refine L.yl (Y.eqi rfl rfl) ?_
        refine L.nil ?_
        refine C.condP rfl (fun hc3 => ?_) (fun hc3 => ?_)
        ·
          have hR : parseO b = (o, 0) := by rw [if_pos (show u0.toNat = 0 by omega)] at hI3; exact hI3.symm
          refine C.regS ?_
          refine L.yl (Y.lda (vs := [_, _, _, _, _, _, _, _]) ag44 rfl rfl) ?_
          refine L.sta (vs := [_, _, _, _, _, _, _, _]) ag44 rfl rfl rfl rfl rfl ?_
          refine L.yl (Y.as rfl) ?_
          refine L.nil ?_
          refine C.ret ?_
          refine Then.r ?_
          refine InBlo.r ?_
          refine Then.r ?_
          refine InBlo.r ?_
          refine Then.r ?_
          refine FnPost.rg (xs := [.cell 2 44, .tmp 3]) (congrArg Array.toList Go.Proofs.Tryz.results39) (ra_ag (us := [_, _, _, _, _, _, _, _]) rfl ag44 rfl (ra_tmp rfl ra_nil)) ?_
          refine ⟨[own 51 2 oa o.blocks.length oc (bkL o.blocks)], inferInstance, oa, oc, ?_, ?_⟩
          · rw [hR]; rfl
          · rw [hR]
        ·
          rw [if_neg (show ¬ u0.toNat = 0 by omega)] at hI3
          refine C.skip ?_
          refine Then.n ?_
          refine C.seq ?_
          refine C.regS ?_
          refine L.yl (Y.mv rfl) ?_
          refine L.yl (Y.eqi rfl rfl) ?_
          refine L.nil ?_
          refine C.condP rfl (fun hc4 => ?_) (fun hc4 => ?_)
          ·
            refine C.regS ?_
            refine L.yl (Y.mv rfl) ?_
            first | refine L.yl (Y.add rfl rfl (by omega)) ?_ | refine L.yl (Y.addW rfl rfl) ?_
            refine L.yl (Y.as rfl) ?_
            refine L.nil ?_
            refine C.exit ?_
            refine Then.x ?_
            refine InBlo.x ?_
            rw [if_pos (by omega)] at hI3
            exact ⟨(i + 1, o, oa, oc, f), (by repeat (first | exact trivial | refine ⟨rfl, ?_⟩ | refine ⟨congrArg some (by simp), ?_⟩ | refine ⟨congrArg some (by simp; omega), ?_⟩)), rfl, (by dsimp only; exact inferInstance), ⟨(by dsimp only; omega), (by dsimp only; omega), hI3⟩, (by dsimp only; omega)⟩
          ·
            rw [if_neg (show ¬ u0.toNat = 1 by omega)] at hI3
            refine C.skip ?_
            refine Then.n ?_
            refine C.seq ?_
            refine C.regS ?_
            refine L.yl (Y.mv rfl) ?_
            first | refine L.yl (Y.add rfl rfl (by omega)) ?_ | refine L.yl (Y.addW rfl rfl) ?_
            refine L.yl (Y.mv rfl) ?_
            refine L.yl (Y.len ⟨_, Go.Proofs.Tryz.underlying31⟩ rfl) ?_
            refine L.yl (Y.geq rfl rfl) ?_
            refine L.nil ?_
            refine C.condP rfl (fun hc5 => ?_) (fun hc5 => ?_)
            ·
              have hR : parseO b = (Opts.zero, 5) := by rw [if_pos (show b.length ≤ i + 1 by omega)] at hI3; exact hI3.symm
              refine C.regS ?_
              refine L.yl (Y.bdL (cs := [_, _, _, _, _, _, _, _]) zr44 bd44 rfl rfl rfl) ?_
              refine L.sta (vs := [_, _, _, _, _, _, _, _]) ag44 rfl rfl rfl rfl rfl ?_
              refine L.yl (Y.as rfl) ?_
              refine L.nil ?_
              refine C.nil0 51 2 ?_
              refine C.ret ?_
              refine Then.r ?_
              refine InBlo.r ?_
              refine Then.r ?_
              refine InBlo.r ?_
              refine Then.r ?_
              refine FnPost.rg (xs := [.cell 2 44, .tmp 3]) (congrArg Array.toList Go.Proofs.Tryz.results39) (ra_ag (us := [_, _, _, _, _, _, _, _]) rfl ag44 rfl (ra_tmp rfl ra_nil)) ?_
              refine ⟨[own 51 2 none 0 0 []], inferInstance, none, 0, ?_, ?_⟩
              · rw [hR]; rfl
              · rw [hR]; rfl
            ·
              obtain ⟨u1, hu1⟩ : ∃ u, b[i + 1]? = some u := ⟨_, List.getElem?_eq_getElem (by omega)⟩
              rw [if_neg (show ¬ b.length ≤ i + 1 by omega), getD_of hu1] at hI3
              have hlt1 := u1.toNat_lt
              refine C.skip ?_
              refine Then.n ?_
              refine C.regS ?_
              refine L.yl (Y.mv rfl) ?_
              refine L.yl (Y.mv rfl) ?_
              first | refine L.yl (Y.add rfl rfl (by omega)) ?_ | refine L.yl (Y.addW rfl rfl) ?_
              rw [show (i : Int) + 1 = ((i + 1 : Nat) : Int) from rfl]
              refine L.yl (Y.ix slt31 rfl rfl (by rw [byteL_length]; omega) (by omega) (by omega)) ?_
              first | refine L.yl (Y.ld sc5 rfl rfl) ?_ | refine L.yl (Y.lds sc5 rfl (get_byteL hu1 (by simp))) ?_
              first | refine L.yl (Y.cvI Go.Proofs.Tryz.underlying3 ⟨_, Go.Proofs.Tryz.underlying5⟩ rfl (by omega)) ?_ | refine L.yl (Y.cvW Go.Proofs.Tryz.underlying3 ⟨_, Go.Proofs.Tryz.underlying5⟩ rfl) ?_
              refine L.yl (Y.as rfl) ?_
              refine L.nil ?_
              refine C.seq ?_
              refine C.regS ?_
              refine L.yl (Y.mv rfl) ?_
              refine L.yl (Y.lss rfl rfl) ?_
              refine L.nil ?_
              refine C.condP rfl (fun hc6 => ?_) (fun hc6 => ?_)
              ·
                have hR : parseO b = (Opts.zero, 6) := by rw [if_pos (show u1.toNat < 2 by omega)] at hI3; exact hI3.symm
                refine C.regS ?_
                refine L.yl (Y.bdL (cs := [_, _, _, _, _, _, _, _]) zr44 bd44 rfl rfl rfl) ?_
                refine L.sta (vs := [_, _, _, _, _, _, _, _]) ag44 rfl rfl rfl rfl rfl ?_
                refine L.yl (Y.as rfl) ?_
                refine L.nil ?_
                refine C.nil0 51 2 ?_
                refine C.ret ?_
                refine Then.r ?_
                refine InBlo.r ?_
                refine Then.r ?_
                refine InBlo.r ?_
                refine Then.r ?_
                refine FnPost.rg (xs := [.cell 2 44, .tmp 3]) (congrArg Array.toList Go.Proofs.Tryz.results39) (ra_ag (us := [_, _, _, _, _, _, _, _]) rfl ag44 rfl (ra_tmp rfl ra_nil)) ?_
                refine ⟨[own 51 2 none 0 0 []], inferInstance, none, 0, ?_, ?_⟩
                · rw [hR]; rfl
                · rw [hR]; rfl
              ·
                rw [if_neg (show ¬ u1.toNat < 2 by omega)] at hI3
                refine C.skip ?_
                refine Then.n ?_
                refine C.seq ?_
                refine C.regS ?_
                refine L.yl (Y.mv rfl) ?_
                refine L.yl (Y.mv rfl) ?_
                first | refine L.yl (Y.add rfl rfl (by omega)) ?_ | refine L.yl (Y.addW rfl rfl) ?_
                refine L.yl (Y.mv rfl) ?_
                refine L.yl (Y.len ⟨_, Go.Proofs.Tryz.underlying31⟩ rfl) ?_
                refine L.yl (Y.gtr rfl rfl) ?_
                refine L.nil ?_
                refine C.condP rfl (fun hc7 => ?_) (fun hc7 => ?_)
                ·
                  have hR : parseO b = (Opts.zero, 5) := by rw [if_pos (show b.length < i + u1.toNat by omega)] at hI3; exact hI3.symm
                  refine C.regS ?_
                  refine L.yl (Y.bdL (cs := [_, _, _, _, _, _, _, _]) zr44 bd44 rfl rfl rfl) ?_
                  refine L.sta (vs := [_, _, _, _, _, _, _, _]) ag44 rfl rfl rfl rfl rfl ?_
                  refine L.yl (Y.as rfl) ?_
                  refine L.nil ?_
                  refine C.nil0 51 2 ?_
                  refine C.ret ?_
                  refine Then.r ?_
                  refine InBlo.r ?_
                  refine Then.r ?_
                  refine InBlo.r ?_
                  refine Then.r ?_
                  refine FnPost.rg (xs := [.cell 2 44, .tmp 3]) (congrArg Array.toList Go.Proofs.Tryz.results39) (ra_ag (us := [_, _, _, _, _, _, _, _]) rfl ag44 rfl (ra_tmp rfl ra_nil)) ?_
                  refine ⟨[own 51 2 none 0 0 []], inferInstance, none, 0, ?_, ?_⟩
                  · rw [hR]; rfl
                  · rw [hR]; rfl
                ·
                  rw [if_neg (show ¬ b.length < i + u1.toNat by omega)] at hI3
                  refine C.skip ?_
                  refine Then.n ?_
                  refine C.seq ?_
                  refine C.regS ?_
                  refine L.yl (Y.mv rfl) ?_
                  refine L.yl (Y.mv rfl) ?_
                  refine L.callP go88 rfl (fun w hw => rf_right u0.toNat u1.toNat (by omega) (by omega) (by omega) w) ?_
                  first | refine L.yl (Y.notP rfl) ?_ | refine L.yl (Y.not rfl) ?_
                  refine L.nil ?_
                  refine C.condP rfl (fun hc8 => ?_) (fun hc8 => ?_)
                  ·
                    have hR : parseO b = (Opts.zero, 6) := by rw [if_neg (by simpa using hc8)] at hI3; exact hI3.symm
                    refine C.regS ?_
                    refine L.yl (Y.bdL (cs := [_, _, _, _, _, _, _, _]) zr44 bd44 rfl rfl rfl) ?_
                    refine L.sta (vs := [_, _, _, _, _, _, _, _]) ag44 rfl rfl rfl rfl rfl ?_
                    refine L.yl (Y.as rfl) ?_
                    refine L.nil ?_
                    refine C.nil0 51 2 ?_
                    refine C.ret ?_
                    refine Then.r ?_
                    refine InBlo.r ?_
                    refine Then.r ?_
                    refine InBlo.r ?_
                    refine Then.r ?_
                    refine FnPost.rg (xs := [.cell 2 44, .tmp 3]) (congrArg Array.toList Go.Proofs.Tryz.results39) (ra_ag (us := [_, _, _, _, _, _, _, _]) rfl ag44 rfl (ra_tmp rfl ra_nil)) ?_
                    refine ⟨[own 51 2 none 0 0 []], inferInstance, none, 0, ?_, ?_⟩
                    · rw [hR]; rfl
                    · rw [hR]; rfl
                  ·
                    have hok8 : okB u0.toNat (u1.toNat - 2) := by simpa using hc8
                    rw [if_pos hok8] at hI3
                    refine C.skip ?_
                    refine Then.n ?_
                    refine C.drwFS (Δ := [own 51 2 oa o.blocks.length oc (bkL o.blocks)]) (.y 0 (.y 1 (.y 2 (.y 3 (.y 4 (.y 5 (.y 6 (.y 7 (.y 8 (.h 9 (.last 10))))))))))) mixo (by kernel_rfl) ?_
                    refine V.yl rfl (Y.lda (vs := [_, _, _, _, _, _, _, _]) ag44 rfl rfl) ?_
                    refine V.yl rfl (Y.mv rfl) ?_
                    refine V.yl rfl (Y.mv rfl) ?_
                    refine V.yl rfl (Y.mv rfl) ?_
                    first | refine V.yl rfl (Y.add rfl rfl (by omega)) ?_ | refine V.yl rfl (Y.addW rfl rfl) ?_
                    rw [show (i : Int) + 2 = ((i + 2 : Nat) : Int) from rfl]
                    refine V.yl rfl (Y.mv rfl) ?_
                    refine V.yl rfl (Y.mv rfl) ?_
                    first | refine V.yl rfl (Y.add rfl rfl (by omega)) ?_ | refine V.yl rfl (Y.addW rfl rfl) ?_
                    rw [show (i : Int) + (u1.toNat : Int) = ((i + u1.toNat : Nat) : Int) from rfl]
                    refine V.yl rfl (Y.sl2 slt31 rfl rfl rfl (by omega)) ?_
                    refine V.hv rfl ?_
                    refine L.apc ?_
                    try simp only [Int.toNat_natCast]
                    have hbl : ((b.drop (i + 2)).take (u1.toNat - 2)).length = u1.toNat - 2 := by rw [List.length_take, List.length_drop]; omega
                    rw [show i + u1.toNat - (i + 2) = ((b.drop (i + 2)).take (u1.toNat - 2)).length by omega]
                    refine L.callFW (Γf := [own 51 2 oa o.blocks.length oc (bkL o.blocks)]) go89 rfl (fun w2 hw2 hf => rf_put o oa oc u0.toNat (by omega) ((b.drop (i + 2)).take (u1.toNat - 2)) (cutA a ((i + 2) * 1) (c - (i + 2))) (c - (i + 2)) (by omega) (by omega) (by omega) (by rw [hbl]; exact hok8) w2 hf (fun w3 hk3 => rs_sub (hw2.rk_old (Γf := [own 51 2 oa o.blocks.length oc (bkL o.blocks)]) (Γr := _) inferInstance h (fun _ _ _ ⟨c, hc, _⟩ => by simp at hc) w3 hk3) (i + 2) (u1.toNat - 2) (c - (i + 2)) (by omega) (by omega))) ?_
                    rintro _ _ ⟨oa1, oc1, rfl, rfl⟩
                    refine L.apc ?_
                    refine L.nil ?_
                    refine V.on ?_
                    refine V.ls rfl ?_
                    refine L.apc ?_
                    refine L.sta (vs := [_, _, _, _, _, _, _, _]) ag44 rfl rfl rfl rfl rfl ?_
                    refine L.nil ?_
                    refine C.reg ?_
                    refine L.yl (Y.mv rfl) ?_
                    refine L.yl (Y.mv rfl) ?_
                    first | refine L.yl (Y.add rfl rfl (by omega)) ?_ | refine L.yl (Y.addW rfl rfl) ?_
                    refine L.yl (Y.as rfl) ?_
                    refine L.nil ?_
                    refine InBlo.n ?_
                    rw [show (i : Int) + (u1.toNat : Int) = ((i + u1.toNat : Nat) : Int) from rfl]
                    exact ⟨(i + u1.toNat, putO o u0.toNat ((b.drop (i + 2)).take (u1.toNat - 2)), oa1, oc1, f), (by repeat (first | exact trivial | refine ⟨rfl, ?_⟩ | refine ⟨congrArg some (by simp), ?_⟩ | refine ⟨congrArg some (by simp; omega), ?_⟩)), rfl, (by dsimp only; exact inferInstance), ⟨(by dsimp only; omega), (by dsimp only; omega), hI3⟩, (by dsimp only; omega)⟩
      ·
        have hR : parseO b = (o, 0) := by rw [if_pos (show b.length ≤ i by omega)] at hI3; exact hI3.symm
        refine C.exit ?_
        refine Then.x ?_
        refine Then.x ?_
        refine InBlo.x ?_
        refine Then.n ?_
        refine C.regS ?_
        refine L.yl (Y.lda (vs := [_, _, _, _, _, _, _, _]) ag44 rfl rfl) ?_
        refine L.sta (vs := [_, _, _, _, _, _, _, _]) ag44 rfl rfl rfl rfl rfl ?_
        refine L.yl (Y.as rfl) ?_
        refine L.nil ?_
        refine C.ret ?_
        refine FnPost.rg (xs := [.cell 2 44, .tmp 3]) (congrArg Array.toList Go.Proofs.Tryz.results39) (ra_ag (us := [_, _, _, _, _, _, _, _]) rfl ag44 rfl (ra_tmp rfl ra_nil)) ?_
        refine ⟨[own 51 2 oa o.blocks.length oc (bkL o.blocks)], inferInstance, oa, oc, ?_, ?_⟩
        · rw [hR]; rfl
        · rw [hR]
end Go.Proofs.YtcbhcdcobgdddaaGreat
set_option maxHeartbeats 1000000
namespace Go.Proofs.YtcbhcdcobgdddaaGreat
open Go Go.X Go.Rep Go.Shelf
theorem go38 : Goes Go.Proofs.Tryz.prog 38 := enters_of Go.Proofs.Tryz.func38 (by kernel_rfl) rfl
theorem go41 : Goes Go.Proofs.Tryz.prog 41 := enters_of Go.Proofs.Tryz.func41 (by kernel_rfl) rfl
theorem go84 : Goes Go.Proofs.Tryz.prog 84 := enters_of Go.Proofs.Tryz.func84 (by kernel_rfl) rfl
def refChk (s : Seg) : Int := if s.kind ≠ 1 ∧ s.kind ≠ 2 then 8 else if chkO s.opt ≠ 0 then chkO s.opt else if s.kind = 1 ∧ (s.body.length = 0 ∨ 0 < s.opt.blocks.length) then 6 else if s.kind = 2 ∧ 0 < s.body.length then 6 else if 2048 < s.body.length then 9 else 0
theorem refChk_eq (s : Seg) : refChk s = chkS s := by
  by_cases h1 : s.kind ≠ 1 ∧ s.kind ≠ 2
  · have e : kindE s.kind = 8 := if_pos h1
    unfold refChk chkS; simp only [ckk]
    rw [if_pos h1, e]; rfl
  · have e : kindE s.kind = 0 := if_neg h1
    unfold refChk chkS; simp only [ckk]
    rw [if_neg h1, e, if_neg (show ¬ ((0 : Int) ≠ 0) from fun h => h rfl)]
    by_cases h2 : chkO s.opt ≠ 0
    · rw [if_pos h2, if_pos h2]
    · rw [if_neg h2, if_neg h2]
      by_cases h3 : s.kind = 1 ∧ (s.body.length = 0 ∨ 0 < s.opt.blocks.length)
      · have hf : formP s := by
          rcases h3 with ⟨h3, h4 | h4⟩
          · exact .inl ⟨h3, by omega⟩
          · exact .inr (.inr ⟨h3, h4⟩)
        rw [if_pos h3, if_pos hf, if_pos (by decide)]
      · rw [if_neg h3]
        by_cases h4 : s.kind = 2 ∧ 0 < s.body.length
        · have hf : formP s := .inr (.inl ⟨by omega, h4.2⟩)
          rw [if_pos h4, if_pos hf, if_pos (by decide)]
        · have hf : ¬ formP s := by
            rintro (⟨ha, hb⟩ | ⟨ha, hb⟩ | ⟨ha, hb⟩)
            · exact h3 ⟨ha, .inl (by omega)⟩
            · exact h4 ⟨by omega, hb⟩
            · exact h3 ⟨ha, .inr hb⟩
          rw [if_neg h4, if_neg hf, if_neg (show ¬ ((0 : Int) ≠ 0) from fun h => h rfl)]
theorem rf_segCheck (s : Seg) (oa : Option Addr) (oc : Nat) (ba : Option Addr) (bc : Nat) (hl : s.opt.blocks.length ≤ 65536) (w : World) : Pur Go.Proofs.Tryz.prog 41 [.agg (segCs s oa oc ba bc).toArray] (.int .i64 (chkS s)) w := by
  refine pur_of Go.Proofs.Tryz.func41 rfl Go.Proofs.Tryz.ntmps41 rfl ?_
  change C _ _ _ _ _ _ _ ⟨[(0, _)], []⟩ _
  refine C.regS ?_
  refine L.bxa rfl ?_; intro b1
  refine L.yl (Y.as rfl) ?_
  refine L.nil ?_
  refine C.seq ?_
  refine C.test (s.kind ≠ 1 ∧ s.kind ≠ 2) ?_ (fun hc1 => ?_) (fun hc1 => ?_)
  ·
    first | refine L.yl (Y.fa0 fl46_0 rfl) ?_ | refine L.yl (Y.fa fl46_0 rfl) ?_ | refine L.yl (Y.fas fl46_0 rfl (by simp; omega)) ?_
    refine L.yl (Y.ld sc3 rfl rfl) ?_
    refine L.yl (Y.nei rfl rfl) ?_
    refine L.yl (Y.mv rfl) ?_
    first | refine L.gsplit (i := 7) rfl (fun hg7 => ?_) (fun hg7 => ?_) | refine L.gsplitB (i := 7) rfl (fun hg7 => ?_) (fun hg7 => ?_)
    ·
      refine L.gOn (t := 7) rfl rfl ?_
      first | refine L.yl (Y.fa0 fl46_0 rfl) ?_ | refine L.yl (Y.fa fl46_0 rfl) ?_ | refine L.yl (Y.fas fl46_0 rfl (by simp; omega)) ?_
      refine L.gOn (t := 7) rfl rfl ?_
      refine L.yl (Y.ld sc3 rfl rfl) ?_
      refine L.gOn (t := 7) rfl rfl ?_
      refine L.yl (Y.nei rfl rfl) ?_
      refine L.yl (Y.pickT rfl rfl) ?_
      refine L.nil ?_
      exact ⟨_, rfl, by first | (simp [*]; done) | (simp [*] <;> omega) | (simp_all; done) | (simp_all <;> omega), (by repeat (first | exact Inc.refl _ | refine Inc.cons rfl ?_)), rfl, rfl⟩
    ·
      refine L.gOff (t := 7) rfl rfl rfl ?_
      refine L.gOff (t := 7) rfl rfl rfl ?_
      refine L.gOff (t := 7) rfl rfl rfl ?_
      refine L.yl (Y.pickF rfl rfl) ?_
      refine L.nil ?_
      exact ⟨_, rfl, by first | (simp [*]; done) | (simp [*] <;> omega) | (simp_all; done) | (simp_all <;> omega), (by repeat (first | exact Inc.refl _ | refine Inc.cons rfl ?_)), rfl, rfl⟩
  ·
    refine C.regS ?_
    refine L.yl (Y.as rfl) ?_
    refine L.nil ?_
    refine C.ret ?_
    refine Then.r ?_
    refine FnPost.r1 Go.Proofs.Tryz.results41 rfl ?_
    rw [← refChk_eq]; unfold refChk; rw [if_pos hc1]
  ·
    refine C.skip ?_
    refine Then.n ?_
    refine C.regS ?_
    first | refine L.yl (Y.fa0 fl46_2 rfl) ?_ | refine L.yl (Y.fa fl46_2 rfl) ?_ | refine L.yl (Y.fas fl46_2 rfl (by simp; omega)) ?_
    refine L.yl (Y.lda (vs := [_, _, _, _, _, _, _, _]) ag44 rfl rfl) ?_
    refine L.callP go90 rfl (fun w hw => rf_Check s.opt oa oc hl w) ?_
    refine L.yl (Y.as rfl) ?_
    refine L.nil ?_
    refine C.seq ?_
    refine C.regS ?_
    refine L.yl (Y.mv rfl) ?_
    refine L.yl (Y.nei rfl rfl) ?_
    refine L.nil ?_
    refine C.condP rfl (fun hc2 => ?_) (fun hc2 => ?_)
    ·
      refine C.regS ?_
      refine L.yl (Y.mv rfl) ?_
      refine L.yl (Y.as rfl) ?_
      refine L.nil ?_
      refine C.ret ?_
      refine Then.r ?_
      refine FnPost.r1 Go.Proofs.Tryz.results41 rfl ?_
      rw [← refChk_eq]; unfold refChk; rw [if_neg hc1, if_pos hc2]
    ·
      refine C.skip ?_
      refine Then.n ?_
      refine C.seq ?_
      refine C.test (s.kind = 1 ∧ (s.body.length = 0 ∨ 0 < s.opt.blocks.length)) ?_ (fun hc3 => ?_) (fun hc3 => ?_)
      ·
        first | refine L.yl (Y.fa0 fl46_0 rfl) ?_ | refine L.yl (Y.fa fl46_0 rfl) ?_ | refine L.yl (Y.fas fl46_0 rfl (by simp; omega)) ?_
        refine L.yl (Y.ld sc3 rfl rfl) ?_
        refine L.yl (Y.eqi rfl rfl) ?_
        refine L.yl (Y.mv rfl) ?_
        first | refine L.gsplit (i := 21) rfl (fun hg21 => ?_) (fun hg21 => ?_) | refine L.gsplitB (i := 21) rfl (fun hg21 => ?_) (fun hg21 => ?_)
        ·
          refine L.gOn (t := 21) rfl rfl ?_
          first | refine L.yl (Y.fa0 fl46_3 rfl) ?_ | refine L.yl (Y.fa fl46_3 rfl) ?_ | refine L.yl (Y.fas fl46_3 rfl (by simp; omega)) ?_
          refine L.gOn (t := 21) rfl rfl ?_
          refine L.yl (Y.ld sc31 rfl rfl) ?_
          refine L.gOn (t := 21) rfl rfl ?_
          refine L.yl (Y.len ⟨_, Go.Proofs.Tryz.underlying31⟩ rfl) ?_
          refine L.gOn (t := 21) rfl rfl ?_
          refine L.yl (Y.eqi rfl rfl) ?_
          refine L.gOn (t := 21) rfl rfl ?_
          refine L.yl (Y.mv rfl) ?_
          first | refine L.gsplit (i := 26) rfl (fun hg26 => ?_) (fun hg26 => ?_) | refine L.gsplitB (i := 26) rfl (fun hg26 => ?_) (fun hg26 => ?_)
          ·
            refine L.gOff (t := 26) rfl rfl rfl ?_
            refine L.gOff (t := 26) rfl rfl rfl ?_
            refine L.gOff (t := 26) rfl rfl rfl ?_
            refine L.gOff (t := 26) rfl rfl rfl ?_
            refine L.gOff (t := 26) rfl rfl rfl ?_
            refine L.gOn (t := 21) rfl rfl ?_
            refine L.yl (Y.pickT rfl rfl) ?_
            refine L.yl (Y.pickT rfl rfl) ?_
            refine L.nil ?_
            exact ⟨_, rfl, by first | (simp [*]; done) | (simp [*] <;> omega) | (simp_all; done) | (simp_all <;> omega), (by repeat (first | exact Inc.refl _ | refine Inc.cons rfl ?_)), rfl, rfl⟩
          ·
            refine L.gOn (t := 26) rfl rfl ?_
            first | refine L.yl (Y.fa0 fl46_2 rfl) ?_ | refine L.yl (Y.fa fl46_2 rfl) ?_ | refine L.yl (Y.fas fl46_2 rfl (by simp; omega)) ?_
            refine L.gOn (t := 26) rfl rfl ?_
            first | refine L.yl (Y.fa0 fl44_7 rfl) ?_ | refine L.yl (Y.fa fl44_7 rfl) ?_ | refine L.yl (Y.fas fl44_7 rfl (by simp; omega)) ?_
            refine L.gOn (t := 26) rfl rfl ?_
            refine L.yl (Y.ld sc42 rfl rfl) ?_
            refine L.gOn (t := 26) rfl rfl ?_
            refine L.yl (Y.len ⟨_, Go.Proofs.Tryz.underlying42⟩ rfl) ?_
            refine L.gOn (t := 26) rfl rfl ?_
            refine L.yl (Y.gtr rfl rfl) ?_
            refine L.gOn (t := 21) rfl rfl ?_
            refine L.yl (Y.pickF rfl rfl) ?_
            refine L.yl (Y.pickT rfl rfl) ?_
            refine L.nil ?_
            exact ⟨_, rfl, by first | (simp [*]; done) | (simp [*] <;> omega) | (simp_all; done) | (simp_all <;> omega), (by repeat (first | exact Inc.refl _ | refine Inc.cons rfl ?_)), rfl, rfl⟩
        ·
          refine L.gOff (t := 21) rfl rfl rfl ?_
          refine L.gOff (t := 21) rfl rfl rfl ?_
          refine L.gOff (t := 21) rfl rfl rfl ?_
          refine L.gOff (t := 21) rfl rfl rfl ?_
          refine L.gOff (t := 21) rfl rfl rfl ?_
          refine L.gOffU (t := 26) rfl rfl ?_
          refine L.gOffU (t := 26) rfl rfl ?_
          refine L.gOffU (t := 26) rfl rfl ?_
          refine L.gOffU (t := 26) rfl rfl ?_
          refine L.gOffU (t := 26) rfl rfl ?_
          refine L.gOff (t := 21) rfl rfl rfl ?_
          refine L.yl (Y.pickF rfl rfl) ?_
          refine L.nil ?_
          exact ⟨_, rfl, by first | (simp [*]; done) | (simp [*] <;> omega) | (simp_all; done) | (simp_all <;> omega), (by repeat (first | exact Inc.refl _ | refine Inc.cons rfl ?_)), rfl, rfl⟩
      ·
        refine C.regS ?_
        refine L.yl (Y.as rfl) ?_
        refine L.nil ?_
        refine C.ret ?_
        refine Then.r ?_
        refine FnPost.r1 Go.Proofs.Tryz.results41 rfl ?_
        rw [← refChk_eq]; unfold refChk; rw [if_neg hc1, if_neg hc2, if_pos hc3]
      ·
        refine C.skip ?_
        refine Then.n ?_
        refine C.seq ?_
        refine C.test (s.kind = 2 ∧ 0 < s.body.length) ?_ (fun hc4 => ?_) (fun hc4 => ?_)
        ·
          first | refine L.yl (Y.fa0 fl46_0 rfl) ?_ | refine L.yl (Y.fa fl46_0 rfl) ?_ | refine L.yl (Y.fas fl46_0 rfl (by simp; omega)) ?_
          refine L.yl (Y.ld sc3 rfl rfl) ?_
          refine L.yl (Y.eqi rfl rfl) ?_
          refine L.yl (Y.mv rfl) ?_
          first | refine L.gsplit (i := 37) rfl (fun hg37 => ?_) (fun hg37 => ?_) | refine L.gsplitB (i := 37) rfl (fun hg37 => ?_) (fun hg37 => ?_)
          ·
            refine L.gOn (t := 37) rfl rfl ?_
            first | refine L.yl (Y.fa0 fl46_3 rfl) ?_ | refine L.yl (Y.fa fl46_3 rfl) ?_ | refine L.yl (Y.fas fl46_3 rfl (by simp; omega)) ?_
            refine L.gOn (t := 37) rfl rfl ?_
            refine L.yl (Y.ld sc31 rfl rfl) ?_
            refine L.gOn (t := 37) rfl rfl ?_
            refine L.yl (Y.len ⟨_, Go.Proofs.Tryz.underlying31⟩ rfl) ?_
            refine L.gOn (t := 37) rfl rfl ?_
            refine L.yl (Y.gtr rfl rfl) ?_
            refine L.yl (Y.pickT rfl rfl) ?_
            refine L.nil ?_
            exact ⟨_, rfl, by first | (simp [*]; done) | (simp [*] <;> omega) | (simp_all; done) | (simp_all <;> omega), (by repeat (first | exact Inc.refl _ | refine Inc.cons rfl ?_)), rfl, rfl⟩
          ·
            refine L.gOff (t := 37) rfl rfl rfl ?_
            refine L.gOff (t := 37) rfl rfl rfl ?_
            refine L.gOff (t := 37) rfl rfl rfl ?_
            refine L.gOff (t := 37) rfl rfl rfl ?_
            refine L.yl (Y.pickF rfl rfl) ?_
            refine L.nil ?_
            exact ⟨_, rfl, by first | (simp [*]; done) | (simp [*] <;> omega) | (simp_all; done) | (simp_all <;> omega), (by repeat (first | exact Inc.refl _ | refine Inc.cons rfl ?_)), rfl, rfl⟩
        ·
          refine C.regS ?_
          refine L.yl (Y.as rfl) ?_
          refine L.nil ?_
          refine C.ret ?_
          refine Then.r ?_
          refine FnPost.r1 Go.Proofs.Tryz.results41 rfl ?_
          rw [← refChk_eq]; unfold refChk; rw [if_neg hc1, if_neg hc2, if_neg hc3, if_pos hc4]
        ·
          refine C.skip ?_
          refine Then.n ?_
          refine C.seq ?_
          refine C.regS ?_
          first | refine L.yl (Y.fa0 fl46_3 rfl) ?_ | refine L.yl (Y.fa fl46_3 rfl) ?_ | refine L.yl (Y.fas fl46_3 rfl (by simp; omega)) ?_
          refine L.yl (Y.ld sc31 rfl rfl) ?_
          refine L.yl (Y.len ⟨_, Go.Proofs.Tryz.underlying31⟩ rfl) ?_
          refine L.yl (Y.gtr rfl rfl) ?_
          refine L.nil ?_
          refine C.condP rfl (fun hc5 => ?_) (fun hc5 => ?_)
          ·
            refine C.regS ?_
            refine L.yl (Y.as rfl) ?_
            refine L.nil ?_
            refine C.ret ?_
            refine Then.r ?_
            refine FnPost.r1 Go.Proofs.Tryz.results41 rfl ?_
            rw [← refChk_eq]; unfold refChk; rw [if_neg hc1, if_neg hc2, if_neg hc3, if_neg hc4, if_pos (by omega)]
          ·
            refine C.skip ?_
            refine Then.n ?_
            refine C.regS ?_
            refine L.yl (Y.as rfl) ?_
            refine L.nil ?_
            refine C.ret ?_
            refine FnPost.r1 Go.Proofs.Tryz.results41 rfl ?_
            rw [← refChk_eq]; unfold refChk; rw [if_neg hc1, if_neg hc2, if_neg hc3, if_neg hc4, if_neg (by omega)]
theorem form_hd (s : Seg) (o : List UInt8) : formB s o 0 = [UInt8.ofNat s.kind.toNat, UInt8.ofNat (o.length / 4), 0, 0] ++ beB s.num.toNat 4 ++ o ++ s.body := rfl
theorem form_set (s : Seg) (o : List UInt8) (n : Nat) : ((byteL (formB s o 0)).set 2 (Value.int .u8 ((UInt8.ofNat (n / 256)).toNat : Int))).set 3 (Value.int .u8 ((UInt8.ofNat n).toNat : Int)) = byteL (formB s o n) := by
  have e : UInt8.ofNat (n / 256 ^ 0) = UInt8.ofNat n := by simp
  show _ = byteL ([UInt8.ofNat s.kind.toNat, UInt8.ofNat (o.length / 4)] ++ [UInt8.ofNat (n / 256 ^ 1), UInt8.ofNat (n / 256 ^ 0)] ++ beB s.num.toNat 4 ++ o ++ s.body)
  rw [e]; rfl
theorem rf_segEncode (s : Seg) (oa : Option Addr) (oc : Nat) (ba : Option Addr) (bc : Nat) (ht : OptT s.opt) (hn : 0 ≤ s.num ∧ s.num < 4294967296) (hl : s.opt.blocks.length ≤ 65536) (w : World) (h1 : Rs w oa (bkL s.opt.blocks)) (h2 : Rs w ba (byteL s.body)) : Calls Go.Proofs.Tryz.prog 33 #[.agg (segCs s oa oc ba bc).toArray] w (Post w [] (RW fun r Γ => ∃ a1 c1, r = .tuple #[.slice a1 (encS s).length c1, .int .i64 (chkS s)] ∧ Γ = [own 5 1 a1 (encS s).length c1 (byteL (encS s))])) := by
  have hrd1 : ∀ Γ, Rd w (fps []) Γ oa (bkL s.opt.blocks) := fun Γ => Rd.old0 h1 Γ
  have hrd2 : ∀ Γ, Rd w (fps []) Γ ba (byteL s.body) := fun Γ => Rd.old0 h2 Γ
  refine spec_of Go.Proofs.Tryz.func33 rfl Go.Proofs.Tryz.ntmps33 rfl (Holds.nil w) ?_
  change C _ _ _ _ _ _ _ ⟨[(0, _)], []⟩ _
  refine C.regS ?_
  refine L.bxa rfl ?_; intro b1
  refine L.yl (Y.as rfl) ?_
  refine L.yl (Y.as rfl) ?_
  refine L.nil ?_
  refine C.regS ?_
  refine L.yl (Y.lda (vs := [_, _, _, _, _, _, _, _, _, _, _]) ag46 rfl rfl) ?_
  refine L.callP go41 rfl (fun w hw => rf_segCheck s oa oc ba bc hl w) ?_
  refine L.yl (Y.as rfl) ?_
  refine L.nil ?_
  refine C.seq ?_
  refine C.regS ?_
  refine L.yl (Y.mv rfl) ?_
  refine L.yl (Y.nei rfl rfl) ?_
  refine L.nil ?_
  refine C.condP rfl (fun hc1 => ?_) (fun hc1 => ?_)
  ·
    refine C.regS ?_
    refine L.yl (Y.mv rfl) ?_
    refine L.yl (Y.as rfl) ?_
    refine L.yl (Y.as rfl) ?_
    refine L.nil ?_
    refine C.nil0 5 1 ?_
    refine C.ret ?_
    refine Then.r ?_
    refine FnPost.r2 Go.Proofs.Tryz.results33 rfl rfl ?_
    rw [show encS s = [] from if_neg hc1]
    exact ⟨[own 5 1 none 0 0 []], inferInstance, none, 0, rfl, rfl⟩
  ·
    have hc0 : chkS s = 0 := Decidable.not_not.1 hc1
    have hkd := chkS_kind hc0
    have hbd := chkS_body hc0
    have hco := chkS_opt hc0
    have ho := chkO_ok hco
    have hel := encO_length ho
    have hsz := ho.size
    have henc : encR s.opt = encO s.opt := if_pos hco
    refine C.skip ?_
    refine Then.n ?_
    refine C.regS ?_
    first | refine L.yl (Y.fa0 fl46_2 rfl) ?_ | refine L.yl (Y.fa fl46_2 rfl) ?_ | refine L.yl (Y.fas fl46_2 rfl (by simp; omega)) ?_
    refine L.yl (Y.lda (vs := [_, _, _, _, _, _, _, _]) ag44 rfl rfl) ?_
    refine L.callFW (Γf := []) go84 rfl (fun w hw hf => rf_optEncode s.opt ht oa oc hl w ((hrd1 _).rd w hw)) ?_
    rintro _ _ ⟨ea, ec, rfl, rfl⟩
    refine L.apc ?_
    rw [henc]
    refine L.yl (Y.mv rfl) ?_
    refine L.yl (Y.extL rfl rfl) ?_
    refine L.yl (Y.extL rfl rfl) ?_
    refine L.yl (Y.as rfl) ?_
    refine L.yl (Y.as rfl) ?_
    refine L.nil ?_
    refine C.regS ?_
    first | refine L.yl (Y.fa0 fl46_0 rfl) ?_ | refine L.yl (Y.fa fl46_0 rfl) ?_ | refine L.yl (Y.fas fl46_0 rfl (by simp; omega)) ?_
    refine L.yl (Y.ld sc3 rfl rfl) ?_
    refine L.yl (Y.cvW Go.Proofs.Tryz.underlying5 ⟨_, Go.Proofs.Tryz.underlying3⟩ rfl) ?_
    rw [u8_of s.kind ⟨by omega, by omega⟩]
    refine L.yl (Y.mv rfl) ?_
    refine L.yl (Y.len ⟨_, Go.Proofs.Tryz.underlying31⟩ rfl) ?_
    refine L.yl (Y.quoN (q := 4) rfl rfl (by omega) (wrap64_id (by omega))) ?_
    refine L.yl (Y.cvW Go.Proofs.Tryz.underlying5 ⟨_, Go.Proofs.Tryz.underlying3⟩ rfl) ?_
    rw [u8_of (((encO s.opt).length / 4 : Nat) : Int) ⟨by omega, by omega⟩, Int.toNat_natCast]
    refine L.bsl elt31 rfl rfl rfl (by decide) ?_; intro b27
    rw [show cellsL [Value.int .u8 ((UInt8.ofNat s.kind.toNat).toNat : Int), Value.int .u8 ((UInt8.ofNat ((encO s.opt).length / 4)).toNat : Int), Value.int .u8 0, Value.int .u8 0] = byteL [UInt8.ofNat s.kind.toNat, UInt8.ofNat ((encO s.opt).length / 4), 0, 0] from rfl]
    refine L.yl (Y.as rfl) ?_
    refine L.nil ?_
    refine C.regS ?_
    refine L.yl (Y.mv rfl) ?_
    first | refine L.yl (Y.fa0 fl46_1 rfl) ?_ | refine L.yl (Y.fa fl46_1 rfl) ?_ | refine L.yl (Y.fas fl46_1 rfl (by simp; omega)) ?_
    refine L.yl (Y.ld sc22 rfl rfl) ?_
    rw [show s.num = ((s.num.toNat : Nat) : Int) by omega]
    refine L.callFW (Γf := []) go85 rfl (fun w hw hf => rf_Number s.num.toNat 4 (by omega) (by omega) w) ?_
    rintro _ _ ⟨na, nc, rfl, rfl⟩
    refine L.apc ?_
    refine L.app elt31 rfl rfl (by rfl) (by simp [byteL, beB_length]) (by omega) (by omega) ?_; intro a32 c32
    refine L.yl (Y.as rfl) ?_
    refine L.nil ?_
    refine C.regS ?_
    refine L.yl (Y.mv rfl) ?_
    refine L.yl (Y.mv rfl) ?_
    refine L.app elt31 rfl rfl (by rfl) (by simp [byteL]) (by omega) (by omega) ?_; intro a35 c35
    refine L.yl (Y.as rfl) ?_
    refine L.nil ?_
    refine C.regS ?_
    refine L.yl (Y.mv rfl) ?_
    first | refine L.yl (Y.fa0 fl46_3 rfl) ?_ | refine L.yl (Y.fa fl46_3 rfl) ?_ | refine L.yl (Y.fas fl46_3 rfl (by simp; omega)) ?_
    refine L.yl (Y.ld sc31 rfl rfl) ?_
    refine L.app elt31 rfl rfl (by rfl) (by simp [byteL]) (by omega) (by omega) ?_; intro a39 c39
    rw [byteL_app, byteL_app, byteL_app, show [UInt8.ofNat s.kind.toNat, UInt8.ofNat ((encO s.opt).length / 4), 0, 0] ++ beB s.num.toNat 4 ++ encO s.opt ++ s.body = (formB s (encO s.opt) 0) from rfl, show 4 + 4 + (encO s.opt).length + s.body.length = (formB s (encO s.opt) 0).length by simp [form_hd, beB_length] <;> omega]
    refine L.yl (Y.as rfl) ?_
    refine L.nil ?_
    have hF : (formB s (encO s.opt) 0).length = 8 + (encO s.opt).length + s.body.length := by simp [form_hd, beB_length] <;> omega
    refine C.fact (p := ∃ g, a39 = some ⟨g, 0, none⟩) (fun w hw => own_some (hw.holds.on (own 5 1 a39 ((formB s (encO s.opt) 0)).length c39 (byteL ((formB s (encO s.opt) 0)))) (by simp)) (by omega)) ?_
    rintro ⟨g, rfl⟩
    have hsl := sumN_lt (formB s (encO s.opt) 0)
    refine C.regS ?_
    refine L.yl (Y.mv rfl) ?_
    refine L.callP go38 rfl (fun w hw => rf_SumOf _ (formB s (encO s.opt) 0) c39 (by omega) w (own_rs (hw.holds.on (own 5 1 (some ⟨g, 0, none⟩) ((formB s (encO s.opt) 0)).length c39 (byteL ((formB s (encO s.opt) 0)))) (by simp)))) ?_
    first | refine L.yl (Y.sub rfl rfl (by omega)) ?_ | refine L.yl (Y.subW rfl rfl) ?_
    rw [show (65535 : Int) - ((sumN (formB s (encO s.opt) 0) : Nat) : Int) = (((65535 - sumN (formB s (encO s.opt) 0)) : Nat) : Int) by omega]
    refine L.yl (Y.as rfl) ?_
    refine L.nil ?_
    refine C.regS ?_
    refine L.yl (Y.mv rfl) ?_
    refine L.yl (Y.mv rfl) ?_
    refine L.yl (Y.quoN (q := 256) rfl rfl (by omega) (wrap64_id (by omega))) ?_
    refine L.yl (Y.cvW Go.Proofs.Tryz.underlying5 ⟨_, Go.Proofs.Tryz.underlying3⟩ rfl) ?_
    rw [u8_of (((65535 - sumN (formB s (encO s.opt) 0)) / 256 : Nat) : Int) ⟨by omega, by omega⟩, Int.toNat_natCast]
    refine L.yl (Y.ixB slt31 rfl rfl (by omega) (by omega)) ?_
    refine L.sts sc5 rfl rfl rfl (by rw [byteL_length]; omega) ?_
    rw [show ((2 : Int)).toNat * 1 = 2 from rfl]
    refine L.nil ?_
    refine C.regS ?_
    refine L.yl (Y.mv rfl) ?_
    refine L.yl (Y.mv rfl) ?_
    refine L.yl (Y.remN (q := 256) rfl rfl (by omega)) ?_
    refine L.yl (Y.cvW Go.Proofs.Tryz.underlying5 ⟨_, Go.Proofs.Tryz.underlying3⟩ rfl) ?_
    rw [mod256]
    refine L.yl (Y.ixB slt31 rfl rfl (by omega) (by omega)) ?_
    refine L.sts sc5 rfl rfl rfl (by rw [List.length_set, byteL_length]; omega) ?_
    rw [show ((3 : Int)).toNat * 1 = 3 from rfl, form_set, show (formB s (encO s.opt) 0).length = (formB s (encO s.opt) (65535 - sumN (formB s (encO s.opt) 0))).length by simp [formB, headB, beB_length]]
    refine L.nil ?_
    refine C.regS ?_
    refine L.yl (Y.mv rfl) ?_
    refine L.yl (Y.as rfl) ?_
    refine L.yl (Y.as rfl) ?_
    refine L.nil ?_
    refine C.ret ?_
    refine FnPost.r2 Go.Proofs.Tryz.results33 rfl rfl ?_
    rw [hc0, show encS s = formB s (encO s.opt) (65535 - sumN (formB s (encO s.opt) 0)) from if_pos hc0]
    exact ⟨[own 5 1 (some ⟨g, 0, none⟩) ((formB s (encO s.opt) (65535 - sumN (formB s (encO s.opt) 0)))).length c39 (byteL ((formB s (encO s.opt) (65535 - sumN (formB s (encO s.opt) 0)))))], inferInstance, some ⟨g, 0, none⟩, c39, rfl, rfl⟩
end Go.Proofs.YtcbhcdcobgdddaaGreat
set_option maxHeartbeats 1000000
namespace Go.Proofs.YtcbhcdcobgdddaaGreat
open Go Go.X Go.Rep Go.Shelf
theorem go39 : Goes Go.Proofs.Tryz.prog 39 := enters_of Go.Proofs.Tryz.func39 (by kernel_rfl) rfl
theorem rf_Decode (a : Option Addr) (b : List UInt8) (c : Nat) (hbl : b.length ≤ 4294967296) (hbc : b.length ≤ c) (hcm : c ≤ 9223372036854775807) (w : World) (h : Rs w a (byteL b)) : Calls Go.Proofs.Tryz.prog 14 #[.slice a b.length c] w (Post w [] (RW fun r Γ => ∃ oa oc ba bc, r = .tuple #[.agg (segCs (decT b).1 oa oc ba bc).toArray, .int .i64 (decT b).2] ∧ Γ = [own 51 2 oa (decT b).1.opt.blocks.length oc (bkL (decT b).1.opt.blocks), own 5 1 ba (decT b).1.body.length bc (byteL (decT b).1.body)])) := by
  have hrd : ∀ Γ, Rd w (fps []) Γ a (byteL b) := fun Γ => Rd.old0 h Γ
  obtain ⟨R, hRR⟩ : ∃ R, decT b = R := ⟨_, rfl⟩
  rw [hRR]
  unfold decT at hRR
  dsimp only at hRR
  refine spec_of Go.Proofs.Tryz.func14 rfl Go.Proofs.Tryz.ntmps14 rfl (Holds.nil w) ?_
  change C _ _ _ _ _ _ _ ⟨[(0, _)], []⟩ _
  refine C.regS ?_
  refine L.al (zs := [.int .i64 0, .int .u32 0, .int .i64 0, .bool false, .bool false, .int .u32 0, .int .u32 0, .bool false, .int .i64 0, .slice none 0 0, .slice none 0 0]) zr46 rfl ?_; intro b2
  refine L.yl (Y.as rfl) ?_
  refine L.nil ?_
  refine C.regS ?_
  refine L.yl (Y.bdL (cs := [_, _, _, _, _, _, _, _, _, _, _]) zr46 bd46 rfl rfl rfl) ?_
  refine L.al (zs := [.int .i64 0, .int .u32 0, .int .i64 0, .bool false, .bool false, .int .u32 0, .int .u32 0, .bool false, .int .i64 0, .slice none 0 0, .slice none 0 0]) zr46 rfl ?_; intro b4
  refine L.sta (vs := [_, _, _, _, _, _, _, _, _, _, _]) ag46 rfl rfl rfl rfl rfl ?_
  refine L.nil ?_
  refine C.seq ?_
  refine C.regS ?_
  refine L.yl (Y.mv rfl) ?_
  refine L.yl (Y.len ⟨_, Go.Proofs.Tryz.underlying31⟩ rfl) ?_
  refine L.yl (Y.lss rfl rfl) ?_
  refine L.nil ?_
  refine C.condP rfl (fun hc1 => ?_) (fun hc1 => ?_)
  ·
    rw [if_pos (show b.length < 8 by omega)] at hRR
    refine C.regS ?_
    refine L.yl (Y.lda (vs := [_, _, _, _, _, _, _, _, _, _, _]) ag46 rfl rfl) ?_
    refine L.sta (vs := [_, _, _, _, _, _, _, _, _, _, _]) ag46 rfl rfl rfl rfl rfl ?_
    refine L.yl (Y.as rfl) ?_
    refine L.nil ?_
    refine C.nil0 51 2 ?_
    refine C.nil0 5 1 ?_
    refine C.ret ?_
    refine Then.r ?_
    refine FnPost.rg (xs := [.cell 2 46, .tmp 3]) (congrArg Array.toList Go.Proofs.Tryz.results14) (ra_ag (us := [_, _, _, _, _, _, _, _, _, _, _]) rfl ag46 rfl (ra_tmp rfl ra_nil)) ?_
    subst hRR
    exact ⟨[own 51 2 none 0 0 [], own 5 1 none 0 0 []], inferInstance, none, 0, none, 0, rfl, rfl⟩
  ·
    rw [if_neg (show ¬ b.length < 8 by omega)] at hRR
    refine C.skip ?_
    refine Then.n ?_
    refine C.seq ?_
    refine C.regS ?_
    refine L.yl (Y.mv rfl) ?_
    refine L.yl (Y.len ⟨_, Go.Proofs.Tryz.underlying31⟩ rfl) ?_
    refine L.yl (Y.gtr rfl rfl) ?_
    refine L.nil ?_
    refine C.condP rfl (fun hc2 => ?_) (fun hc2 => ?_)
    ·
      rw [if_pos (show 2096 < b.length by omega)] at hRR
      refine C.regS ?_
      refine L.yl (Y.lda (vs := [_, _, _, _, _, _, _, _, _, _, _]) ag46 rfl rfl) ?_
      refine L.sta (vs := [_, _, _, _, _, _, _, _, _, _, _]) ag46 rfl rfl rfl rfl rfl ?_
      refine L.yl (Y.as rfl) ?_
      refine L.nil ?_
      refine C.nil0 51 2 ?_
      refine C.nil0 5 1 ?_
      refine C.ret ?_
      refine Then.r ?_
      refine FnPost.rg (xs := [.cell 2 46, .tmp 3]) (congrArg Array.toList Go.Proofs.Tryz.results14) (ra_ag (us := [_, _, _, _, _, _, _, _, _, _, _]) rfl ag46 rfl (ra_tmp rfl ra_nil)) ?_
      subst hRR
      exact ⟨[own 51 2 none 0 0 [], own 5 1 none 0 0 []], inferInstance, none, 0, none, 0, rfl, rfl⟩
    ·
      rw [if_neg (show ¬ 2096 < b.length by omega)] at hRR
      refine C.skip ?_
      refine Then.n ?_
      refine C.seq ?_
      refine C.regS ?_
      refine L.yl (Y.mv rfl) ?_
      refine L.callP go38 rfl (fun w hw => rf_SumOf a b c (by omega) w ((hrd _).rd w hw)) ?_
      refine L.yl (Y.nei rfl rfl) ?_
      refine L.nil ?_
      refine C.condP rfl (fun hc3 => ?_) (fun hc3 => ?_)
      ·
        rw [if_pos (show sumN b ≠ 65535 by omega)] at hRR
        refine C.regS ?_
        refine L.yl (Y.lda (vs := [_, _, _, _, _, _, _, _, _, _, _]) ag46 rfl rfl) ?_
        refine L.sta (vs := [_, _, _, _, _, _, _, _, _, _, _]) ag46 rfl rfl rfl rfl rfl ?_
        refine L.yl (Y.as rfl) ?_
        refine L.nil ?_
        refine C.nil0 51 2 ?_
        refine C.nil0 5 1 ?_
        refine C.ret ?_
        refine Then.r ?_
        refine FnPost.rg (xs := [.cell 2 46, .tmp 3]) (congrArg Array.toList Go.Proofs.Tryz.results14) (ra_ag (us := [_, _, _, _, _, _, _, _, _, _, _]) rfl ag46 rfl (ra_tmp rfl ra_nil)) ?_
        subst hRR
        exact ⟨[own 51 2 none 0 0 [], own 5 1 none 0 0 []], inferInstance, none, 0, none, 0, rfl, rfl⟩
      ·
        rw [if_neg (show ¬ sumN b ≠ 65535 by omega)] at hRR
        obtain ⟨u0, hu0⟩ : ∃ u, b[0]? = some u := ⟨_, List.getElem?_eq_getElem (by omega)⟩
        obtain ⟨u1, hu1⟩ : ∃ u, b[1]? = some u := ⟨_, List.getElem?_eq_getElem (by omega)⟩
        rw [getD_of hu0, getD_of hu1] at hRR
        have hlt0 := u0.toNat_lt
        have hlt1 := u1.toNat_lt
        refine C.skip ?_
        refine Then.n ?_
        refine C.seq ?_
        refine C.test (u0.toNat ≠ 1 ∧ u0.toNat ≠ 2) ?_ (fun hc4 => ?_) (fun hc4 => ?_)
        ·
          refine L.yl (Y.mv rfl) ?_
          refine L.yl (Y.ix slt31 rfl rfl (by rw [byteL_length]; omega) (by omega) (by omega)) ?_
          first | refine L.yl (Y.ld sc5 rfl rfl) ?_ | refine L.yl (Y.lds sc5 rfl (get_byteL hu0 (by rfl))) ?_
          refine L.yl (Y.nei rfl rfl) ?_
          refine L.yl (Y.mv rfl) ?_
          first | refine L.gsplit (i := 26) rfl (fun hg26 => ?_) (fun hg26 => ?_) | refine L.gsplitB (i := 26) rfl (fun hg26 => ?_) (fun hg26 => ?_)
          ·
            refine L.gOn (t := 26) rfl rfl ?_
            refine L.yl (Y.mv rfl) ?_
            refine L.gOn (t := 26) rfl rfl ?_
            refine L.yl (Y.ix slt31 rfl rfl (by rw [byteL_length]; omega) (by omega) (by omega)) ?_
            refine L.gOn (t := 26) rfl rfl ?_
            first | refine L.yl (Y.ld sc5 rfl rfl) ?_ | refine L.yl (Y.lds sc5 rfl (get_byteL hu0 (by rfl))) ?_
            refine L.gOn (t := 26) rfl rfl ?_
            refine L.yl (Y.nei rfl rfl) ?_
            refine L.yl (Y.pickT rfl rfl) ?_
            refine L.nil ?_
            exact ⟨_, rfl, by first | (simp [*]; done) | (simp [*] <;> omega) | (simp_all; done) | (simp_all <;> omega) | (constructor <;> intro hh <;> simp_all <;> omega), (by repeat (first | exact Inc.refl _ | refine Inc.cons rfl ?_)), rfl, rfl⟩
          ·
            refine L.gOff (t := 26) rfl rfl rfl ?_
            refine L.gOff (t := 26) rfl rfl rfl ?_
            refine L.gOff (t := 26) rfl rfl rfl ?_
            refine L.gOff (t := 26) rfl rfl rfl ?_
            refine L.yl (Y.pickF rfl rfl) ?_
            refine L.nil ?_
            exact ⟨_, rfl, by first | (simp [*]; done) | (simp [*] <;> omega) | (simp_all; done) | (simp_all <;> omega) | (constructor <;> intro hh <;> simp_all <;> omega), (by repeat (first | exact Inc.refl _ | refine Inc.cons rfl ?_)), rfl, rfl⟩
        ·
          rw [if_pos hc4] at hRR
          refine C.regS ?_
          refine L.yl (Y.lda (vs := [_, _, _, _, _, _, _, _, _, _, _]) ag46 rfl rfl) ?_
          refine L.sta (vs := [_, _, _, _, _, _, _, _, _, _, _]) ag46 rfl rfl rfl rfl rfl ?_
          refine L.yl (Y.as rfl) ?_
          refine L.nil ?_
          refine C.nil0 51 2 ?_
          refine C.nil0 5 1 ?_
          refine C.ret ?_
          refine Then.r ?_
          refine FnPost.rg (xs := [.cell 2 46, .tmp 3]) (congrArg Array.toList Go.Proofs.Tryz.results14) (ra_ag (us := [_, _, _, _, _, _, _, _, _, _, _]) rfl ag46 rfl (ra_tmp rfl ra_nil)) ?_
          subst hRR
          exact ⟨[own 51 2 none 0 0 [], own 5 1 none 0 0 []], inferInstance, none, 0, none, 0, rfl, rfl⟩
        ·
          rw [if_neg hc4] at hRR
          refine C.skip ?_
          refine Then.n ?_
          refine C.regS ?_
          refine L.yl (Y.mv rfl) ?_
          refine L.yl (Y.ix slt31 rfl rfl (by rw [byteL_length]; omega) (by omega) (by omega)) ?_
          first | refine L.yl (Y.ld sc5 rfl rfl) ?_ | refine L.yl (Y.lds sc5 rfl (get_byteL hu1 (by rfl))) ?_
          first | refine L.yl (Y.cvI Go.Proofs.Tryz.underlying3 ⟨_, Go.Proofs.Tryz.underlying5⟩ rfl (by omega)) ?_ | refine L.yl (Y.cvW Go.Proofs.Tryz.underlying3 ⟨_, Go.Proofs.Tryz.underlying5⟩ rfl) ?_
          first | refine L.yl (Y.mul rfl rfl (by omega)) ?_ | refine L.yl (Y.mulW rfl rfl) ?_
          refine L.yl (Y.as rfl) ?_
          refine L.nil ?_
          refine C.seq ?_
          refine C.regS ?_
          refine L.yl (Y.mv rfl) ?_
          refine L.yl (Y.gtr rfl rfl) ?_
          refine L.nil ?_
          refine C.condP rfl (fun hc5 => ?_) (fun hc5 => ?_)
          ·
            rw [if_pos (show 40 < u1.toNat * 4 by omega)] at hRR
            refine C.regS ?_
            refine L.yl (Y.lda (vs := [_, _, _, _, _, _, _, _, _, _, _]) ag46 rfl rfl) ?_
            refine L.sta (vs := [_, _, _, _, _, _, _, _, _, _, _]) ag46 rfl rfl rfl rfl rfl ?_
            refine L.yl (Y.as rfl) ?_
            refine L.nil ?_
            refine C.nil0 51 2 ?_
            refine C.nil0 5 1 ?_
            refine C.ret ?_
            refine Then.r ?_
            refine FnPost.rg (xs := [.cell 2 46, .tmp 3]) (congrArg Array.toList Go.Proofs.Tryz.results14) (ra_ag (us := [_, _, _, _, _, _, _, _, _, _, _]) rfl ag46 rfl (ra_tmp rfl ra_nil)) ?_
            subst hRR
            exact ⟨[own 51 2 none 0 0 [], own 5 1 none 0 0 []], inferInstance, none, 0, none, 0, rfl, rfl⟩
          ·
            rw [if_neg (show ¬ 40 < u1.toNat * 4 by omega)] at hRR
            refine C.skip ?_
            refine Then.n ?_
            refine C.seq ?_
            refine C.regS ?_
            refine L.yl (Y.mv rfl) ?_
            refine L.yl (Y.len ⟨_, Go.Proofs.Tryz.underlying31⟩ rfl) ?_
            refine L.yl (Y.mv rfl) ?_
            first | refine L.yl (Y.add rfl rfl (by omega)) ?_ | refine L.yl (Y.addW rfl rfl) ?_
            refine L.yl (Y.lss rfl rfl) ?_
            refine L.nil ?_
            refine C.condP rfl (fun hc6 => ?_) (fun hc6 => ?_)
            ·
              rw [if_pos (show b.length < 8 + u1.toNat * 4 by omega)] at hRR
              refine C.regS ?_
              refine L.yl (Y.lda (vs := [_, _, _, _, _, _, _, _, _, _, _]) ag46 rfl rfl) ?_
              refine L.sta (vs := [_, _, _, _, _, _, _, _, _, _, _]) ag46 rfl rfl rfl rfl rfl ?_
              refine L.yl (Y.as rfl) ?_
              refine L.nil ?_
              refine C.nil0 51 2 ?_
              refine C.nil0 5 1 ?_
              refine C.ret ?_
              refine Then.r ?_
              refine FnPost.rg (xs := [.cell 2 46, .tmp 3]) (congrArg Array.toList Go.Proofs.Tryz.results14) (ra_ag (us := [_, _, _, _, _, _, _, _, _, _, _]) rfl ag46 rfl (ra_tmp rfl ra_nil)) ?_
              subst hRR
              exact ⟨[own 51 2 none 0 0 [], own 5 1 none 0 0 []], inferInstance, none, 0, none, 0, rfl, rfl⟩
            ·
              rw [if_neg (show ¬ b.length < 8 + u1.toNat * 4 by omega)] at hRR
              refine C.skip ?_
              refine Then.n ?_
              refine C.regS ?_
              refine L.yl (Y.mv rfl) ?_
              refine L.yl (Y.mv rfl) ?_
              first | refine L.yl (Y.add rfl rfl (by omega)) ?_ | refine L.yl (Y.addW rfl rfl) ?_
              rw [show (8 : Int) + 4 * (u1.toNat : Int) = ((8 + u1.toNat * 4 : Nat) : Int) by omega]
              refine L.yl (Y.sl2 slt31 rfl rfl rfl (by omega)) ?_
              try simp only [Int.toNat_natCast]
              have hl8 : ((b.drop 8).take (u1.toNat * 4)).length = u1.toNat * 4 := by rw [List.length_take, List.length_drop]; omega
              rw [show 8 + u1.toNat * 4 - ((8 : Int)).toNat = ((b.drop 8).take (u1.toNat * 4)).length by rw [hl8, show ((8 : Int)).toNat = 8 from rfl]; omega]
              refine L.callFW (Γf := []) go39 rfl (fun w hw hf => rf_Parse (cutA a (((8 : Int)).toNat * 1) (c - ((8 : Int)).toNat)) ((b.drop 8).take (u1.toNat * 4)) (c - ((8 : Int)).toNat) (by rw [hl8, show ((8 : Int)).toNat = 8 from rfl]; omega) (by omega) w (rs_sub ((hrd _).rd w hw) 8 (u1.toNat * 4) (c - 8) (by omega) (by omega))) ?_
              rintro _ _ ⟨oa, oc, rfl, rfl⟩
              refine L.apc ?_
              refine L.yl (Y.mv rfl) ?_
              refine L.yl (Y.extL rfl rfl) ?_
              refine L.yl (Y.extL rfl rfl) ?_
              refine L.al (zs := [.int .i64 0, .bool false, .bool false, .int .u32 0, .int .u32 0, .bool false, .int .i64 0, .slice none 0 0]) zr44 rfl ?_; intro b6
              refine L.sta (vs := [_, _, _, _, _, _, _, _]) ag44 rfl rfl rfl rfl rfl ?_
              refine L.yl (Y.as rfl) ?_
              refine L.nil ?_
              refine C.seq ?_
              refine C.regS ?_
              refine L.yl (Y.mv rfl) ?_
              refine L.yl (Y.nei rfl rfl) ?_
              refine L.nil ?_
              refine C.condP rfl (fun hc7 => ?_) (fun hc7 => ?_)
              ·
                rw [if_pos hc7] at hRR
                refine C.regS ?_
                refine L.yl (Y.lda (vs := [_, _, _, _, _, _, _, _, _, _, _]) ag46 rfl rfl) ?_
                refine L.yl (Y.mv rfl) ?_
                refine L.sta (vs := [_, _, _, _, _, _, _, _, _, _, _]) ag46 rfl rfl rfl rfl rfl ?_
                refine L.yl (Y.as rfl) ?_
                refine L.nil ?_
                refine C.nil0 51 2 ?_
                refine C.nil0 5 1 ?_
                refine C.ret ?_
                refine Then.r ?_
                refine FnPost.rg (xs := [.cell 2 46, .tmp 3]) (congrArg Array.toList Go.Proofs.Tryz.results14) (ra_ag (us := [_, _, _, _, _, _, _, _, _, _, _]) rfl ag46 rfl (ra_tmp rfl ra_nil)) ?_
                subst hRR
                exact ⟨[own 51 2 none 0 0 [], own 5 1 none 0 0 []], inferInstance, none, 0, none, 0, rfl, rfl⟩
              ·
                rw [if_neg hc7] at hRR
                refine C.skip ?_
                refine Then.n ?_
                refine C.nil0 5 1 ?_
                have hrd8 : ∀ Γ, Rd w (fps []) Γ (cutA a (((8 + u1.toNat * 4 : Nat) : Int).toNat * 1) (c - ((8 + u1.toNat * 4 : Nat) : Int).toNat)) (byteL (b.drop (8 + u1.toNat * 4))) := fun Γ => Rd.old0 (by have h8 := rs_sub h (8 + u1.toNat * 4) (b.length - (8 + u1.toNat * 4)) (c - (8 + u1.toNat * 4)) (by omega) (by omega); rw [List.take_of_length_le (by rw [List.length_drop]; omega)] at h8; exact h8) Γ
                refine C.drwFS (Δ := [own 5 1 none 0 0 []]) (.y 0 (.y 1 (.y 2 (.y 3 (.y 4 (.y 5 (.y 7 (.y 8 (.y 9 (.y 10 (.y 11 (.b2 6 (.b2 12 (.y 13 (.h 14 (.last 15))) 14 (.h 12 (.y 13 (.last 15)))) 14 (.h 6 (.h 12 (.y 13 (.last 15)))))))))))))))) mixo (by kernel_rfl) ?_
                refine V.yl rfl (Y.mv rfl) ?_
                refine V.yl rfl (Y.ix slt31 rfl rfl (by rw [byteL_length]; omega) (by omega) (by omega)) ?_
                first | refine V.yl rfl (Y.ld sc5 rfl rfl) ?_ | refine V.yl rfl (Y.lds sc5 rfl (get_byteL hu0 (by rfl))) ?_
                first | refine V.yl rfl (Y.cvI Go.Proofs.Tryz.underlying3 ⟨_, Go.Proofs.Tryz.underlying5⟩ rfl (by omega)) ?_ | refine V.yl rfl (Y.cvW Go.Proofs.Tryz.underlying3 ⟨_, Go.Proofs.Tryz.underlying5⟩ rfl) ?_
                refine V.yl rfl (Y.mv rfl) ?_
                refine V.yl rfl (Y.sl2 slt31 rfl rfl rfl (by omega)) ?_
                refine V.yl rfl (Y.lda (vs := [_, _, _, _, _, _, _, _]) ag44 rfl rfl) ?_
                refine V.yl rfl (Y.mv rfl) ?_
                refine V.yl rfl (Y.mv rfl) ?_
                first | refine V.yl rfl (Y.add rfl rfl (by omega)) ?_ | refine V.yl rfl (Y.addW rfl rfl) ?_
                rw [show (8 : Int) + 4 * (u1.toNat : Int) = ((8 + u1.toNat * 4 : Nat) : Int) by omega]
                refine V.yl rfl (Y.sl1 slt31 rfl rfl (by omega) (by omega)) ?_
                refine ⟨⟨_, rfl, ?_⟩, ⟨_, rfl, ?_⟩⟩
                ·
                  refine L.apc ?_
                  rw [show ((8 : Int)).toNat - ((4 : Int)).toNat = ((b.drop 4).take 4).length by rw [List.length_take, List.length_drop, show ((8 : Int)).toNat = 8 from rfl, show ((4 : Int)).toNat = 4 from rfl]; omega]
                  refine L.callP go40 rfl (fun w hw => rf_Value (cutA a (((4 : Int)).toNat * 1) (c - ((4 : Int)).toNat)) ((b.drop 4).take 4) (c - ((4 : Int)).toNat) (by rw [List.length_take]; omega) w (rs_sub ((hrd _).rd w hw) 4 4 (c - 4) (by omega) (by omega))) ?_
                  rw [← rdV_at (b := b) (i := 4) (k := 4) (by omega)]
                  refine L.nil ?_
                  refine V.on ?_
                  refine ⟨⟨_, rfl, ?_⟩, ⟨_, rfl, ?_⟩⟩
                  ·
                    refine L.apc ?_
                    refine L.app elt31 rfl rfl (by rfl) (by rw [byteL_length, List.length_drop, Int.toNat_natCast]; omega) (by omega) (by omega) ?_; intro a71 c71
                    rw [Nat.zero_add, List.nil_append, show b.length - ((8 + u1.toNat * 4 : Nat) : Int).toNat = (b.drop (8 + u1.toNat * 4)).length by rw [List.length_drop, Int.toNat_natCast]]
                    refine L.nil ?_
                    refine V.on ?_
                    refine V.yl rfl (Y.bdL (cs := [_, _, _, _, _, _, _, _, _, _, _]) zr46 bd46 rfl rfl rfl) ?_
                    refine V.hv rfl ?_
                    refine L.apc ?_
                    refine L.al (zs := [.int .i64 0, .int .u32 0, .int .i64 0, .bool false, .bool false, .int .u32 0, .int .u32 0, .bool false, .int .i64 0, .slice none 0 0, .slice none 0 0]) zr46 rfl ?_; intro b8
                    refine L.nil ?_
                    refine V.on ?_
                    refine V.ls rfl ?_
                    refine L.apc ?_
                    refine L.sta (vs := [_, _, _, _, _, _, _, _, _, _, _]) ag46 rfl rfl rfl rfl rfl ?_
                    refine L.nil ?_
                    refine C.regS ?_
                    refine L.yl (Y.lda (vs := [_, _, _, _, _, _, _, _, _, _, _]) ag46 rfl rfl) ?_
                    refine L.callP go41 rfl (fun w hw => rf_segCheck (⟨u0.toNat, rdV b 4 4, (parseO ((b.drop 8).take (u1.toNat * 4))).1, b.drop (8 + u1.toNat * 4)⟩ : Seg) oa oc a71 c71 (by have := parseO_len ((b.drop 8).take (u1.toNat * 4)); dsimp only; omega) w) ?_
                    refine L.yl (Y.as rfl) ?_
                    refine L.nil ?_
                    refine C.seq ?_
                    refine C.regS ?_
                    refine L.yl (Y.mv rfl) ?_
                    refine L.yl (Y.nei rfl rfl) ?_
                    refine L.nil ?_
                    refine C.condP rfl (fun hc8 => ?_) (fun hc8 => ?_)
                    ·
                      rw [if_pos hc8] at hRR
                      refine C.regS ?_
                      refine L.yl (Y.lda (vs := [_, _, _, _, _, _, _, _, _, _, _]) ag46 rfl rfl) ?_
                      refine L.yl (Y.mv rfl) ?_
                      refine L.sta (vs := [_, _, _, _, _, _, _, _, _, _, _]) ag46 rfl rfl rfl rfl rfl ?_
                      refine L.yl (Y.as rfl) ?_
                      refine L.nil ?_
                      refine C.nil0 51 2 ?_
                      refine C.nil0 5 1 ?_
                      refine C.ret ?_
                      refine Then.r ?_
                      refine FnPost.rg (xs := [.cell 2 46, .tmp 3]) (congrArg Array.toList Go.Proofs.Tryz.results14) (ra_ag (us := [_, _, _, _, _, _, _, _, _, _, _]) rfl ag46 rfl (ra_tmp rfl ra_nil)) ?_
                      subst hRR
                      exact ⟨[own 51 2 none 0 0 [], own 5 1 none 0 0 []], inferInstance, none, 0, none, 0, rfl, rfl⟩
                    ·
                      rw [if_neg hc8] at hRR
                      refine C.skip ?_
                      refine Then.n ?_
                      refine C.regS ?_
                      refine L.yl (Y.lda (vs := [_, _, _, _, _, _, _, _, _, _, _]) ag46 rfl rfl) ?_
                      refine L.sta (vs := [_, _, _, _, _, _, _, _, _, _, _]) ag46 rfl rfl rfl rfl rfl ?_
                      refine L.yl (Y.as rfl) ?_
                      refine L.nil ?_
                      refine C.ret ?_
                      refine FnPost.rg (xs := [.cell 2 46, .tmp 3]) (congrArg Array.toList Go.Proofs.Tryz.results14) (ra_ag (us := [_, _, _, _, _, _, _, _, _, _, _]) rfl ag46 rfl (ra_tmp rfl ra_nil)) ?_
                      subst hRR
                      exact ⟨[own 51 2 oa (parseO ((b.drop 8).take (u1.toNat * 4))).1.blocks.length oc (bkL (parseO ((b.drop 8).take (u1.toNat * 4))).1.blocks), own 5 1 a71 (b.drop (8 + u1.toNat * 4)).length c71 (byteL (b.drop (8 + u1.toNat * 4)))], inferInstance, oa, oc, a71, c71, rfl, rfl⟩
                  ·
                    refine L.apc ?_
                    refine L.al (zs := [.int .i64 0, .int .u32 0, .int .i64 0, .bool false, .bool false, .int .u32 0, .int .u32 0, .bool false, .int .i64 0, .slice none 0 0, .slice none 0 0]) zr46 rfl ?_; intro b8
                    refine L.nil ?_
                    refine V.on ?_
                    refine V.hv rfl ?_
                    refine L.apc ?_
                    refine L.app elt31 rfl rfl (by rfl) (by rw [byteL_length, List.length_drop, Int.toNat_natCast]; omega) (by omega) (by omega) ?_; intro a71 c71
                    rw [Nat.zero_add, List.nil_append, show b.length - ((8 + u1.toNat * 4 : Nat) : Int).toNat = (b.drop (8 + u1.toNat * 4)).length by rw [List.length_drop, Int.toNat_natCast]]
                    refine L.nil ?_
                    refine V.on ?_
                    refine V.yl rfl (Y.bdL (cs := [_, _, _, _, _, _, _, _, _, _, _]) zr46 bd46 rfl rfl rfl) ?_
                    refine V.ls rfl ?_
                    refine L.apc ?_
                    refine L.sta (vs := [_, _, _, _, _, _, _, _, _, _, _]) ag46 rfl rfl rfl rfl rfl ?_
                    refine L.nil ?_
                    refine C.regS ?_
                    refine L.yl (Y.lda (vs := [_, _, _, _, _, _, _, _, _, _, _]) ag46 rfl rfl) ?_
                    refine L.callP go41 rfl (fun w hw => rf_segCheck (⟨u0.toNat, rdV b 4 4, (parseO ((b.drop 8).take (u1.toNat * 4))).1, b.drop (8 + u1.toNat * 4)⟩ : Seg) oa oc a71 c71 (by have := parseO_len ((b.drop 8).take (u1.toNat * 4)); dsimp only; omega) w) ?_
                    refine L.yl (Y.as rfl) ?_
                    refine L.nil ?_
                    refine C.seq ?_
                    refine C.regS ?_
                    refine L.yl (Y.mv rfl) ?_
                    refine L.yl (Y.nei rfl rfl) ?_
                    refine L.nil ?_
                    refine C.condP rfl (fun hc9 => ?_) (fun hc9 => ?_)
                    ·
                      rw [if_pos hc9] at hRR
                      refine C.regS ?_
                      refine L.yl (Y.lda (vs := [_, _, _, _, _, _, _, _, _, _, _]) ag46 rfl rfl) ?_
                      refine L.yl (Y.mv rfl) ?_
                      refine L.sta (vs := [_, _, _, _, _, _, _, _, _, _, _]) ag46 rfl rfl rfl rfl rfl ?_
                      refine L.yl (Y.as rfl) ?_
                      refine L.nil ?_
                      refine C.nil0 51 2 ?_
                      refine C.nil0 5 1 ?_
                      refine C.ret ?_
                      refine Then.r ?_
                      refine FnPost.rg (xs := [.cell 2 46, .tmp 3]) (congrArg Array.toList Go.Proofs.Tryz.results14) (ra_ag (us := [_, _, _, _, _, _, _, _, _, _, _]) rfl ag46 rfl (ra_tmp rfl ra_nil)) ?_
                      subst hRR
                      exact ⟨[own 51 2 none 0 0 [], own 5 1 none 0 0 []], inferInstance, none, 0, none, 0, rfl, rfl⟩
                    ·
                      rw [if_neg hc9] at hRR
                      refine C.skip ?_
                      refine Then.n ?_
                      refine C.regS ?_
                      refine L.yl (Y.lda (vs := [_, _, _, _, _, _, _, _, _, _, _]) ag46 rfl rfl) ?_
                      refine L.sta (vs := [_, _, _, _, _, _, _, _, _, _, _]) ag46 rfl rfl rfl rfl rfl ?_
                      refine L.yl (Y.as rfl) ?_
                      refine L.nil ?_
                      refine C.ret ?_
                      refine FnPost.rg (xs := [.cell 2 46, .tmp 3]) (congrArg Array.toList Go.Proofs.Tryz.results14) (ra_ag (us := [_, _, _, _, _, _, _, _, _, _, _]) rfl ag46 rfl (ra_tmp rfl ra_nil)) ?_
                      subst hRR
                      exact ⟨[own 51 2 oa (parseO ((b.drop 8).take (u1.toNat * 4))).1.blocks.length oc (bkL (parseO ((b.drop 8).take (u1.toNat * 4))).1.blocks), own 5 1 a71 (b.drop (8 + u1.toNat * 4)).length c71 (byteL (b.drop (8 + u1.toNat * 4)))], inferInstance, oa, oc, a71, c71, rfl, rfl⟩
                ·
                  refine L.apc ?_
                  refine L.al (zs := [.int .i64 0, .int .u32 0, .int .i64 0, .bool false, .bool false, .int .u32 0, .int .u32 0, .bool false, .int .i64 0, .slice none 0 0, .slice none 0 0]) zr46 rfl ?_; intro b8
                  refine L.nil ?_
                  refine V.on ?_
                  refine V.hv rfl ?_
                  refine L.apc ?_
                  rw [show ((8 : Int)).toNat - ((4 : Int)).toNat = ((b.drop 4).take 4).length by rw [List.length_take, List.length_drop, show ((8 : Int)).toNat = 8 from rfl, show ((4 : Int)).toNat = 4 from rfl]; omega]
                  refine L.callP go40 rfl (fun w hw => rf_Value (cutA a (((4 : Int)).toNat * 1) (c - ((4 : Int)).toNat)) ((b.drop 4).take 4) (c - ((4 : Int)).toNat) (by rw [List.length_take]; omega) w (rs_sub ((hrd _).rd w hw) 4 4 (c - 4) (by omega) (by omega))) ?_
                  rw [← rdV_at (b := b) (i := 4) (k := 4) (by omega)]
                  refine L.nil ?_
                  refine V.on ?_
                  refine V.hv rfl ?_
                  refine L.apc ?_
                  refine L.app elt31 rfl rfl (by rfl) (by rw [byteL_length, List.length_drop, Int.toNat_natCast]; omega) (by omega) (by omega) ?_; intro a71 c71
                  rw [Nat.zero_add, List.nil_append, show b.length - ((8 + u1.toNat * 4 : Nat) : Int).toNat = (b.drop (8 + u1.toNat * 4)).length by rw [List.length_drop, Int.toNat_natCast]]
                  refine L.nil ?_
                  refine V.on ?_
                  refine V.yl rfl (Y.bdL (cs := [_, _, _, _, _, _, _, _, _, _, _]) zr46 bd46 rfl rfl rfl) ?_
                  refine V.ls rfl ?_
                  refine L.apc ?_
                  refine L.sta (vs := [_, _, _, _, _, _, _, _, _, _, _]) ag46 rfl rfl rfl rfl rfl ?_
                  refine L.nil ?_
                  refine C.regS ?_
                  refine L.yl (Y.lda (vs := [_, _, _, _, _, _, _, _, _, _, _]) ag46 rfl rfl) ?_
                  refine L.callP go41 rfl (fun w hw => rf_segCheck (⟨u0.toNat, rdV b 4 4, (parseO ((b.drop 8).take (u1.toNat * 4))).1, b.drop (8 + u1.toNat * 4)⟩ : Seg) oa oc a71 c71 (by have := parseO_len ((b.drop 8).take (u1.toNat * 4)); dsimp only; omega) w) ?_
                  refine L.yl (Y.as rfl) ?_
                  refine L.nil ?_
                  refine C.seq ?_
                  refine C.regS ?_
                  refine L.yl (Y.mv rfl) ?_
                  refine L.yl (Y.nei rfl rfl) ?_
                  refine L.nil ?_
                  refine C.condP rfl (fun hc10 => ?_) (fun hc10 => ?_)
                  ·
                    rw [if_pos hc10] at hRR
                    refine C.regS ?_
                    refine L.yl (Y.lda (vs := [_, _, _, _, _, _, _, _, _, _, _]) ag46 rfl rfl) ?_
                    refine L.yl (Y.mv rfl) ?_
                    refine L.sta (vs := [_, _, _, _, _, _, _, _, _, _, _]) ag46 rfl rfl rfl rfl rfl ?_
                    refine L.yl (Y.as rfl) ?_
                    refine L.nil ?_
                    refine C.nil0 51 2 ?_
                    refine C.nil0 5 1 ?_
                    refine C.ret ?_
                    refine Then.r ?_
                    refine FnPost.rg (xs := [.cell 2 46, .tmp 3]) (congrArg Array.toList Go.Proofs.Tryz.results14) (ra_ag (us := [_, _, _, _, _, _, _, _, _, _, _]) rfl ag46 rfl (ra_tmp rfl ra_nil)) ?_
                    subst hRR
                    exact ⟨[own 51 2 none 0 0 [], own 5 1 none 0 0 []], inferInstance, none, 0, none, 0, rfl, rfl⟩
                  ·
                    rw [if_neg hc10] at hRR
                    refine C.skip ?_
                    refine Then.n ?_
                    refine C.regS ?_
                    refine L.yl (Y.lda (vs := [_, _, _, _, _, _, _, _, _, _, _]) ag46 rfl rfl) ?_
                    refine L.sta (vs := [_, _, _, _, _, _, _, _, _, _, _]) ag46 rfl rfl rfl rfl rfl ?_
                    refine L.yl (Y.as rfl) ?_
                    refine L.nil ?_
                    refine C.ret ?_
                    refine FnPost.rg (xs := [.cell 2 46, .tmp 3]) (congrArg Array.toList Go.Proofs.Tryz.results14) (ra_ag (us := [_, _, _, _, _, _, _, _, _, _, _]) rfl ag46 rfl (ra_tmp rfl ra_nil)) ?_
                    subst hRR
                    exact ⟨[own 51 2 oa (parseO ((b.drop 8).take (u1.toNat * 4))).1.blocks.length oc (bkL (parseO ((b.drop 8).take (u1.toNat * 4))).1.blocks), own 5 1 a71 (b.drop (8 + u1.toNat * 4)).length c71 (byteL (b.drop (8 + u1.toNat * 4)))], inferInstance, oa, oc, a71, c71, rfl, rfl⟩
end Go.Proofs.YtcbhcdcobgdddaaGreat
set_option maxHeartbeats 1000000
namespace Go.Proofs.YtcbhcdcobgdddaaGreat
open Go Go.X Go.Rep Go.Shelf
theorem fl33_0 : Fld Go.Proofs.Tryz.prog 33 0 0 := ⟨_, _, Go.Proofs.Tryz.underlying33, rfl, rfl, _, (by kernel_rfl : (Go.Proofs.Tryz.prog.info? 4).map (·.size) = some 1), by decide⟩
theorem fl33_1 : Fld Go.Proofs.Tryz.prog 33 1 1 := ⟨_, _, Go.Proofs.Tryz.underlying33, rfl, rfl, _, (by kernel_rfl : (Go.Proofs.Tryz.prog.info? 22).map (·.size) = some 1), by decide⟩
theorem fl33_2 : Fld Go.Proofs.Tryz.prog 33 2 2 := ⟨_, _, Go.Proofs.Tryz.underlying33, rfl, rfl, _, (by kernel_rfl : (Go.Proofs.Tryz.prog.info? 4).map (·.size) = some 1), by decide⟩
theorem fl33_3 : Fld Go.Proofs.Tryz.prog 33 3 3 := ⟨_, _, Go.Proofs.Tryz.underlying33, rfl, rfl, _, (by kernel_rfl : (Go.Proofs.Tryz.prog.info? 22).map (·.size) = some 1), by decide⟩
theorem fl33_4 : Fld Go.Proofs.Tryz.prog 33 4 4 := ⟨_, _, Go.Proofs.Tryz.underlying33, rfl, rfl, _, (by kernel_rfl : (Go.Proofs.Tryz.prog.info? 31).map (·.size) = some 1), by decide⟩
theorem go33 : Goes Go.Proofs.Tryz.prog 33 := enters_of Go.Proofs.Tryz.func33 (by kernel_rfl) rfl
structure Pc where
  raw : Bool
  num : Int
  ts : Bool
  val : Int
  body : List UInt8
@[reducible] def pcCs (p : Pc) (a : Option Addr) (c : Nat) : List Value := [.bool p.raw, .int .u32 p.num, .bool p.ts, .int .u32 p.val, .slice a p.body.length c]
structure PcT (p : Pc) : Prop where
  num : 0 ≤ p.num ∧ p.num < 4294967296
  val : 0 ≤ p.val ∧ p.val < 4294967296
def pcSeg (p : Pc) : Seg := ⟨1, p.num, ⟨0, false, p.ts, if p.ts = true then p.val else 0, 0, false, 0, []⟩, p.body⟩
theorem l_raw (p : Pc) (a : Option Addr) (c : Nat) (hp : PcT p) (w : World) (h : Rs w a (byteL p.body)) : Calls Go.Proofs.Tryz.prog 10 #[.agg (pcCs p a c).toArray] w (Post w [] (RW fun r Γ => if p.raw = true then r = .slice a p.body.length c ∧ Γ = [] else ∃ a c, r = .slice a (encS (pcSeg p)).length c ∧ Γ = [own 5 1 a (encS (pcSeg p)).length c (byteL (encS (pcSeg p)))])) := by
  have hrd : ∀ Γ, Rd w (fps []) Γ a (byteL p.body) := fun Γ => Rd.old0 h Γ
  refine spec_of Go.Proofs.Tryz.func10 rfl Go.Proofs.Tryz.ntmps10 rfl (Holds.nil w) ?_
  change C _ _ _ _ _ _ _ ⟨[(0, _)], []⟩ _
  refine C.regS ?_
  refine L.bxa rfl ?_; intro b1
  refine L.yl (Y.as rfl) ?_
  refine L.nil ?_
  refine C.seq ?_
  refine C.regS ?_
  first | refine L.yl (Y.fa0 fl33_0 rfl) ?_ | refine L.yl (Y.fa fl33_0 rfl) ?_ | refine L.yl (Y.fas fl33_0 rfl (by simp; omega)) ?_
  refine L.yl (Y.ld sc4 rfl rfl) ?_
  refine L.nil ?_
  refine C.cond rfl (fun hc1 => ?_) (fun hc1 => ?_)
  ·
    refine C.regS ?_
    first | refine L.yl (Y.fa0 fl33_4 rfl) ?_ | refine L.yl (Y.fa fl33_4 rfl) ?_ | refine L.yl (Y.fas fl33_4 rfl (by simp; omega)) ?_
    refine L.yl (Y.ld sc31 rfl rfl) ?_
    refine L.yl (Y.as rfl) ?_
    refine L.nil ?_
    refine C.ret ?_
    refine Then.r ?_
    refine FnPost.r1 Go.Proofs.Tryz.results10 rfl ?_
    exact ⟨[], inferInstance, by dsimp only; rw [if_pos hc1]; exact ⟨rfl, rfl⟩⟩
  ·
    refine C.skip ?_
    refine Then.n ?_
    refine C.regS ?_
    first | refine L.yl (Y.fa0 fl33_1 rfl) ?_ | refine L.yl (Y.fa fl33_1 rfl) ?_ | refine L.yl (Y.fas fl33_1 rfl (by simp; omega)) ?_
    refine L.yl (Y.ld sc22 rfl rfl) ?_
    first | refine L.yl (Y.fa0 fl33_4 rfl) ?_ | refine L.yl (Y.fa fl33_4 rfl) ?_ | refine L.yl (Y.fas fl33_4 rfl (by simp; omega)) ?_
    refine L.yl (Y.ld sc31 rfl rfl) ?_
    refine L.yl (Y.bdL (cs := [_, _, _, _, _, _, _, _, _, _, _]) zr46 bd46 rfl rfl rfl) ?_
    refine L.al (zs := [.int .i64 0, .int .u32 0, .int .i64 0, .bool false, .bool false, .int .u32 0, .int .u32 0, .bool false, .int .i64 0, .slice none 0 0, .slice none 0 0]) zr46 rfl ?_; intro b3
    refine L.sta (vs := [_, _, _, _, _, _, _, _, _, _, _]) ag46 rfl rfl rfl rfl rfl ?_
    refine L.nil ?_
    refine C.seq ?_
    refine C.regS ?_
    first | refine L.yl (Y.fa0 fl33_2 rfl) ?_ | refine L.yl (Y.fa fl33_2 rfl) ?_ | refine L.yl (Y.fas fl33_2 rfl (by simp; omega)) ?_
    refine L.yl (Y.ld sc4 rfl rfl) ?_
    refine L.nil ?_
    refine C.cond rfl (fun hc2 => ?_) (fun hc2 => ?_)
    ·
      refine C.regS ?_
      first | refine L.yl (Y.fa0 fl46_2 rfl) ?_ | refine L.yl (Y.fa fl46_2 rfl) ?_ | refine L.yl (Y.fas fl46_2 rfl (by simp; omega)) ?_
      first | refine L.yl (Y.fa0 fl44_2 rfl) ?_ | refine L.yl (Y.fa fl44_2 rfl) ?_ | refine L.yl (Y.fas fl44_2 rfl (by simp; omega)) ?_
      refine L.st sc4 rfl rfl rfl ?_
      refine L.nil ?_
      refine C.reg ?_
      first | refine L.yl (Y.fa0 fl33_3 rfl) ?_ | refine L.yl (Y.fa fl33_3 rfl) ?_ | refine L.yl (Y.fas fl33_3 rfl (by simp; omega)) ?_
      refine L.yl (Y.ld sc22 rfl rfl) ?_
      first | refine L.yl (Y.fa0 fl46_2 rfl) ?_ | refine L.yl (Y.fa fl46_2 rfl) ?_ | refine L.yl (Y.fas fl46_2 rfl (by simp; omega)) ?_
      first | refine L.yl (Y.fa0 fl44_3 rfl) ?_ | refine L.yl (Y.fa fl44_3 rfl) ?_ | refine L.yl (Y.fas fl44_3 rfl (by simp; omega)) ?_
      refine L.st sc22 rfl rfl rfl ?_
      refine L.nil ?_
      refine Then.n ?_
      refine C.regS ?_
      refine L.yl (Y.lda (vs := [_, _, _, _, _, _, _, _, _, _, _]) ag46 rfl rfl) ?_
      refine L.callFW (Γf := []) go33 rfl (fun w hw hf => rf_segEncode (⟨1, p.num, ⟨0, false, true, p.val, 0, false, 0, []⟩, p.body⟩ : Seg) none 0 a c ⟨hp.val, by dsimp only; omega, by simp⟩ hp.num (by simp) w (fun j v hj => by simp at hj) ((hrd _).rd w hw)) ?_
      rintro _ _ ⟨ea, ec, rfl, rfl⟩
      refine L.apc ?_
      refine L.yl (Y.mv rfl) ?_
      refine L.yl (Y.extL rfl rfl) ?_
      refine L.yl (Y.extL rfl rfl) ?_
      refine L.yl (Y.as rfl) ?_
      refine L.yl (Y.as rfl) ?_
      refine L.nil ?_
      refine C.regS ?_
      refine L.yl (Y.mv rfl) ?_
      refine L.yl (Y.as rfl) ?_
      refine L.nil ?_
      refine C.ret ?_
      refine FnPost.r1 Go.Proofs.Tryz.results10 rfl ?_
      have e : pcSeg p = (⟨1, p.num, ⟨0, false, true, p.val, 0, false, 0, []⟩, p.body⟩ : Seg) := by unfold pcSeg; simp [hc2]
      exact ⟨[own 5 1 ea (encS (⟨1, p.num, ⟨0, false, true, p.val, 0, false, 0, []⟩, p.body⟩ : Seg)).length ec (byteL (encS (⟨1, p.num, ⟨0, false, true, p.val, 0, false, 0, []⟩, p.body⟩ : Seg)))], inferInstance, by dsimp only; rw [if_neg (by simp [hc1]), e]; exact ⟨ea, ec, rfl, rfl⟩⟩
    ·
      refine C.skip ?_
      refine Then.n ?_
      refine C.regS ?_
      refine L.yl (Y.lda (vs := [_, _, _, _, _, _, _, _, _, _, _]) ag46 rfl rfl) ?_
      refine L.callFW (Γf := []) go33 rfl (fun w hw hf => rf_segEncode (⟨1, p.num, ⟨0, false, false, 0, 0, false, 0, []⟩, p.body⟩ : Seg) none 0 a c ⟨by dsimp only; omega, by dsimp only; omega, by simp⟩ hp.num (by simp) w (fun j v hj => by simp at hj) ((hrd _).rd w hw)) ?_
      rintro _ _ ⟨ea, ec, rfl, rfl⟩
      refine L.apc ?_
      refine L.yl (Y.mv rfl) ?_
      refine L.yl (Y.extL rfl rfl) ?_
      refine L.yl (Y.extL rfl rfl) ?_
      refine L.yl (Y.as rfl) ?_
      refine L.yl (Y.as rfl) ?_
      refine L.nil ?_
      refine C.regS ?_
      refine L.yl (Y.mv rfl) ?_
      refine L.yl (Y.as rfl) ?_
      refine L.nil ?_
      refine C.ret ?_
      refine FnPost.r1 Go.Proofs.Tryz.results10 rfl ?_
      have e : pcSeg p = (⟨1, p.num, ⟨0, false, false, 0, 0, false, 0, []⟩, p.body⟩ : Seg) := by unfold pcSeg; simp [hc2]
      exact ⟨[own 5 1 ea (encS (⟨1, p.num, ⟨0, false, false, 0, 0, false, 0, []⟩, p.body⟩ : Seg)).length ec (byteL (encS (⟨1, p.num, ⟨0, false, false, 0, 0, false, 0, []⟩, p.body⟩ : Seg)))], inferInstance, by dsimp only; rw [if_neg (by simp [hc1]), e]; exact ⟨ea, ec, rfl, rfl⟩⟩
end Go.Proofs.YtcbhcdcobgdddaaGreat
