/- Chapter texts of ours, as far as the claim needs them. -/
import Derived.Test.YtihjaehkdgdenaaRtN4
import Derived.Test.YtihjaehkdgdenaaRtX2a
import Derived.Test.YtihjaehkdgdenaaPtrs
namespace Go.Proofs.Ytihjaehkdgdenaa
open Go Go.RowKit
set_option linter.unusedVariables false
set_option linter.unusedVariables false
def M_field_nearest_k2 (xk1 : Cell) (b2 : Cell) (c2 : Bool) (next1 : Cell → Bool → Prop) (c3 : Bool) : Prop :=
  cnd c3 (next1 xk1 true) (next1 b2 c2)
def M_field_nearest_L1 (f : R7Field) (k1 : Nat) (xk1 : Cell) (b2 : Cell) (c2 : Bool) (next1 : Cell → Bool → Prop) : Prop :=
  M_field_from f xk1 fun y1 => cnd (y1.cells == 0) (next1 b2 c2) (cnd (!c2) (M_field_nearest_k2 xk1 b2 c2 next1 true) (M_field_from f b2 fun y2 => M_worth_less y1 y2 fun y3 => cnd y3 (M_field_nearest_k2 xk1 b2 c2 next1 true) (M_field_from f b2 fun y4 => M_worth_less y4 y1 fun y5 => cnd (!y5) (M_ref7_before xk1 b2 fun y6 => M_field_nearest_k2 xk1 b2 c2 next1 y6) (M_field_nearest_k2 xk1 b2 c2 next1 false))))
def M_field_nearest (f : R7Field) (tree : (List Cell)) (Q : Cell → Bool → Prop) : Prop :=
  forIn' (fun k x (s : Cell × Bool) next => M_field_nearest_L1 f k x s.1 s.2 (fun b2 c2 => next (b2, c2))) (fun (s : Cell × Bool) => (fun (b2 : Cell) (c2 : Bool) => Q b2 c2) s.1 s.2) tree 0 ((⟨0, 0, 0⟩ : Cell), false)
set_option maxHeartbeats 1000000 in
theorem R_field_nearest (f : R7Field) (tree : (List Cell)) (w0 : World) (f_g_BlockedA : Option Addr) (f_g_BlockedC : Nat) (hv_f_g_Blocked : View w0 (old w0 none_) f_g_BlockedA f_g_BlockedC f.g.Blocked) (f_blockedA : Option Addr) (f_blockedC : Nat) (hv_f_blocked : View w0 (old w0 none_) f_blockedA f_blockedC f.blocked) (f_bestA : Option Addr) (f_bestC : Nat) (hv_f_best : View w0 (old w0 none_) f_bestA f_bestC f.best) (fg : Nat) (hb_f : ElemAt w0 (old w0 none_) (some ⟨fg, 0, none⟩) 0 [iv f.g.W, iv f.g.H, iv f.g.Layers, .slice f_g_BlockedA f.g.Blocked.length f_g_BlockedC, iv f.c.Step, iv f.c.Via, iv f.c.Turn, iv f.c.Against, .slice f_blockedA f.blocked.length f_blockedC, .slice f_bestA f.best.length f_bestC]) (treeA : Option Addr) (treeC : Nat) (hv_tree : View w0 (old w0 none_) treeA treeC tree) (Q : Cell → Bool → Prop) (h : M_field_nearest f tree Q) :
  Ret Try.prog 86 #[(pn fg 0), .slice treeA tree.length treeC] w0 fun v w' => ∃ (r0 : Cell) (r1 : Bool), v = .tuple #[.agg #[iv r0.X, iv r0.Y, iv r0.Layer], .bool r1] ∧ Q r0 r1 ∧ Sat w0 none_ [] w' := by
 refine fn_enter Try.func86 rfl Try.ntmps86 rfl (fs := [(0, (pn fg 0)), (1, .slice treeA tree.length treeC)]) rfl (fun a hf => ?_)
 have hs := Sat.start w0 none_
 unfold M_field_nearest at h
 refine wp_seq (R.list ?_)
 refine S.alloc hf hs rfl rfl rfl [iv 0, iv 0, iv 0] rfl Try.zeroValue28 rfl (fun g1 a w hf hs => ?_)
 refine S.p hf hs (.bool false) rfl rfl fun a hf => ?_
 refine R.nil (X.then_ (wp_seq (R.list ?_)))
 refine S.v hf hs (.agg #[iv 0, iv 0, iv 0]) rfl (V.build (places := #[(0, 1), (1, 1), (2, 1)]) rfl Try.zeroValue28 Try.runUnderlying28 (by intro w; simp [Try.sizeOf3]) rfl rfl) fun a hf => ?_
 refine S.alloc hf hs rfl rfl rfl [iv 0, iv 0, iv 0] rfl Try.zeroValue28 rfl (fun g2 a w hf hs => ?_)
 refine S.storeBox 0 hf hs rfl rfl [iv 0, iv 0, iv 0] [iv 0, iv 0, iv 0] rfl rfl rfl rfl rfl Try.sizeOf28 rfl rfl rfl rfl (fun a w hf hs => ?_)
 refine S.p hf hs (.bool false) rfl rfl fun a hf => ?_
 refine R.nil (X.then_ (wp_seq (wp_seq (R.list ?_))))
 refine S.p hf hs (.slice treeA tree.length treeC) rfl rfl fun a hf => ?_
 refine S.v hf hs (iv (tree.length : Int)) rfl (V.len rfl rfl Try.runUnderlying22) fun a hf => ?_
 refine S.p hf hs (iv 0) rfl rfl fun a hf => ?_
 refine R.nil (X.then_ (wp_block ?_))
 have hlenk1 := hv_tree.len64
 refine C.range (fun (ll : List Cell) a w => ∃ (k1 : Nat) (b2 : Cell) (c2 : Bool), tree.drop k1 = ll ∧ k1 + ll.length = tree.length ∧ forIn' (fun k x (s : Cell × Bool) next => M_field_nearest_L1 f k x s.1 s.2 (fun b2 c2 => next (b2, c2))) (fun (s : Cell × Bool) => (fun (b2 : Cell) (c2 : Bool) => Q b2 c2) s.1 s.2) ll k1 (b2, c2) ∧ FrOk 50 [(14, iv (k1 : Int)), (0, (pn fg 0)), (4, (pn g1 0)), (6, (pn g2 0)), (7, .bool c2), (12, .slice treeA tree.length treeC), (13, iv (tree.length : Int))] a ∧ Sat w0 none_ [hbox g2 28 [iv b2.X, iv b2.Y, iv b2.Layer], hbox g1 28 [iv 0, iv 0, iv 0]] w) tree ⟨0, (⟨0, 0, 0⟩ : Cell), false, rfl, Nat.zero_add _, h, (((((((hf.nil.cons (hf.get 13 _ rfl)).cons (hf.get 12 _ rfl)).cons (hf.get 7 _ rfl)).cons (hf.get 6 _ rfl)).cons (hf.get 4 _ rfl)).cons (hf.get 0 _ rfl)).cons (hf.get 14 _ rfl)), hs⟩ ?_
 clear h hf hs
 rintro llk1 a w ⟨k1, b2, c2, hlk1, hkk1, h, hf, hs⟩
 cases llk1 with
 | nil =>
  have hc := range_done hkk1
  replace h : (fun (b2 : Cell) (c2 : Bool) => Q b2 c2) b2 c2 := h
  refine wp_seq (R.list ?_)
  refine S.v hf hs (.bool false) rfl (V.cmp false rfl rfl rfl rfl hc) fun a hf => ?_
  refine R.nil (X.then_ (wp_seq ?_))
  refine C.no hf rfl ?_
  refine wp_exit (X.then_exit (X.then_exit (X.blk_exit (X.then_ (wp_seq (R.list ?_))))))
  refine S.v hf hs (.agg #[iv b2.X, iv b2.Y, iv b2.Layer]) rfl (V.loadBox 0 rfl rfl rfl Try.isAgg28 Try.sizeOf28 rfl rfl) fun a hf => ?_
  refine S.p hf hs (.bool c2) rfl rfl fun a hf => ?_
  refine S.storeBox 1 hf hs rfl rfl [iv b2.X, iv b2.Y, iv b2.Layer] [iv b2.X, iv b2.Y, iv b2.Layer] rfl rfl rfl rfl rfl Try.sizeOf28 rfl rfl rfl rfl (fun a w hf hs => ?_)
  refine S.p hf hs (.bool c2) rfl rfl fun a hf => ?_
  refine R.nil (X.then_ (wp_ret ?_))
  have hsR := hs
  exact L.ret hf (run_results2 Try.results86 (ResIs.box hf hsR 1 rfl rfl Try.isAgg28 Try.sizeOf28 rfl rfl) (ResIs.tmp hf rfl)) ⟨b2, c2, rfl, h, hs.nil⟩
 | cons xk1 llk1 =>
  have hltk1 := range_lt hkk1; have hc := range_go hkk1; have hxk1 := range_get hlk1
  obtain ⟨next1, hnext1⟩ : ∃ X : Cell → Bool → Prop, X = (fun b2 c2 => forIn' (fun k x (s : Cell × Bool) next => M_field_nearest_L1 f k x s.1 s.2 (fun b2 c2 => next (b2, c2))) (fun (s : Cell × Bool) => (fun (b2 : Cell) (c2 : Bool) => Q b2 c2) s.1 s.2) llk1 (k1 + 1) (b2, c2)) := ⟨_, rfl⟩
  replace h : M_field_nearest_L1 f k1 xk1 b2 c2 next1 := by rw [hnext1]; exact h
  unfold M_field_nearest_L1 at h
  refine wp_seq (R.list ?_)
  refine S.v hf hs (.bool true) rfl (V.cmp true rfl rfl rfl rfl hc) fun a hf => ?_
  refine R.nil (X.then_ (wp_seq ?_))
  refine C.yes hf rfl ?_
  refine wp_skip (X.then_ (wp_seq (wp_block (wp_seq (R.list ?_)))))
  refine S.v hf hs (elemPtr treeA (k1 * 3)) rfl (V.index rfl rfl rfl Try.runUnderlying22 Try.sizeOf28 (hv_tree.some_ (lt_of_get hxk1)) (Int.natCast_nonneg _) (lt_of_get hxk1) rfl) fun a hf => ?_
  refine S.v hf hs (.agg #[iv xk1.X, iv xk1.Y, iv xk1.Layer]) rfl (V.loadEl (off := 0) (Ag.args _ _ _) (hv_tree.flat hxk1) rfl rfl rfl Try.isAgg28 Try.sizeOf28 rfl rfl) fun a hf => ?_
  refine S.alloc hf hs rfl rfl rfl [iv 0, iv 0, iv 0] rfl Try.zeroValue28 rfl (fun g3 a w hf hs => ?_)
  refine S.storeBox 0 hf hs rfl rfl [iv xk1.X, iv xk1.Y, iv xk1.Layer] [iv xk1.X, iv xk1.Y, iv xk1.Layer] rfl rfl rfl rfl rfl Try.sizeOf28 rfl rfl rfl rfl (fun a w hf hs => ?_)
  refine R.nil (X.then_ (wp_seq (R.list ?_)))
  refine S.p hf hs ((pn fg 0)) rfl rfl fun a hf => ?_
  refine S.v hf hs (.agg #[iv xk1.X, iv xk1.Y, iv xk1.Layer]) rfl (V.loadBox 0 rfl rfl rfl Try.isAgg28 Try.sizeOf28 rfl rfl) fun a hf => ?_
  refine S.call hf rfl rfl rfl (call_fn (vs := [(pn fg 0), .agg #[iv xk1.X, iv xk1.Y, iv xk1.Layer]]) rfl rfl rfl Try.call39) (R_field_from f xk1 _ f_g_BlockedA f_g_BlockedC ((Ag.args _ _ _).view hv_f_g_Blocked hs) f_blockedA f_blockedC ((Ag.args _ _ _).view hv_f_blocked hs) f_bestA f_bestC ((Ag.args _ _ _).view hv_f_best hs) fg ((Ag.args _ _ _).elem hb_f hs) _ h) (fun v a w' hf hr => ?_)
  obtain ⟨y1, rfl, h2, hs2⟩ := hr
  replace h := h2; replace hs := hs.call hs2; clear h2 hs2
  refine S.alloc hf hs rfl rfl rfl [iv 0, iv 0] rfl Try.zeroValue60 rfl (fun g4 a w hf hs => ?_)
  refine S.storeBox 0 hf hs rfl rfl [iv y1.cost, iv y1.cells] [iv y1.cost, iv y1.cells] rfl rfl rfl rfl rfl Try.sizeOf60 rfl rfl rfl rfl (fun a w hf hs => ?_)
  refine R.nil (X.then_ (wp_seq (wp_seq (R.list ?_))))
  refine S.v hf hs ((pn g4 1)) rfl (V.fieldBox rfl rfl Try.runUnderlying60 rfl Try.sizeOf3 rfl rfl) fun a hf => ?_
  refine S.v hf hs (iv y1.cells) rfl (V.loadBox 0 rfl rfl rfl Try.isAgg3 Try.sizeOf3 rfl rfl) fun a hf => ?_
  refine S.p hf hs (.bool (y1.cells == 0)) rfl rfl fun a hf => ?_
  refine R.nil (X.then_ ?_)
  refine C.cond hf (b := y1.cells == 0) rfl (fun hc => ?_) (fun hc => ?_)
  ·replace h := h.1 hc
   refine wp_exit (X.then_exit (X.blk_exit (X.then_ (R.list ?_))))
   refine S.v hf hs (iv ((k1 + 1 : Nat) : Int)) rfl (V.incr rfl rfl rfl hltk1 hlenk1) fun a hf => ?_
   refine S.p hf hs (iv ((k1 + 1 : Nat) : Int)) rfl rfl fun a hf => ?_
   refine R.nil (X.then_ ?_)
   exact ⟨xk1, llk1, rfl, k1 + 1, b2, c2, range_drop hlk1, range_len hkk1, (by rw [hnext1] at h; exact h), (((((((hf.nil.cons (hf.get 13 _ rfl)).cons (hf.get 12 _ rfl)).cons (hf.get 7 _ rfl)).cons (hf.get 6 _ rfl)).cons (hf.get 4 _ rfl)).cons (hf.get 0 _ rfl)).cons (hf.get 14 _ rfl)), hs.drop.drop⟩
  ·replace h := h.2 hc
   refine wp_skip (X.then_ (wp_seq ?_))
   refine C.cut (J := fun a w => ∃ (c3 : Bool), M_field_nearest_k2 xk1 b2 c2 next1 c3 ∧ FrOk 50 [(0, (pn fg 0)), (4, (pn g1 0)), (6, (pn g2 0)), (7, .bool c2), (9, (pn g3 0)), (12, .slice treeA tree.length treeC), (13, iv (tree.length : Int)), (14, iv (k1 : Int)), (45, .bool c3)] a ∧ Sat w0 none_ [hbox g4 60 [iv y1.cost, iv y1.cells], hbox g3 28 [iv xk1.X, iv xk1.Y, iv xk1.Layer], hbox g2 28 [iv b2.X, iv b2.Y, iv b2.Layer], hbox g1 28 [iv 0, iv 0, iv 0]] w) ?_ ?_
   ·rintro a w ⟨c3, h, hf, hs⟩
    unfold M_field_nearest_k2 at h
    refine C.cond hf (b := c3) rfl (fun hc => ?_) (fun hc => ?_)
    ·replace h := h.1 hc
     refine R.list ?_
     refine S.v hf hs (.agg #[iv xk1.X, iv xk1.Y, iv xk1.Layer]) rfl (V.loadBox 1 rfl rfl rfl Try.isAgg28 Try.sizeOf28 rfl rfl) fun a hf => ?_
     refine S.storeBox 2 hf hs rfl rfl [iv xk1.X, iv xk1.Y, iv xk1.Layer] [iv xk1.X, iv xk1.Y, iv xk1.Layer] rfl rfl rfl rfl rfl Try.sizeOf28 rfl rfl rfl rfl (fun a w hf hs => ?_)
     refine S.p hf hs (.bool true) rfl rfl fun a hf => ?_
     refine R.nil (X.blk (X.then_ (R.list ?_)))
     refine S.v hf hs (iv ((k1 + 1 : Nat) : Int)) rfl (V.incr rfl rfl rfl hltk1 hlenk1) fun a hf => ?_
     refine S.p hf hs (iv ((k1 + 1 : Nat) : Int)) rfl rfl fun a hf => ?_
     refine R.nil (X.then_ ?_)
     exact ⟨xk1, llk1, rfl, k1 + 1, xk1, true, range_drop hlk1, range_len hkk1, (by rw [hnext1] at h; exact h), (((((((hf.nil.cons (hf.get 13 _ rfl)).cons (hf.get 12 _ rfl)).cons (hf.get 7 _ rfl)).cons (hf.get 6 _ rfl)).cons (hf.get 4 _ rfl)).cons (hf.get 0 _ rfl)).cons (hf.get 14 _ rfl)), hs.drop.drop⟩
    ·replace h := h.2 hc
     refine wp_skip (X.blk (X.then_ (R.list ?_)))
     refine S.v hf hs (iv ((k1 + 1 : Nat) : Int)) rfl (V.incr rfl rfl rfl hltk1 hlenk1) fun a hf => ?_
     refine S.p hf hs (iv ((k1 + 1 : Nat) : Int)) rfl rfl fun a hf => ?_
     refine R.nil (X.then_ ?_)
     exact ⟨xk1, llk1, rfl, k1 + 1, b2, c2, range_drop hlk1, range_len hkk1, (by rw [hnext1] at h; exact h), (((((((hf.nil.cons (hf.get 13 _ rfl)).cons (hf.get 12 _ rfl)).cons (hf.get 7 _ rfl)).cons (hf.get 6 _ rfl)).cons (hf.get 4 _ rfl)).cons (hf.get 0 _ rfl)).cons (hf.get 14 _ rfl)), hs.drop.drop⟩
   ·skip
    refine H.start (S := Sat w0 none_ [hbox g4 60 [iv y1.cost, iv y1.cells], hbox g3 28 [iv xk1.X, iv xk1.Y, iv xk1.Layer], hbox g2 28 [iv b2.X, iv b2.Y, iv b2.Layer], hbox g1 28 [iv 0, iv 0, iv 0]]) mo ?_
    replace hs := hs.drew
    refine H.v hf hs (.bool c2) 0 rfl rfl (by kernel_rfl) (V.pure rfl) fun a hf => ?_
    refine H.v hf hs (.bool (!c2)) 1 rfl rfl (by kernel_rfl) (V.pure rfl) fun a hf => ?_
    refine H.split hf hs (b := !c2) (i := 2) rfl rfl rfl rfl (by kernel_rfl) (by kernel_rfl) (by kernel_rfl) (V.pure rfl) (fun hc a hf => ?_) (fun hc a hf => ?_)
    ·replace h := h.1 hc
     refine H.k hf hs 3 rfl rfl (by kernel_rfl) fun a hf => ?_
     refine H.k hf hs 4 rfl rfl (by kernel_rfl) fun a hf => ?_
     refine H.k hf hs 5 rfl rfl (by kernel_rfl) fun a hf => ?_
     refine H.one (i := 6) rfl (by kernel_rfl) ?_
     refine S.k hf rfl fun a hf => ?_
     refine R.nil (X.then_ ?_)
     refine ⟨hs, ?_⟩
     refine H.one (i := 7) rfl (by kernel_rfl) ?_
     refine S.k hf rfl fun a hf => ?_
     refine R.nil (X.then_ ?_)
     refine ⟨hs, ?_⟩
     refine H.v hf hs (.bool true) 8 rfl rfl (by kernel_rfl) (V.pure rfl) fun a hf => ?_
     refine H.v hf hs (.bool true) 9 rfl rfl (by kernel_rfl) (V.pure rfl) fun a hf => ?_
     refine H.k hf hs 10 rfl rfl (by kernel_rfl) fun a hf => ?_
     refine H.k hf hs 11 rfl rfl (by kernel_rfl) fun a hf => ?_
     refine H.k hf hs 13 rfl rfl (by kernel_rfl) fun a hf => ?_
     refine H.one (i := 12) rfl (by kernel_rfl) ?_
     refine S.k hf rfl fun a hf => ?_
     refine R.nil (X.then_ ?_)
     refine ⟨hs, ?_⟩
     refine H.one (i := 14) rfl (by kernel_rfl) ?_
     refine S.k hf rfl fun a hf => ?_
     refine R.nil (X.then_ ?_)
     refine ⟨hs, ?_⟩
     refine H.k hf hs 15 rfl rfl (by kernel_rfl) fun a hf => ?_
     refine H.k hf hs 16 rfl rfl (by kernel_rfl) fun a hf => ?_
     refine H.k hf hs 17 rfl rfl (by kernel_rfl) fun a hf => ?_
     refine H.k hf hs 18 rfl rfl (by kernel_rfl) fun a hf => ?_
     refine H.one (i := 19) rfl (by kernel_rfl) ?_
     refine S.k hf rfl fun a hf => ?_
     refine R.nil (X.then_ ?_)
     refine ⟨hs, ?_⟩
     refine H.k hf hs 20 rfl rfl (by kernel_rfl) fun a hf => ?_
     refine H.v hf hs (.bool true) 21 rfl rfl (by kernel_rfl) (V.pure rfl) fun a hf => ?_
     refine H.done (by kernel_rfl) ?_
     refine X.then_ ?_
     exact ⟨true, h, (((((((((hf.nil.cons (hf.get 45 _ rfl)).cons (hf.get 14 _ rfl)).cons (hf.get 13 _ rfl)).cons (hf.get 12 _ rfl)).cons (hf.get 9 _ rfl)).cons (hf.get 7 _ rfl)).cons (hf.get 6 _ rfl)).cons (hf.get 4 _ rfl)).cons (hf.get 0 _ rfl)), hs⟩
    ·replace h := h.2 hc
     refine H.v hf hs (.agg #[iv y1.cost, iv y1.cells]) 3 rfl rfl (by kernel_rfl) (V.loadBox 0 rfl rfl rfl Try.isAgg60 Try.sizeOf60 rfl rfl) fun a hf => ?_
     refine H.v hf hs ((pn fg 0)) 4 rfl rfl (by kernel_rfl) (V.pure rfl) fun a hf => ?_
     refine H.v hf hs (.agg #[iv b2.X, iv b2.Y, iv b2.Layer]) 5 rfl rfl (by kernel_rfl) (V.loadBox 2 rfl rfl rfl Try.isAgg28 Try.sizeOf28 rfl rfl) fun a hf => ?_
     refine H.one (i := 6) rfl (by kernel_rfl) ?_
     refine S.call hf rfl rfl rfl (call_fn (vs := [(pn fg 0), .agg #[iv b2.X, iv b2.Y, iv b2.Layer]]) rfl rfl rfl Try.call39) (R_field_from f b2 _ f_g_BlockedA f_g_BlockedC ((Ag.args _ _ _).view hv_f_g_Blocked hs) f_blockedA f_blockedC ((Ag.args _ _ _).view hv_f_blocked hs) f_bestA f_bestC ((Ag.args _ _ _).view hv_f_best hs) fg ((Ag.args _ _ _).elem hb_f hs) _ h) (fun v a w' hf hr => ?_)
     obtain ⟨y2, rfl, h2, hs2⟩ := hr
     replace h := h2; replace hs := hs.call hs2; clear h2 hs2
     refine R.nil (X.then_ ?_)
     refine ⟨hs, ?_⟩
     refine H.one (i := 7) rfl (by kernel_rfl) ?_
     refine S.call hf rfl rfl rfl (call_fn (vs := [.agg #[iv y1.cost, iv y1.cells], .agg #[iv y2.cost, iv y2.cells]]) rfl rfl rfl Try.call94) (R_worth_less y1 y2 _  _ h) (fun v a w' hf hr => ?_)
     obtain ⟨y3, rfl, h2, hs2⟩ := hr
     replace h := h2; replace hs := hs.call hs2; clear h2 hs2
     refine R.nil (X.then_ ?_)
     refine ⟨hs, ?_⟩
     refine H.v hf hs (.bool y3) 8 rfl rfl (by kernel_rfl) (V.pure rfl) fun a hf => ?_
     refine H.split hf hs (b := y3) (i := 9) rfl rfl rfl rfl (by kernel_rfl) (by kernel_rfl) (by kernel_rfl) (V.pure rfl) (fun hc a hf => ?_) (fun hc a hf => ?_)
     ·replace h := h.1 hc
      refine H.k hf hs 10 rfl rfl (by kernel_rfl) fun a hf => ?_
      refine H.k hf hs 11 rfl rfl (by kernel_rfl) fun a hf => ?_
      refine H.k hf hs 13 rfl rfl (by kernel_rfl) fun a hf => ?_
      refine H.one (i := 12) rfl (by kernel_rfl) ?_
      refine S.k hf rfl fun a hf => ?_
      refine R.nil (X.then_ ?_)
      refine ⟨hs, ?_⟩
      refine H.one (i := 14) rfl (by kernel_rfl) ?_
      refine S.k hf rfl fun a hf => ?_
      refine R.nil (X.then_ ?_)
      refine ⟨hs, ?_⟩
      refine H.k hf hs 15 rfl rfl (by kernel_rfl) fun a hf => ?_
      refine H.k hf hs 16 rfl rfl (by kernel_rfl) fun a hf => ?_
      refine H.k hf hs 17 rfl rfl (by kernel_rfl) fun a hf => ?_
      refine H.k hf hs 18 rfl rfl (by kernel_rfl) fun a hf => ?_
      refine H.one (i := 19) rfl (by kernel_rfl) ?_
      refine S.k hf rfl fun a hf => ?_
      refine R.nil (X.then_ ?_)
      refine ⟨hs, ?_⟩
      refine H.k hf hs 20 rfl rfl (by kernel_rfl) fun a hf => ?_
      refine H.v hf hs (.bool true) 21 rfl rfl (by kernel_rfl) (V.pure rfl) fun a hf => ?_
      refine H.done (by kernel_rfl) ?_
      refine X.then_ ?_
      exact ⟨true, h, (((((((((hf.nil.cons (hf.get 45 _ rfl)).cons (hf.get 14 _ rfl)).cons (hf.get 13 _ rfl)).cons (hf.get 12 _ rfl)).cons (hf.get 9 _ rfl)).cons (hf.get 7 _ rfl)).cons (hf.get 6 _ rfl)).cons (hf.get 4 _ rfl)).cons (hf.get 0 _ rfl)), hs⟩
     ·replace h := h.2 hc
      refine H.v hf hs ((pn fg 0)) 10 rfl rfl (by kernel_rfl) (V.pure rfl) fun a hf => ?_
      refine H.v hf hs (.agg #[iv b2.X, iv b2.Y, iv b2.Layer]) 11 rfl rfl (by kernel_rfl) (V.loadBox 2 rfl rfl rfl Try.isAgg28 Try.sizeOf28 rfl rfl) fun a hf => ?_
      refine H.v hf hs (.agg #[iv y1.cost, iv y1.cells]) 13 rfl rfl (by kernel_rfl) (V.loadBox 0 rfl rfl rfl Try.isAgg60 Try.sizeOf60 rfl rfl) fun a hf => ?_
      refine H.one (i := 12) rfl (by kernel_rfl) ?_
      refine S.call hf rfl rfl rfl (call_fn (vs := [(pn fg 0), .agg #[iv b2.X, iv b2.Y, iv b2.Layer]]) rfl rfl rfl Try.call39) (R_field_from f b2 _ f_g_BlockedA f_g_BlockedC ((Ag.args _ _ _).view hv_f_g_Blocked hs) f_blockedA f_blockedC ((Ag.args _ _ _).view hv_f_blocked hs) f_bestA f_bestC ((Ag.args _ _ _).view hv_f_best hs) fg ((Ag.args _ _ _).elem hb_f hs) _ h) (fun v a w' hf hr => ?_)
      obtain ⟨y4, rfl, h2, hs2⟩ := hr
      replace h := h2; replace hs := hs.call hs2; clear h2 hs2
      refine R.nil (X.then_ ?_)
      refine ⟨hs, ?_⟩
      refine H.one (i := 14) rfl (by kernel_rfl) ?_
      refine S.call hf rfl rfl rfl (call_fn (vs := [.agg #[iv y4.cost, iv y4.cells], .agg #[iv y1.cost, iv y1.cells]]) rfl rfl rfl Try.call94) (R_worth_less y4 y1 _  _ h) (fun v a w' hf hr => ?_)
      obtain ⟨y5, rfl, h2, hs2⟩ := hr
      replace h := h2; replace hs := hs.call hs2; clear h2 hs2
      refine R.nil (X.then_ ?_)
      refine ⟨hs, ?_⟩
      refine H.v hf hs (.bool (!y5)) 15 rfl rfl (by kernel_rfl) (V.pure rfl) fun a hf => ?_
      refine H.split hf hs (b := !y5) (i := 16) rfl rfl rfl rfl (by kernel_rfl) (by kernel_rfl) (by kernel_rfl) (V.pure rfl) (fun hc a hf => ?_) (fun hc a hf => ?_)
      ·replace h := h.1 hc
       refine H.v hf hs (.agg #[iv xk1.X, iv xk1.Y, iv xk1.Layer]) 17 rfl rfl (by kernel_rfl) (V.loadBox 1 rfl rfl rfl Try.isAgg28 Try.sizeOf28 rfl rfl) fun a hf => ?_
       refine H.v hf hs (.agg #[iv b2.X, iv b2.Y, iv b2.Layer]) 18 rfl rfl (by kernel_rfl) (V.loadBox 2 rfl rfl rfl Try.isAgg28 Try.sizeOf28 rfl rfl) fun a hf => ?_
       refine H.one (i := 19) rfl (by kernel_rfl) ?_
       refine S.call hf rfl rfl rfl (call_fn (vs := [.agg #[iv xk1.X, iv xk1.Y, iv xk1.Layer], .agg #[iv b2.X, iv b2.Y, iv b2.Layer]]) rfl rfl rfl Try.call56) (R_ref7_before xk1 b2 _  _ h) (fun v a w' hf hr => ?_)
       obtain ⟨y6, rfl, h2, hs2⟩ := hr
       replace h := h2; replace hs := hs.call hs2; clear h2 hs2
       refine R.nil (X.then_ ?_)
       refine ⟨hs, ?_⟩
       refine H.v hf hs (.bool y6) 20 rfl rfl (by kernel_rfl) (V.pure rfl) fun a hf => ?_
       refine H.v hf hs (.bool y6) 21 rfl rfl (by kernel_rfl) (V.pure rfl) fun a hf => ?_
       refine H.done (by kernel_rfl) ?_
       refine X.then_ ?_
       exact ⟨y6, h, (((((((((hf.nil.cons (hf.get 45 _ rfl)).cons (hf.get 14 _ rfl)).cons (hf.get 13 _ rfl)).cons (hf.get 12 _ rfl)).cons (hf.get 9 _ rfl)).cons (hf.get 7 _ rfl)).cons (hf.get 6 _ rfl)).cons (hf.get 4 _ rfl)).cons (hf.get 0 _ rfl)), hs⟩
      ·replace h := h.2 hc
       refine H.k hf hs 17 rfl rfl (by kernel_rfl) fun a hf => ?_
       refine H.k hf hs 18 rfl rfl (by kernel_rfl) fun a hf => ?_
       refine H.one (i := 19) rfl (by kernel_rfl) ?_
       refine S.k hf rfl fun a hf => ?_
       refine R.nil (X.then_ ?_)
       refine ⟨hs, ?_⟩
       refine H.v hf hs (.bool false) 20 rfl rfl (by kernel_rfl) (V.pure rfl) fun a hf => ?_
       refine H.v hf hs (.bool false) 21 rfl rfl (by kernel_rfl) (V.pure rfl) fun a hf => ?_
       refine H.done (by kernel_rfl) ?_
       refine X.then_ ?_
       exact ⟨false, h, (((((((((hf.nil.cons (hf.get 45 _ rfl)).cons (hf.get 14 _ rfl)).cons (hf.get 13 _ rfl)).cons (hf.get 12 _ rfl)).cons (hf.get 9 _ rfl)).cons (hf.get 7 _ rfl)).cons (hf.get 6 _ rfl)).cons (hf.get 4 _ rfl)).cons (hf.get 0 _ rfl)), hs⟩
set_option linter.unusedVariables false
def B_ref7_treeOf (g : Grid) (g_BlockedA : Option Addr) (g_BlockedC : Nat) (c : Costs) : PBox ((List Bool) × (List R7Worth)) Bool R7Worth := ⟨72, 4, 60, fun s_ x_ => [iv g.W, iv g.H, iv g.Layers, .slice g_BlockedA g.Blocked.length g_BlockedC, iv c.Step, iv c.Via, iv c.Turn, iv c.Against, .slice s_.A0 x_.1.length s_.C0, .slice s_.A1 x_.2.length s_.C1], fun x_ => x_.1, fun x_ => x_.2⟩
def M_ref7_treeOf_L4  (k4 : Nat) (xk4 : Cell) (l8 : List Cell) (next4 : List Cell → Prop) : Prop :=
  M_contains_cell l8 xk4 fun y2 => cnd (!y2) (must (room (l8 ++ [xk4]).length 24) (next4 (l8 ++ [xk4]))) (next4 l8)
def M_ref7_treeOf_k5 (k3 : Nat) (b2 : Cell) (n3 : Int) (n4 : Int) (next3 : Cell → Int → Int → Prop) (y4 : Cell) (y6 : R7Worth) (c1 : Bool) : Prop :=
  cnd c1 (next3 y4 (k3 : Int) y6.cost) (next3 b2 n3 n4)
def M_ref7_treeOf_L3 (g : Grid) (c : Costs) (Q : (List (List Cell)) → Bool → Prop) (l2 : List (Option ((List Bool) × (List R7Worth)))) (l6 : List Cell) (k3 : Nat) (xk3 : Cell) (b2 : Cell) (n3 : Int) (n4 : Int) (next3 : Cell → Int → Int → Prop) : Prop :=
  M_contains_cell l6 xk3 fun y3 => cnd y3 (next3 b2 n3 n4) (idx l2 (k3 : Int) fun x4 => isome x4 fun x5 => M_field_nearest (⟨g, c, x5.1, x5.2⟩ : R7Field) l6 fun y4 y5 => cnd (!y5) (Q ([] : List (List Cell)) false) (M_field_from (⟨g, c, x5.1, x5.2⟩ : R7Field) y4 fun y6 => cnd (decide (n3 < 0)) (M_ref7_treeOf_k5 k3 b2 n3 n4 next3 y4 y6 true) (M_ref7_treeOf_k5 k3 b2 n3 n4 next3 y4 y6 (decide (y6.cost < n4)))))
def M_ref7_treeOf_L2 (g : Grid) (c : Costs) (pins : (List Cell)) (Q : (List (List Cell)) → Bool → Prop) (l2 : List (Option ((List Bool) × (List R7Worth)))) (again2 : List (List Cell) → List Cell → Prop) (l5 : List (List Cell)) (l6 : List Cell) : Prop :=
  forIn' (fun k x (s : Cell × Int × Int) next => M_ref7_treeOf_L3 g c Q l2 l6 k x s.1 s.2.1 s.2.2 (fun b2 n3 n4 => next (b2, n3, n4))) (fun (s : Cell × Int × Int) => (fun (b2 : Cell) (n3 : Int) (n4 : Int) => cnd (decide (n3 < 0)) (Q l5 true) (idx l2 n3 fun x2 => isome x2 fun x3 => M_field_way (⟨g, c, x3.1, x3.2⟩ : R7Field) b2 fun y1 => must (room (l5 ++ [y1]).length 24) (forIn' (fun k x (s : List Cell) next => M_ref7_treeOf_L4 k x s (fun l8 => next l8)) (fun (s : List Cell) => (fun (l8 : List Cell) => again2 (l5 ++ [y1]) l8) s) y1 0 l6))) s.1 s.2.1 s.2.2) pins 0 ((⟨0, 0, 0⟩ : Cell), (-1), 0)
def M_ref7_treeOf_L1 (g : Grid) (c : Costs) (k1 : Nat) (xk1 : Cell) (l2 : List (Option ((List Bool) × (List R7Worth)))) (next1 : List (Option ((List Bool) × (List R7Worth))) → Prop) : Prop :=
  M_ref7_fieldOf g c xk1 fun y7o => optq y7o (False) (fun y7 => idx l2 (k1 : Int) fun x6 => next1 (l2.set k1 (some (y7.1, y7.2))))
def M_ref7_treeOf (g : Grid) (c : Costs) (pins : (List Cell)) (Q : (List (List Cell)) → Bool → Prop) : Prop :=
  idx pins 0 fun x1 => must (0 ≤ (pins.length : Int) ∧ (pins.length : Int) * 8 ≤ 281474976710656) (forIn' (fun k x (s : List (Option ((List Bool) × (List R7Worth)))) next => M_ref7_treeOf_L1 g c k x s (fun l2 => next l2)) (fun (s : List (Option ((List Bool) × (List R7Worth)))) => (fun (l2 : List (Option ((List Bool) × (List R7Worth)))) => lp (fun again (s : List (List Cell) × List Cell) => M_ref7_treeOf_L2 g c pins Q l2 (fun l5 l6 => again (l5, l6)) s.1 s.2) (([] : List (List Cell)), [x1])) s) pins 0 (List.replicate pins.length (none : Option ((List Bool) × (List R7Worth)))))
set_option maxHeartbeats 1000000 in
theorem R_ref7_treeOf (g : Grid) (c : Costs) (pins : (List Cell)) (w0 : World) (g_BlockedA : Option Addr) (g_BlockedC : Nat) (hv_g_Blocked : View w0 (old w0 none_) g_BlockedA g_BlockedC g.Blocked) (pinsA : Option Addr) (pinsC : Nat) (hv_pins : View w0 (old w0 none_) pinsA pinsC pins) (Q : (List (List Cell)) → Bool → Prop) (h : M_ref7_treeOf g c pins Q) :
  Ret Try.prog 65 #[.agg #[iv g.W, iv g.H, iv g.Layers, .slice g_BlockedA g.Blocked.length g_BlockedC], .agg #[iv c.Step, iv c.Via, iv c.Turn, iv c.Against], .slice pinsA pins.length pinsC] w0 fun v w' => ∃ (r0 : (List (List Cell))) (r0A : Option Addr) (r0C : Nat) (r0as : List (Option Addr × Nat)) (r1 : Bool), v = .tuple #[.slice r0A r0.length r0C, .bool r1] ∧ Q r0 r1 ∧ Sat w0 none_ [hrows 22 28 r0A r0C r0as r0] w' := by
 refine fn_enter Try.func65 rfl Try.ntmps65 rfl (fs := [(0, .agg #[iv g.W, iv g.H, iv g.Layers, .slice g_BlockedA g.Blocked.length g_BlockedC]), (1, .agg #[iv c.Step, iv c.Via, iv c.Turn, iv c.Against]), (2, .slice pinsA pins.length pinsC)]) rfl (fun a hf => ?_)
 have hs := Sat.start w0 none_
 unfold M_ref7_treeOf at h
 refine wp_seq (R.list ?_)
 refine S.box hf hs rfl rfl rfl [iv g.W, iv g.H, iv g.Layers, .slice g_BlockedA g.Blocked.length g_BlockedC] rfl rfl rfl (fun g1 a w hf hs => ?_)
 refine S.box hf hs rfl rfl rfl [iv c.Step, iv c.Via, iv c.Turn, iv c.Against] rfl rfl rfl (fun g2 a w hf hs => ?_)
 refine S.p hf hs (.slice none 0 0) rfl rfl fun a hf => ?_
 refine S.p hf hs (.bool false) rfl rfl fun a hf => ?_
 refine R.nil (X.then_ (wp_seq (R.list ?_)))
 refine S.p hf hs (.slice pinsA pins.length pinsC) rfl rfl fun a hf => ?_
 obtain ⟨h0x1, x1, hx1, h⟩ := h
 refine S.v hf hs (elemPtr pinsA (0 * 3)) rfl (V.index rfl rfl rfl Try.runUnderlying22 Try.sizeOf28 (hv_pins.some_ (lt_of_get hx1)) h0x1 (lt_of_get hx1) rfl) fun a hf => ?_
 refine S.v hf hs (.agg #[iv x1.X, iv x1.Y, iv x1.Layer]) rfl (V.loadEl (off := 0) (Ag.args _ _ _) (hv_pins.flat hx1) rfl rfl rfl Try.isAgg28 Try.sizeOf28 rfl rfl) fun a hf => ?_
 refine S.build1 hf hs rfl rfl rfl (α := Cell) x1 rfl rfl rfl Try.runUnderlying22 Try.sizeOf28 Try.zeroValue28 rfl (by decide) (fun A1 a w hf hs => ?_)
 refine S.p hf hs (.slice A1 [x1].length 1) rfl rfl fun a hf => ?_
 refine R.nil (X.then_ (wp_seq (R.list ?_)))
 refine S.p hf hs (.slice pinsA pins.length pinsC) rfl rfl fun a hf => ?_
 refine S.v hf hs (iv (pins.length : Int)) rfl (V.len rfl rfl Try.runUnderlying22) fun a hf => ?_
 obtain ⟨hmk, h⟩ := h
 refine S.makePtrs (B_ref7_treeOf g g_BlockedA g_BlockedC c) hf hs rfl rfl rfl (z := (pins.length : Int)) (N := pins.length) rfl rfl rfl Try.underlying114 info61 hmk rfl (by have := hmk.2; omega) (fun A2 a w hf hs => ?_)
 refine S.p hf hs (.slice A2 (List.replicate pins.length (none : Option ((List Bool) × (List R7Worth)))).length pins.length) rfl rfl fun a hf => ?_
 refine R.nil (X.then_ (wp_seq (wp_seq (R.list ?_))))
 refine S.p hf hs (.slice pinsA pins.length pinsC) rfl rfl fun a hf => ?_
 refine S.v hf hs (iv (pins.length : Int)) rfl (V.len rfl rfl Try.runUnderlying22) fun a hf => ?_
 refine S.p hf hs (iv 0) rfl rfl fun a hf => ?_
 refine R.nil (X.then_ (wp_block ?_))
 have hlenk1 := hv_pins.len64
 refine C.range (fun (ll : List Cell) a w => ∃ (k1 : Nat) (l2 : List (Option ((List Bool) × (List R7Worth)))) (l2A : Option Addr) (l2C : Nat) (l2as : List Pt), pins.drop k1 = ll ∧ k1 + ll.length = pins.length ∧ forIn' (fun k x (s : List (Option ((List Bool) × (List R7Worth)))) next => M_ref7_treeOf_L1 g c k x s (fun l2 => next l2)) (fun (s : List (Option ((List Bool) × (List R7Worth)))) => (fun (l2 : List (Option ((List Bool) × (List R7Worth)))) => lp (fun again (s : List (List Cell) × List Cell) => M_ref7_treeOf_L2 g c pins Q l2 (fun l5 l6 => again (l5, l6)) s.1 s.2) (([] : List (List Cell)), [x1])) s) ll k1 l2 ∧ FrOk 114 [(33, iv (k1 : Int)), (2, .slice pinsA pins.length pinsC), (3, (pn g1 0)), (4, (pn g2 0)), (8, .slice A1 [x1].length 1), (9, .slice l2A l2.length l2C), (31, .slice pinsA pins.length pinsC), (32, iv (pins.length : Int))] a ∧ Sat w0 none_ [hptrs (B_ref7_treeOf g g_BlockedA g_BlockedC c) 61 l2A l2C l2as l2, hown 28 A1 1 [x1], hbox g2 26 [iv c.Step, iv c.Via, iv c.Turn, iv c.Against], hbox g1 24 [iv g.W, iv g.H, iv g.Layers, .slice g_BlockedA g.Blocked.length g_BlockedC]] w) pins ⟨0, (List.replicate pins.length (none : Option ((List Bool) × (List R7Worth)))), A2, pins.length, (List.replicate pins.length (⟨none, none, 0, none, 0⟩ : Pt)), rfl, Nat.zero_add _, h, ((((((((hf.nil.cons (hf.get 32 _ rfl)).cons (hf.get 31 _ rfl)).cons (hf.get 9 _ rfl)).cons (hf.get 8 _ rfl)).cons (hf.get 4 _ rfl)).cons (hf.get 3 _ rfl)).cons (hf.get 2 _ rfl)).cons (hf.get 33 _ rfl)), hs⟩ ?_
 clear h hf hs
 rintro llk1 a w ⟨k1, l2, l2A, l2C, l2as, hlk1, hkk1, h, hf, hs⟩
 cases llk1 with
 | nil =>
  have hc := range_done hkk1
  replace h : (fun (l2 : List (Option ((List Bool) × (List R7Worth)))) => lp (fun again (s : List (List Cell) × List Cell) => M_ref7_treeOf_L2 g c pins Q l2 (fun l5 l6 => again (l5, l6)) s.1 s.2) (([] : List (List Cell)), [x1])) l2 := h
  refine wp_seq (R.list ?_)
  refine S.v hf hs (.bool false) rfl (V.cmp false rfl rfl rfl rfl hc) fun a hf => ?_
  refine R.nil (X.then_ (wp_seq ?_))
  refine C.no hf rfl ?_
  refine wp_exit (X.then_exit (X.then_exit (X.blk_exit (X.then_ (wp_seq (R.list ?_))))))
  refine S.p hf hs (.slice none 0 0) rfl rfl fun a hf => ?_
  refine R.nil (X.then_ (wp_block ?_))
  replace hs := hs.nilRows (α := (List Cell)) 22 28
  obtain ⟨kk, h⟩ := h
  refine C.loop (fun kk a w => ∃ (l5 : List (List Cell)) (l5A : Option Addr) (l5C : Nat) (l5as : List (Option Addr × Nat)) (l6 : List Cell) (l6A : Option Addr) (l6C : Nat), iterF (fun again (s : List (List Cell) × List Cell) => M_ref7_treeOf_L2 g c pins Q l2 (fun l5 l6 => again (l5, l6)) s.1 s.2) kk (l5, l6) ∧ FrOk 114 [(2, .slice pinsA pins.length pinsC), (8, .slice l6A l6.length l6C), (9, .slice l2A l2.length l2C), (12, .slice l5A l5.length l5C)] a ∧ Sat w0 none_ [hrows 22 28 l5A l5C l5as l5, hptrs (B_ref7_treeOf g g_BlockedA g_BlockedC c) 61 l2A l2C l2as l2, hown 28 l6A l6C l6, hbox g2 26 [iv c.Step, iv c.Via, iv c.Turn, iv c.Against], hbox g1 24 [iv g.W, iv g.H, iv g.Layers, .slice g_BlockedA g.Blocked.length g_BlockedC]] w) kk ⟨([] : List (List Cell)), none, 0, ([] : List (Option Addr × Nat)), [x1], A1, 1, h, ((((hf.nil.cons (hf.get 12 _ rfl)).cons (hf.get 9 _ rfl)).cons (hf.get 8 _ rfl)).cons (hf.get 2 _ rfl)), hs⟩ (fun a w ⟨_, _, _, _, _, _, _, h, _, _⟩ => h) ?_
  clear h hf hs
  rintro kk a w ⟨l5, l5A, l5C, l5as, l6, l6A, l6C, h, hf, hs⟩
  obtain ⟨again2, hagain2⟩ : ∃ X : List (List Cell) → List Cell → Prop, X = (fun l5 l6 => iterF (fun again (s : List (List Cell) × List Cell) => M_ref7_treeOf_L2 g c pins Q l2 (fun l5 l6 => again (l5, l6)) s.1 s.2) kk (l5, l6)) := ⟨_, rfl⟩
  replace h : M_ref7_treeOf_L2 g c pins Q l2 again2 l5 l6 := by rw [hagain2]; exact h
  unfold M_ref7_treeOf_L2 at h
  refine wp_block (wp_seq (R.list ?_))
  refine S.v hf hs (.agg #[iv 0, iv 0, iv 0]) rfl (V.build (places := #[(0, 1), (1, 1), (2, 1)]) rfl Try.zeroValue28 Try.runUnderlying28 (by intro w; simp [Try.sizeOf3]) rfl rfl) fun a hf => ?_
  refine S.alloc hf hs rfl rfl rfl [iv 0, iv 0, iv 0] rfl Try.zeroValue28 rfl (fun g3 a w hf hs => ?_)
  refine S.p hf hs (iv (-1)) rfl rfl fun a hf => ?_
  refine S.storeBox 0 hf hs rfl rfl [iv 0, iv 0, iv 0] [iv 0, iv 0, iv 0] rfl rfl rfl rfl rfl Try.sizeOf28 rfl rfl rfl rfl (fun a w hf hs => ?_)
  refine S.p hf hs (iv 0) rfl rfl fun a hf => ?_
  refine R.nil (X.then_ (wp_seq (wp_seq (R.list ?_))))
  refine S.p hf hs (.slice pinsA pins.length pinsC) rfl rfl fun a hf => ?_
  refine S.v hf hs (iv (pins.length : Int)) rfl (V.len rfl rfl Try.runUnderlying22) fun a hf => ?_
  refine S.p hf hs (iv 0) rfl rfl fun a hf => ?_
  refine R.nil (X.then_ (wp_block ?_))
  have hlenk3 := hv_pins.len64
  refine C.range (fun (ll : List Cell) a w => ∃ (k3 : Nat) (b2 : Cell) (n3 : Int) (n4 : Int), pins.drop k3 = ll ∧ k3 + ll.length = pins.length ∧ forIn' (fun k x (s : Cell × Int × Int) next => M_ref7_treeOf_L3 g c Q l2 l6 k x s.1 s.2.1 s.2.2 (fun b2 n3 n4 => next (b2, n3, n4))) (fun (s : Cell × Int × Int) => (fun (b2 : Cell) (n3 : Int) (n4 : Int) => cnd (decide (n3 < 0)) (Q l5 true) (idx l2 n3 fun x2 => isome x2 fun x3 => M_field_way (⟨g, c, x3.1, x3.2⟩ : R7Field) b2 fun y1 => must (room (l5 ++ [y1]).length 24) (forIn' (fun k x (s : List Cell) next => M_ref7_treeOf_L4 k x s (fun l8 => next l8)) (fun (s : List Cell) => (fun (l8 : List Cell) => again2 (l5 ++ [y1]) l8) s) y1 0 l6))) s.1 s.2.1 s.2.2) ll k3 (b2, n3, n4) ∧ FrOk 114 [(49, iv (k3 : Int)), (2, .slice pinsA pins.length pinsC), (8, .slice l6A l6.length l6C), (9, .slice l2A l2.length l2C), (12, .slice l5A l5.length l5C), (13, iv n3), (14, (pn g3 0)), (15, iv n4), (47, .slice pinsA pins.length pinsC), (48, iv (pins.length : Int))] a ∧ Sat w0 none_ [hbox g3 28 [iv b2.X, iv b2.Y, iv b2.Layer], hrows 22 28 l5A l5C l5as l5, hptrs (B_ref7_treeOf g g_BlockedA g_BlockedC c) 61 l2A l2C l2as l2, hown 28 l6A l6C l6, hbox g2 26 [iv c.Step, iv c.Via, iv c.Turn, iv c.Against], hbox g1 24 [iv g.W, iv g.H, iv g.Layers, .slice g_BlockedA g.Blocked.length g_BlockedC]] w) pins ⟨0, (⟨0, 0, 0⟩ : Cell), (-1), 0, rfl, Nat.zero_add _, h, ((((((((((hf.nil.cons (hf.get 48 _ rfl)).cons (hf.get 47 _ rfl)).cons (hf.get 15 _ rfl)).cons (hf.get 14 _ rfl)).cons (hf.get 13 _ rfl)).cons (hf.get 12 _ rfl)).cons (hf.get 9 _ rfl)).cons (hf.get 8 _ rfl)).cons (hf.get 2 _ rfl)).cons (hf.get 49 _ rfl)), hs⟩ ?_
  clear h hf hs
  rintro llk3 a w ⟨k3, b2, n3, n4, hlk3, hkk3, h, hf, hs⟩
  cases llk3 with
  | nil =>
   have hc := range_done hkk3
   replace h : (fun (b2 : Cell) (n3 : Int) (n4 : Int) => cnd (decide (n3 < 0)) (Q l5 true) (idx l2 n3 fun x2 => isome x2 fun x3 => M_field_way (⟨g, c, x3.1, x3.2⟩ : R7Field) b2 fun y1 => must (room (l5 ++ [y1]).length 24) (forIn' (fun k x (s : List Cell) next => M_ref7_treeOf_L4 k x s (fun l8 => next l8)) (fun (s : List Cell) => (fun (l8 : List Cell) => again2 (l5 ++ [y1]) l8) s) y1 0 l6))) b2 n3 n4 := h
   refine wp_seq (R.list ?_)
   refine S.v hf hs (.bool false) rfl (V.cmp false rfl rfl rfl rfl hc) fun a hf => ?_
   refine R.nil (X.then_ (wp_seq ?_))
   refine C.no hf rfl ?_
   refine wp_exit (X.then_exit (X.then_exit (X.blk_exit (X.then_ (wp_seq (wp_seq (R.list ?_)))))))
   refine S.p hf hs (iv n3) rfl rfl fun a hf => ?_
   refine S.p hf hs (.bool (decide (n3 < 0))) rfl rfl fun a hf => ?_
   refine R.nil (X.then_ ?_)
   refine C.cond hf (b := decide (n3 < 0)) rfl (fun hc => ?_) (fun hc => ?_)
   ·replace h := h.1 hc
    refine wp_seq (R.list ?_)
    refine S.p hf hs (.slice l5A l5.length l5C) rfl rfl fun a hf => ?_
    refine S.p hf hs (.slice l5A l5.length l5C) rfl rfl fun a hf => ?_
    refine S.p hf hs (.bool true) rfl rfl fun a hf => ?_
    refine R.nil (X.then_ (wp_ret (X.then_ret (X.blk_ret (X.then_ret (X.blk_ret ?_))))))
    replace hs := hs.front 1 rfl
    replace hs := hs.take 1
    exact L.ret hf (run_results2 Try.results65 (ResIs.tmp hf rfl) (ResIs.tmp hf rfl)) ⟨l5, l5A, l5C, l5as, true, rfl, h, hs⟩
   ·replace h := h.2 hc
    refine wp_skip (X.then_ (wp_seq ?_))
    refine H.start (S := Sat w0 none_ [hbox g3 28 [iv b2.X, iv b2.Y, iv b2.Layer], hrows 22 28 l5A l5C l5as l5, hptrs (B_ref7_treeOf g g_BlockedA g_BlockedC c) 61 l2A l2C l2as l2, hown 28 l6A l6C l6, hbox g2 26 [iv c.Step, iv c.Via, iv c.Turn, iv c.Against], hbox g1 24 [iv g.W, iv g.H, iv g.Layers, .slice g_BlockedA g.Blocked.length g_BlockedC]]) mo ?_
    replace hs := hs.drew
    refine H.v hf hs (.slice l2A l2.length l2C) 0 rfl rfl (by kernel_rfl) (V.pure rfl) fun a hf => ?_
    refine H.v hf hs (iv n3) 1 rfl rfl (by kernel_rfl) (V.pure rfl) fun a hf => ?_
    obtain ⟨h0x2, x2, hx2, h⟩ := h
    refine H.v hf hs (elemPtr l2A (n3.toNat * 1)) 2 rfl rfl (by kernel_rfl) (V.index rfl rfl rfl Try.runUnderlying114 Try.sizeOf61 (hs.ptrsSome 2 rfl hx2) h0x2 (lt_of_get hx2) rfl) fun a hf => ?_
    obtain ⟨x3, hx3, h⟩ := h
    have hx1 : l2[n3.toNat]? = some (some x3) := by rw [← hx3]; exact hx2
    obtain ⟨gB1, B10, DB10, B11, DB11, hrB1⟩ := hs.ptrAt 2 rfl hx1
    refine H.v hf hs ((pn gB1 0)) 3 rfl rfl (by kernel_rfl) (V.loadPtr 2 rfl hrB1 rfl rfl rfl Try.isAgg61 Try.sizeOf61) fun a hf => ?_
    refine H.v hf hs (.agg #[iv b2.X, iv b2.Y, iv b2.Layer]) 4 rfl rfl (by kernel_rfl) (V.loadBox 0 rfl rfl rfl Try.isAgg28 Try.sizeOf28 rfl rfl) fun a hf => ?_
    refine H.one (i := 5) rfl (by kernel_rfl) ?_
    refine S.call hf rfl rfl rfl (call_fn (vs := [(pn gB1 0), .agg #[iv b2.X, iv b2.Y, iv b2.Layer]]) rfl rfl rfl Try.call46) (R_field_way (⟨g, c, x3.1, x3.2⟩ : R7Field) b2 _ g_BlockedA g_BlockedC ((Ag.args _ _ _).view hv_g_Blocked hs) B10 DB10 (hs.ptrView0 2 rfl hx1 hrB1) B11 DB11 (hs.ptrView1 2 rfl hx1 hrB1) gB1 (hs.ptrBox 2 rfl hx1 hrB1) _ h) (fun v a w' hf hr => ?_)
    obtain ⟨y1, y1A, y1C, rfl, h2, hs2⟩ := hr
    replace h := h2; replace hs := hs.call hs2; clear h2 hs2
    refine R.nil (X.then_ ?_)
    refine ⟨(hs.mask [false, true, true, true, true, true, true]), ?_⟩
    refine H.val hf (hs.mask [false, true, true, true, true, true, true]) (v := .slice y1A y1.length y1C) (i := 6) rfl rfl rfl rfl (by kernel_rfl) (by kernel_rfl) (by kernel_rfl) (V.pure rfl) (fun a hf => ?_)
    refine H.done (by kernel_rfl) ?_
    refine X.then_ (wp_seq (R.list ?_))
    refine S.p hf hs (.slice l5A l5.length l5C) rfl rfl fun a hf => ?_
    refine S.p hf hs (.slice y1A y1.length y1C) rfl rfl fun a hf => ?_
    refine S.build1 hf hs rfl rfl rfl (α := Sl) (⟨y1A, y1.length, y1C⟩ : Sl) rfl rfl rfl Try.runUnderlying47 Try.sizeOf22 Try.zeroValue22 rfl (by decide) (fun A3 a w hf hs => ?_)
    replace hs := hs.front 1 rfl
    obtain ⟨hroom, h⟩ := h
    refine S.appendRow 2 hf hs rfl rfl rfl y1 rfl rfl rfl rfl rfl Try.underlying47 info22 rfl hroom ((hs.ownView 1 rfl).some_ (i := 0) (by simp)) (hs.ownView 1 rfl) (fun A4 C1 a w hf hs => ?_)
    replace hs := hs.drop
    have hx2 : (l5 ++ [y1])[l5.length]? = some y1 := List.getElem?_concat_length
    have hr1 : (l5as ++ [(y1A, y1C)])[l5.length]? = some (y1A, y1C) := rows_last (hs.rowsLen 1 rfl)
    refine S.p hf hs (.slice A4 (l5 ++ [y1]).length C1) rfl rfl fun a hf => ?_
    refine R.nil (X.then_ (wp_seq (R.list ?_)))
    refine S.p hf hs (.slice y1A y1.length y1C) rfl rfl fun a hf => ?_
    refine S.v hf hs (iv (y1.length : Int)) rfl (V.len rfl rfl Try.runUnderlying22) fun a hf => ?_
    refine S.p hf hs (iv 0) rfl rfl fun a hf => ?_
    refine R.nil (X.then_ (wp_block ?_))
    have hlenk4 := (hs.rowView 1 rfl hx2 hr1).len64
    refine C.range (fun (ll : List Cell) a w => ∃ (k4 : Nat) (l8 : List Cell) (l8A : Option Addr) (l8C : Nat), y1.drop k4 = ll ∧ k4 + ll.length = y1.length ∧ forIn' (fun k x (s : List Cell) next => M_ref7_treeOf_L4 k x s (fun l8 => next l8)) (fun (s : List Cell) => (fun (l8 : List Cell) => again2 (l5 ++ [y1]) l8) s) ll k4 l8 ∧ FrOk 114 [(101, iv (k4 : Int)), (2, .slice pinsA pins.length pinsC), (8, .slice l8A l8.length l8C), (9, .slice l2A l2.length l2C), (12, .slice A4 (l5 ++ [y1]).length C1), (99, .slice y1A y1.length y1C), (100, iv (y1.length : Int))] a ∧ Sat w0 none_ [hbox g3 28 [iv b2.X, iv b2.Y, iv b2.Layer], hrows 22 28 A4 C1 (l5as ++ [(y1A, y1C)]) (l5 ++ [y1]), hptrs (B_ref7_treeOf g g_BlockedA g_BlockedC c) 61 l2A l2C l2as l2, hown 28 l8A l8C l8, hbox g2 26 [iv c.Step, iv c.Via, iv c.Turn, iv c.Against], hbox g1 24 [iv g.W, iv g.H, iv g.Layers, .slice g_BlockedA g.Blocked.length g_BlockedC]] w) y1 ⟨0, l6, l6A, l6C, rfl, Nat.zero_add _, h, (((((((hf.nil.cons (hf.get 100 _ rfl)).cons (hf.get 99 _ rfl)).cons (hf.get 12 _ rfl)).cons (hf.get 9 _ rfl)).cons (hf.get 8 _ rfl)).cons (hf.get 2 _ rfl)).cons (hf.get 101 _ rfl)), hs⟩ ?_
    clear h hf hs
    rintro llk4 a w ⟨k4, l8, l8A, l8C, hlk4, hkk4, h, hf, hs⟩
    cases llk4 with
    | nil =>
     have hc := range_done hkk4
     replace h : (fun (l8 : List Cell) => again2 (l5 ++ [y1]) l8) l8 := h
     refine wp_seq (R.list ?_)
     refine S.v hf hs (.bool false) rfl (V.cmp false rfl rfl rfl rfl hc) fun a hf => ?_
     refine R.nil (X.then_ (wp_seq ?_))
     refine C.no hf rfl ?_
     refine wp_exit (X.then_exit (X.then_exit (X.blk_exit (X.blk (X.then_ ?_)))))
     exact ⟨(l5 ++ [y1]), A4, C1, (l5as ++ [(y1A, y1C)]), l8, l8A, l8C, (by rw [hagain2] at h; exact h), ((((hf.nil.cons (hf.get 12 _ rfl)).cons (hf.get 9 _ rfl)).cons (hf.get 8 _ rfl)).cons (hf.get 2 _ rfl)), hs.drop⟩
    | cons xk4 llk4 =>
     have hltk4 := range_lt hkk4; have hc := range_go hkk4; have hxk4 := range_get hlk4
     obtain ⟨next4, hnext4⟩ : ∃ X : List Cell → Prop, X = (fun l8 => forIn' (fun k x (s : List Cell) next => M_ref7_treeOf_L4 k x s (fun l8 => next l8)) (fun (s : List Cell) => (fun (l8 : List Cell) => again2 (l5 ++ [y1]) l8) s) llk4 (k4 + 1) l8) := ⟨_, rfl⟩
     replace h : M_ref7_treeOf_L4 k4 xk4 l8 next4 := by rw [hnext4]; exact h
     unfold M_ref7_treeOf_L4 at h
     refine wp_seq (R.list ?_)
     refine S.v hf hs (.bool true) rfl (V.cmp true rfl rfl rfl rfl hc) fun a hf => ?_
     refine R.nil (X.then_ (wp_seq ?_))
     refine C.yes hf rfl ?_
     refine wp_skip (X.then_ (wp_seq (wp_block (wp_seq (R.list ?_)))))
     refine S.v hf hs (elemPtr y1A (k4 * 3)) rfl (V.index rfl rfl rfl Try.runUnderlying22 Try.sizeOf28 ((hs.rowView 1 rfl hx2 hr1).some_ (lt_of_get hxk4)) (Int.natCast_nonneg _) (lt_of_get hxk4) rfl) fun a hf => ?_
     refine S.v hf hs (.agg #[iv xk4.X, iv xk4.Y, iv xk4.Layer]) rfl (V.loadRowEl (off := 0) 1 rfl hx2 hr1 hxk4 rfl rfl rfl Try.isAgg28 Try.sizeOf28 rfl rfl) fun a hf => ?_
     refine S.alloc hf hs rfl rfl rfl [iv 0, iv 0, iv 0] rfl Try.zeroValue28 rfl (fun g4 a w hf hs => ?_)
     refine S.storeBox 0 hf hs rfl rfl [iv xk4.X, iv xk4.Y, iv xk4.Layer] [iv xk4.X, iv xk4.Y, iv xk4.Layer] rfl rfl rfl rfl rfl Try.sizeOf28 rfl rfl rfl rfl (fun a w hf hs => ?_)
     refine R.nil (X.then_ (wp_seq (R.list ?_)))
     refine S.p hf hs (.slice l8A l8.length l8C) rfl rfl fun a hf => ?_
     refine S.v hf hs (.agg #[iv xk4.X, iv xk4.Y, iv xk4.Layer]) rfl (V.loadBox 0 rfl rfl rfl Try.isAgg28 Try.sizeOf28 rfl rfl) fun a hf => ?_
     refine S.call hf rfl rfl rfl (call_fn (vs := [.slice l8A l8.length l8C, .agg #[iv xk4.X, iv xk4.Y, iv xk4.Layer]]) rfl rfl rfl Try.call71) (R_contains_cell l8 xk4 _ l8A l8C (hs.ownView 4 rfl) _ h) (fun v a w' hf hr => ?_)
     obtain ⟨y2, rfl, h2, hs2⟩ := hr
     replace h := h2; replace hs := hs.call hs2; clear h2 hs2
     refine S.p hf hs (.bool (!y2)) rfl rfl fun a hf => ?_
     refine R.nil (X.then_ ?_)
     refine C.cond hf (b := !y2) rfl (fun hc => ?_) (fun hc => ?_)
     ·replace h := h.1 hc
      refine R.list ?_
      refine S.p hf hs (.slice l8A l8.length l8C) rfl rfl fun a hf => ?_
      refine S.v hf hs (.agg #[iv xk4.X, iv xk4.Y, iv xk4.Layer]) rfl (V.loadBox 0 rfl rfl rfl Try.isAgg28 Try.sizeOf28 rfl rfl) fun a hf => ?_
      refine S.build1 hf hs rfl rfl rfl (α := Cell) xk4 rfl rfl rfl Try.runUnderlying22 Try.sizeOf28 Try.zeroValue28 rfl (by decide) (fun A5 a w hf hs => ?_)
      obtain ⟨hroom, h⟩ := h
      refine S.appendCells 5 hf hs rfl rfl rfl rfl rfl rfl rfl Try.underlying22 info28 rfl hroom ((hs.ownView 0 rfl).some_ (i := 0) (by simp)) (hs.ownView 0 rfl) (fun A6 C2 a w hf hs => ?_)
      replace hs := hs.drop
      refine S.p hf hs (.slice A6 (l8 ++ [xk4]).length C2) rfl rfl fun a hf => ?_
      refine R.nil (X.blk (X.then_ (R.list ?_)))
      refine S.v hf hs (iv ((k4 + 1 : Nat) : Int)) rfl (V.incr rfl rfl rfl hltk4 hlenk4) fun a hf => ?_
      refine S.p hf hs (iv ((k4 + 1 : Nat) : Int)) rfl rfl fun a hf => ?_
      refine R.nil (X.then_ ?_)
      exact ⟨xk4, llk4, rfl, k4 + 1, (l8 ++ [xk4]), A6, C2, range_drop hlk4, range_len hkk4, (by rw [hnext4] at h; exact h), (((((((hf.nil.cons (hf.get 100 _ rfl)).cons (hf.get 99 _ rfl)).cons (hf.get 12 _ rfl)).cons (hf.get 9 _ rfl)).cons (hf.get 8 _ rfl)).cons (hf.get 2 _ rfl)).cons (hf.get 101 _ rfl)), hs.drop⟩
     ·replace h := h.2 hc
      refine wp_skip (X.blk (X.then_ (R.list ?_)))
      refine S.v hf hs (iv ((k4 + 1 : Nat) : Int)) rfl (V.incr rfl rfl rfl hltk4 hlenk4) fun a hf => ?_
      refine S.p hf hs (iv ((k4 + 1 : Nat) : Int)) rfl rfl fun a hf => ?_
      refine R.nil (X.then_ ?_)
      exact ⟨xk4, llk4, rfl, k4 + 1, l8, l8A, l8C, range_drop hlk4, range_len hkk4, (by rw [hnext4] at h; exact h), (((((((hf.nil.cons (hf.get 100 _ rfl)).cons (hf.get 99 _ rfl)).cons (hf.get 12 _ rfl)).cons (hf.get 9 _ rfl)).cons (hf.get 8 _ rfl)).cons (hf.get 2 _ rfl)).cons (hf.get 101 _ rfl)), hs.drop⟩
  | cons xk3 llk3 =>
   have hltk3 := range_lt hkk3; have hc := range_go hkk3; have hxk3 := range_get hlk3
   obtain ⟨next3, hnext3⟩ : ∃ X : Cell → Int → Int → Prop, X = (fun b2 n3 n4 => forIn' (fun k x (s : Cell × Int × Int) next => M_ref7_treeOf_L3 g c Q l2 l6 k x s.1 s.2.1 s.2.2 (fun b2 n3 n4 => next (b2, n3, n4))) (fun (s : Cell × Int × Int) => (fun (b2 : Cell) (n3 : Int) (n4 : Int) => cnd (decide (n3 < 0)) (Q l5 true) (idx l2 n3 fun x2 => isome x2 fun x3 => M_field_way (⟨g, c, x3.1, x3.2⟩ : R7Field) b2 fun y1 => must (room (l5 ++ [y1]).length 24) (forIn' (fun k x (s : List Cell) next => M_ref7_treeOf_L4 k x s (fun l8 => next l8)) (fun (s : List Cell) => (fun (l8 : List Cell) => again2 (l5 ++ [y1]) l8) s) y1 0 l6))) s.1 s.2.1 s.2.2) llk3 (k3 + 1) (b2, n3, n4)) := ⟨_, rfl⟩
   replace h : M_ref7_treeOf_L3 g c Q l2 l6 k3 xk3 b2 n3 n4 next3 := by rw [hnext3]; exact h
   unfold M_ref7_treeOf_L3 at h
   refine wp_seq (R.list ?_)
   refine S.v hf hs (.bool true) rfl (V.cmp true rfl rfl rfl rfl hc) fun a hf => ?_
   refine R.nil (X.then_ (wp_seq ?_))
   refine C.yes hf rfl ?_
   refine wp_skip (X.then_ (wp_seq (wp_block (wp_seq (R.list ?_)))))
   refine S.p hf hs (iv (k3 : Int)) rfl rfl fun a hf => ?_
   refine S.v hf hs (elemPtr pinsA (k3 * 3)) rfl (V.index rfl rfl rfl Try.runUnderlying22 Try.sizeOf28 (hv_pins.some_ (lt_of_get hxk3)) (Int.natCast_nonneg _) (lt_of_get hxk3) rfl) fun a hf => ?_
   refine S.v hf hs (.agg #[iv xk3.X, iv xk3.Y, iv xk3.Layer]) rfl (V.loadEl (off := 0) (Ag.args _ _ _) (hv_pins.flat hxk3) rfl rfl rfl Try.isAgg28 Try.sizeOf28 rfl rfl) fun a hf => ?_
   refine S.alloc hf hs rfl rfl rfl [iv 0, iv 0, iv 0] rfl Try.zeroValue28 rfl (fun g5 a w hf hs => ?_)
   refine S.p hf hs (iv (k3 : Int)) rfl rfl fun a hf => ?_
   refine S.storeBox 0 hf hs rfl rfl [iv xk3.X, iv xk3.Y, iv xk3.Layer] [iv xk3.X, iv xk3.Y, iv xk3.Layer] rfl rfl rfl rfl rfl Try.sizeOf28 rfl rfl rfl rfl (fun a w hf hs => ?_)
   refine R.nil (X.then_ (wp_seq (wp_seq (R.list ?_))))
   refine S.p hf hs (.slice l6A l6.length l6C) rfl rfl fun a hf => ?_
   refine S.v hf hs (.agg #[iv xk3.X, iv xk3.Y, iv xk3.Layer]) rfl (V.loadBox 0 rfl rfl rfl Try.isAgg28 Try.sizeOf28 rfl rfl) fun a hf => ?_
   refine S.call hf rfl rfl rfl (call_fn (vs := [.slice l6A l6.length l6C, .agg #[iv xk3.X, iv xk3.Y, iv xk3.Layer]]) rfl rfl rfl Try.call71) (R_contains_cell l6 xk3 _ l6A l6C (hs.ownView 4 rfl) _ h) (fun v a w' hf hr => ?_)
   obtain ⟨y3, rfl, h2, hs2⟩ := hr
   replace h := h2; replace hs := hs.call hs2; clear h2 hs2
   refine R.nil (X.then_ ?_)
   refine C.cond hf (b := y3) rfl (fun hc => ?_) (fun hc => ?_)
   ·replace h := h.1 hc
    refine wp_exit (X.then_exit (X.blk_exit (X.then_ (R.list ?_))))
    refine S.v hf hs (iv ((k3 + 1 : Nat) : Int)) rfl (V.incr rfl rfl rfl hltk3 hlenk3) fun a hf => ?_
    refine S.p hf hs (iv ((k3 + 1 : Nat) : Int)) rfl rfl fun a hf => ?_
    refine R.nil (X.then_ ?_)
    exact ⟨xk3, llk3, rfl, k3 + 1, b2, n3, n4, range_drop hlk3, range_len hkk3, (by rw [hnext3] at h; exact h), ((((((((((hf.nil.cons (hf.get 48 _ rfl)).cons (hf.get 47 _ rfl)).cons (hf.get 15 _ rfl)).cons (hf.get 14 _ rfl)).cons (hf.get 13 _ rfl)).cons (hf.get 12 _ rfl)).cons (hf.get 9 _ rfl)).cons (hf.get 8 _ rfl)).cons (hf.get 2 _ rfl)).cons (hf.get 49 _ rfl)), hs.drop⟩
   ·replace h := h.2 hc
    refine wp_skip (X.then_ (wp_seq (R.list ?_)))
    refine S.p hf hs (.slice l2A l2.length l2C) rfl rfl fun a hf => ?_
    refine S.p hf hs (iv (k3 : Int)) rfl rfl fun a hf => ?_
    obtain ⟨h0x4, x4, hx4, h⟩ := h
    refine S.v hf hs (elemPtr l2A (k3 * 1)) rfl (V.index rfl rfl rfl Try.runUnderlying114 Try.sizeOf61 (hs.ptrsSome 3 rfl hx4) (Int.natCast_nonneg _) (lt_of_get hx4) rfl) fun a hf => ?_
    obtain ⟨x5, hx5, h⟩ := h
    have hx3 : l2[k3]? = some (some x5) := by rw [← hx5]; exact hx4
    obtain ⟨gB2, B20, DB20, B21, DB21, hrB2⟩ := hs.ptrAt 3 rfl hx3
    refine S.v hf hs ((pn gB2 0)) rfl (V.loadPtr 3 rfl hrB2 rfl rfl rfl Try.isAgg61 Try.sizeOf61) fun a hf => ?_
    refine S.p hf hs (.slice l6A l6.length l6C) rfl rfl fun a hf => ?_
    refine S.call hf rfl rfl rfl (call_fn (vs := [(pn gB2 0), .slice l6A l6.length l6C]) rfl rfl rfl Try.call86) (R_field_nearest (⟨g, c, x5.1, x5.2⟩ : R7Field) l6 _ g_BlockedA g_BlockedC ((Ag.args _ _ _).view hv_g_Blocked hs) B20 DB20 (hs.ptrView0 3 rfl hx3 hrB2) B21 DB21 (hs.ptrView1 3 rfl hx3 hrB2) gB2 (hs.ptrBox 3 rfl hx3 hrB2) l6A l6C (hs.ownView 4 rfl) _ h) (fun v a w' hf hr => ?_)
    obtain ⟨y4, y5, rfl, h2, hs2⟩ := hr
    replace h := h2; replace hs := hs.call hs2; clear h2 hs2
    refine S.p hf hs (.tuple #[.agg #[iv y4.X, iv y4.Y, iv y4.Layer], .bool y5]) rfl rfl fun a hf => ?_
    refine S.p hf hs (.agg #[iv y4.X, iv y4.Y, iv y4.Layer]) rfl rfl fun a hf => ?_
    refine S.p hf hs (.bool y5) rfl rfl fun a hf => ?_
    refine S.alloc hf hs rfl rfl rfl [iv 0, iv 0, iv 0] rfl Try.zeroValue28 rfl (fun g6 a w hf hs => ?_)
    refine S.storeBox 0 hf hs rfl rfl [iv y4.X, iv y4.Y, iv y4.Layer] [iv y4.X, iv y4.Y, iv y4.Layer] rfl rfl rfl rfl rfl Try.sizeOf28 rfl rfl rfl rfl (fun a w hf hs => ?_)
    refine S.p hf hs (.bool y5) rfl rfl fun a hf => ?_
    refine R.nil (X.then_ (wp_seq (wp_seq (R.list ?_))))
    refine S.p hf hs (.bool y5) rfl rfl fun a hf => ?_
    refine S.p hf hs (.bool (!y5)) rfl rfl fun a hf => ?_
    refine R.nil (X.then_ ?_)
    refine C.cond hf (b := !y5) rfl (fun hc => ?_) (fun hc => ?_)
    ·replace h := h.1 hc
     refine wp_seq (R.list ?_)
     refine S.p hf hs (.slice none 0 0) rfl rfl fun a hf => ?_
     refine S.p hf hs (.bool false) rfl rfl fun a hf => ?_
     refine R.nil (X.then_ (wp_ret (X.then_ret (X.blk_ret (X.then_ret (X.then_ret (X.blk_ret (X.then_ret (X.blk_ret (X.then_ret (X.blk_ret ?_)))))))))))
     replace hs := hs.nilRows (α := (List Cell)) 22 28
     replace hs := hs.take 1
     exact L.ret hf (run_results2 Try.results65 (ResIs.tmp hf rfl) (ResIs.tmp hf rfl)) ⟨([] : List (List Cell)), none, 0, [], false, rfl, h, hs⟩
    ·replace h := h.2 hc
     refine wp_skip (X.then_ (wp_seq ?_))
     refine H.start (S := Sat w0 none_ [hbox g6 28 [iv y4.X, iv y4.Y, iv y4.Layer], hbox g5 28 [iv xk3.X, iv xk3.Y, iv xk3.Layer], hbox g3 28 [iv b2.X, iv b2.Y, iv b2.Layer], hrows 22 28 l5A l5C l5as l5, hptrs (B_ref7_treeOf g g_BlockedA g_BlockedC c) 61 l2A l2C l2as l2, hown 28 l6A l6C l6, hbox g2 26 [iv c.Step, iv c.Via, iv c.Turn, iv c.Against], hbox g1 24 [iv g.W, iv g.H, iv g.Layers, .slice g_BlockedA g.Blocked.length g_BlockedC]]) mo ?_
     replace hs := hs.drew
     refine H.v hf hs (.slice l2A l2.length l2C) 0 rfl rfl (by kernel_rfl) (V.pure rfl) fun a hf => ?_
     refine H.v hf hs (iv (k3 : Int)) 1 rfl rfl (by kernel_rfl) (V.pure rfl) fun a hf => ?_
     refine H.v hf hs (elemPtr l2A (k3 * 1)) 2 rfl rfl (by kernel_rfl) (V.index rfl rfl rfl Try.runUnderlying114 Try.sizeOf61 (hs.ptrsSome 4 rfl hx4) (Int.natCast_nonneg _) (lt_of_get hx4) rfl) fun a hf => ?_
     refine H.v hf hs ((pn gB2 0)) 3 rfl rfl (by kernel_rfl) (V.loadPtr 4 rfl hrB2 rfl rfl rfl Try.isAgg61 Try.sizeOf61) fun a hf => ?_
     refine H.v hf hs (.agg #[iv y4.X, iv y4.Y, iv y4.Layer]) 4 rfl rfl (by kernel_rfl) (V.loadBox 0 rfl rfl rfl Try.isAgg28 Try.sizeOf28 rfl rfl) fun a hf => ?_
     refine H.one (i := 5) rfl (by kernel_rfl) ?_
     refine S.call hf rfl rfl rfl (call_fn (vs := [(pn gB2 0), .agg #[iv y4.X, iv y4.Y, iv y4.Layer]]) rfl rfl rfl Try.call39) (R_field_from (⟨g, c, x5.1, x5.2⟩ : R7Field) y4 _ g_BlockedA g_BlockedC ((Ag.args _ _ _).view hv_g_Blocked hs) B20 DB20 (hs.ptrView0 4 rfl hx3 hrB2) B21 DB21 (hs.ptrView1 4 rfl hx3 hrB2) gB2 (hs.ptrBox 4 rfl hx3 hrB2) _ h) (fun v a w' hf hr => ?_)
     obtain ⟨y6, rfl, h2, hs2⟩ := hr
     replace h := h2; replace hs := hs.call hs2; clear h2 hs2
     refine R.nil (X.then_ ?_)
     refine ⟨hs, ?_⟩
     refine H.v hf hs (iv y6.cost) 6 rfl rfl (by kernel_rfl) (V.field rfl rfl Try.runUnderlying60 rfl (fun w => part_leaf Try.isAgg3 rfl)) fun a hf => ?_
     refine H.v hf hs (iv y6.cost) 7 rfl rfl (by kernel_rfl) (V.pure rfl) fun a hf => ?_
     refine H.done (by kernel_rfl) ?_
     refine X.then_ (wp_seq ?_)
     refine C.cut (J := fun a w => ∃ (c1 : Bool), M_ref7_treeOf_k5 k3 b2 n3 n4 next3 y4 y6 c1 ∧ FrOk 114 [(2, .slice pinsA pins.length pinsC), (8, .slice l6A l6.length l6C), (9, .slice l2A l2.length l2C), (12, .slice l5A l5.length l5C), (13, iv n3), (14, (pn g3 0)), (15, iv n4), (16, iv (k3 : Int)), (18, (pn g6 0)), (20, iv y6.cost), (47, .slice pinsA pins.length pinsC), (48, iv (pins.length : Int)), (49, iv (k3 : Int)), (81, .bool c1)] a ∧ Sat w0 none_ [hbox g6 28 [iv y4.X, iv y4.Y, iv y4.Layer], hbox g5 28 [iv xk3.X, iv xk3.Y, iv xk3.Layer], hbox g3 28 [iv b2.X, iv b2.Y, iv b2.Layer], hrows 22 28 l5A l5C l5as l5, hptrs (B_ref7_treeOf g g_BlockedA g_BlockedC c) 61 l2A l2C l2as l2, hown 28 l6A l6C l6, hbox g2 26 [iv c.Step, iv c.Via, iv c.Turn, iv c.Against], hbox g1 24 [iv g.W, iv g.H, iv g.Layers, .slice g_BlockedA g.Blocked.length g_BlockedC]] w) ?_ ?_
     ·rintro a w ⟨c1, h, hf, hs⟩
      unfold M_ref7_treeOf_k5 at h
      refine C.cond hf (b := c1) rfl (fun hc => ?_) (fun hc => ?_)
      ·replace h := h.1 hc
       refine M.start 4 (Sat w0 none_ [hbox g6 28 [iv y4.X, iv y4.Y, iv y4.Layer], hbox g5 28 [iv xk3.X, iv xk3.Y, iv xk3.Layer], hbox g3 28 [iv b2.X, iv b2.Y, iv b2.Layer], hrows 22 28 l5A l5C l5as l5, hptrs (B_ref7_treeOf g g_BlockedA g_BlockedC c) 61 l2A l2C l2as l2, hown 28 l6A l6C l6, hbox g2 26 [iv c.Step, iv c.Via, iv c.Turn, iv c.Against], hbox g1 24 [iv g.W, iv g.H, iv g.Layers, .slice g_BlockedA g.Blocked.length g_BlockedC]]) mo ?_
       replace hs := hs.drew
       refine M.v hf hs (iv (k3 : Int)) 0 rfl rfl (by kernel_rfl) (V.pure rfl) fun a hf => ?_
       refine M.v hf hs (.agg #[iv y4.X, iv y4.Y, iv y4.Layer]) 1 rfl rfl (by kernel_rfl) (V.loadBox 0 rfl rfl rfl Try.isAgg28 Try.sizeOf28 rfl rfl) fun a hf => ?_
       refine M.valp hf hs (v := iv y6.cost) (i := 2) rfl rfl rfl rfl (by kernel_rfl) (by kernel_rfl) (by kernel_rfl) rfl (fun w1 => V.pure rfl) (fun a hf => ?_)
       refine M.v hf hs (iv (k3 : Int)) 3 rfl rfl (by kernel_rfl) (V.pure rfl) fun a hf => ?_
       refine M.last (i := 4) rfl (by kernel_rfl) (by kernel_rfl) ?_
       refine S.storeBox 2 hf hs rfl rfl [iv y4.X, iv y4.Y, iv y4.Layer] [iv y4.X, iv y4.Y, iv y4.Layer] rfl rfl rfl rfl rfl Try.sizeOf28 rfl rfl rfl rfl (fun a w hf hs => ?_)
       refine R.nil (X.then_ ?_)
       refine M.last (i := 5) rfl (by kernel_rfl) (by kernel_rfl) ?_
       refine S.p hf hs (iv y6.cost) rfl rfl fun a hf => ?_
       refine R.nil (X.then_ ?_)
       refine M.done (by kernel_rfl) ?_
       refine X.blk (X.then_ (R.list ?_))
       refine S.v hf hs (iv ((k3 + 1 : Nat) : Int)) rfl (V.incr rfl rfl rfl hltk3 hlenk3) fun a hf => ?_
       refine S.p hf hs (iv ((k3 + 1 : Nat) : Int)) rfl rfl fun a hf => ?_
       refine R.nil (X.then_ ?_)
       exact ⟨xk3, llk3, rfl, k3 + 1, y4, (k3 : Int), y6.cost, range_drop hlk3, range_len hkk3, (by rw [hnext3] at h; exact h), ((((((((((hf.nil.cons (hf.get 48 _ rfl)).cons (hf.get 47 _ rfl)).cons (hf.get 15 _ rfl)).cons (hf.get 14 _ rfl)).cons (hf.get 13 _ rfl)).cons (hf.get 12 _ rfl)).cons (hf.get 9 _ rfl)).cons (hf.get 8 _ rfl)).cons (hf.get 2 _ rfl)).cons (hf.get 49 _ rfl)), hs.drop.drop⟩
      ·replace h := h.2 hc
       refine wp_skip (X.blk (X.then_ (R.list ?_)))
       refine S.v hf hs (iv ((k3 + 1 : Nat) : Int)) rfl (V.incr rfl rfl rfl hltk3 hlenk3) fun a hf => ?_
       refine S.p hf hs (iv ((k3 + 1 : Nat) : Int)) rfl rfl fun a hf => ?_
       refine R.nil (X.then_ ?_)
       exact ⟨xk3, llk3, rfl, k3 + 1, b2, n3, n4, range_drop hlk3, range_len hkk3, (by rw [hnext3] at h; exact h), ((((((((((hf.nil.cons (hf.get 48 _ rfl)).cons (hf.get 47 _ rfl)).cons (hf.get 15 _ rfl)).cons (hf.get 14 _ rfl)).cons (hf.get 13 _ rfl)).cons (hf.get 12 _ rfl)).cons (hf.get 9 _ rfl)).cons (hf.get 8 _ rfl)).cons (hf.get 2 _ rfl)).cons (hf.get 49 _ rfl)), hs.drop.drop⟩
     ·skip
      refine R.list ?_
      refine S.p hf hs (iv n3) rfl rfl fun a hf => ?_
      refine S.p hf hs (.bool (decide (n3 < 0))) rfl rfl fun a hf => ?_
      refine S.split hf hs (b := decide (n3 < 0)) rfl rfl rfl (V.pure rfl) (fun hc a hf => ?_) (fun hc a hf => ?_)
      ·replace h := h.1 hc
       refine S.k hf rfl fun a hf => ?_
       refine S.k hf rfl fun a hf => ?_
       refine S.k hf rfl fun a hf => ?_
       refine S.p hf hs (.bool true) rfl rfl fun a hf => ?_
       refine R.nil (X.then_ ?_)
       exact ⟨true, h, ((((((((((((((hf.nil.cons (hf.get 81 _ rfl)).cons (hf.get 49 _ rfl)).cons (hf.get 48 _ rfl)).cons (hf.get 47 _ rfl)).cons (hf.get 20 _ rfl)).cons (hf.get 18 _ rfl)).cons (hf.get 16 _ rfl)).cons (hf.get 15 _ rfl)).cons (hf.get 14 _ rfl)).cons (hf.get 13 _ rfl)).cons (hf.get 12 _ rfl)).cons (hf.get 9 _ rfl)).cons (hf.get 8 _ rfl)).cons (hf.get 2 _ rfl)), hs⟩
      ·replace h := h.2 hc
       refine S.p hf hs (iv y6.cost) rfl rfl fun a hf => ?_
       refine S.p hf hs (iv n4) rfl rfl fun a hf => ?_
       refine S.p hf hs (.bool (decide (y6.cost < n4))) rfl rfl fun a hf => ?_
       refine S.p hf hs (.bool (decide (y6.cost < n4))) rfl rfl fun a hf => ?_
       refine R.nil (X.then_ ?_)
       exact ⟨(decide (y6.cost < n4)), h, ((((((((((((((hf.nil.cons (hf.get 81 _ rfl)).cons (hf.get 49 _ rfl)).cons (hf.get 48 _ rfl)).cons (hf.get 47 _ rfl)).cons (hf.get 20 _ rfl)).cons (hf.get 18 _ rfl)).cons (hf.get 16 _ rfl)).cons (hf.get 15 _ rfl)).cons (hf.get 14 _ rfl)).cons (hf.get 13 _ rfl)).cons (hf.get 12 _ rfl)).cons (hf.get 9 _ rfl)).cons (hf.get 8 _ rfl)).cons (hf.get 2 _ rfl)), hs⟩
 | cons xk1 llk1 =>
  have hltk1 := range_lt hkk1; have hc := range_go hkk1; have hxk1 := range_get hlk1
  obtain ⟨next1, hnext1⟩ : ∃ X : List (Option ((List Bool) × (List R7Worth))) → Prop, X = (fun l2 => forIn' (fun k x (s : List (Option ((List Bool) × (List R7Worth)))) next => M_ref7_treeOf_L1 g c k x s (fun l2 => next l2)) (fun (s : List (Option ((List Bool) × (List R7Worth)))) => (fun (l2 : List (Option ((List Bool) × (List R7Worth)))) => lp (fun again (s : List (List Cell) × List Cell) => M_ref7_treeOf_L2 g c pins Q l2 (fun l5 l6 => again (l5, l6)) s.1 s.2) (([] : List (List Cell)), [x1])) s) llk1 (k1 + 1) l2) := ⟨_, rfl⟩
  replace h : M_ref7_treeOf_L1 g c k1 xk1 l2 next1 := by rw [hnext1]; exact h
  unfold M_ref7_treeOf_L1 at h
  refine wp_seq (R.list ?_)
  refine S.v hf hs (.bool true) rfl (V.cmp true rfl rfl rfl rfl hc) fun a hf => ?_
  refine R.nil (X.then_ (wp_seq ?_))
  refine C.yes hf rfl ?_
  refine wp_skip (X.then_ (wp_seq (wp_block (wp_seq (R.list ?_)))))
  refine S.p hf hs (iv (k1 : Int)) rfl rfl fun a hf => ?_
  refine S.v hf hs (elemPtr pinsA (k1 * 3)) rfl (V.index rfl rfl rfl Try.runUnderlying22 Try.sizeOf28 (hv_pins.some_ (lt_of_get hxk1)) (Int.natCast_nonneg _) (lt_of_get hxk1) rfl) fun a hf => ?_
  refine S.v hf hs (.agg #[iv xk1.X, iv xk1.Y, iv xk1.Layer]) rfl (V.loadEl (off := 0) (Ag.args _ _ _) (hv_pins.flat hxk1) rfl rfl rfl Try.isAgg28 Try.sizeOf28 rfl rfl) fun a hf => ?_
  refine S.alloc hf hs rfl rfl rfl [iv 0, iv 0, iv 0] rfl Try.zeroValue28 rfl (fun g7 a w hf hs => ?_)
  refine S.p hf hs (iv (k1 : Int)) rfl rfl fun a hf => ?_
  refine S.storeBox 0 hf hs rfl rfl [iv xk1.X, iv xk1.Y, iv xk1.Layer] [iv xk1.X, iv xk1.Y, iv xk1.Layer] rfl rfl rfl rfl rfl Try.sizeOf28 rfl rfl rfl rfl (fun a w hf hs => ?_)
  refine R.nil (X.then_ (R.list ?_))
  refine S.p hf hs (.slice l2A l2.length l2C) rfl rfl fun a hf => ?_
  refine S.p hf hs (iv (k1 : Int)) rfl rfl fun a hf => ?_
  refine S.v hf hs (.agg #[iv g.W, iv g.H, iv g.Layers, .slice g_BlockedA g.Blocked.length g_BlockedC]) rfl (V.loadBox 4 rfl rfl rfl Try.isAgg24 Try.sizeOf24 rfl rfl) fun a hf => ?_
  refine S.v hf hs (.agg #[iv c.Step, iv c.Via, iv c.Turn, iv c.Against]) rfl (V.loadBox 3 rfl rfl rfl Try.isAgg26 Try.sizeOf26 rfl rfl) fun a hf => ?_
  refine S.v hf hs (.agg #[iv xk1.X, iv xk1.Y, iv xk1.Layer]) rfl (V.loadBox 0 rfl rfl rfl Try.isAgg28 Try.sizeOf28 rfl rfl) fun a hf => ?_
  refine S.call hf rfl rfl rfl (call_fn (vs := [.agg #[iv g.W, iv g.H, iv g.Layers, .slice g_BlockedA g.Blocked.length g_BlockedC], .agg #[iv c.Step, iv c.Via, iv c.Turn, iv c.Against], .agg #[iv xk1.X, iv xk1.Y, iv xk1.Layer]]) rfl rfl rfl Try.call38) (R_ref7_fieldOf g c xk1 _ g_BlockedA g_BlockedC ((Ag.args _ _ _).view hv_g_Blocked hs) _ h) (fun v a w' hf hr => ?_)
  rcases hr with ⟨rfl, h2, hs2⟩ | ⟨y7, y7g, y7A0, y7C0, y7A1, y7C1, rfl, h2, hs2⟩
  ·replace h := h2.1 rfl; replace hs := hs.call hs2; clear h2 hs2
   exact h.elim
  ·replace h := h2.2 _ rfl; replace hs := hs.call hs2; clear h2 hs2
   obtain ⟨h0x6, x6, hx6, h⟩ := h
   refine S.v hf hs (elemPtr l2A (k1 * 1)) rfl (V.index rfl rfl rfl Try.runUnderlying114 Try.sizeOf61 (hs.ptrsSome 4 rfl hx6) (Int.natCast_nonneg _) (lt_of_get hx6) rfl) fun a hf => ?_
   replace hs := hs.front 2 rfl
   replace hs := hs.front 2 rfl
   replace hs := hs.front 2 rfl
   refine S.putPtr (b := (B_ref7_treeOf g g_BlockedA g_BlockedC c)) 1 hf hs rfl rfl (y7.1, y7.2) rfl hx6 rfl rfl rfl rfl rfl rfl rfl Try.sizeOf61 (fun a w hf hs => ?_)
   replace hf := hf.tell 9 (v := .slice l2A (l2.set k1 (some (y7.1, y7.2))).length l2C) ((hf.get 9 (.slice l2A l2.length l2C) rfl).trans (congrArg (fun n => Value.slice l2A n l2C) List.length_set.symm))
   replace hf := hf.tell 38 (v := .slice l2A (l2.set k1 (some (y7.1, y7.2))).length l2C) ((hf.get 38 (.slice l2A l2.length l2C) rfl).trans (congrArg (fun n => Value.slice l2A n l2C) List.length_set.symm))
   refine R.nil (X.blk (X.then_ (R.list ?_)))
   refine S.v hf hs (iv ((k1 + 1 : Nat) : Int)) rfl (V.incr rfl rfl rfl hltk1 hlenk1) fun a hf => ?_
   refine S.p hf hs (iv ((k1 + 1 : Nat) : Int)) rfl rfl fun a hf => ?_
   refine R.nil (X.then_ ?_)
   exact ⟨xk1, llk1, rfl, k1 + 1, (l2.set k1 (some (y7.1, y7.2))), l2A, l2C, (l2as.set k1 ⟨some y7g, y7A0, y7C0, y7A1, y7C1⟩), range_drop hlk1, range_len hkk1, (by rw [hnext1] at h; exact h), ((((((((hf.nil.cons (hf.get 32 _ rfl)).cons (hf.get 31 _ rfl)).cons (hf.get 9 _ rfl)).cons (hf.get 8 _ rfl)).cons (hf.get 4 _ rfl)).cons (hf.get 3 _ rfl)).cons (hf.get 2 _ rfl)).cons (hf.get 33 _ rfl)), hs.drop⟩
set_option linter.unusedVariables false
def M_ref7_Tree (g : Grid) (c : Costs) (pins : (List Cell)) (Q : (List (List Cell)) → Bool → Int → Prop) : Prop :=
  M_ref7_askGrid g c fun y1 => cnd (y1 != 0) (Q ([] : List (List Cell)) false y1) (M_ref7_checkPins g pins 50 fun y2 => cnd (y2 != 0) (Q ([] : List (List Cell)) false y2) (M_ref7_treeOf g c pins fun y3 y4 => Q y3 y4 0))
set_option maxHeartbeats 1000000 in
theorem R_ref7_Tree (g : Grid) (c : Costs) (pins : (List Cell)) (w0 : World) (g_BlockedA : Option Addr) (g_BlockedC : Nat) (hv_g_Blocked : View w0 (old w0 none_) g_BlockedA g_BlockedC g.Blocked) (pinsA : Option Addr) (pinsC : Nat) (hv_pins : View w0 (old w0 none_) pinsA pinsC pins) (Q : (List (List Cell)) → Bool → Int → Prop) (h : M_ref7_Tree g c pins Q) :
  Ret Try.prog 31 #[.agg #[iv g.W, iv g.H, iv g.Layers, .slice g_BlockedA g.Blocked.length g_BlockedC], .agg #[iv c.Step, iv c.Via, iv c.Turn, iv c.Against], .slice pinsA pins.length pinsC] w0 fun v w' => ∃ (r0 : (List (List Cell))) (r0A : Option Addr) (r0C : Nat) (r0as : List (Option Addr × Nat)) (r1 : Bool) (r2 : Int), v = .tuple #[.slice r0A r0.length r0C, .bool r1, iv r2] ∧ Q r0 r1 r2 ∧ Sat w0 none_ [hrows 22 28 r0A r0C r0as r0] w' := by
 refine fn_enter Try.func31 rfl Try.ntmps31 rfl (fs := [(0, .agg #[iv g.W, iv g.H, iv g.Layers, .slice g_BlockedA g.Blocked.length g_BlockedC]), (1, .agg #[iv c.Step, iv c.Via, iv c.Turn, iv c.Against]), (2, .slice pinsA pins.length pinsC)]) rfl (fun a hf => ?_)
 have hs := Sat.start w0 none_
 unfold M_ref7_Tree at h
 refine wp_seq (R.list ?_)
 refine S.box hf hs rfl rfl rfl [iv g.W, iv g.H, iv g.Layers, .slice g_BlockedA g.Blocked.length g_BlockedC] rfl rfl rfl (fun g1 a w hf hs => ?_)
 refine S.box hf hs rfl rfl rfl [iv c.Step, iv c.Via, iv c.Turn, iv c.Against] rfl rfl rfl (fun g2 a w hf hs => ?_)
 refine S.p hf hs (.slice none 0 0) rfl rfl fun a hf => ?_
 refine S.p hf hs (.bool false) rfl rfl fun a hf => ?_
 refine S.p hf hs (iv 0) rfl rfl fun a hf => ?_
 refine R.nil (X.then_ (wp_seq (wp_seq (R.list ?_))))
 refine S.v hf hs (.agg #[iv g.W, iv g.H, iv g.Layers, .slice g_BlockedA g.Blocked.length g_BlockedC]) rfl (V.loadBox 1 rfl rfl rfl Try.isAgg24 Try.sizeOf24 rfl rfl) fun a hf => ?_
 refine S.v hf hs (.agg #[iv c.Step, iv c.Via, iv c.Turn, iv c.Against]) rfl (V.loadBox 0 rfl rfl rfl Try.isAgg26 Try.sizeOf26 rfl rfl) fun a hf => ?_
 refine S.call hf rfl rfl rfl (call_fn (vs := [.agg #[iv g.W, iv g.H, iv g.Layers, .slice g_BlockedA g.Blocked.length g_BlockedC], .agg #[iv c.Step, iv c.Via, iv c.Turn, iv c.Against]]) rfl rfl rfl Try.call51) (R_ref7_askGrid g c _ g_BlockedA g_BlockedC ((Ag.args _ _ _).view hv_g_Blocked hs) _ h) (fun v a w' hf hr => ?_)
 obtain ⟨y1, rfl, h2, hs2⟩ := hr
 replace h := h2; replace hs := hs.call hs2; clear h2 hs2
 refine S.p hf hs (iv y1) rfl rfl fun a hf => ?_
 refine R.nil (X.then_ (wp_seq (R.list ?_)))
 refine S.p hf hs (iv y1) rfl rfl fun a hf => ?_
 refine S.p hf hs (.bool (y1 != 0)) rfl rfl fun a hf => ?_
 refine R.nil (X.then_ ?_)
 refine C.cond hf (b := y1 != 0) rfl (fun hc => ?_) (fun hc => ?_)
 ·replace h := h.1 hc
  refine wp_seq (R.list ?_)
  refine S.p hf hs (iv y1) rfl rfl fun a hf => ?_
  refine S.p hf hs (.slice none 0 0) rfl rfl fun a hf => ?_
  refine S.p hf hs (.bool false) rfl rfl fun a hf => ?_
  refine S.p hf hs (iv y1) rfl rfl fun a hf => ?_
  refine R.nil (X.then_ (wp_ret (X.then_ret ?_)))
  replace hs := hs.nilRows (α := (List Cell)) 22 28
  replace hs := hs.take 1
  exact L.ret hf (run_results3 Try.results31 (ResIs.tmp hf rfl) (ResIs.tmp hf rfl) (ResIs.tmp hf rfl)) ⟨([] : List (List Cell)), none, 0, [], false, y1, rfl, h, hs⟩
 ·replace h := h.2 hc
  refine wp_skip (X.then_ (wp_seq (wp_seq (R.list ?_))))
  refine S.v hf hs (.agg #[iv g.W, iv g.H, iv g.Layers, .slice g_BlockedA g.Blocked.length g_BlockedC]) rfl (V.loadBox 1 rfl rfl rfl Try.isAgg24 Try.sizeOf24 rfl rfl) fun a hf => ?_
  refine S.p hf hs (.slice pinsA pins.length pinsC) rfl rfl fun a hf => ?_
  refine S.call hf rfl rfl rfl (call_fn (vs := [.agg #[iv g.W, iv g.H, iv g.Layers, .slice g_BlockedA g.Blocked.length g_BlockedC], .slice pinsA pins.length pinsC, iv 50]) rfl rfl rfl Try.call59) (R_ref7_checkPins g pins 50 _ g_BlockedA g_BlockedC ((Ag.args _ _ _).view hv_g_Blocked hs) pinsA pinsC ((Ag.args _ _ _).view hv_pins hs) _ h) (fun v a w' hf hr => ?_)
  obtain ⟨y2, rfl, h2, hs2⟩ := hr
  replace h := h2; replace hs := hs.call hs2; clear h2 hs2
  refine S.p hf hs (iv y2) rfl rfl fun a hf => ?_
  refine R.nil (X.then_ (wp_seq (R.list ?_)))
  refine S.p hf hs (iv y2) rfl rfl fun a hf => ?_
  refine S.p hf hs (.bool (y2 != 0)) rfl rfl fun a hf => ?_
  refine R.nil (X.then_ ?_)
  refine C.cond hf (b := y2 != 0) rfl (fun hc => ?_) (fun hc => ?_)
  ·replace h := h.1 hc
   refine wp_seq (R.list ?_)
   refine S.p hf hs (iv y2) rfl rfl fun a hf => ?_
   refine S.p hf hs (.slice none 0 0) rfl rfl fun a hf => ?_
   refine S.p hf hs (.bool false) rfl rfl fun a hf => ?_
   refine S.p hf hs (iv y2) rfl rfl fun a hf => ?_
   refine R.nil (X.then_ (wp_ret (X.then_ret ?_)))
   replace hs := hs.nilRows (α := (List Cell)) 22 28
   replace hs := hs.take 1
   exact L.ret hf (run_results3 Try.results31 (ResIs.tmp hf rfl) (ResIs.tmp hf rfl) (ResIs.tmp hf rfl)) ⟨([] : List (List Cell)), none, 0, [], false, y2, rfl, h, hs⟩
  ·replace h := h.2 hc
   refine wp_skip (X.then_ (wp_seq (R.list ?_)))
   refine S.v hf hs (.agg #[iv g.W, iv g.H, iv g.Layers, .slice g_BlockedA g.Blocked.length g_BlockedC]) rfl (V.loadBox 1 rfl rfl rfl Try.isAgg24 Try.sizeOf24 rfl rfl) fun a hf => ?_
   refine S.v hf hs (.agg #[iv c.Step, iv c.Via, iv c.Turn, iv c.Against]) rfl (V.loadBox 0 rfl rfl rfl Try.isAgg26 Try.sizeOf26 rfl rfl) fun a hf => ?_
   refine S.p hf hs (.slice pinsA pins.length pinsC) rfl rfl fun a hf => ?_
   refine S.call hf rfl rfl rfl (call_fn (vs := [.agg #[iv g.W, iv g.H, iv g.Layers, .slice g_BlockedA g.Blocked.length g_BlockedC], .agg #[iv c.Step, iv c.Via, iv c.Turn, iv c.Against], .slice pinsA pins.length pinsC]) rfl rfl rfl Try.call65) (R_ref7_treeOf g c pins _ g_BlockedA g_BlockedC ((Ag.args _ _ _).view hv_g_Blocked hs) pinsA pinsC ((Ag.args _ _ _).view hv_pins hs) _ h) (fun v a w' hf hr => ?_)
   obtain ⟨y3, y3A, y3C, y3as, y4, rfl, h2, hs2⟩ := hr
   replace h := h2; replace hs := hs.call hs2; clear h2 hs2
   refine S.p hf hs (.tuple #[.slice y3A y3.length y3C, .bool y4]) rfl rfl fun a hf => ?_
   refine S.p hf hs (.slice y3A y3.length y3C) rfl rfl fun a hf => ?_
   refine S.p hf hs (.bool y4) rfl rfl fun a hf => ?_
   refine S.p hf hs (.slice y3A y3.length y3C) rfl rfl fun a hf => ?_
   refine S.p hf hs (.bool y4) rfl rfl fun a hf => ?_
   refine R.nil (X.then_ (wp_seq (R.list ?_)))
   refine S.p hf hs (.slice y3A y3.length y3C) rfl rfl fun a hf => ?_
   refine S.p hf hs (.bool y4) rfl rfl fun a hf => ?_
   refine S.p hf hs (.slice y3A y3.length y3C) rfl rfl fun a hf => ?_
   refine S.p hf hs (.bool y4) rfl rfl fun a hf => ?_
   refine S.p hf hs (iv 0) rfl rfl fun a hf => ?_
   refine R.nil (X.then_ (wp_ret ?_))
   replace hs := hs.take 1
   exact L.ret hf (run_results3 Try.results31 (ResIs.tmp hf rfl) (ResIs.tmp hf rfl) (ResIs.tmp hf rfl)) ⟨y3, y3A, y3C, y3as, y4, 0, rfl, h, hs⟩
end Go.Proofs.Ytihjaehkdgdenaa
