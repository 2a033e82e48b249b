/- Chapter texts of ours, as far as the claim needs them. -/
import Derived.Test.YtihjaehkdgdenaaGreatDoorRtG
namespace Go.Proofs.YtihjaehkdgdenaaGreatDoor
open Go Go.RowKit
set_option linter.unusedVariables false
set_option linter.unusedSectionVars false
set_option maxHeartbeats 1000000
set_option linter.unusedSimpArgs false
def M_ref7_checkWay_k2 (w_ : (List Cell)) (Q : Int → Prop) (k1 : Nat) (xk1 : Cell) (next1 : Prop) (c1 : Bool) : Prop :=
  cnd c1 (Q 3) (must (0 ≤ (0 : Int) ∧ (0 : Int) ≤ (k1 : Int) ∧ (k1 : Int) ≤ (w_.length : Int)) (M_contains_cell (seg w_ (0 : Int) (k1 : Int)) xk1 fun y3 => cnd y3 (Q 7) (next1)))
def M_ref7_checkWay_L1 (g : Grid) (w_ : (List Cell)) (Q : Int → Prop) (k1 : Nat) (xk1 : Cell)  (next1 : Prop) : Prop :=
  M_ref7_isCell g xk1 fun y1 => cnd (!y1) (Q 1) (M_contains_cell g.Blocked xk1 fun y2 => cnd y2 (Q 14) (cnd (decide ((k1 : Int) > 0)) (idx w_ (w64 ((k1 : Int) - 1)) fun x1 => M_ref7_along x1 xk1 fun y4 => M_ref7_checkWay_k2 w_ Q k1 xk1 next1 (y4 == 0)) (M_ref7_checkWay_k2 w_ Q k1 xk1 next1 false)))
def M_ref7_checkWay (g : Grid) (w_ : (List Cell)) (Q : Int → Prop) : Prop :=
  cnd ((w_.length : Int) == 0) (Q 9) (cnd (decide ((w_.length : Int) > 40000)) (Q 2) (forIn' (fun k x (s : Unit) next => M_ref7_checkWay_L1 g w_ Q k x (next ())) (fun (s : Unit) => Q 0) w_ 0 ()))
theorem R_ref7_checkWay (g : Grid) (w_ : (List Cell)) (w0 : World) (g_BlockedA : Option Addr) (g_BlockedC : Nat) (hv_g_Blocked : View w0 (old w0 none_) g_BlockedA g_BlockedC g.Blocked) (w_A : Option Addr) (w_C : Nat) (hv_w_ : View w0 (old w0 none_) w_A w_C w_) (Q : Int → Prop) (h : M_ref7_checkWay g w_ Q) :
  Ret Tryz.prog 29 #[.agg #[iv g.W, iv g.H, iv g.Layers, .slice g_BlockedA g.Blocked.length g_BlockedC], .slice w_A w_.length w_C] w0 fun v w' => ∃ (r0 : Int), v = iv r0 ∧ Q r0 ∧ Sat w0 none_ [] w' := by
 refine fn_enter Tryz.func29 rfl Tryz.ntmps29 rfl (fs := [(0, .agg #[iv g.W, iv g.H, iv g.Layers, .slice g_BlockedA g.Blocked.length g_BlockedC]), (1, .slice w_A w_.length w_C)]) rfl (fun a hf => ?_)
 have hs := Sat.start w0 none_
 unfold M_ref7_checkWay at h
 refine wp_seq (R.list (S.box hf hs rfl rfl rfl [iv g.W, iv g.H, iv g.Layers, .slice g_BlockedA g.Blocked.length g_BlockedC] rfl rfl rfl (fun g1 a w hf hs => S.p hf hs (iv 0) rfl rfl fun a hf => R.nil (X.then_ (wp_seq (wp_seq (R.list (S.p hf hs (.slice w_A w_.length w_C) rfl rfl fun a hf => S.v hf hs (iv (w_.length : Int)) rfl (V.len rfl rfl Tryz.runUnderlying22) fun a hf => S.p hf hs (.bool ((w_.length : Int) == 0)) rfl rfl fun a hf => R.nil (X.then_ ?_)))))))))
 refine C.cond hf (b := (w_.length : Int) == 0) rfl (fun hc => ?_) (fun hc => ?_)
 ·replace h := h.1 hc
  refine wp_seq (R.list (S.p hf hs (iv 9) rfl rfl fun a hf => R.nil (X.then_ (wp_ret (X.then_ret ?_)))))
  exact L.ret hf (run_results1 Tryz.results29 (ResIs.tmp hf rfl)) ⟨9, rfl, h, hs.nil⟩
 ·replace h := h.2 hc
  refine wp_skip (X.then_ (wp_seq (wp_seq (R.list (S.p hf hs (.slice w_A w_.length w_C) rfl rfl fun a hf => S.v hf hs (iv (w_.length : Int)) rfl (V.len rfl rfl Tryz.runUnderlying22) fun a hf => S.p hf hs (.bool (decide ((w_.length : Int) > 40000))) rfl rfl fun a hf => R.nil (X.then_ ?_))))))
  refine C.cond hf (b := decide ((w_.length : Int) > 40000)) rfl (fun hc => ?_) (fun hc => ?_)
  ·replace h := h.1 hc
   refine wp_seq (R.list (S.p hf hs (iv 2) rfl rfl fun a hf => R.nil (X.then_ (wp_ret (X.then_ret ?_)))))
   exact L.ret hf (run_results1 Tryz.results29 (ResIs.tmp hf rfl)) ⟨2, rfl, h, hs.nil⟩
  ·replace h := h.2 hc
   refine wp_skip (X.then_ (wp_seq (wp_seq (R.list (S.p hf hs (.slice w_A w_.length w_C) rfl rfl fun a hf => S.v hf hs (iv (w_.length : Int)) rfl (V.len rfl rfl Tryz.runUnderlying22) fun a hf => S.p hf hs (iv 0) rfl rfl fun a hf => R.nil (X.then_ (wp_block ?_)))))))
   have hlenk1 := hv_w_.len64
   refine C.range (fun (ll : List Cell) a w => ∃ (k1 : Nat) , w_.drop k1 = ll ∧ k1 + ll.length = w_.length ∧ forIn' (fun k x (s : Unit) next => M_ref7_checkWay_L1 g w_ Q k x (next ())) (fun (s : Unit) => Q 0) ll k1 () ∧ FrOk 50 [(15, iv (k1 : Int)), (1, .slice w_A w_.length w_C), (2, (pn g1 0)), (13, .slice w_A w_.length w_C), (14, iv (w_.length : Int))] a ∧ Sat w0 none_ [hbox g1 24 [iv g.W, iv g.H, iv g.Layers, .slice g_BlockedA g.Blocked.length g_BlockedC]] w) w_ ⟨0, rfl, Nat.zero_add _, h, (((((hf.nil.cons (hf.get 14 _ rfl)).cons (hf.get 13 _ rfl)).cons (hf.get 2 _ rfl)).cons (hf.get 1 _ rfl)).cons (hf.get 15 _ rfl)), hs⟩ ?_
   clear h hf hs
   rintro llk1 a w ⟨k1, hlk1, hkk1, h, hf, hs⟩
   cases llk1 with
   | nil =>
    have hc := range_done hkk1
    replace h : Q 0 := h
    refine wp_seq (R.list (S.v hf hs (.bool false) rfl (V.cmp false rfl rfl rfl rfl hc) fun a hf => R.nil (X.then_ (wp_seq (C.no hf rfl (wp_exit (X.then_exit (X.then_exit (X.blk_exit (X.then_ (wp_seq (R.list (S.p hf hs (iv 0) rfl rfl fun a hf => R.nil (X.then_ (wp_ret ?_)))))))))))))))
    exact L.ret hf (run_results1 Tryz.results29 (ResIs.tmp hf rfl)) ⟨0, rfl, h, hs.nil⟩
   | cons xk1 llk1 =>
    have hltk1 := range_lt hkk1; have hc := range_go hkk1; have hxk1 := range_get hlk1
    obtain ⟨next1, hnext1⟩ : ∃ X : Prop, X = (forIn' (fun k x (s : Unit) next => M_ref7_checkWay_L1 g w_ Q k x (next ())) (fun (s : Unit) => Q 0) llk1 (k1 + 1) ()) := ⟨_, rfl⟩
    replace h : M_ref7_checkWay_L1 g w_ Q k1 xk1  next1 := by rw [hnext1]; exact h
    unfold M_ref7_checkWay_L1 at h
    refine wp_seq (R.list (S.v hf hs (.bool true) rfl (V.cmp true rfl rfl rfl rfl hc) fun a hf => R.nil (X.then_ (wp_seq (C.yes hf rfl (wp_skip (X.then_ (wp_seq (wp_block (wp_seq (R.list (S.p hf hs (iv (k1 : Int)) rfl rfl fun a hf => S.v hf hs (elemPtr w_A (k1 * 3)) rfl (V.index rfl rfl rfl Tryz.runUnderlying22 Tryz.sizeOf55 (hv_w_.some_ (lt_of_get hxk1)) (Int.natCast_nonneg _) (lt_of_get hxk1) rfl) fun a hf => S.v hf hs (.agg #[iv xk1.X, iv xk1.Y, iv xk1.Layer]) rfl (V.loadEl (off := 0) (Ag.args _ _ _) (hv_w_.flat hxk1) rfl rfl rfl Tryz.isAgg55 Tryz.sizeOf55 rfl rfl) fun a hf => ?_))))))))))))
    refine S.alloc hf hs rfl rfl rfl [iv 0, iv 0, iv 0] rfl Tryz.zeroValue55 rfl (fun g2 a w hf hs => S.p hf hs (iv (k1 : Int)) rfl rfl fun a hf => S.storeBox 0 hf hs rfl rfl [iv xk1.X, iv xk1.Y, iv xk1.Layer] [iv xk1.X, iv xk1.Y, iv xk1.Layer] rfl rfl rfl rfl rfl Tryz.sizeOf55 rfl rfl rfl rfl (fun a w hf hs => R.nil (X.then_ (wp_block (wp_seq (R.list (S.v hf hs (.agg #[iv g.W, iv g.H, iv g.Layers, .slice g_BlockedA g.Blocked.length g_BlockedC]) rfl (V.loadBox 1 rfl rfl rfl Tryz.isAgg24 Tryz.sizeOf24 rfl rfl) fun a hf => S.v hf hs (.agg #[iv xk1.X, iv xk1.Y, iv xk1.Layer]) rfl (V.loadBox 0 rfl rfl rfl Tryz.isAgg55 Tryz.sizeOf55 rfl rfl) fun a hf => S.call hf rfl rfl rfl (call_fn (vs := [.agg #[iv g.W, iv g.H, iv g.Layers, .slice g_BlockedA g.Blocked.length g_BlockedC], .agg #[iv xk1.X, iv xk1.Y, iv xk1.Layer]]) rfl rfl rfl Tryz.call73) (R_ref7_isCell g xk1 _ g_BlockedA g_BlockedC ((Ag.args _ _ _).view hv_g_Blocked hs) _ h) (fun v a w' hf hr => ?_))))))))
    obtain ⟨y1, rfl, h2, hs2⟩ := hr
    replace h := h2; replace hs := hs.call hs2; clear h2 hs2
    refine S.p hf hs (.bool (!y1)) rfl rfl fun a hf => S.p hf hs (.bool (!y1)) rfl rfl fun a hf => R.nil (X.then_ ?_)
    refine C.cond hf (b := !y1) rfl (fun hc => ?_) (fun hc => ?_)
    ·replace h := h.1 hc
     refine wp_seq (R.list (S.p hf hs (iv 1) rfl rfl fun a hf => R.nil (X.then_ (wp_ret (X.blk_ret (X.blk_ret (X.then_ret (X.then_ret (X.blk_ret (X.then_ret ?_))))))))))
     exact L.ret hf (run_results1 Tryz.results29 (ResIs.tmp hf rfl)) ⟨1, rfl, h, hs.nil⟩
    ·replace h := h.2 hc
     refine wp_seq (R.list (S.v hf hs ((pn g1 3)) rfl (V.fieldBox rfl rfl Tryz.runUnderlying24 rfl Tryz.sizeOf22 rfl rfl) fun a hf => S.v hf hs (.slice g_BlockedA g.Blocked.length g_BlockedC) rfl (V.loadBox 1 rfl rfl rfl Tryz.isAgg22 Tryz.sizeOf22 rfl rfl) fun a hf => S.v hf hs (.agg #[iv xk1.X, iv xk1.Y, iv xk1.Layer]) rfl (V.loadBox 0 rfl rfl rfl Tryz.isAgg55 Tryz.sizeOf55 rfl rfl) fun a hf => S.call hf rfl rfl rfl (call_fn (vs := [.slice g_BlockedA g.Blocked.length g_BlockedC, .agg #[iv xk1.X, iv xk1.Y, iv xk1.Layer]]) rfl rfl rfl Tryz.call56) (R_contains_cell g.Blocked xk1 _ g_BlockedA g_BlockedC ((Ag.args _ _ _).view hv_g_Blocked hs) _ h) (fun v a w' hf hr => ?_)))
     obtain ⟨y2, rfl, h2, hs2⟩ := hr
     replace h := h2; replace hs := hs.call hs2; clear h2 hs2
     refine S.p hf hs (.bool y2) rfl rfl fun a hf => R.nil (X.then_ ?_)
     refine C.cond hf (b := y2) rfl (fun hc => ?_) (fun hc => ?_)
     ·replace h := h.1 hc
      refine wp_seq (R.list (S.p hf hs (iv 14) rfl rfl fun a hf => R.nil (X.then_ (wp_ret (X.blk_ret (X.blk_ret (X.then_ret (X.then_ret (X.blk_ret (X.then_ret ?_))))))))))
      exact L.ret hf (run_results1 Tryz.results29 (ResIs.tmp hf rfl)) ⟨14, rfl, h, hs.nil⟩
     ·replace h := h.2 hc
      refine wp_seq ?_
      refine C.cut (J := fun a w => ∃ (c1 : Bool), M_ref7_checkWay_k2 w_ Q k1 xk1 next1 c1 ∧ FrOk 50 [(1, .slice w_A w_.length w_C), (2, (pn g1 0)), (5, iv (k1 : Int)), (6, (pn g2 0)), (13, .slice w_A w_.length w_C), (14, iv (w_.length : Int)), (15, iv (k1 : Int)), (30, .bool c1)] a ∧ Sat w0 none_ [hbox g2 55 [iv xk1.X, iv xk1.Y, iv xk1.Layer], hbox g1 24 [iv g.W, iv g.H, iv g.Layers, .slice g_BlockedA g.Blocked.length g_BlockedC]] w) ?_ ?_
      ·rintro a w ⟨c1, h, hf, hs⟩
       unfold M_ref7_checkWay_k2 at h
       refine C.cond hf (b := c1) rfl (fun hc => ?_) (fun hc => ?_)
       ·replace h := h.1 hc
        refine wp_seq (R.list (S.p hf hs (iv 3) rfl rfl fun a hf => R.nil (X.then_ (wp_ret (X.blk_ret (X.blk_ret (X.then_ret (X.then_ret (X.blk_ret (X.then_ret ?_))))))))))
        exact L.ret hf (run_results1 Tryz.results29 (ResIs.tmp hf rfl)) ⟨3, rfl, h, hs.nil⟩
       ·replace h := h.2 hc
        refine wp_seq (H.start (S := Sat w0 none_ [hbox g2 55 [iv xk1.X, iv xk1.Y, iv xk1.Layer], hbox g1 24 [iv g.W, iv g.H, iv g.Layers, .slice g_BlockedA g.Blocked.length g_BlockedC]]) mo ?_)
        replace hs := hs.drew
        refine H.v hf hs (.slice w_A w_.length w_C) 0 rfl rfl (by kernel_rfl) (V.pure rfl) fun a hf => H.v hf hs (iv (k1 : Int)) 1 rfl rfl (by kernel_rfl) (V.pure rfl) fun a hf => ?_
        obtain ⟨hp1, h⟩ := h
        refine H.v hf hs (.slice (segA w_A w_C ((0 : Int) : Int).toNat 3) (seg w_ (0 : Int) (k1 : Int)).length (w_C - ((0 : Int) : Int).toNat)) 2 rfl rfl (by kernel_rfl) (V.slice rfl rfl rfl rfl Tryz.runUnderlying22 Tryz.sizeOf55 rfl rfl hp1 hv_w_.cap (seg_length (by have := hp1.2.2; omega))) fun a hf => H.v hf hs (.agg #[iv xk1.X, iv xk1.Y, iv xk1.Layer]) 3 rfl rfl (by kernel_rfl) (V.loadBox 0 rfl rfl rfl Tryz.isAgg55 Tryz.sizeOf55 rfl rfl) fun a hf => H.one (i := 4) rfl (by kernel_rfl) (S.call hf rfl rfl rfl (call_fn (vs := [.slice (segA w_A w_C ((0 : Int) : Int).toNat 3) (seg w_ (0 : Int) (k1 : Int)).length (w_C - ((0 : Int) : Int).toNat), .agg #[iv xk1.X, iv xk1.Y, iv xk1.Layer]]) rfl rfl rfl Tryz.call56) (R_contains_cell (seg w_ (0 : Int) (k1 : Int)) xk1 _ (segA w_A w_C ((0 : Int) : Int).toNat 3) (w_C - ((0 : Int) : Int).toNat) ((Ag.args _ _ _).view (View.sub hv_w_ hp1) hs) _ h) (fun v a w' hf hr => ?_))
        obtain ⟨y3, rfl, h2, hs2⟩ := hr
        replace h := h2; replace hs := hs.call hs2; clear h2 hs2
        refine R.nil (X.then_ (⟨hs, (H.v hf hs (.bool y3) 5 rfl rfl (by kernel_rfl) (V.pure rfl) fun a hf => H.done (by kernel_rfl) (X.then_ ?_))⟩))
        refine C.cond hf (b := y3) rfl (fun hc => ?_) (fun hc => ?_)
        ·replace h := h.1 hc
         refine wp_seq (R.list (S.p hf hs (iv 7) rfl rfl fun a hf => R.nil (X.then_ (wp_ret (X.blk_ret (X.blk_ret (X.then_ret (X.then_ret (X.blk_ret (X.then_ret ?_))))))))))
         exact L.ret hf (run_results1 Tryz.results29 (ResIs.tmp hf rfl)) ⟨7, rfl, h, hs.nil⟩
        ·replace h := h.2 hc
         refine wp_skip (X.blk (X.blk (X.then_ (R.list (S.v hf hs (iv ((k1 + 1 : Nat) : Int)) rfl (V.incr rfl rfl rfl hltk1 hlenk1) fun a hf => S.p hf hs (iv ((k1 + 1 : Nat) : Int)) rfl rfl fun a hf => R.nil (X.then_ ?_))))))
         exact ⟨xk1, llk1, rfl, k1 + 1, range_drop hlk1, range_len hkk1, (by rw [hnext1] at h; exact h), (((((hf.nil.cons (hf.get 14 _ rfl)).cons (hf.get 13 _ rfl)).cons (hf.get 2 _ rfl)).cons (hf.get 1 _ rfl)).cons (hf.get 15 _ rfl)), hs.drop⟩
      ·skip
       refine H.start (S := Sat w0 none_ [hbox g2 55 [iv xk1.X, iv xk1.Y, iv xk1.Layer], hbox g1 24 [iv g.W, iv g.H, iv g.Layers, .slice g_BlockedA g.Blocked.length g_BlockedC]]) mo ?_
       replace hs := hs.drew
       refine H.v hf hs (iv (k1 : Int)) 0 rfl rfl (by kernel_rfl) (V.pure rfl) fun a hf => H.v hf hs (.bool (decide ((k1 : Int) > 0))) 1 rfl rfl (by kernel_rfl) (V.pure rfl) fun a hf => ?_
       refine H.split hf hs (b := decide ((k1 : Int) > 0)) (i := 2) rfl rfl rfl rfl (by kernel_rfl) (by kernel_rfl) (by kernel_rfl) (V.pure rfl) (fun hc a hf => ?_) (fun hc a hf => ?_)
       ·replace h := h.1 hc
        refine H.v hf hs (.slice w_A w_.length w_C) 3 rfl rfl (by kernel_rfl) (V.pure rfl) fun a hf => H.v hf hs (iv (k1 : Int)) 4 rfl rfl (by kernel_rfl) (V.pure rfl) fun a hf => H.v hf hs (iv (w64 ((k1 : Int) - 1))) 5 rfl rfl (by kernel_rfl) (V.pure rfl) fun a hf => ?_
        obtain ⟨h0x1, x1, hx1, h⟩ := h
        refine H.v hf hs (elemPtr w_A ((w64 ((k1 : Int) - 1)).toNat * 3)) 6 rfl rfl (by kernel_rfl) (V.index rfl rfl rfl Tryz.runUnderlying22 Tryz.sizeOf55 (hv_w_.some_ (lt_of_get hx1)) h0x1 (lt_of_get hx1) rfl) fun a hf => H.v hf hs (.agg #[iv x1.X, iv x1.Y, iv x1.Layer]) 7 rfl rfl (by kernel_rfl) (V.loadEl (off := 0) (Ag.args _ _ _) (hv_w_.flat hx1) rfl rfl rfl Tryz.isAgg55 Tryz.sizeOf55 rfl rfl) fun a hf => H.v hf hs (.agg #[iv xk1.X, iv xk1.Y, iv xk1.Layer]) 8 rfl rfl (by kernel_rfl) (V.loadBox 0 rfl rfl rfl Tryz.isAgg55 Tryz.sizeOf55 rfl rfl) fun a hf => H.one (i := 9) rfl (by kernel_rfl) (S.call hf rfl rfl rfl (call_fn (vs := [.agg #[iv x1.X, iv x1.Y, iv x1.Layer], .agg #[iv xk1.X, iv xk1.Y, iv xk1.Layer]]) rfl rfl rfl Tryz.call62) (R_ref7_along x1 xk1 _  _ h) (fun v a w' hf hr => ?_))
        obtain ⟨y4, rfl, h2, hs2⟩ := hr
        replace h := h2; replace hs := hs.call hs2; clear h2 hs2
        refine R.nil (X.then_ (⟨hs, (H.v hf hs (.bool (y4 == 0)) 10 rfl rfl (by kernel_rfl) (V.pure rfl) fun a hf => H.v hf hs (.bool (y4 == 0)) 11 rfl rfl (by kernel_rfl) (V.pure rfl) fun a hf => H.v hf hs (.bool (y4 == 0)) 12 rfl rfl (by kernel_rfl) (V.pure rfl) fun a hf => H.done (by kernel_rfl) (X.then_ ?_))⟩))
        exact ⟨(y4 == 0), h, ((((((((hf.nil.cons (hf.get 30 _ rfl)).cons (hf.get 15 _ rfl)).cons (hf.get 14 _ rfl)).cons (hf.get 13 _ rfl)).cons (hf.get 6 _ rfl)).cons (hf.get 5 _ rfl)).cons (hf.get 2 _ rfl)).cons (hf.get 1 _ rfl)), hs⟩
       ·replace h := h.2 hc
        refine H.k hf hs 3 rfl rfl (by kernel_rfl) fun a hf => H.k hf hs 4 rfl rfl (by kernel_rfl) fun a hf => H.k hf hs 5 rfl rfl (by kernel_rfl) fun a hf => H.k hf hs 6 rfl rfl (by kernel_rfl) fun a hf => H.k hf hs 7 rfl rfl (by kernel_rfl) fun a hf => H.k hf hs 8 rfl rfl (by kernel_rfl) fun a hf => H.one (i := 9) rfl (by kernel_rfl) (S.k hf rfl fun a hf => ?_)
        refine R.nil (X.then_ (⟨hs, (H.k hf hs 10 rfl rfl (by kernel_rfl) fun a hf => H.v hf hs (.bool false) 11 rfl rfl (by kernel_rfl) (V.pure rfl) fun a hf => H.v hf hs (.bool false) 12 rfl rfl (by kernel_rfl) (V.pure rfl) fun a hf => H.done (by kernel_rfl) (X.then_ ?_))⟩))
        exact ⟨false, h, ((((((((hf.nil.cons (hf.get 30 _ rfl)).cons (hf.get 15 _ rfl)).cons (hf.get 14 _ rfl)).cons (hf.get 13 _ rfl)).cons (hf.get 6 _ rfl)).cons (hf.get 5 _ rfl)).cons (hf.get 2 _ rfl)).cons (hf.get 1 _ rfl)), hs⟩

-- no etchhouse/etchhouseref7.CheckWay
def M_ref7_costOf_L1 (c : Costs) (w_ : (List Cell)) (Q : Int → Prop) (again1 : Int → Int → Int → Prop) (n4 : Int) (n5 : Int) (n6 : Int) : Prop :=
  cnd (decide (n6 < (w_.length : Int))) (idx w_ (w64 (n6 - 1)) fun x1 => idx w_ n6 fun x2 => M_ref7_along x1 x2 fun y1 => M_ref7_stepCost c x2.Layer y1 n5 fun y2 => cnd (y1 != 3) (again1 (w64 (n4 + y2)) y1 (w64 (n6 + 1))) (again1 (w64 (n4 + y2)) n5 (w64 (n6 + 1)))) (Q n4)
def M_ref7_costOf (c : Costs) (w_ : (List Cell)) (Q : Int → Prop) : Prop :=
  lp (fun again (s : Int × Int × Int) => M_ref7_costOf_L1 c w_ Q (fun n4 n5 n6 => again (n4, n5, n6)) s.1 s.2.1 s.2.2) (0, 0, 1)
theorem R_ref7_costOf (c : Costs) (w_ : (List Cell)) (w0 : World) (w_A : Option Addr) (w_C : Nat) (hv_w_ : View w0 (old w0 none_) w_A w_C w_) (Q : Int → Prop) (h : M_ref7_costOf c w_ Q) :
  Ret Tryz.prog 22 #[.agg #[iv c.Step, iv c.Via, iv c.Turn, iv c.Against], .slice w_A w_.length w_C] w0 fun v w' => ∃ (r0 : Int), v = iv r0 ∧ Q r0 ∧ Sat w0 none_ [] w' := by
 refine fn_enter Tryz.func22 rfl Tryz.ntmps22 rfl (fs := [(0, .agg #[iv c.Step, iv c.Via, iv c.Turn, iv c.Against]), (1, .slice w_A w_.length w_C)]) rfl (fun a hf => ?_)
 have hs := Sat.start w0 none_
 unfold M_ref7_costOf at h
 refine wp_seq (R.list (S.box hf hs rfl rfl rfl [iv c.Step, iv c.Via, iv c.Turn, iv c.Against] rfl rfl rfl (fun g1 a w hf hs => S.p hf hs (iv 0) rfl rfl fun a hf => R.nil (X.then_ (wp_seq (R.list (S.p hf hs (iv 0) rfl rfl fun a hf => S.p hf hs (iv 0) rfl rfl fun a hf => R.nil (X.then_ (wp_seq (wp_seq (R.list (S.p hf hs (iv 1) rfl rfl fun a hf => ?_))))))))))))
 refine R.nil (X.then_ (wp_block ?_))
 obtain ⟨kk, h⟩ := h
 refine C.loop (fun kk a w => ∃ (n4 : Int) (n5 : Int) (n6 : Int), iterF (fun again (s : Int × Int × Int) => M_ref7_costOf_L1 c w_ Q (fun n4 n5 n6 => again (n4, n5, n6)) s.1 s.2.1 s.2.2) kk (n4, n5, n6) ∧ FrOk 40 [(1, .slice w_A w_.length w_C), (2, (pn g1 0)), (5, iv n4), (6, iv n5), (7, iv n6)] a ∧ Sat w0 none_ [hbox g1 26 [iv c.Step, iv c.Via, iv c.Turn, iv c.Against]] w) kk ⟨0, 0, 1, h, (((((hf.nil.cons (hf.get 7 _ rfl)).cons (hf.get 6 _ rfl)).cons (hf.get 5 _ rfl)).cons (hf.get 2 _ rfl)).cons (hf.get 1 _ rfl)), hs⟩ (fun a w ⟨_, _, _, h, _, _⟩ => h) ?_
 clear h hf hs
 rintro kk a w ⟨n4, n5, n6, h, hf, hs⟩
 obtain ⟨again1, hagain1⟩ : ∃ X : Int → Int → Int → Prop, X = (fun n4 n5 n6 => iterF (fun again (s : Int × Int × Int) => M_ref7_costOf_L1 c w_ Q (fun n4 n5 n6 => again (n4, n5, n6)) s.1 s.2.1 s.2.2) kk (n4, n5, n6)) := ⟨_, rfl⟩
 replace h : M_ref7_costOf_L1 c w_ Q again1 n4 n5 n6 := by rw [hagain1]; exact h
 unfold M_ref7_costOf_L1 at h
 refine wp_seq (wp_seq (R.list (S.p hf hs (iv n6) rfl rfl fun a hf => S.p hf hs (.slice w_A w_.length w_C) rfl rfl fun a hf => S.v hf hs (iv (w_.length : Int)) rfl (V.len rfl rfl Tryz.runUnderlying22) fun a hf => S.p hf hs (.bool (decide (n6 < (w_.length : Int)))) rfl rfl fun a hf => R.nil (X.then_ ?_))))
 refine C.cond hf (b := decide (n6 < (w_.length : Int))) rfl (fun hc => ?_) (fun hc => ?_)
 ·replace h := h.1 hc
  refine wp_skip (X.then_ (wp_seq (wp_block (wp_seq (H.start (S := Sat w0 none_ [hbox g1 26 [iv c.Step, iv c.Via, iv c.Turn, iv c.Against]]) mo ?_)))))
  replace hs := hs.drew
  refine H.v hf hs (.slice w_A w_.length w_C) 0 rfl rfl (by kernel_rfl) (V.pure rfl) fun a hf => H.v hf hs (iv n6) 1 rfl rfl (by kernel_rfl) (V.pure rfl) fun a hf => H.v hf hs (iv (w64 (n6 - 1))) 2 rfl rfl (by kernel_rfl) (V.pure rfl) fun a hf => ?_
  obtain ⟨h0x1, x1, hx1, h⟩ := h
  refine H.v hf hs (elemPtr w_A ((w64 (n6 - 1)).toNat * 3)) 3 rfl rfl (by kernel_rfl) (V.index rfl rfl rfl Tryz.runUnderlying22 Tryz.sizeOf55 (hv_w_.some_ (lt_of_get hx1)) h0x1 (lt_of_get hx1) rfl) fun a hf => H.v hf hs (.agg #[iv x1.X, iv x1.Y, iv x1.Layer]) 4 rfl rfl (by kernel_rfl) (V.loadEl (off := 0) (Ag.args _ _ _) (hv_w_.flat hx1) rfl rfl rfl Tryz.isAgg55 Tryz.sizeOf55 rfl rfl) fun a hf => H.v hf hs (.slice w_A w_.length w_C) 5 rfl rfl (by kernel_rfl) (V.pure rfl) fun a hf => H.v hf hs (iv n6) 6 rfl rfl (by kernel_rfl) (V.pure rfl) fun a hf => ?_
  obtain ⟨h0x2, x2, hx2, h⟩ := h
  refine H.v hf hs (elemPtr w_A (n6.toNat * 3)) 7 rfl rfl (by kernel_rfl) (V.index rfl rfl rfl Tryz.runUnderlying22 Tryz.sizeOf55 (hv_w_.some_ (lt_of_get hx2)) h0x2 (lt_of_get hx2) rfl) fun a hf => H.v hf hs (.agg #[iv x2.X, iv x2.Y, iv x2.Layer]) 8 rfl rfl (by kernel_rfl) (V.loadEl (off := 0) (Ag.args _ _ _) (hv_w_.flat hx2) rfl rfl rfl Tryz.isAgg55 Tryz.sizeOf55 rfl rfl) fun a hf => H.one (i := 9) rfl (by kernel_rfl) (S.call hf rfl rfl rfl (call_fn (vs := [.agg #[iv x1.X, iv x1.Y, iv x1.Layer], .agg #[iv x2.X, iv x2.Y, iv x2.Layer]]) rfl rfl rfl Tryz.call62) (R_ref7_along x1 x2 _  _ h) (fun v a w' hf hr => ?_))
  obtain ⟨y1, rfl, h2, hs2⟩ := hr
  replace h := h2; replace hs := hs.call hs2; clear h2 hs2
  refine R.nil (X.then_ (⟨hs, (H.v hf hs (iv y1) 10 rfl rfl (by kernel_rfl) (V.pure rfl) fun a hf => H.done (by kernel_rfl) (X.then_ (wp_seq (H.start (S := Sat w0 none_ [hbox g1 26 [iv c.Step, iv c.Via, iv c.Turn, iv c.Against]]) mo ?_))))⟩))
  replace hs := hs.drew
  refine H.v hf hs (iv n4) 0 rfl rfl (by kernel_rfl) (V.pure rfl) fun a hf => H.v hf hs (.agg #[iv c.Step, iv c.Via, iv c.Turn, iv c.Against]) 1 rfl rfl (by kernel_rfl) (V.loadBox 0 rfl rfl rfl Tryz.isAgg26 Tryz.sizeOf26 rfl rfl) fun a hf => H.v hf hs (.slice w_A w_.length w_C) 2 rfl rfl (by kernel_rfl) (V.pure rfl) fun a hf => H.v hf hs (iv n6) 3 rfl rfl (by kernel_rfl) (V.pure rfl) fun a hf => H.v hf hs (elemPtr w_A (n6.toNat * 3)) 4 rfl rfl (by kernel_rfl) (V.index rfl rfl rfl Tryz.runUnderlying22 Tryz.sizeOf55 (hv_w_.some_ (lt_of_get hx2)) h0x2 (lt_of_get hx2) rfl) fun a hf => H.v hf hs (elemPtr w_A (n6.toNat * 3 + 2)) 5 rfl rfl (by kernel_rfl) (V.fieldEl rfl rfl (hv_w_.some_ (lt_of_get hx2)) Tryz.runUnderlying55 rfl Tryz.sizeOf3 rfl rfl) fun a hf => H.v hf hs (iv x2.Layer) 6 rfl rfl (by kernel_rfl) (V.loadEl (off := 2) (Ag.args _ _ _) (hv_w_.flat hx2) rfl rfl rfl Tryz.isAgg3 Tryz.sizeOf3 rfl rfl) fun a hf => H.v hf hs (iv y1) 7 rfl rfl (by kernel_rfl) (V.pure rfl) fun a hf => ?_
  refine H.v hf hs (iv n5) 8 rfl rfl (by kernel_rfl) (V.pure rfl) fun a hf => H.one (i := 9) rfl (by kernel_rfl) (S.call hf rfl rfl rfl (call_fn (vs := [.agg #[iv c.Step, iv c.Via, iv c.Turn, iv c.Against], iv x2.Layer, iv y1, iv n5]) rfl rfl rfl Tryz.call63) (R_ref7_stepCost c x2.Layer y1 n5 _  _ h) (fun v a w' hf hr => ?_))
  obtain ⟨y2, rfl, h2, hs2⟩ := hr
  replace h := h2; replace hs := hs.call hs2; clear h2 hs2
  refine R.nil (X.then_ (⟨hs, (H.v hf hs (iv (w64 (n4 + y2))) 10 rfl rfl (by kernel_rfl) (V.pure rfl) fun a hf => H.v hf hs (iv (w64 (n4 + y2))) 11 rfl rfl (by kernel_rfl) (V.pure rfl) fun a hf => H.done (by kernel_rfl) (X.then_ (wp_seq (R.list (S.p hf hs (iv y1) rfl rfl fun a hf => S.p hf hs (.bool (y1 != 3)) rfl rfl fun a hf => ?_)))))⟩))
  refine R.nil (X.then_ ?_)
  refine C.cond hf (b := y1 != 3) rfl (fun hc => ?_) (fun hc => ?_)
  ·replace h := h.1 hc
   refine R.list (S.p hf hs (iv y1) rfl rfl fun a hf => S.p hf hs (iv y1) rfl rfl fun a hf => R.nil (X.blk (X.then_ (R.list (S.p hf hs (iv n6) rfl rfl fun a hf => S.p hf hs (iv (w64 (n6 + 1))) rfl rfl fun a hf => S.p hf hs (iv (w64 (n6 + 1))) rfl rfl fun a hf => R.nil (X.then_ ?_))))))
   exact ⟨(w64 (n4 + y2)), y1, (w64 (n6 + 1)), (by rw [hagain1] at h; exact h), (((((hf.nil.cons (hf.get 7 _ rfl)).cons (hf.get 6 _ rfl)).cons (hf.get 5 _ rfl)).cons (hf.get 2 _ rfl)).cons (hf.get 1 _ rfl)), hs⟩
  ·replace h := h.2 hc
   refine wp_skip (X.blk (X.then_ (R.list (S.p hf hs (iv n6) rfl rfl fun a hf => S.p hf hs (iv (w64 (n6 + 1))) rfl rfl fun a hf => S.p hf hs (iv (w64 (n6 + 1))) rfl rfl fun a hf => R.nil (X.then_ ?_)))))
   exact ⟨(w64 (n4 + y2)), n5, (w64 (n6 + 1)), (by rw [hagain1] at h; exact h), (((((hf.nil.cons (hf.get 7 _ rfl)).cons (hf.get 6 _ rfl)).cons (hf.get 5 _ rfl)).cons (hf.get 2 _ rfl)).cons (hf.get 1 _ rfl)), hs⟩
 ·replace h := h.2 hc
  refine wp_exit (X.then_exit (X.then_exit (X.blk_exit (X.then_ (wp_seq (R.list (S.p hf hs (iv n4) rfl rfl fun a hf => S.p hf hs (iv n4) rfl rfl fun a hf => R.nil (X.then_ (wp_ret ?_)))))))))
  exact L.ret hf (run_results1 Tryz.results22 (ResIs.tmp hf rfl)) ⟨n4, rfl, h, hs.nil⟩

-- no etchhouse/etchhouseref7.CostOf
end Go.Proofs.YtihjaehkdgdenaaGreatDoor
