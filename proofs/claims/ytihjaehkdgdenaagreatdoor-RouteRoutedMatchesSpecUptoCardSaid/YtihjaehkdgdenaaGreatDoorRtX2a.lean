/- Chapter texts of ours, as far as the claim needs them. -/
import Derived.Test.YtihjaehkdgdenaaGreatDoorRtG
namespace Go.Proofs.YtihjaehkdgdenaaGreatDoor
open Go Go.RowKit
set_option linter.unusedVariables false
set_option linter.unusedSectionVars false
set_option linter.unusedSimpArgs false
def M_ref7_checkPins_L1 (g : Grid) (pins : (List Cell)) (Q : Int → Prop) (k1 : Nat) (xk1 : Cell)  (next1 : Prop) : Prop :=
  M_ref7_isCell g xk1 fun y1 => cnd (!y1) (Q 1) (M_contains_cell g.Blocked xk1 fun y2 => cnd y2 (Q 14) (must (0 ≤ (0 : Int) ∧ (0 : Int) ≤ (k1 : Int) ∧ (k1 : Int) ≤ (pins.length : Int)) (M_contains_cell (seg pins (0 : Int) (k1 : Int)) xk1 fun y3 => cnd y3 (Q 7) (next1))))
def M_ref7_checkPins (g : Grid) (pins : (List Cell)) (most : Int) (Q : Int → Prop) : Prop :=
  cnd ((pins.length : Int) == 0) (Q 9) (cnd (decide ((pins.length : Int) > most)) (Q 2) (forIn' (fun k x (s : Unit) next => M_ref7_checkPins_L1 g pins Q k x (next ())) (fun (s : Unit) => Q 0) pins 0 ()))
set_option maxHeartbeats 1000000 in
theorem R_ref7_checkPins (g : Grid) (pins : (List Cell)) (most : Int) (w0 : World) (g_BlockedA : Option Addr) (g_BlockedC : Nat) (hv_g_Blocked : View w0 (old w0 none_) g_BlockedA g_BlockedC g.Blocked) (pinsA : Option Addr) (pinsC : Nat) (hv_pins : View w0 (old w0 none_) pinsA pinsC pins) (Q : Int → Prop) (h : M_ref7_checkPins g pins most Q) :
  Ret Tryz.prog 55 #[.agg #[iv g.W, iv g.H, iv g.Layers, .slice g_BlockedA g.Blocked.length g_BlockedC], .slice pinsA pins.length pinsC, iv most] w0 fun v w' => ∃ (r0 : Int), v = iv r0 ∧ Q r0 ∧ Sat w0 none_ [] w' := by
 refine fn_enter Tryz.func55 rfl Tryz.ntmps55 rfl (fs := [(0, .agg #[iv g.W, iv g.H, iv g.Layers, .slice g_BlockedA g.Blocked.length g_BlockedC]), (1, .slice pinsA pins.length pinsC), (2, iv most)]) rfl (fun a hf => ?_)
 have hs := Sat.start w0 none_
 unfold M_ref7_checkPins at h
 refine wp_seq (R.list (S.box hf hs rfl rfl rfl [iv g.W, iv g.H, iv g.Layers, .slice g_BlockedA g.Blocked.length g_BlockedC] rfl rfl rfl (fun g1 a w hf hs => S.p hf hs (iv 0) rfl rfl fun a hf => R.nil (X.then_ (wp_seq (wp_seq (R.list (S.p hf hs (.slice pinsA pins.length pinsC) rfl rfl fun a hf => S.v hf hs (iv (pins.length : Int)) rfl (V.len rfl rfl Tryz.runUnderlying22) fun a hf => S.p hf hs (.bool ((pins.length : Int) == 0)) rfl rfl fun a hf => R.nil (X.then_ ?_)))))))))
 refine C.cond hf (b := (pins.length : Int) == 0) rfl (fun hc => ?_) (fun hc => ?_)
 ·replace h := h.1 hc
  refine wp_seq (R.list (S.p hf hs (iv 9) rfl rfl fun a hf => R.nil (X.then_ (wp_ret (X.then_ret ?_)))))
  exact L.ret hf (run_results1 Tryz.results55 (ResIs.tmp hf rfl)) ⟨9, rfl, h, hs.nil⟩
 ·replace h := h.2 hc
  refine wp_skip (X.then_ (wp_seq (wp_seq (R.list (S.p hf hs (.slice pinsA pins.length pinsC) rfl rfl fun a hf => S.v hf hs (iv (pins.length : Int)) rfl (V.len rfl rfl Tryz.runUnderlying22) fun a hf => S.p hf hs (iv most) rfl rfl fun a hf => S.p hf hs (.bool (decide ((pins.length : Int) > most))) rfl rfl fun a hf => R.nil (X.then_ ?_))))))
  refine C.cond hf (b := decide ((pins.length : Int) > most)) rfl (fun hc => ?_) (fun hc => ?_)
  ·replace h := h.1 hc
   refine wp_seq (R.list (S.p hf hs (iv 2) rfl rfl fun a hf => R.nil (X.then_ (wp_ret (X.then_ret ?_)))))
   exact L.ret hf (run_results1 Tryz.results55 (ResIs.tmp hf rfl)) ⟨2, rfl, h, hs.nil⟩
  ·replace h := h.2 hc
   refine wp_skip (X.then_ (wp_seq (wp_seq (R.list (S.p hf hs (.slice pinsA pins.length pinsC) rfl rfl fun a hf => S.v hf hs (iv (pins.length : Int)) rfl (V.len rfl rfl Tryz.runUnderlying22) fun a hf => S.p hf hs (iv 0) rfl rfl fun a hf => R.nil (X.then_ (wp_block ?_)))))))
   have hlenk1 := hv_pins.len64
   refine C.range (fun (ll : List Cell) a w => ∃ (k1 : Nat) , pins.drop k1 = ll ∧ k1 + ll.length = pins.length ∧ forIn' (fun k x (s : Unit) next => M_ref7_checkPins_L1 g pins Q k x (next ())) (fun (s : Unit) => Q 0) ll k1 () ∧ FrOk 40 [(18, iv (k1 : Int)), (1, .slice pinsA pins.length pinsC), (3, (pn g1 0)), (16, .slice pinsA pins.length pinsC), (17, iv (pins.length : Int))] a ∧ Sat w0 none_ [hbox g1 24 [iv g.W, iv g.H, iv g.Layers, .slice g_BlockedA g.Blocked.length g_BlockedC]] w) pins ⟨0, rfl, Nat.zero_add _, h, (((((hf.nil.cons (hf.get 17 _ rfl)).cons (hf.get 16 _ rfl)).cons (hf.get 3 _ rfl)).cons (hf.get 1 _ rfl)).cons (hf.get 18 _ rfl)), hs⟩ ?_
   clear h hf hs
   rintro llk1 a w ⟨k1, hlk1, hkk1, h, hf, hs⟩
   cases llk1 with
   | nil =>
    have hc := range_done hkk1
    replace h : Q 0 := h
    refine wp_seq (R.list (S.v hf hs (.bool false) rfl (V.cmp false rfl rfl rfl rfl hc) fun a hf => R.nil (X.then_ (wp_seq (C.no hf rfl (wp_exit (X.then_exit (X.then_exit (X.blk_exit (X.then_ (wp_seq (R.list (S.p hf hs (iv 0) rfl rfl fun a hf => R.nil (X.then_ (wp_ret ?_)))))))))))))))
    exact L.ret hf (run_results1 Tryz.results55 (ResIs.tmp hf rfl)) ⟨0, rfl, h, hs.nil⟩
   | cons xk1 llk1 =>
    have hltk1 := range_lt hkk1; have hc := range_go hkk1; have hxk1 := range_get hlk1
    obtain ⟨next1, hnext1⟩ : ∃ X : Prop, X = (forIn' (fun k x (s : Unit) next => M_ref7_checkPins_L1 g pins Q k x (next ())) (fun (s : Unit) => Q 0) llk1 (k1 + 1) ()) := ⟨_, rfl⟩
    replace h : M_ref7_checkPins_L1 g pins Q k1 xk1  next1 := by rw [hnext1]; exact h
    unfold M_ref7_checkPins_L1 at h
    refine wp_seq (R.list (S.v hf hs (.bool true) rfl (V.cmp true rfl rfl rfl rfl hc) fun a hf => R.nil (X.then_ (wp_seq (C.yes hf rfl (wp_skip (X.then_ (wp_seq (wp_block (wp_seq (R.list (S.p hf hs (iv (k1 : Int)) rfl rfl fun a hf => S.v hf hs (elemPtr pinsA (k1 * 3)) rfl (V.index rfl rfl rfl Tryz.runUnderlying22 Tryz.sizeOf55 (hv_pins.some_ (lt_of_get hxk1)) (Int.natCast_nonneg _) (lt_of_get hxk1) rfl) fun a hf => S.v hf hs (.agg #[iv xk1.X, iv xk1.Y, iv xk1.Layer]) rfl (V.loadEl (off := 0) (Ag.args _ _ _) (hv_pins.flat hxk1) rfl rfl rfl Tryz.isAgg55 Tryz.sizeOf55 rfl rfl) fun a hf => ?_))))))))))))
    refine S.alloc hf hs rfl rfl rfl [iv 0, iv 0, iv 0] rfl Tryz.zeroValue55 rfl (fun g2 a w hf hs => S.p hf hs (iv (k1 : Int)) rfl rfl fun a hf => S.storeBox 0 hf hs rfl rfl [iv xk1.X, iv xk1.Y, iv xk1.Layer] [iv xk1.X, iv xk1.Y, iv xk1.Layer] rfl rfl rfl rfl rfl Tryz.sizeOf55 rfl rfl rfl rfl (fun a w hf hs => R.nil (X.then_ (wp_block (wp_seq (R.list (S.v hf hs (.agg #[iv g.W, iv g.H, iv g.Layers, .slice g_BlockedA g.Blocked.length g_BlockedC]) rfl (V.loadBox 1 rfl rfl rfl Tryz.isAgg24 Tryz.sizeOf24 rfl rfl) fun a hf => S.v hf hs (.agg #[iv xk1.X, iv xk1.Y, iv xk1.Layer]) rfl (V.loadBox 0 rfl rfl rfl Tryz.isAgg55 Tryz.sizeOf55 rfl rfl) fun a hf => S.call hf rfl rfl rfl (call_fn (vs := [.agg #[iv g.W, iv g.H, iv g.Layers, .slice g_BlockedA g.Blocked.length g_BlockedC], .agg #[iv xk1.X, iv xk1.Y, iv xk1.Layer]]) rfl rfl rfl Tryz.call73) (R_ref7_isCell g xk1 _ g_BlockedA g_BlockedC ((Ag.args _ _ _).view hv_g_Blocked hs) _ h) (fun v a w' hf hr => ?_))))))))
    obtain ⟨y1, rfl, h2, hs2⟩ := hr
    replace h := h2; replace hs := hs.call hs2; clear h2 hs2
    refine S.p hf hs (.bool (!y1)) rfl rfl fun a hf => S.p hf hs (.bool (!y1)) rfl rfl fun a hf => R.nil (X.then_ ?_)
    refine C.cond hf (b := !y1) rfl (fun hc => ?_) (fun hc => ?_)
    ·replace h := h.1 hc
     refine wp_seq (R.list (S.p hf hs (iv 1) rfl rfl fun a hf => R.nil (X.then_ (wp_ret (X.blk_ret (X.blk_ret (X.then_ret (X.then_ret (X.blk_ret (X.then_ret ?_))))))))))
     exact L.ret hf (run_results1 Tryz.results55 (ResIs.tmp hf rfl)) ⟨1, rfl, h, hs.nil⟩
    ·replace h := h.2 hc
     refine wp_seq (R.list (S.v hf hs ((pn g1 3)) rfl (V.fieldBox rfl rfl Tryz.runUnderlying24 rfl Tryz.sizeOf22 rfl rfl) fun a hf => S.v hf hs (.slice g_BlockedA g.Blocked.length g_BlockedC) rfl (V.loadBox 1 rfl rfl rfl Tryz.isAgg22 Tryz.sizeOf22 rfl rfl) fun a hf => S.v hf hs (.agg #[iv xk1.X, iv xk1.Y, iv xk1.Layer]) rfl (V.loadBox 0 rfl rfl rfl Tryz.isAgg55 Tryz.sizeOf55 rfl rfl) fun a hf => S.call hf rfl rfl rfl (call_fn (vs := [.slice g_BlockedA g.Blocked.length g_BlockedC, .agg #[iv xk1.X, iv xk1.Y, iv xk1.Layer]]) rfl rfl rfl Tryz.call56) (R_contains_cell g.Blocked xk1 _ g_BlockedA g_BlockedC ((Ag.args _ _ _).view hv_g_Blocked hs) _ h) (fun v a w' hf hr => ?_)))
     obtain ⟨y2, rfl, h2, hs2⟩ := hr
     replace h := h2; replace hs := hs.call hs2; clear h2 hs2
     refine S.p hf hs (.bool y2) rfl rfl fun a hf => R.nil (X.then_ ?_)
     refine C.cond hf (b := y2) rfl (fun hc => ?_) (fun hc => ?_)
     ·replace h := h.1 hc
      refine wp_seq (R.list (S.p hf hs (iv 14) rfl rfl fun a hf => R.nil (X.then_ (wp_ret (X.blk_ret (X.blk_ret (X.then_ret (X.then_ret (X.blk_ret (X.then_ret ?_))))))))))
      exact L.ret hf (run_results1 Tryz.results55 (ResIs.tmp hf rfl)) ⟨14, rfl, h, hs.nil⟩
     ·replace h := h.2 hc
      refine wp_seq (H.start (S := Sat w0 none_ [hbox g2 55 [iv xk1.X, iv xk1.Y, iv xk1.Layer], hbox g1 24 [iv g.W, iv g.H, iv g.Layers, .slice g_BlockedA g.Blocked.length g_BlockedC]]) mo ?_)
      replace hs := hs.drew
      refine H.v hf hs (.slice pinsA pins.length pinsC) 0 rfl rfl (by kernel_rfl) (V.pure rfl) fun a hf => H.v hf hs (iv (k1 : Int)) 1 rfl rfl (by kernel_rfl) (V.pure rfl) fun a hf => ?_
      obtain ⟨hp1, h⟩ := h
      refine H.v hf hs (.slice (segA pinsA pinsC ((0 : Int) : Int).toNat 3) (seg pins (0 : Int) (k1 : Int)).length (pinsC - ((0 : Int) : Int).toNat)) 2 rfl rfl (by kernel_rfl) (V.slice rfl rfl rfl rfl Tryz.runUnderlying22 Tryz.sizeOf55 rfl rfl hp1 hv_pins.cap (seg_length (by have := hp1.2.2; omega))) fun a hf => H.v hf hs (.agg #[iv xk1.X, iv xk1.Y, iv xk1.Layer]) 3 rfl rfl (by kernel_rfl) (V.loadBox 0 rfl rfl rfl Tryz.isAgg55 Tryz.sizeOf55 rfl rfl) fun a hf => H.one (i := 4) rfl (by kernel_rfl) (S.call hf rfl rfl rfl (call_fn (vs := [.slice (segA pinsA pinsC ((0 : Int) : Int).toNat 3) (seg pins (0 : Int) (k1 : Int)).length (pinsC - ((0 : Int) : Int).toNat), .agg #[iv xk1.X, iv xk1.Y, iv xk1.Layer]]) rfl rfl rfl Tryz.call56) (R_contains_cell (seg pins (0 : Int) (k1 : Int)) xk1 _ (segA pinsA pinsC ((0 : Int) : Int).toNat 3) (pinsC - ((0 : Int) : Int).toNat) ((Ag.args _ _ _).view (View.sub hv_pins hp1) hs) _ h) (fun v a w' hf hr => ?_))
      obtain ⟨y3, rfl, h2, hs2⟩ := hr
      replace h := h2; replace hs := hs.call hs2; clear h2 hs2
      refine R.nil (X.then_ (⟨hs, (H.v hf hs (.bool y3) 5 rfl rfl (by kernel_rfl) (V.pure rfl) fun a hf => H.done (by kernel_rfl) (X.then_ ?_))⟩))
      refine C.cond hf (b := y3) rfl (fun hc => ?_) (fun hc => ?_)
      ·replace h := h.1 hc
       refine wp_seq (R.list (S.p hf hs (iv 7) rfl rfl fun a hf => R.nil (X.then_ (wp_ret (X.blk_ret (X.blk_ret (X.then_ret (X.then_ret (X.blk_ret (X.then_ret ?_))))))))))
       exact L.ret hf (run_results1 Tryz.results55 (ResIs.tmp hf rfl)) ⟨7, rfl, h, hs.nil⟩
      ·replace h := h.2 hc
       refine wp_skip (X.blk (X.blk (X.then_ (R.list (S.v hf hs (iv ((k1 + 1 : Nat) : Int)) rfl (V.incr rfl rfl rfl hltk1 hlenk1) fun a hf => S.p hf hs (iv ((k1 + 1 : Nat) : Int)) rfl rfl fun a hf => R.nil (X.then_ ?_))))))
       exact ⟨xk1, llk1, rfl, k1 + 1, range_drop hlk1, range_len hkk1, (by rw [hnext1] at h; exact h), (((((hf.nil.cons (hf.get 17 _ rfl)).cons (hf.get 16 _ rfl)).cons (hf.get 3 _ rfl)).cons (hf.get 1 _ rfl)).cons (hf.get 18 _ rfl)), hs.drop⟩

-- UNSUPPORTED (*etchhouse/etchhouseref7.field).grow: 'NoneType' object is not subscriptable
-- no etchhouse/etchhouseref7.bitOf
end Go.Proofs.YtihjaehkdgdenaaGreatDoor
