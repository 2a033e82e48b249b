/- Chapter texts of ours, as far as the claim needs them. -/
import Derived.Test.YtihjaehkdgdenaaRtN2
namespace Go.Proofs.Ytihjaehkdgdenaa
open Go Go.RowKit
set_option linter.unusedVariables false
set_option linter.unusedSimpArgs false
set_option linter.unusedVariables false
def M_field_way_k4 (l2 : List Cell) (again1 : List Cell → Cell → Int → Prop) (xk2 : Cell) (next2 : Prop) (n3 : Int) (c1 : Bool) : Prop :=
  cnd c1 (must (room (l2 ++ [xk2]).length 24) (again1 (l2 ++ [xk2]) xk2 n3)) (next2)
def M_field_way_k3 (f : R7Field) (c : Cell) (l2 : List Cell) (n2 : Int) (again1 : List Cell → Cell → Int → Prop) (x2 : R7Worth) (xk2 : Cell) (next2 : Prop) (y4 : Int) (n3 : Int) : Prop :=
  M_field_at f xk2 fun y5 => idx f.best (w64 ((w64 (3 * y5)) + n3)) fun x3 => cnd (x3.cells == (w64 (x2.cells - 1))) (M_ref7_stepCost f.c xk2.Layer y4 n2 fun y6 => M_field_way_k4 l2 again1 xk2 next2 n3 ((w64 (x3.cost + y6)) == x2.cost)) (M_field_way_k4 l2 again1 xk2 next2 n3 false)
def M_field_way_L2 (f : R7Field) (c : Cell) (l2 : List Cell) (b2 : Cell) (n2 : Int) (again1 : List Cell → Cell → Int → Prop) (x2 : R7Worth) (k2 : Nat) (xk2 : Cell)  (next2 : Prop) : Prop :=
  M_ref7_along b2 xk2 fun y4 => cnd (y4 == 3) (M_field_way_k3 f c l2 n2 again1 x2 xk2 next2 y4 n2) (M_field_way_k3 f c l2 n2 again1 x2 xk2 next2 y4 y4)
def M_field_way_L1 (f : R7Field) (c : Cell) (Q : (List Cell) → Prop) (again1 : List Cell → Cell → Int → Prop) (l2 : List Cell) (b2 : Cell) (n2 : Int) : Prop :=
  M_field_at f b2 fun y1 => idx f.best (w64 ((w64 (3 * y1)) + n2)) fun x1 => cnd (decide (x1.cells > 1)) (M_field_at f b2 fun y2 => idx f.best (w64 ((w64 (3 * y2)) + n2)) fun x2 => M_field_neighbours f b2 fun y3 => forIn' (fun k x (s : Unit) next => M_field_way_L2 f c l2 b2 n2 again1 x2 k x (next ())) (fun (s : Unit) => again1 l2 b2 n2) y3 0 ()) (Q l2)
def M_field_way (f : R7Field) (c : Cell) (Q : (List Cell) → Prop) : Prop :=
  lp (fun again (s : List Cell × Cell × Int) => M_field_way_L1 f c Q (fun l2 b2 n2 => again (l2, b2, n2)) s.1 s.2.1 s.2.2) ([c], c, 0)
set_option maxHeartbeats 1000000 in
theorem R_field_way (f : R7Field) (c : Cell) (w0 : World) (f_g_BlockedA : Option Addr) (f_g_BlockedC : Nat) (hv_f_g_Blocked : View w0 (old w0 none_) f_g_BlockedA f_g_BlockedC f.g.Blocked) (f_blockedA : Option Addr) (f_blockedC : Nat) (hv_f_blocked : View w0 (old w0 none_) f_blockedA f_blockedC f.blocked) (f_bestA : Option Addr) (f_bestC : Nat) (hv_f_best : View w0 (old w0 none_) f_bestA f_bestC f.best) (fg : Nat) (hb_f : ElemAt w0 (old w0 none_) (some ⟨fg, 0, none⟩) 0 [iv f.g.W, iv f.g.H, iv f.g.Layers, .slice f_g_BlockedA f.g.Blocked.length f_g_BlockedC, iv f.c.Step, iv f.c.Via, iv f.c.Turn, iv f.c.Against, .slice f_blockedA f.blocked.length f_blockedC, .slice f_bestA f.best.length f_bestC]) (Q : (List Cell) → Prop) (h : M_field_way f c Q) :
  Ret Try.prog 46 #[(pn fg 0), .agg #[iv c.X, iv c.Y, iv c.Layer]] w0 fun v w' => ∃ (r0 : (List Cell)) (r0A : Option Addr) (r0C : Nat), v = .slice r0A r0.length r0C ∧ Q r0 ∧ Sat w0 none_ [hown 28 r0A r0C r0] w' := by
 refine fn_enter Try.func46 rfl Try.ntmps46 rfl (fs := [(0, (pn fg 0)), (1, .agg #[iv c.X, iv c.Y, iv c.Layer])]) rfl (fun a hf => ?_)
 have hs := Sat.start w0 none_
 unfold M_field_way at h
 refine wp_seq (R.list ?_)
 refine S.box hf hs rfl rfl rfl [iv c.X, iv c.Y, iv c.Layer] rfl rfl rfl (fun g1 a w hf hs => ?_)
 refine S.p hf hs (.slice none 0 0) rfl rfl fun a hf => ?_
 refine R.nil (X.then_ (wp_seq (R.list ?_)))
 refine S.v hf hs (.agg #[iv c.X, iv c.Y, iv c.Layer]) rfl (V.loadBox 0 rfl rfl rfl Try.isAgg28 Try.sizeOf28 rfl rfl) fun a hf => ?_
 refine S.build1 hf hs rfl rfl rfl (α := Cell) c rfl rfl rfl Try.runUnderlying22 Try.sizeOf28 Try.zeroValue28 rfl (by decide) (fun A1 a w hf hs => ?_)
 refine S.p hf hs (.slice A1 [c].length 1) rfl rfl fun a hf => ?_
 refine S.p hf hs (iv 0) rfl rfl fun a hf => ?_
 refine R.nil (X.then_ (wp_seq (wp_block ?_)))
 obtain ⟨kk, h⟩ := h
 refine C.loop (fun kk a w => ∃ (l2 : List Cell) (l2A : Option Addr) (l2C : Nat) (b2 : Cell) (n2 : Int), iterF (fun again (s : List Cell × Cell × Int) => M_field_way_L1 f c Q (fun l2 b2 n2 => again (l2, b2, n2)) s.1 s.2.1 s.2.2) kk (l2, b2, n2) ∧ FrOk 99 [(0, (pn fg 0)), (3, (pn g1 0)), (5, .slice l2A l2.length l2C), (6, iv n2)] a ∧ Sat w0 none_ [hown 28 l2A l2C l2, hbox g1 28 [iv b2.X, iv b2.Y, iv b2.Layer]] w) kk ⟨[c], A1, 1, c, 0, h, ((((hf.nil.cons (hf.get 6 _ rfl)).cons (hf.get 5 _ rfl)).cons (hf.get 3 _ rfl)).cons (hf.get 0 _ rfl)), hs⟩ (fun a w ⟨_, _, _, _, _, h, _, _⟩ => h) ?_
 clear h hf hs
 rintro kk a w ⟨l2, l2A, l2C, b2, n2, h, hf, hs⟩
 obtain ⟨again1, hagain1⟩ : ∃ X : List Cell → Cell → Int → Prop, X = (fun l2 b2 n2 => iterF (fun again (s : List Cell × Cell × Int) => M_field_way_L1 f c Q (fun l2 b2 n2 => again (l2, b2, n2)) s.1 s.2.1 s.2.2) kk (l2, b2, n2)) := ⟨_, rfl⟩
 replace h : M_field_way_L1 f c Q again1 l2 b2 n2 := by rw [hagain1]; exact h
 unfold M_field_way_L1 at h
 refine wp_seq (wp_seq ?_)
 refine H.start (S := Sat w0 none_ [hown 28 l2A l2C l2, hbox g1 28 [iv b2.X, iv b2.Y, iv b2.Layer]]) mo ?_
 replace hs := hs.drew
 refine H.v hf hs ((pn fg 0)) 0 rfl rfl (by kernel_rfl) (V.pure rfl) fun a hf => ?_
 refine H.v hf hs ((pn fg 0)) 1 rfl rfl (by kernel_rfl) (V.pure rfl) fun a hf => ?_
 refine H.v hf hs ((pn fg 9)) 2 rfl rfl (by kernel_rfl) (V.fieldBox rfl rfl Try.runUnderlying72 rfl Try.sizeOf70 rfl rfl) fun a hf => ?_
 refine H.v hf hs (.slice f_bestA f.best.length f_bestC) 3 rfl rfl (by kernel_rfl) (V.loadAt0 (off := 9) (Ag.args _ _ _) hb_f rfl rfl Try.isAgg70 Try.sizeOf70 rfl rfl) fun a hf => ?_
 refine H.v hf hs ((pn fg 0)) 4 rfl rfl (by kernel_rfl) (V.pure rfl) fun a hf => ?_
 refine H.v hf hs (.agg #[iv b2.X, iv b2.Y, iv b2.Layer]) 5 rfl rfl (by kernel_rfl) (V.loadBox 1 rfl rfl rfl Try.isAgg28 Try.sizeOf28 rfl rfl) fun a hf => ?_
 refine H.v hf hs (iv n2) 8 rfl rfl (by kernel_rfl) (V.pure rfl) fun a hf => ?_
 refine H.one (i := 6) rfl (by kernel_rfl) ?_
 refine S.call hf rfl rfl rfl (call_fn (vs := [(pn fg 0), .agg #[iv b2.X, iv b2.Y, iv b2.Layer]]) rfl rfl rfl Try.call63) (R_field_at f b2 _ f_g_BlockedA f_g_BlockedC ((Ag.args _ _ _).view hv_f_g_Blocked hs) f_blockedA f_blockedC ((Ag.args _ _ _).view hv_f_blocked hs) f_bestA f_bestC ((Ag.args _ _ _).view hv_f_best hs) fg ((Ag.args _ _ _).elem hb_f hs) _ h) (fun v a w' hf hr => ?_)
 obtain ⟨y1, rfl, h2, hs2⟩ := hr
 replace h := h2; replace hs := hs.call hs2; clear h2 hs2
 refine R.nil (X.then_ ?_)
 refine ⟨hs, ?_⟩
 refine H.v hf hs (iv (w64 (3 * y1))) 7 rfl rfl (by kernel_rfl) (V.pure rfl) fun a hf => ?_
 refine H.v hf hs (iv (w64 ((w64 (3 * y1)) + n2))) 9 rfl rfl (by kernel_rfl) (V.pure rfl) fun a hf => ?_
 obtain ⟨h0x1, x1, hx1, h⟩ := h
 refine H.v hf hs (elemPtr f_bestA ((w64 ((w64 (3 * y1)) + n2)).toNat * 2)) 10 rfl rfl (by kernel_rfl) (V.index rfl rfl rfl Try.runUnderlying70 Try.sizeOf60 (hv_f_best.some_ (lt_of_get hx1)) h0x1 (lt_of_get hx1) rfl) fun a hf => ?_
 refine H.v hf hs (elemPtr f_bestA ((w64 ((w64 (3 * y1)) + n2)).toNat * 2 + 1)) 11 rfl rfl (by kernel_rfl) (V.fieldEl rfl rfl (hv_f_best.some_ (lt_of_get hx1)) Try.runUnderlying60 rfl Try.sizeOf3 rfl rfl) fun a hf => ?_
 refine H.v hf hs (iv x1.cells) 12 rfl rfl (by kernel_rfl) (V.loadEl (off := 1) (Ag.args _ _ _) (hv_f_best.flat hx1) rfl rfl rfl Try.isAgg3 Try.sizeOf3 rfl rfl) fun a hf => ?_
 refine H.v hf hs (.bool (decide (x1.cells > 1))) 13 rfl rfl (by kernel_rfl) (V.pure rfl) fun a hf => ?_
 refine H.done (by kernel_rfl) ?_
 refine X.then_ ?_
 refine C.cond hf (b := decide (x1.cells > 1)) rfl (fun hc => ?_) (fun hc => ?_)
 ·replace h := h.1 hc
  refine wp_skip (X.then_ (wp_block (wp_seq ?_)))
  refine H.start (S := Sat w0 none_ [hown 28 l2A l2C l2, hbox g1 28 [iv b2.X, iv b2.Y, iv b2.Layer]]) mo ?_
  replace hs := hs.drew
  refine H.v hf hs ((pn fg 0)) 0 rfl rfl (by kernel_rfl) (V.pure rfl) fun a hf => ?_
  refine H.v hf hs ((pn fg 0)) 1 rfl rfl (by kernel_rfl) (V.pure rfl) fun a hf => ?_
  refine H.v hf hs ((pn fg 9)) 2 rfl rfl (by kernel_rfl) (V.fieldBox rfl rfl Try.runUnderlying72 rfl Try.sizeOf70 rfl rfl) fun a hf => ?_
  refine H.v hf hs (.slice f_bestA f.best.length f_bestC) 3 rfl rfl (by kernel_rfl) (V.loadAt0 (off := 9) (Ag.args _ _ _) hb_f rfl rfl Try.isAgg70 Try.sizeOf70 rfl rfl) fun a hf => ?_
  refine H.v hf hs ((pn fg 0)) 4 rfl rfl (by kernel_rfl) (V.pure rfl) fun a hf => ?_
  refine H.v hf hs (.agg #[iv b2.X, iv b2.Y, iv b2.Layer]) 5 rfl rfl (by kernel_rfl) (V.loadBox 1 rfl rfl rfl Try.isAgg28 Try.sizeOf28 rfl rfl) fun a hf => ?_
  refine H.v hf hs (iv n2) 8 rfl rfl (by kernel_rfl) (V.pure rfl) fun a hf => ?_
  refine H.each2 (i0 := 6) (i1 := 12) rfl rfl (by kernel_rfl) ?_ ?_
  ·refine S.call hf rfl rfl rfl (call_fn (vs := [(pn fg 0), .agg #[iv b2.X, iv b2.Y, iv b2.Layer]]) rfl rfl rfl Try.call63) (R_field_at f b2 _ f_g_BlockedA f_g_BlockedC ((Ag.args _ _ _).view hv_f_g_Blocked hs) f_blockedA f_blockedC ((Ag.args _ _ _).view hv_f_blocked hs) f_bestA f_bestC ((Ag.args _ _ _).view hv_f_best hs) fg ((Ag.args _ _ _).elem hb_f hs) _ h) (fun v a w' hf hr => ?_)
   obtain ⟨y2, rfl, h2, hs2⟩ := hr
   replace h := h2; replace hs := hs.call hs2; clear h2 hs2
   refine R.nil (X.then_ ?_)
   refine ⟨hs, ?_⟩
   refine H.v hf hs (iv (w64 (3 * y2))) 7 rfl rfl (by kernel_rfl) (V.pure rfl) fun a hf => ?_
   refine H.v hf hs (iv (w64 ((w64 (3 * y2)) + n2))) 9 rfl rfl (by kernel_rfl) (V.pure rfl) fun a hf => ?_
   obtain ⟨h0x2, x2, hx2, h⟩ := h
   refine H.v hf hs (elemPtr f_bestA ((w64 ((w64 (3 * y2)) + n2)).toNat * 2)) 10 rfl rfl (by kernel_rfl) (V.index rfl rfl rfl Try.runUnderlying70 Try.sizeOf60 (hv_f_best.some_ (lt_of_get hx2)) h0x2 (lt_of_get hx2) rfl) fun a hf => ?_
   refine H.v hf hs (.agg #[iv x2.cost, iv x2.cells]) 11 rfl rfl (by kernel_rfl) (V.loadEl (off := 0) (Ag.args _ _ _) (hv_f_best.flat hx2) rfl rfl rfl Try.isAgg60 Try.sizeOf60 rfl rfl) fun a hf => ?_
   refine H.one (i := 12) rfl (by kernel_rfl) ?_
   refine S.alloc hf hs rfl rfl rfl [iv 0, iv 0] rfl Try.zeroValue60 rfl (fun g2 a w hf hs => ?_)
   refine R.nil (X.then_ ?_)
   refine ⟨(hs.mask [false, true, true]), ?_⟩
   refine H.one (i := 13) rfl (by kernel_rfl) ?_
   refine S.storeBox 0 hf hs rfl rfl [iv x2.cost, iv x2.cells] [iv x2.cost, iv x2.cells] rfl rfl rfl rfl rfl Try.sizeOf60 rfl rfl rfl rfl (fun a w hf hs => ?_)
   refine R.nil (X.then_ ?_)
   refine ⟨(hs.mask [false, true, true]), ?_⟩
   refine H.done (by kernel_rfl) ?_
   refine X.then_ (wp_seq (R.list ?_))
   refine S.p hf hs ((pn fg 0)) rfl rfl fun a hf => ?_
   refine S.v hf hs (.agg #[iv b2.X, iv b2.Y, iv b2.Layer]) rfl (V.loadBox 2 rfl rfl rfl Try.isAgg28 Try.sizeOf28 rfl rfl) fun a hf => ?_
   refine S.call hf rfl rfl rfl (call_fn (vs := [(pn fg 0), .agg #[iv b2.X, iv b2.Y, iv b2.Layer]]) rfl rfl rfl Try.call78) (R_field_neighbours f b2 _ f_g_BlockedA f_g_BlockedC ((Ag.args _ _ _).view hv_f_g_Blocked hs) f_blockedA f_blockedC ((Ag.args _ _ _).view hv_f_blocked hs) f_bestA f_bestC ((Ag.args _ _ _).view hv_f_best hs) fg ((Ag.args _ _ _).elem hb_f hs) _ h) (fun v a w' hf hr => ?_)
   obtain ⟨y3, y3A, y3C, rfl, h2, hs2⟩ := hr
   replace h := h2; replace hs := hs.call hs2; clear h2 hs2
   refine S.v hf hs (iv (y3.length : Int)) rfl (V.len rfl rfl Try.runUnderlying22) fun a hf => ?_
   refine S.p hf hs (iv 0) rfl rfl fun a hf => ?_
   refine R.nil (X.then_ (wp_block ?_))
   have hlenk2 := (hs.ownView 0 rfl).len64
   refine C.range (fun (ll : List Cell) a w => ∃ (k2 : Nat) , y3.drop k2 = ll ∧ k2 + ll.length = y3.length ∧ forIn' (fun k x (s : Unit) next => M_field_way_L2 f c l2 b2 n2 again1 x2 k x (next ())) (fun (s : Unit) => again1 l2 b2 n2) ll k2 () ∧ FrOk 99 [(45, iv (k2 : Int)), (0, (pn fg 0)), (3, (pn g1 0)), (5, .slice l2A l2.length l2C), (6, iv n2), (7, (pn g2 0)), (43, .slice y3A y3.length y3C), (44, iv (y3.length : Int))] a ∧ Sat w0 none_ [hown 28 y3A y3C y3, hbox g2 60 [iv x2.cost, iv x2.cells], hown 28 l2A l2C l2, hbox g1 28 [iv b2.X, iv b2.Y, iv b2.Layer]] w) y3 ⟨0, rfl, Nat.zero_add _, h, ((((((((hf.nil.cons (hf.get 44 _ rfl)).cons (hf.get 43 _ rfl)).cons (hf.get 7 _ rfl)).cons (hf.get 6 _ rfl)).cons (hf.get 5 _ rfl)).cons (hf.get 3 _ rfl)).cons (hf.get 0 _ rfl)).cons (hf.get 45 _ rfl)), hs⟩ ?_
   clear h hf hs
   rintro llk2 a w ⟨k2, hlk2, hkk2, h, hf, hs⟩
   cases llk2 with
   | nil =>
    have hc := range_done hkk2
    replace h : again1 l2 b2 n2 := h
    refine wp_seq (R.list ?_)
    refine S.v hf hs (.bool false) rfl (V.cmp false rfl rfl rfl rfl hc) fun a hf => ?_
    refine R.nil (X.then_ (wp_seq ?_))
    refine C.no hf rfl ?_
    refine wp_exit (X.then_exit (X.then_exit (X.blk_exit (X.blk (X.then_ ?_)))))
    exact ⟨l2, l2A, l2C, b2, n2, (by rw [hagain1] at h; exact h), ((((hf.nil.cons (hf.get 6 _ rfl)).cons (hf.get 5 _ rfl)).cons (hf.get 3 _ rfl)).cons (hf.get 0 _ rfl)), hs.drop.drop⟩
   | cons xk2 llk2 =>
    have hltk2 := range_lt hkk2; have hc := range_go hkk2; have hxk2 := range_get hlk2
    obtain ⟨next2, hnext2⟩ : ∃ X : Prop, X = (forIn' (fun k x (s : Unit) next => M_field_way_L2 f c l2 b2 n2 again1 x2 k x (next ())) (fun (s : Unit) => again1 l2 b2 n2) llk2 (k2 + 1) ()) := ⟨_, rfl⟩
    replace h : M_field_way_L2 f c l2 b2 n2 again1 x2 k2 xk2  next2 := by rw [hnext2]; exact h
    unfold M_field_way_L2 at h
    refine wp_seq (R.list ?_)
    refine S.v hf hs (.bool true) rfl (V.cmp true rfl rfl rfl rfl hc) fun a hf => ?_
    refine R.nil (X.then_ (wp_seq ?_))
    refine C.yes hf rfl ?_
    refine wp_skip (X.then_ (wp_seq (wp_block (wp_seq (R.list ?_)))))
    refine S.v hf hs (elemPtr y3A (k2 * 3)) rfl (V.index rfl rfl rfl Try.runUnderlying22 Try.sizeOf28 (hs.ownSome 0 rfl (lt_of_get hxk2)) (Int.natCast_nonneg _) (lt_of_get hxk2) rfl) fun a hf => ?_
    refine S.v hf hs (.agg #[iv xk2.X, iv xk2.Y, iv xk2.Layer]) rfl (V.loadOwn (off := 0) 0 rfl hxk2 rfl rfl rfl Try.isAgg28 Try.sizeOf28 rfl rfl) fun a hf => ?_
    refine S.alloc hf hs rfl rfl rfl [iv 0, iv 0, iv 0] rfl Try.zeroValue28 rfl (fun g3 a w hf hs => ?_)
    refine S.storeBox 0 hf hs rfl rfl [iv xk2.X, iv xk2.Y, iv xk2.Layer] [iv xk2.X, iv xk2.Y, iv xk2.Layer] rfl rfl rfl rfl rfl Try.sizeOf28 rfl rfl rfl rfl (fun a w hf hs => ?_)
    refine R.nil (X.then_ (wp_seq (R.list ?_)))
    refine S.v hf hs (.agg #[iv b2.X, iv b2.Y, iv b2.Layer]) rfl (V.loadBox 4 rfl rfl rfl Try.isAgg28 Try.sizeOf28 rfl rfl) fun a hf => ?_
    refine S.v hf hs (.agg #[iv xk2.X, iv xk2.Y, iv xk2.Layer]) rfl (V.loadBox 0 rfl rfl rfl Try.isAgg28 Try.sizeOf28 rfl rfl) fun a hf => ?_
    refine S.call hf rfl rfl rfl (call_fn (vs := [.agg #[iv b2.X, iv b2.Y, iv b2.Layer], .agg #[iv xk2.X, iv xk2.Y, iv xk2.Layer]]) rfl rfl rfl Try.call79) (R_ref7_along b2 xk2 _  _ h) (fun v a w' hf hr => ?_)
    obtain ⟨y4, rfl, h2, hs2⟩ := hr
    replace h := h2; replace hs := hs.call hs2; clear h2 hs2
    refine S.p hf hs (iv y4) rfl rfl fun a hf => ?_
    refine R.nil (X.then_ (wp_seq (R.list ?_)))
    refine S.p hf hs (iv y4) rfl rfl fun a hf => ?_
    refine S.p hf hs (iv y4) rfl rfl fun a hf => ?_
    refine R.nil (X.then_ (wp_seq ?_))
    refine C.cut (J := fun a w => ∃ (n3 : Int), M_field_way_k3 f c l2 n2 again1 x2 xk2 next2 y4 n3 ∧ FrOk 99 [(0, (pn fg 0)), (3, (pn g1 0)), (5, .slice l2A l2.length l2C), (6, iv n2), (7, (pn g2 0)), (9, (pn g3 0)), (10, iv y4), (11, iv n3), (43, .slice y3A y3.length y3C), (44, iv (y3.length : Int)), (45, iv (k2 : Int))] a ∧ Sat w0 none_ [hbox g3 28 [iv xk2.X, iv xk2.Y, iv xk2.Layer], hown 28 y3A y3C y3, hbox g2 60 [iv x2.cost, iv x2.cells], hown 28 l2A l2C l2, hbox g1 28 [iv b2.X, iv b2.Y, iv b2.Layer]] w) ?_ ?_
    ·rintro a w ⟨n3, h, hf, hs⟩
     unfold M_field_way_k3 at h
     refine wp_seq ?_
     refine H.start (S := Sat w0 none_ [hbox g3 28 [iv xk2.X, iv xk2.Y, iv xk2.Layer], hown 28 y3A y3C y3, hbox g2 60 [iv x2.cost, iv x2.cells], hown 28 l2A l2C l2, hbox g1 28 [iv b2.X, iv b2.Y, iv b2.Layer]]) mo ?_
     replace hs := hs.drew
     refine H.v hf hs ((pn fg 0)) 0 rfl rfl (by kernel_rfl) (V.pure rfl) fun a hf => ?_
     refine H.v hf hs ((pn fg 0)) 1 rfl rfl (by kernel_rfl) (V.pure rfl) fun a hf => ?_
     refine H.v hf hs ((pn fg 9)) 2 rfl rfl (by kernel_rfl) (V.fieldBox rfl rfl Try.runUnderlying72 rfl Try.sizeOf70 rfl rfl) fun a hf => ?_
     refine H.v hf hs (.slice f_bestA f.best.length f_bestC) 3 rfl rfl (by kernel_rfl) (V.loadAt0 (off := 9) (Ag.args _ _ _) hb_f rfl rfl Try.isAgg70 Try.sizeOf70 rfl rfl) fun a hf => ?_
     refine H.v hf hs ((pn fg 0)) 4 rfl rfl (by kernel_rfl) (V.pure rfl) fun a hf => ?_
     refine H.v hf hs (.agg #[iv xk2.X, iv xk2.Y, iv xk2.Layer]) 5 rfl rfl (by kernel_rfl) (V.loadBox 0 rfl rfl rfl Try.isAgg28 Try.sizeOf28 rfl rfl) fun a hf => ?_
     refine H.v hf hs (iv n3) 8 rfl rfl (by kernel_rfl) (V.pure rfl) fun a hf => ?_
     refine H.each2 (i0 := 6) (i1 := 12) rfl rfl (by kernel_rfl) ?_ ?_
     ·refine S.call hf rfl rfl rfl (call_fn (vs := [(pn fg 0), .agg #[iv xk2.X, iv xk2.Y, iv xk2.Layer]]) rfl rfl rfl Try.call63) (R_field_at f xk2 _ f_g_BlockedA f_g_BlockedC ((Ag.args _ _ _).view hv_f_g_Blocked hs) f_blockedA f_blockedC ((Ag.args _ _ _).view hv_f_blocked hs) f_bestA f_bestC ((Ag.args _ _ _).view hv_f_best hs) fg ((Ag.args _ _ _).elem hb_f hs) _ h) (fun v a w' hf hr => ?_)
      obtain ⟨y5, rfl, h2, hs2⟩ := hr
      replace h := h2; replace hs := hs.call hs2; clear h2 hs2
      refine R.nil (X.then_ ?_)
      refine ⟨hs, ?_⟩
      refine H.v hf hs (iv (w64 (3 * y5))) 7 rfl rfl (by kernel_rfl) (V.pure rfl) fun a hf => ?_
      refine H.v hf hs (iv (w64 ((w64 (3 * y5)) + n3))) 9 rfl rfl (by kernel_rfl) (V.pure rfl) fun a hf => ?_
      obtain ⟨h0x3, x3, hx3, h⟩ := h
      refine H.v hf hs (elemPtr f_bestA ((w64 ((w64 (3 * y5)) + n3)).toNat * 2)) 10 rfl rfl (by kernel_rfl) (V.index rfl rfl rfl Try.runUnderlying70 Try.sizeOf60 (hv_f_best.some_ (lt_of_get hx3)) h0x3 (lt_of_get hx3) rfl) fun a hf => ?_
      refine H.v hf hs (.agg #[iv x3.cost, iv x3.cells]) 11 rfl rfl (by kernel_rfl) (V.loadEl (off := 0) (Ag.args _ _ _) (hv_f_best.flat hx3) rfl rfl rfl Try.isAgg60 Try.sizeOf60 rfl rfl) fun a hf => ?_
      refine H.one (i := 12) rfl (by kernel_rfl) ?_
      refine S.alloc hf hs rfl rfl rfl [iv 0, iv 0] rfl Try.zeroValue60 rfl (fun g4 a w hf hs => ?_)
      refine R.nil (X.then_ ?_)
      refine ⟨(hs.mask [false, true, true, true, true, true]), ?_⟩
      refine H.one (i := 13) rfl (by kernel_rfl) ?_
      refine S.storeBox 0 hf hs rfl rfl [iv x3.cost, iv x3.cells] [iv x3.cost, iv x3.cells] rfl rfl rfl rfl rfl Try.sizeOf60 rfl rfl rfl rfl (fun a w hf hs => ?_)
      refine R.nil (X.then_ ?_)
      refine ⟨(hs.mask [false, true, true, true, true, true]), ?_⟩
      refine H.done (by kernel_rfl) ?_
      refine X.then_ (wp_seq ?_)
      refine C.cut (J := fun a w => ∃ (c1 : Bool), M_field_way_k4 l2 again1 xk2 next2 n3 c1 ∧ FrOk 99 [(0, (pn fg 0)), (3, (pn g1 0)), (5, .slice l2A l2.length l2C), (6, iv n2), (7, (pn g2 0)), (9, (pn g3 0)), (11, iv n3), (43, .slice y3A y3.length y3C), (44, iv (y3.length : Int)), (45, iv (k2 : Int)), (90, .bool c1)] a ∧ Sat w0 none_ [hbox g4 60 [iv x3.cost, iv x3.cells], hbox g3 28 [iv xk2.X, iv xk2.Y, iv xk2.Layer], hown 28 y3A y3C y3, hbox g2 60 [iv x2.cost, iv x2.cells], hown 28 l2A l2C l2, hbox g1 28 [iv b2.X, iv b2.Y, iv b2.Layer]] w) ?_ ?_
      ·rintro a w ⟨c1, h, hf, hs⟩
       unfold M_field_way_k4 at h
       refine C.cond hf (b := c1) rfl (fun hc => ?_) (fun hc => ?_)
       ·replace h := h.1 hc
        refine wp_seq (R.list ?_)
        refine S.v hf hs (.agg #[iv xk2.X, iv xk2.Y, iv xk2.Layer]) rfl (V.loadBox 1 rfl rfl rfl Try.isAgg28 Try.sizeOf28 rfl rfl) fun a hf => ?_
        refine S.p hf hs (iv n3) rfl rfl fun a hf => ?_
        refine S.storeBox 5 hf hs rfl rfl [iv xk2.X, iv xk2.Y, iv xk2.Layer] [iv xk2.X, iv xk2.Y, iv xk2.Layer] rfl rfl rfl rfl rfl Try.sizeOf28 rfl rfl rfl rfl (fun a w hf hs => ?_)
        refine S.p hf hs (iv n3) rfl rfl fun a hf => ?_
        refine R.nil (X.then_ (wp_seq (R.list ?_)))
        refine S.p hf hs (.slice l2A l2.length l2C) rfl rfl fun a hf => ?_
        refine S.v hf hs (.agg #[iv xk2.X, iv xk2.Y, iv xk2.Layer]) rfl (V.loadBox 1 rfl rfl rfl Try.isAgg28 Try.sizeOf28 rfl rfl) fun a hf => ?_
        refine S.build1 hf hs rfl rfl rfl (α := Cell) xk2 rfl rfl rfl Try.runUnderlying22 Try.sizeOf28 Try.zeroValue28 rfl (by decide) (fun A2 a w hf hs => ?_)
        obtain ⟨hroom, h⟩ := h
        refine S.appendCells 5 hf hs rfl rfl rfl rfl rfl rfl rfl Try.underlying22 info28 rfl hroom ((hs.ownView 0 rfl).some_ (i := 0) (by simp)) (hs.ownView 0 rfl) (fun A3 C1 a w hf hs => ?_)
        replace hs := hs.drop
        refine S.p hf hs (.slice A3 (l2 ++ [xk2]).length C1) rfl rfl fun a hf => ?_
        refine R.nil (X.then_ (wp_exit ?_))
        refine X.blk_other rfl ?_
        refine X.then_exit (X.then_exit (X.blk_exit (X.blk (X.then_ ?_))))
        exact ⟨(l2 ++ [xk2]), A3, C1, xk2, n3, (by rw [hagain1] at h; exact h), ((((hf.nil.cons (hf.get 6 _ rfl)).cons (hf.get 5 _ rfl)).cons (hf.get 3 _ rfl)).cons (hf.get 0 _ rfl)), hs.drop.drop.drop.drop⟩
       ·replace h := h.2 hc
        refine wp_skip (X.blk (X.then_ (R.list ?_)))
        refine S.v hf hs (iv ((k2 + 1 : Nat) : Int)) rfl (V.incr rfl rfl rfl hltk2 hlenk2) fun a hf => ?_
        refine S.p hf hs (iv ((k2 + 1 : Nat) : Int)) rfl rfl fun a hf => ?_
        refine R.nil (X.then_ ?_)
        exact ⟨xk2, llk2, rfl, k2 + 1, range_drop hlk2, range_len hkk2, (by rw [hnext2] at h; exact h), ((((((((hf.nil.cons (hf.get 44 _ rfl)).cons (hf.get 43 _ rfl)).cons (hf.get 7 _ rfl)).cons (hf.get 6 _ rfl)).cons (hf.get 5 _ rfl)).cons (hf.get 3 _ rfl)).cons (hf.get 0 _ rfl)).cons (hf.get 45 _ rfl)), hs.drop.drop⟩
      ·skip
       refine H.start (S := Sat w0 none_ [hbox g4 60 [iv x3.cost, iv x3.cells], hbox g3 28 [iv xk2.X, iv xk2.Y, iv xk2.Layer], hown 28 y3A y3C y3, hbox g2 60 [iv x2.cost, iv x2.cells], hown 28 l2A l2C l2, hbox g1 28 [iv b2.X, iv b2.Y, iv b2.Layer]]) mo ?_
       replace hs := hs.drew
       refine H.v hf hs ((pn g4 1)) 0 rfl rfl (by kernel_rfl) (V.fieldBox rfl rfl Try.runUnderlying60 rfl Try.sizeOf3 rfl rfl) fun a hf => ?_
       refine H.v hf hs (iv x3.cells) 1 rfl rfl (by kernel_rfl) (V.loadBox 0 rfl rfl rfl Try.isAgg3 Try.sizeOf3 rfl rfl) fun a hf => ?_
       refine H.v hf hs ((pn g2 1)) 2 rfl rfl (by kernel_rfl) (V.fieldBox rfl rfl Try.runUnderlying60 rfl Try.sizeOf3 rfl rfl) fun a hf => ?_
       refine H.v hf hs (iv x2.cells) 3 rfl rfl (by kernel_rfl) (V.loadBox 3 rfl rfl rfl Try.isAgg3 Try.sizeOf3 rfl rfl) fun a hf => ?_
       refine H.v hf hs (iv (w64 (x2.cells - 1))) 4 rfl rfl (by kernel_rfl) (V.pure rfl) fun a hf => ?_
       refine H.v hf hs (.bool (x3.cells == (w64 (x2.cells - 1)))) 5 rfl rfl (by kernel_rfl) (V.pure rfl) fun a hf => ?_
       refine H.split hf hs (b := x3.cells == (w64 (x2.cells - 1))) (i := 6) rfl rfl rfl rfl (by kernel_rfl) (by kernel_rfl) (by kernel_rfl) (V.pure rfl) (fun hc a hf => ?_) (fun hc a hf => ?_)
       ·replace h := h.1 hc
        refine H.v hf hs ((pn g4 0)) 7 rfl rfl (by kernel_rfl) (V.fieldBox rfl rfl Try.runUnderlying60 rfl Try.sizeOf3 rfl rfl) fun a hf => ?_
        refine H.v hf hs (iv x3.cost) 8 rfl rfl (by kernel_rfl) (V.loadBox 0 rfl rfl rfl Try.isAgg3 Try.sizeOf3 rfl rfl) fun a hf => ?_
        refine H.v hf hs ((pn fg 0)) 9 rfl rfl (by kernel_rfl) (V.pure rfl) fun a hf => ?_
        refine H.v hf hs ((pn fg 0)) 10 rfl rfl (by kernel_rfl) (V.pure rfl) fun a hf => ?_
        refine H.v hf hs ((pn fg 4)) 11 rfl rfl (by kernel_rfl) (V.fieldBox rfl rfl Try.runUnderlying72 rfl Try.sizeOf26 rfl rfl) fun a hf => ?_
        refine H.v hf hs (.agg #[iv f.c.Step, iv f.c.Via, iv f.c.Turn, iv f.c.Against]) 12 rfl rfl (by kernel_rfl) (V.loadAt0 (off := 4) (Ag.args _ _ _) hb_f rfl rfl Try.isAgg26 Try.sizeOf26 rfl rfl) fun a hf => ?_
        refine H.v hf hs ((pn g3 2)) 13 rfl rfl (by kernel_rfl) (V.fieldBox rfl rfl Try.runUnderlying28 rfl Try.sizeOf3 rfl rfl) fun a hf => ?_
        refine H.v hf hs (iv xk2.Layer) 14 rfl rfl (by kernel_rfl) (V.loadBox 1 rfl rfl rfl Try.isAgg3 Try.sizeOf3 rfl rfl) fun a hf => ?_
        refine H.v hf hs (iv y4) 15 rfl rfl (by kernel_rfl) (V.pure rfl) fun a hf => ?_
        refine H.v hf hs (iv n2) 16 rfl rfl (by kernel_rfl) (V.pure rfl) fun a hf => ?_
        refine H.v hf hs ((pn g2 0)) 19 rfl rfl (by kernel_rfl) (V.fieldBox rfl rfl Try.runUnderlying60 rfl Try.sizeOf3 rfl rfl) fun a hf => ?_
        refine H.v hf hs (iv x2.cost) 20 rfl rfl (by kernel_rfl) (V.loadBox 3 rfl rfl rfl Try.isAgg3 Try.sizeOf3 rfl rfl) fun a hf => ?_
        refine H.one (i := 17) rfl (by kernel_rfl) ?_
        refine S.call hf rfl rfl rfl (call_fn (vs := [.agg #[iv f.c.Step, iv f.c.Via, iv f.c.Turn, iv f.c.Against], iv xk2.Layer, iv y4, iv n2]) rfl rfl rfl Try.call80) (R_ref7_stepCost f.c xk2.Layer y4 n2 _  _ h) (fun v a w' hf hr => ?_)
        obtain ⟨y6, rfl, h2, hs2⟩ := hr
        replace h := h2; replace hs := hs.call hs2; clear h2 hs2
        refine R.nil (X.then_ ?_)
        refine ⟨hs, ?_⟩
        refine H.v hf hs (iv (w64 (x3.cost + y6))) 18 rfl rfl (by kernel_rfl) (V.pure rfl) fun a hf => ?_
        refine H.v hf hs (.bool ((w64 (x3.cost + y6)) == x2.cost)) 21 rfl rfl (by kernel_rfl) (V.pure rfl) fun a hf => ?_
        refine H.v hf hs (.bool ((w64 (x3.cost + y6)) == x2.cost)) 22 rfl rfl (by kernel_rfl) (V.pure rfl) fun a hf => ?_
        refine H.done (by kernel_rfl) ?_
        refine X.then_ ?_
        exact ⟨((w64 (x3.cost + y6)) == x2.cost), h, (((((((((((hf.nil.cons (hf.get 90 _ rfl)).cons (hf.get 45 _ rfl)).cons (hf.get 44 _ rfl)).cons (hf.get 43 _ rfl)).cons (hf.get 11 _ rfl)).cons (hf.get 9 _ rfl)).cons (hf.get 7 _ rfl)).cons (hf.get 6 _ rfl)).cons (hf.get 5 _ rfl)).cons (hf.get 3 _ rfl)).cons (hf.get 0 _ rfl)), hs⟩
       ·replace h := h.2 hc
        refine H.k hf hs 7 rfl rfl (by kernel_rfl) fun a hf => ?_
        refine H.k hf hs 8 rfl rfl (by kernel_rfl) fun a hf => ?_
        refine H.k hf hs 9 rfl rfl (by kernel_rfl) fun a hf => ?_
        refine H.k hf hs 10 rfl rfl (by kernel_rfl) fun a hf => ?_
        refine H.k hf hs 11 rfl rfl (by kernel_rfl) fun a hf => ?_
        refine H.k hf hs 12 rfl rfl (by kernel_rfl) fun a hf => ?_
        refine H.k hf hs 13 rfl rfl (by kernel_rfl) fun a hf => ?_
        refine H.k hf hs 14 rfl rfl (by kernel_rfl) fun a hf => ?_
        refine H.k hf hs 15 rfl rfl (by kernel_rfl) fun a hf => ?_
        refine H.k hf hs 16 rfl rfl (by kernel_rfl) fun a hf => ?_
        refine H.k hf hs 19 rfl rfl (by kernel_rfl) fun a hf => ?_
        refine H.k hf hs 20 rfl rfl (by kernel_rfl) fun a hf => ?_
        refine H.one (i := 17) rfl (by kernel_rfl) ?_
        refine S.k hf rfl fun a hf => ?_
        refine R.nil (X.then_ ?_)
        refine ⟨hs, ?_⟩
        refine H.k hf hs 18 rfl rfl (by kernel_rfl) fun a hf => ?_
        refine H.k hf hs 21 rfl rfl (by kernel_rfl) fun a hf => ?_
        refine H.v hf hs (.bool false) 22 rfl rfl (by kernel_rfl) (V.pure rfl) fun a hf => ?_
        refine H.done (by kernel_rfl) ?_
        refine X.then_ ?_
        exact ⟨false, h, (((((((((((hf.nil.cons (hf.get 90 _ rfl)).cons (hf.get 45 _ rfl)).cons (hf.get 44 _ rfl)).cons (hf.get 43 _ rfl)).cons (hf.get 11 _ rfl)).cons (hf.get 9 _ rfl)).cons (hf.get 7 _ rfl)).cons (hf.get 6 _ rfl)).cons (hf.get 5 _ rfl)).cons (hf.get 3 _ rfl)).cons (hf.get 0 _ rfl)), hs⟩
     ·refine S.alloc hf hs rfl rfl rfl [iv 0, iv 0] rfl Try.zeroValue60 rfl (fun g4 a w hf hs => ?_)
      refine R.nil (X.then_ ?_)
      refine ⟨(hs.mask [false, true, true, true, true, true]), ?_⟩
      refine H.one (i := 6) rfl (by kernel_rfl) ?_
      refine S.call hf rfl rfl rfl (call_fn (vs := [(pn fg 0), .agg #[iv xk2.X, iv xk2.Y, iv xk2.Layer]]) rfl rfl rfl Try.call63) (R_field_at f xk2 _ f_g_BlockedA f_g_BlockedC ((Ag.args _ _ _).view hv_f_g_Blocked hs) f_blockedA f_blockedC ((Ag.args _ _ _).view hv_f_blocked hs) f_bestA f_bestC ((Ag.args _ _ _).view hv_f_best hs) fg ((Ag.args _ _ _).elem hb_f hs) _ h) (fun v a w' hf hr => ?_)
      obtain ⟨y5, rfl, h2, hs2⟩ := hr
      replace h := h2; replace hs := hs.call hs2; clear h2 hs2
      refine R.nil (X.then_ ?_)
      refine ⟨(hs.mask [false, true, true, true, true, true]), ?_⟩
      refine H.val hf (hs.mask [false, true, true, true, true, true]) (v := iv (w64 (3 * y5))) (i := 7) rfl rfl rfl rfl (by kernel_rfl) (by kernel_rfl) (by kernel_rfl) (V.pure rfl) (fun a hf => ?_)
      refine H.val hf (hs.mask [false, true, true, true, true, true]) (v := iv (w64 ((w64 (3 * y5)) + n3))) (i := 9) rfl rfl rfl rfl (by kernel_rfl) (by kernel_rfl) (by kernel_rfl) (V.pure rfl) (fun a hf => ?_)
      obtain ⟨h0x3, x3, hx3, h⟩ := h
      refine H.val hf (hs.mask [false, true, true, true, true, true]) (v := elemPtr f_bestA ((w64 ((w64 (3 * y5)) + n3)).toNat * 2)) (i := 10) rfl rfl rfl rfl (by kernel_rfl) (by kernel_rfl) (by kernel_rfl) (V.index rfl rfl rfl Try.runUnderlying70 Try.sizeOf60 (hv_f_best.some_ (lt_of_get hx3)) h0x3 (lt_of_get hx3) rfl) (fun a hf => ?_)
      refine H.val hf (hs.mask [false, true, true, true, true, true]) (v := .agg #[iv x3.cost, iv x3.cells]) (i := 11) rfl rfl rfl rfl (by kernel_rfl) (by kernel_rfl) (by kernel_rfl) (V.loadEl (off := 0) (Ag.args _ _ _) (hv_f_best.flat hx3) rfl rfl rfl Try.isAgg60 Try.sizeOf60 rfl rfl) (fun a hf => ?_)
      refine H.one (i := 13) rfl (by kernel_rfl) ?_
      refine S.storeBox 0 hf hs rfl rfl [iv x3.cost, iv x3.cells] [iv x3.cost, iv x3.cells] rfl rfl rfl rfl rfl Try.sizeOf60 rfl rfl rfl rfl (fun a w hf hs => ?_)
      refine R.nil (X.then_ ?_)
      refine ⟨(hs.mask [false, true, true, true, true, true]), ?_⟩
      refine H.done (by kernel_rfl) ?_
      refine X.then_ (wp_seq ?_)
      refine C.cut (J := fun a w => ∃ (c1 : Bool), M_field_way_k4 l2 again1 xk2 next2 n3 c1 ∧ FrOk 99 [(0, (pn fg 0)), (3, (pn g1 0)), (5, .slice l2A l2.length l2C), (6, iv n2), (7, (pn g2 0)), (9, (pn g3 0)), (11, iv n3), (43, .slice y3A y3.length y3C), (44, iv (y3.length : Int)), (45, iv (k2 : Int)), (90, .bool c1)] a ∧ Sat w0 none_ [hbox g4 60 [iv x3.cost, iv x3.cells], hbox g3 28 [iv xk2.X, iv xk2.Y, iv xk2.Layer], hown 28 y3A y3C y3, hbox g2 60 [iv x2.cost, iv x2.cells], hown 28 l2A l2C l2, hbox g1 28 [iv b2.X, iv b2.Y, iv b2.Layer]] w) ?_ ?_
      ·rintro a w ⟨c1, h, hf, hs⟩
       unfold M_field_way_k4 at h
       refine C.cond hf (b := c1) rfl (fun hc => ?_) (fun hc => ?_)
       ·replace h := h.1 hc
        refine wp_seq (R.list ?_)
        refine S.v hf hs (.agg #[iv xk2.X, iv xk2.Y, iv xk2.Layer]) rfl (V.loadBox 1 rfl rfl rfl Try.isAgg28 Try.sizeOf28 rfl rfl) fun a hf => ?_
        refine S.p hf hs (iv n3) rfl rfl fun a hf => ?_
        refine S.storeBox 5 hf hs rfl rfl [iv xk2.X, iv xk2.Y, iv xk2.Layer] [iv xk2.X, iv xk2.Y, iv xk2.Layer] rfl rfl rfl rfl rfl Try.sizeOf28 rfl rfl rfl rfl (fun a w hf hs => ?_)
        refine S.p hf hs (iv n3) rfl rfl fun a hf => ?_
        refine R.nil (X.then_ (wp_seq (R.list ?_)))
        refine S.p hf hs (.slice l2A l2.length l2C) rfl rfl fun a hf => ?_
        refine S.v hf hs (.agg #[iv xk2.X, iv xk2.Y, iv xk2.Layer]) rfl (V.loadBox 1 rfl rfl rfl Try.isAgg28 Try.sizeOf28 rfl rfl) fun a hf => ?_
        refine S.build1 hf hs rfl rfl rfl (α := Cell) xk2 rfl rfl rfl Try.runUnderlying22 Try.sizeOf28 Try.zeroValue28 rfl (by decide) (fun A2 a w hf hs => ?_)
        obtain ⟨hroom, h⟩ := h
        refine S.appendCells 5 hf hs rfl rfl rfl rfl rfl rfl rfl Try.underlying22 info28 rfl hroom ((hs.ownView 0 rfl).some_ (i := 0) (by simp)) (hs.ownView 0 rfl) (fun A3 C1 a w hf hs => ?_)
        replace hs := hs.drop
        refine S.p hf hs (.slice A3 (l2 ++ [xk2]).length C1) rfl rfl fun a hf => ?_
        refine R.nil (X.then_ (wp_exit ?_))
        refine X.blk_other rfl ?_
        refine X.then_exit (X.then_exit (X.blk_exit (X.blk (X.then_ ?_))))
        exact ⟨(l2 ++ [xk2]), A3, C1, xk2, n3, (by rw [hagain1] at h; exact h), ((((hf.nil.cons (hf.get 6 _ rfl)).cons (hf.get 5 _ rfl)).cons (hf.get 3 _ rfl)).cons (hf.get 0 _ rfl)), hs.drop.drop.drop.drop⟩
       ·replace h := h.2 hc
        refine wp_skip (X.blk (X.then_ (R.list ?_)))
        refine S.v hf hs (iv ((k2 + 1 : Nat) : Int)) rfl (V.incr rfl rfl rfl hltk2 hlenk2) fun a hf => ?_
        refine S.p hf hs (iv ((k2 + 1 : Nat) : Int)) rfl rfl fun a hf => ?_
        refine R.nil (X.then_ ?_)
        exact ⟨xk2, llk2, rfl, k2 + 1, range_drop hlk2, range_len hkk2, (by rw [hnext2] at h; exact h), ((((((((hf.nil.cons (hf.get 44 _ rfl)).cons (hf.get 43 _ rfl)).cons (hf.get 7 _ rfl)).cons (hf.get 6 _ rfl)).cons (hf.get 5 _ rfl)).cons (hf.get 3 _ rfl)).cons (hf.get 0 _ rfl)).cons (hf.get 45 _ rfl)), hs.drop.drop⟩
      ·skip
       refine H.start (S := Sat w0 none_ [hbox g4 60 [iv x3.cost, iv x3.cells], hbox g3 28 [iv xk2.X, iv xk2.Y, iv xk2.Layer], hown 28 y3A y3C y3, hbox g2 60 [iv x2.cost, iv x2.cells], hown 28 l2A l2C l2, hbox g1 28 [iv b2.X, iv b2.Y, iv b2.Layer]]) mo ?_
       replace hs := hs.drew
       refine H.v hf hs ((pn g4 1)) 0 rfl rfl (by kernel_rfl) (V.fieldBox rfl rfl Try.runUnderlying60 rfl Try.sizeOf3 rfl rfl) fun a hf => ?_
       refine H.v hf hs (iv x3.cells) 1 rfl rfl (by kernel_rfl) (V.loadBox 0 rfl rfl rfl Try.isAgg3 Try.sizeOf3 rfl rfl) fun a hf => ?_
       refine H.v hf hs ((pn g2 1)) 2 rfl rfl (by kernel_rfl) (V.fieldBox rfl rfl Try.runUnderlying60 rfl Try.sizeOf3 rfl rfl) fun a hf => ?_
       refine H.v hf hs (iv x2.cells) 3 rfl rfl (by kernel_rfl) (V.loadBox 3 rfl rfl rfl Try.isAgg3 Try.sizeOf3 rfl rfl) fun a hf => ?_
       refine H.v hf hs (iv (w64 (x2.cells - 1))) 4 rfl rfl (by kernel_rfl) (V.pure rfl) fun a hf => ?_
       refine H.v hf hs (.bool (x3.cells == (w64 (x2.cells - 1)))) 5 rfl rfl (by kernel_rfl) (V.pure rfl) fun a hf => ?_
       refine H.split hf hs (b := x3.cells == (w64 (x2.cells - 1))) (i := 6) rfl rfl rfl rfl (by kernel_rfl) (by kernel_rfl) (by kernel_rfl) (V.pure rfl) (fun hc a hf => ?_) (fun hc a hf => ?_)
       ·replace h := h.1 hc
        refine H.v hf hs ((pn g4 0)) 7 rfl rfl (by kernel_rfl) (V.fieldBox rfl rfl Try.runUnderlying60 rfl Try.sizeOf3 rfl rfl) fun a hf => ?_
        refine H.v hf hs (iv x3.cost) 8 rfl rfl (by kernel_rfl) (V.loadBox 0 rfl rfl rfl Try.isAgg3 Try.sizeOf3 rfl rfl) fun a hf => ?_
        refine H.v hf hs ((pn fg 0)) 9 rfl rfl (by kernel_rfl) (V.pure rfl) fun a hf => ?_
        refine H.v hf hs ((pn fg 0)) 10 rfl rfl (by kernel_rfl) (V.pure rfl) fun a hf => ?_
        refine H.v hf hs ((pn fg 4)) 11 rfl rfl (by kernel_rfl) (V.fieldBox rfl rfl Try.runUnderlying72 rfl Try.sizeOf26 rfl rfl) fun a hf => ?_
        refine H.v hf hs (.agg #[iv f.c.Step, iv f.c.Via, iv f.c.Turn, iv f.c.Against]) 12 rfl rfl (by kernel_rfl) (V.loadAt0 (off := 4) (Ag.args _ _ _) hb_f rfl rfl Try.isAgg26 Try.sizeOf26 rfl rfl) fun a hf => ?_
        refine H.v hf hs ((pn g3 2)) 13 rfl rfl (by kernel_rfl) (V.fieldBox rfl rfl Try.runUnderlying28 rfl Try.sizeOf3 rfl rfl) fun a hf => ?_
        refine H.v hf hs (iv xk2.Layer) 14 rfl rfl (by kernel_rfl) (V.loadBox 1 rfl rfl rfl Try.isAgg3 Try.sizeOf3 rfl rfl) fun a hf => ?_
        refine H.v hf hs (iv y4) 15 rfl rfl (by kernel_rfl) (V.pure rfl) fun a hf => ?_
        refine H.v hf hs (iv n2) 16 rfl rfl (by kernel_rfl) (V.pure rfl) fun a hf => ?_
        refine H.v hf hs ((pn g2 0)) 19 rfl rfl (by kernel_rfl) (V.fieldBox rfl rfl Try.runUnderlying60 rfl Try.sizeOf3 rfl rfl) fun a hf => ?_
        refine H.v hf hs (iv x2.cost) 20 rfl rfl (by kernel_rfl) (V.loadBox 3 rfl rfl rfl Try.isAgg3 Try.sizeOf3 rfl rfl) fun a hf => ?_
        refine H.one (i := 17) rfl (by kernel_rfl) ?_
        refine S.call hf rfl rfl rfl (call_fn (vs := [.agg #[iv f.c.Step, iv f.c.Via, iv f.c.Turn, iv f.c.Against], iv xk2.Layer, iv y4, iv n2]) rfl rfl rfl Try.call80) (R_ref7_stepCost f.c xk2.Layer y4 n2 _  _ h) (fun v a w' hf hr => ?_)
        obtain ⟨y6, rfl, h2, hs2⟩ := hr
        replace h := h2; replace hs := hs.call hs2; clear h2 hs2
        refine R.nil (X.then_ ?_)
        refine ⟨hs, ?_⟩
        refine H.v hf hs (iv (w64 (x3.cost + y6))) 18 rfl rfl (by kernel_rfl) (V.pure rfl) fun a hf => ?_
        refine H.v hf hs (.bool ((w64 (x3.cost + y6)) == x2.cost)) 21 rfl rfl (by kernel_rfl) (V.pure rfl) fun a hf => ?_
        refine H.v hf hs (.bool ((w64 (x3.cost + y6)) == x2.cost)) 22 rfl rfl (by kernel_rfl) (V.pure rfl) fun a hf => ?_
        refine H.done (by kernel_rfl) ?_
        refine X.then_ ?_
        exact ⟨((w64 (x3.cost + y6)) == x2.cost), h, (((((((((((hf.nil.cons (hf.get 90 _ rfl)).cons (hf.get 45 _ rfl)).cons (hf.get 44 _ rfl)).cons (hf.get 43 _ rfl)).cons (hf.get 11 _ rfl)).cons (hf.get 9 _ rfl)).cons (hf.get 7 _ rfl)).cons (hf.get 6 _ rfl)).cons (hf.get 5 _ rfl)).cons (hf.get 3 _ rfl)).cons (hf.get 0 _ rfl)), hs⟩
       ·replace h := h.2 hc
        refine H.k hf hs 7 rfl rfl (by kernel_rfl) fun a hf => ?_
        refine H.k hf hs 8 rfl rfl (by kernel_rfl) fun a hf => ?_
        refine H.k hf hs 9 rfl rfl (by kernel_rfl) fun a hf => ?_
        refine H.k hf hs 10 rfl rfl (by kernel_rfl) fun a hf => ?_
        refine H.k hf hs 11 rfl rfl (by kernel_rfl) fun a hf => ?_
        refine H.k hf hs 12 rfl rfl (by kernel_rfl) fun a hf => ?_
        refine H.k hf hs 13 rfl rfl (by kernel_rfl) fun a hf => ?_
        refine H.k hf hs 14 rfl rfl (by kernel_rfl) fun a hf => ?_
        refine H.k hf hs 15 rfl rfl (by kernel_rfl) fun a hf => ?_
        refine H.k hf hs 16 rfl rfl (by kernel_rfl) fun a hf => ?_
        refine H.k hf hs 19 rfl rfl (by kernel_rfl) fun a hf => ?_
        refine H.k hf hs 20 rfl rfl (by kernel_rfl) fun a hf => ?_
        refine H.one (i := 17) rfl (by kernel_rfl) ?_
        refine S.k hf rfl fun a hf => ?_
        refine R.nil (X.then_ ?_)
        refine ⟨hs, ?_⟩
        refine H.k hf hs 18 rfl rfl (by kernel_rfl) fun a hf => ?_
        refine H.k hf hs 21 rfl rfl (by kernel_rfl) fun a hf => ?_
        refine H.v hf hs (.bool false) 22 rfl rfl (by kernel_rfl) (V.pure rfl) fun a hf => ?_
        refine H.done (by kernel_rfl) ?_
        refine X.then_ ?_
        exact ⟨false, h, (((((((((((hf.nil.cons (hf.get 90 _ rfl)).cons (hf.get 45 _ rfl)).cons (hf.get 44 _ rfl)).cons (hf.get 43 _ rfl)).cons (hf.get 11 _ rfl)).cons (hf.get 9 _ rfl)).cons (hf.get 7 _ rfl)).cons (hf.get 6 _ rfl)).cons (hf.get 5 _ rfl)).cons (hf.get 3 _ rfl)).cons (hf.get 0 _ rfl)), hs⟩
    ·skip
     refine wp_seq (R.list ?_)
     refine S.p hf hs (iv y4) rfl rfl fun a hf => ?_
     refine S.p hf hs (.bool (y4 == 3)) rfl rfl fun a hf => ?_
     refine R.nil (X.then_ ?_)
     refine C.cond hf (b := y4 == 3) rfl (fun hc => ?_) (fun hc => ?_)
     ·replace h := h.1 hc
      refine R.list ?_
      refine S.p hf hs (iv n2) rfl rfl fun a hf => ?_
      refine S.p hf hs (iv n2) rfl rfl fun a hf => ?_
      refine R.nil (X.then_ ?_)
      exact ⟨n2, h, (((((((((((hf.nil.cons (hf.get 45 _ rfl)).cons (hf.get 44 _ rfl)).cons (hf.get 43 _ rfl)).cons (hf.get 11 _ rfl)).cons (hf.get 10 _ rfl)).cons (hf.get 9 _ rfl)).cons (hf.get 7 _ rfl)).cons (hf.get 6 _ rfl)).cons (hf.get 5 _ rfl)).cons (hf.get 3 _ rfl)).cons (hf.get 0 _ rfl)), hs⟩
     ·replace h := h.2 hc
      refine wp_skip (X.then_ ?_)
      exact ⟨y4, h, (((((((((((hf.nil.cons (hf.get 45 _ rfl)).cons (hf.get 44 _ rfl)).cons (hf.get 43 _ rfl)).cons (hf.get 11 _ rfl)).cons (hf.get 10 _ rfl)).cons (hf.get 9 _ rfl)).cons (hf.get 7 _ rfl)).cons (hf.get 6 _ rfl)).cons (hf.get 5 _ rfl)).cons (hf.get 3 _ rfl)).cons (hf.get 0 _ rfl)), hs⟩
  ·refine S.alloc hf hs rfl rfl rfl [iv 0, iv 0] rfl Try.zeroValue60 rfl (fun g2 a w hf hs => ?_)
   refine R.nil (X.then_ ?_)
   refine ⟨(hs.mask [false, true, true]), ?_⟩
   refine H.one (i := 6) rfl (by kernel_rfl) ?_
   refine S.call hf rfl rfl rfl (call_fn (vs := [(pn fg 0), .agg #[iv b2.X, iv b2.Y, iv b2.Layer]]) rfl rfl rfl Try.call63) (R_field_at f b2 _ f_g_BlockedA f_g_BlockedC ((Ag.args _ _ _).view hv_f_g_Blocked hs) f_blockedA f_blockedC ((Ag.args _ _ _).view hv_f_blocked hs) f_bestA f_bestC ((Ag.args _ _ _).view hv_f_best hs) fg ((Ag.args _ _ _).elem hb_f hs) _ h) (fun v a w' hf hr => ?_)
   obtain ⟨y2, rfl, h2, hs2⟩ := hr
   replace h := h2; replace hs := hs.call hs2; clear h2 hs2
   refine R.nil (X.then_ ?_)
   refine ⟨(hs.mask [false, true, true]), ?_⟩
   refine H.val hf (hs.mask [false, true, true]) (v := iv (w64 (3 * y2))) (i := 7) rfl rfl rfl rfl (by kernel_rfl) (by kernel_rfl) (by kernel_rfl) (V.pure rfl) (fun a hf => ?_)
   refine H.val hf (hs.mask [false, true, true]) (v := iv (w64 ((w64 (3 * y2)) + n2))) (i := 9) rfl rfl rfl rfl (by kernel_rfl) (by kernel_rfl) (by kernel_rfl) (V.pure rfl) (fun a hf => ?_)
   obtain ⟨h0x2, x2, hx2, h⟩ := h
   refine H.val hf (hs.mask [false, true, true]) (v := elemPtr f_bestA ((w64 ((w64 (3 * y2)) + n2)).toNat * 2)) (i := 10) rfl rfl rfl rfl (by kernel_rfl) (by kernel_rfl) (by kernel_rfl) (V.index rfl rfl rfl Try.runUnderlying70 Try.sizeOf60 (hv_f_best.some_ (lt_of_get hx2)) h0x2 (lt_of_get hx2) rfl) (fun a hf => ?_)
   refine H.val hf (hs.mask [false, true, true]) (v := .agg #[iv x2.cost, iv x2.cells]) (i := 11) rfl rfl rfl rfl (by kernel_rfl) (by kernel_rfl) (by kernel_rfl) (V.loadEl (off := 0) (Ag.args _ _ _) (hv_f_best.flat hx2) rfl rfl rfl Try.isAgg60 Try.sizeOf60 rfl rfl) (fun a hf => ?_)
   refine H.one (i := 13) rfl (by kernel_rfl) ?_
   refine S.storeBox 0 hf hs rfl rfl [iv x2.cost, iv x2.cells] [iv x2.cost, iv x2.cells] rfl rfl rfl rfl rfl Try.sizeOf60 rfl rfl rfl rfl (fun a w hf hs => ?_)
   refine R.nil (X.then_ ?_)
   refine ⟨(hs.mask [false, true, true]), ?_⟩
   refine H.done (by kernel_rfl) ?_
   refine X.then_ (wp_seq (R.list ?_))
   refine S.p hf hs ((pn fg 0)) rfl rfl fun a hf => ?_
   refine S.v hf hs (.agg #[iv b2.X, iv b2.Y, iv b2.Layer]) rfl (V.loadBox 2 rfl rfl rfl Try.isAgg28 Try.sizeOf28 rfl rfl) fun a hf => ?_
   refine S.call hf rfl rfl rfl (call_fn (vs := [(pn fg 0), .agg #[iv b2.X, iv b2.Y, iv b2.Layer]]) rfl rfl rfl Try.call78) (R_field_neighbours f b2 _ f_g_BlockedA f_g_BlockedC ((Ag.args _ _ _).view hv_f_g_Blocked hs) f_blockedA f_blockedC ((Ag.args _ _ _).view hv_f_blocked hs) f_bestA f_bestC ((Ag.args _ _ _).view hv_f_best hs) fg ((Ag.args _ _ _).elem hb_f hs) _ h) (fun v a w' hf hr => ?_)
   obtain ⟨y3, y3A, y3C, rfl, h2, hs2⟩ := hr
   replace h := h2; replace hs := hs.call hs2; clear h2 hs2
   refine S.v hf hs (iv (y3.length : Int)) rfl (V.len rfl rfl Try.runUnderlying22) fun a hf => ?_
   refine S.p hf hs (iv 0) rfl rfl fun a hf => ?_
   refine R.nil (X.then_ (wp_block ?_))
   have hlenk2 := (hs.ownView 0 rfl).len64
   refine C.range (fun (ll : List Cell) a w => ∃ (k2 : Nat) , y3.drop k2 = ll ∧ k2 + ll.length = y3.length ∧ forIn' (fun k x (s : Unit) next => M_field_way_L2 f c l2 b2 n2 again1 x2 k x (next ())) (fun (s : Unit) => again1 l2 b2 n2) ll k2 () ∧ FrOk 99 [(45, iv (k2 : Int)), (0, (pn fg 0)), (3, (pn g1 0)), (5, .slice l2A l2.length l2C), (6, iv n2), (7, (pn g2 0)), (43, .slice y3A y3.length y3C), (44, iv (y3.length : Int))] a ∧ Sat w0 none_ [hown 28 y3A y3C y3, hbox g2 60 [iv x2.cost, iv x2.cells], hown 28 l2A l2C l2, hbox g1 28 [iv b2.X, iv b2.Y, iv b2.Layer]] w) y3 ⟨0, rfl, Nat.zero_add _, h, ((((((((hf.nil.cons (hf.get 44 _ rfl)).cons (hf.get 43 _ rfl)).cons (hf.get 7 _ rfl)).cons (hf.get 6 _ rfl)).cons (hf.get 5 _ rfl)).cons (hf.get 3 _ rfl)).cons (hf.get 0 _ rfl)).cons (hf.get 45 _ rfl)), hs⟩ ?_
   clear h hf hs
   rintro llk2 a w ⟨k2, hlk2, hkk2, h, hf, hs⟩
   cases llk2 with
   | nil =>
    have hc := range_done hkk2
    replace h : again1 l2 b2 n2 := h
    refine wp_seq (R.list ?_)
    refine S.v hf hs (.bool false) rfl (V.cmp false rfl rfl rfl rfl hc) fun a hf => ?_
    refine R.nil (X.then_ (wp_seq ?_))
    refine C.no hf rfl ?_
    refine wp_exit (X.then_exit (X.then_exit (X.blk_exit (X.blk (X.then_ ?_)))))
    exact ⟨l2, l2A, l2C, b2, n2, (by rw [hagain1] at h; exact h), ((((hf.nil.cons (hf.get 6 _ rfl)).cons (hf.get 5 _ rfl)).cons (hf.get 3 _ rfl)).cons (hf.get 0 _ rfl)), hs.drop.drop⟩
   | cons xk2 llk2 =>
    have hltk2 := range_lt hkk2; have hc := range_go hkk2; have hxk2 := range_get hlk2
    obtain ⟨next2, hnext2⟩ : ∃ X : Prop, X = (forIn' (fun k x (s : Unit) next => M_field_way_L2 f c l2 b2 n2 again1 x2 k x (next ())) (fun (s : Unit) => again1 l2 b2 n2) llk2 (k2 + 1) ()) := ⟨_, rfl⟩
    replace h : M_field_way_L2 f c l2 b2 n2 again1 x2 k2 xk2  next2 := by rw [hnext2]; exact h
    unfold M_field_way_L2 at h
    refine wp_seq (R.list ?_)
    refine S.v hf hs (.bool true) rfl (V.cmp true rfl rfl rfl rfl hc) fun a hf => ?_
    refine R.nil (X.then_ (wp_seq ?_))
    refine C.yes hf rfl ?_
    refine wp_skip (X.then_ (wp_seq (wp_block (wp_seq (R.list ?_)))))
    refine S.v hf hs (elemPtr y3A (k2 * 3)) rfl (V.index rfl rfl rfl Try.runUnderlying22 Try.sizeOf28 (hs.ownSome 0 rfl (lt_of_get hxk2)) (Int.natCast_nonneg _) (lt_of_get hxk2) rfl) fun a hf => ?_
    refine S.v hf hs (.agg #[iv xk2.X, iv xk2.Y, iv xk2.Layer]) rfl (V.loadOwn (off := 0) 0 rfl hxk2 rfl rfl rfl Try.isAgg28 Try.sizeOf28 rfl rfl) fun a hf => ?_
    refine S.alloc hf hs rfl rfl rfl [iv 0, iv 0, iv 0] rfl Try.zeroValue28 rfl (fun g3 a w hf hs => ?_)
    refine S.storeBox 0 hf hs rfl rfl [iv xk2.X, iv xk2.Y, iv xk2.Layer] [iv xk2.X, iv xk2.Y, iv xk2.Layer] rfl rfl rfl rfl rfl Try.sizeOf28 rfl rfl rfl rfl (fun a w hf hs => ?_)
    refine R.nil (X.then_ (wp_seq (R.list ?_)))
    refine S.v hf hs (.agg #[iv b2.X, iv b2.Y, iv b2.Layer]) rfl (V.loadBox 4 rfl rfl rfl Try.isAgg28 Try.sizeOf28 rfl rfl) fun a hf => ?_
    refine S.v hf hs (.agg #[iv xk2.X, iv xk2.Y, iv xk2.Layer]) rfl (V.loadBox 0 rfl rfl rfl Try.isAgg28 Try.sizeOf28 rfl rfl) fun a hf => ?_
    refine S.call hf rfl rfl rfl (call_fn (vs := [.agg #[iv b2.X, iv b2.Y, iv b2.Layer], .agg #[iv xk2.X, iv xk2.Y, iv xk2.Layer]]) rfl rfl rfl Try.call79) (R_ref7_along b2 xk2 _  _ h) (fun v a w' hf hr => ?_)
    obtain ⟨y4, rfl, h2, hs2⟩ := hr
    replace h := h2; replace hs := hs.call hs2; clear h2 hs2
    refine S.p hf hs (iv y4) rfl rfl fun a hf => ?_
    refine R.nil (X.then_ (wp_seq (R.list ?_)))
    refine S.p hf hs (iv y4) rfl rfl fun a hf => ?_
    refine S.p hf hs (iv y4) rfl rfl fun a hf => ?_
    refine R.nil (X.then_ (wp_seq ?_))
    refine C.cut (J := fun a w => ∃ (n3 : Int), M_field_way_k3 f c l2 n2 again1 x2 xk2 next2 y4 n3 ∧ FrOk 99 [(0, (pn fg 0)), (3, (pn g1 0)), (5, .slice l2A l2.length l2C), (6, iv n2), (7, (pn g2 0)), (9, (pn g3 0)), (10, iv y4), (11, iv n3), (43, .slice y3A y3.length y3C), (44, iv (y3.length : Int)), (45, iv (k2 : Int))] a ∧ Sat w0 none_ [hbox g3 28 [iv xk2.X, iv xk2.Y, iv xk2.Layer], hown 28 y3A y3C y3, hbox g2 60 [iv x2.cost, iv x2.cells], hown 28 l2A l2C l2, hbox g1 28 [iv b2.X, iv b2.Y, iv b2.Layer]] w) ?_ ?_
    ·rintro a w ⟨n3, h, hf, hs⟩
     unfold M_field_way_k3 at h
     refine wp_seq ?_
     refine H.start (S := Sat w0 none_ [hbox g3 28 [iv xk2.X, iv xk2.Y, iv xk2.Layer], hown 28 y3A y3C y3, hbox g2 60 [iv x2.cost, iv x2.cells], hown 28 l2A l2C l2, hbox g1 28 [iv b2.X, iv b2.Y, iv b2.Layer]]) mo ?_
     replace hs := hs.drew
     refine H.v hf hs ((pn fg 0)) 0 rfl rfl (by kernel_rfl) (V.pure rfl) fun a hf => ?_
     refine H.v hf hs ((pn fg 0)) 1 rfl rfl (by kernel_rfl) (V.pure rfl) fun a hf => ?_
     refine H.v hf hs ((pn fg 9)) 2 rfl rfl (by kernel_rfl) (V.fieldBox rfl rfl Try.runUnderlying72 rfl Try.sizeOf70 rfl rfl) fun a hf => ?_
     refine H.v hf hs (.slice f_bestA f.best.length f_bestC) 3 rfl rfl (by kernel_rfl) (V.loadAt0 (off := 9) (Ag.args _ _ _) hb_f rfl rfl Try.isAgg70 Try.sizeOf70 rfl rfl) fun a hf => ?_
     refine H.v hf hs ((pn fg 0)) 4 rfl rfl (by kernel_rfl) (V.pure rfl) fun a hf => ?_
     refine H.v hf hs (.agg #[iv xk2.X, iv xk2.Y, iv xk2.Layer]) 5 rfl rfl (by kernel_rfl) (V.loadBox 0 rfl rfl rfl Try.isAgg28 Try.sizeOf28 rfl rfl) fun a hf => ?_
     refine H.v hf hs (iv n3) 8 rfl rfl (by kernel_rfl) (V.pure rfl) fun a hf => ?_
     refine H.each2 (i0 := 6) (i1 := 12) rfl rfl (by kernel_rfl) ?_ ?_
     ·refine S.call hf rfl rfl rfl (call_fn (vs := [(pn fg 0), .agg #[iv xk2.X, iv xk2.Y, iv xk2.Layer]]) rfl rfl rfl Try.call63) (R_field_at f xk2 _ f_g_BlockedA f_g_BlockedC ((Ag.args _ _ _).view hv_f_g_Blocked hs) f_blockedA f_blockedC ((Ag.args _ _ _).view hv_f_blocked hs) f_bestA f_bestC ((Ag.args _ _ _).view hv_f_best hs) fg ((Ag.args _ _ _).elem hb_f hs) _ h) (fun v a w' hf hr => ?_)
      obtain ⟨y5, rfl, h2, hs2⟩ := hr
      replace h := h2; replace hs := hs.call hs2; clear h2 hs2
      refine R.nil (X.then_ ?_)
      refine ⟨hs, ?_⟩
      refine H.v hf hs (iv (w64 (3 * y5))) 7 rfl rfl (by kernel_rfl) (V.pure rfl) fun a hf => ?_
      refine H.v hf hs (iv (w64 ((w64 (3 * y5)) + n3))) 9 rfl rfl (by kernel_rfl) (V.pure rfl) fun a hf => ?_
      obtain ⟨h0x3, x3, hx3, h⟩ := h
      refine H.v hf hs (elemPtr f_bestA ((w64 ((w64 (3 * y5)) + n3)).toNat * 2)) 10 rfl rfl (by kernel_rfl) (V.index rfl rfl rfl Try.runUnderlying70 Try.sizeOf60 (hv_f_best.some_ (lt_of_get hx3)) h0x3 (lt_of_get hx3) rfl) fun a hf => ?_
      refine H.v hf hs (.agg #[iv x3.cost, iv x3.cells]) 11 rfl rfl (by kernel_rfl) (V.loadEl (off := 0) (Ag.args _ _ _) (hv_f_best.flat hx3) rfl rfl rfl Try.isAgg60 Try.sizeOf60 rfl rfl) fun a hf => ?_
      refine H.one (i := 12) rfl (by kernel_rfl) ?_
      refine S.alloc hf hs rfl rfl rfl [iv 0, iv 0] rfl Try.zeroValue60 rfl (fun g4 a w hf hs => ?_)
      refine R.nil (X.then_ ?_)
      refine ⟨(hs.mask [false, true, true, true, true, true]), ?_⟩
      refine H.one (i := 13) rfl (by kernel_rfl) ?_
      refine S.storeBox 0 hf hs rfl rfl [iv x3.cost, iv x3.cells] [iv x3.cost, iv x3.cells] rfl rfl rfl rfl rfl Try.sizeOf60 rfl rfl rfl rfl (fun a w hf hs => ?_)
      refine R.nil (X.then_ ?_)
      refine ⟨(hs.mask [false, true, true, true, true, true]), ?_⟩
      refine H.done (by kernel_rfl) ?_
      refine X.then_ (wp_seq ?_)
      refine C.cut (J := fun a w => ∃ (c1 : Bool), M_field_way_k4 l2 again1 xk2 next2 n3 c1 ∧ FrOk 99 [(0, (pn fg 0)), (3, (pn g1 0)), (5, .slice l2A l2.length l2C), (6, iv n2), (7, (pn g2 0)), (9, (pn g3 0)), (11, iv n3), (43, .slice y3A y3.length y3C), (44, iv (y3.length : Int)), (45, iv (k2 : Int)), (90, .bool c1)] a ∧ Sat w0 none_ [hbox g4 60 [iv x3.cost, iv x3.cells], hbox g3 28 [iv xk2.X, iv xk2.Y, iv xk2.Layer], hown 28 y3A y3C y3, hbox g2 60 [iv x2.cost, iv x2.cells], hown 28 l2A l2C l2, hbox g1 28 [iv b2.X, iv b2.Y, iv b2.Layer]] w) ?_ ?_
      ·rintro a w ⟨c1, h, hf, hs⟩
       unfold M_field_way_k4 at h
       refine C.cond hf (b := c1) rfl (fun hc => ?_) (fun hc => ?_)
       ·replace h := h.1 hc
        refine wp_seq (R.list ?_)
        refine S.v hf hs (.agg #[iv xk2.X, iv xk2.Y, iv xk2.Layer]) rfl (V.loadBox 1 rfl rfl rfl Try.isAgg28 Try.sizeOf28 rfl rfl) fun a hf => ?_
        refine S.p hf hs (iv n3) rfl rfl fun a hf => ?_
        refine S.storeBox 5 hf hs rfl rfl [iv xk2.X, iv xk2.Y, iv xk2.Layer] [iv xk2.X, iv xk2.Y, iv xk2.Layer] rfl rfl rfl rfl rfl Try.sizeOf28 rfl rfl rfl rfl (fun a w hf hs => ?_)
        refine S.p hf hs (iv n3) rfl rfl fun a hf => ?_
        refine R.nil (X.then_ (wp_seq (R.list ?_)))
        refine S.p hf hs (.slice l2A l2.length l2C) rfl rfl fun a hf => ?_
        refine S.v hf hs (.agg #[iv xk2.X, iv xk2.Y, iv xk2.Layer]) rfl (V.loadBox 1 rfl rfl rfl Try.isAgg28 Try.sizeOf28 rfl rfl) fun a hf => ?_
        refine S.build1 hf hs rfl rfl rfl (α := Cell) xk2 rfl rfl rfl Try.runUnderlying22 Try.sizeOf28 Try.zeroValue28 rfl (by decide) (fun A2 a w hf hs => ?_)
        obtain ⟨hroom, h⟩ := h
        refine S.appendCells 5 hf hs rfl rfl rfl rfl rfl rfl rfl Try.underlying22 info28 rfl hroom ((hs.ownView 0 rfl).some_ (i := 0) (by simp)) (hs.ownView 0 rfl) (fun A3 C1 a w hf hs => ?_)
        replace hs := hs.drop
        refine S.p hf hs (.slice A3 (l2 ++ [xk2]).length C1) rfl rfl fun a hf => ?_
        refine R.nil (X.then_ (wp_exit ?_))
        refine X.blk_other rfl ?_
        refine X.then_exit (X.then_exit (X.blk_exit (X.blk (X.then_ ?_))))
        exact ⟨(l2 ++ [xk2]), A3, C1, xk2, n3, (by rw [hagain1] at h; exact h), ((((hf.nil.cons (hf.get 6 _ rfl)).cons (hf.get 5 _ rfl)).cons (hf.get 3 _ rfl)).cons (hf.get 0 _ rfl)), hs.drop.drop.drop.drop⟩
       ·replace h := h.2 hc
        refine wp_skip (X.blk (X.then_ (R.list ?_)))
        refine S.v hf hs (iv ((k2 + 1 : Nat) : Int)) rfl (V.incr rfl rfl rfl hltk2 hlenk2) fun a hf => ?_
        refine S.p hf hs (iv ((k2 + 1 : Nat) : Int)) rfl rfl fun a hf => ?_
        refine R.nil (X.then_ ?_)
        exact ⟨xk2, llk2, rfl, k2 + 1, range_drop hlk2, range_len hkk2, (by rw [hnext2] at h; exact h), ((((((((hf.nil.cons (hf.get 44 _ rfl)).cons (hf.get 43 _ rfl)).cons (hf.get 7 _ rfl)).cons (hf.get 6 _ rfl)).cons (hf.get 5 _ rfl)).cons (hf.get 3 _ rfl)).cons (hf.get 0 _ rfl)).cons (hf.get 45 _ rfl)), hs.drop.drop⟩
      ·skip
       refine H.start (S := Sat w0 none_ [hbox g4 60 [iv x3.cost, iv x3.cells], hbox g3 28 [iv xk2.X, iv xk2.Y, iv xk2.Layer], hown 28 y3A y3C y3, hbox g2 60 [iv x2.cost, iv x2.cells], hown 28 l2A l2C l2, hbox g1 28 [iv b2.X, iv b2.Y, iv b2.Layer]]) mo ?_
       replace hs := hs.drew
       refine H.v hf hs ((pn g4 1)) 0 rfl rfl (by kernel_rfl) (V.fieldBox rfl rfl Try.runUnderlying60 rfl Try.sizeOf3 rfl rfl) fun a hf => ?_
       refine H.v hf hs (iv x3.cells) 1 rfl rfl (by kernel_rfl) (V.loadBox 0 rfl rfl rfl Try.isAgg3 Try.sizeOf3 rfl rfl) fun a hf => ?_
       refine H.v hf hs ((pn g2 1)) 2 rfl rfl (by kernel_rfl) (V.fieldBox rfl rfl Try.runUnderlying60 rfl Try.sizeOf3 rfl rfl) fun a hf => ?_
       refine H.v hf hs (iv x2.cells) 3 rfl rfl (by kernel_rfl) (V.loadBox 3 rfl rfl rfl Try.isAgg3 Try.sizeOf3 rfl rfl) fun a hf => ?_
       refine H.v hf hs (iv (w64 (x2.cells - 1))) 4 rfl rfl (by kernel_rfl) (V.pure rfl) fun a hf => ?_
       refine H.v hf hs (.bool (x3.cells == (w64 (x2.cells - 1)))) 5 rfl rfl (by kernel_rfl) (V.pure rfl) fun a hf => ?_
       refine H.split hf hs (b := x3.cells == (w64 (x2.cells - 1))) (i := 6) rfl rfl rfl rfl (by kernel_rfl) (by kernel_rfl) (by kernel_rfl) (V.pure rfl) (fun hc a hf => ?_) (fun hc a hf => ?_)
       ·replace h := h.1 hc
        refine H.v hf hs ((pn g4 0)) 7 rfl rfl (by kernel_rfl) (V.fieldBox rfl rfl Try.runUnderlying60 rfl Try.sizeOf3 rfl rfl) fun a hf => ?_
        refine H.v hf hs (iv x3.cost) 8 rfl rfl (by kernel_rfl) (V.loadBox 0 rfl rfl rfl Try.isAgg3 Try.sizeOf3 rfl rfl) fun a hf => ?_
        refine H.v hf hs ((pn fg 0)) 9 rfl rfl (by kernel_rfl) (V.pure rfl) fun a hf => ?_
        refine H.v hf hs ((pn fg 0)) 10 rfl rfl (by kernel_rfl) (V.pure rfl) fun a hf => ?_
        refine H.v hf hs ((pn fg 4)) 11 rfl rfl (by kernel_rfl) (V.fieldBox rfl rfl Try.runUnderlying72 rfl Try.sizeOf26 rfl rfl) fun a hf => ?_
        refine H.v hf hs (.agg #[iv f.c.Step, iv f.c.Via, iv f.c.Turn, iv f.c.Against]) 12 rfl rfl (by kernel_rfl) (V.loadAt0 (off := 4) (Ag.args _ _ _) hb_f rfl rfl Try.isAgg26 Try.sizeOf26 rfl rfl) fun a hf => ?_
        refine H.v hf hs ((pn g3 2)) 13 rfl rfl (by kernel_rfl) (V.fieldBox rfl rfl Try.runUnderlying28 rfl Try.sizeOf3 rfl rfl) fun a hf => ?_
        refine H.v hf hs (iv xk2.Layer) 14 rfl rfl (by kernel_rfl) (V.loadBox 1 rfl rfl rfl Try.isAgg3 Try.sizeOf3 rfl rfl) fun a hf => ?_
        refine H.v hf hs (iv y4) 15 rfl rfl (by kernel_rfl) (V.pure rfl) fun a hf => ?_
        refine H.v hf hs (iv n2) 16 rfl rfl (by kernel_rfl) (V.pure rfl) fun a hf => ?_
        refine H.v hf hs ((pn g2 0)) 19 rfl rfl (by kernel_rfl) (V.fieldBox rfl rfl Try.runUnderlying60 rfl Try.sizeOf3 rfl rfl) fun a hf => ?_
        refine H.v hf hs (iv x2.cost) 20 rfl rfl (by kernel_rfl) (V.loadBox 3 rfl rfl rfl Try.isAgg3 Try.sizeOf3 rfl rfl) fun a hf => ?_
        refine H.one (i := 17) rfl (by kernel_rfl) ?_
        refine S.call hf rfl rfl rfl (call_fn (vs := [.agg #[iv f.c.Step, iv f.c.Via, iv f.c.Turn, iv f.c.Against], iv xk2.Layer, iv y4, iv n2]) rfl rfl rfl Try.call80) (R_ref7_stepCost f.c xk2.Layer y4 n2 _  _ h) (fun v a w' hf hr => ?_)
        obtain ⟨y6, rfl, h2, hs2⟩ := hr
        replace h := h2; replace hs := hs.call hs2; clear h2 hs2
        refine R.nil (X.then_ ?_)
        refine ⟨hs, ?_⟩
        refine H.v hf hs (iv (w64 (x3.cost + y6))) 18 rfl rfl (by kernel_rfl) (V.pure rfl) fun a hf => ?_
        refine H.v hf hs (.bool ((w64 (x3.cost + y6)) == x2.cost)) 21 rfl rfl (by kernel_rfl) (V.pure rfl) fun a hf => ?_
        refine H.v hf hs (.bool ((w64 (x3.cost + y6)) == x2.cost)) 22 rfl rfl (by kernel_rfl) (V.pure rfl) fun a hf => ?_
        refine H.done (by kernel_rfl) ?_
        refine X.then_ ?_
        exact ⟨((w64 (x3.cost + y6)) == x2.cost), h, (((((((((((hf.nil.cons (hf.get 90 _ rfl)).cons (hf.get 45 _ rfl)).cons (hf.get 44 _ rfl)).cons (hf.get 43 _ rfl)).cons (hf.get 11 _ rfl)).cons (hf.get 9 _ rfl)).cons (hf.get 7 _ rfl)).cons (hf.get 6 _ rfl)).cons (hf.get 5 _ rfl)).cons (hf.get 3 _ rfl)).cons (hf.get 0 _ rfl)), hs⟩
       ·replace h := h.2 hc
        refine H.k hf hs 7 rfl rfl (by kernel_rfl) fun a hf => ?_
        refine H.k hf hs 8 rfl rfl (by kernel_rfl) fun a hf => ?_
        refine H.k hf hs 9 rfl rfl (by kernel_rfl) fun a hf => ?_
        refine H.k hf hs 10 rfl rfl (by kernel_rfl) fun a hf => ?_
        refine H.k hf hs 11 rfl rfl (by kernel_rfl) fun a hf => ?_
        refine H.k hf hs 12 rfl rfl (by kernel_rfl) fun a hf => ?_
        refine H.k hf hs 13 rfl rfl (by kernel_rfl) fun a hf => ?_
        refine H.k hf hs 14 rfl rfl (by kernel_rfl) fun a hf => ?_
        refine H.k hf hs 15 rfl rfl (by kernel_rfl) fun a hf => ?_
        refine H.k hf hs 16 rfl rfl (by kernel_rfl) fun a hf => ?_
        refine H.k hf hs 19 rfl rfl (by kernel_rfl) fun a hf => ?_
        refine H.k hf hs 20 rfl rfl (by kernel_rfl) fun a hf => ?_
        refine H.one (i := 17) rfl (by kernel_rfl) ?_
        refine S.k hf rfl fun a hf => ?_
        refine R.nil (X.then_ ?_)
        refine ⟨hs, ?_⟩
        refine H.k hf hs 18 rfl rfl (by kernel_rfl) fun a hf => ?_
        refine H.k hf hs 21 rfl rfl (by kernel_rfl) fun a hf => ?_
        refine H.v hf hs (.bool false) 22 rfl rfl (by kernel_rfl) (V.pure rfl) fun a hf => ?_
        refine H.done (by kernel_rfl) ?_
        refine X.then_ ?_
        exact ⟨false, h, (((((((((((hf.nil.cons (hf.get 90 _ rfl)).cons (hf.get 45 _ rfl)).cons (hf.get 44 _ rfl)).cons (hf.get 43 _ rfl)).cons (hf.get 11 _ rfl)).cons (hf.get 9 _ rfl)).cons (hf.get 7 _ rfl)).cons (hf.get 6 _ rfl)).cons (hf.get 5 _ rfl)).cons (hf.get 3 _ rfl)).cons (hf.get 0 _ rfl)), hs⟩
     ·refine S.alloc hf hs rfl rfl rfl [iv 0, iv 0] rfl Try.zeroValue60 rfl (fun g4 a w hf hs => ?_)
      refine R.nil (X.then_ ?_)
      refine ⟨(hs.mask [false, true, true, true, true, true]), ?_⟩
      refine H.one (i := 6) rfl (by kernel_rfl) ?_
      refine S.call hf rfl rfl rfl (call_fn (vs := [(pn fg 0), .agg #[iv xk2.X, iv xk2.Y, iv xk2.Layer]]) rfl rfl rfl Try.call63) (R_field_at f xk2 _ f_g_BlockedA f_g_BlockedC ((Ag.args _ _ _).view hv_f_g_Blocked hs) f_blockedA f_blockedC ((Ag.args _ _ _).view hv_f_blocked hs) f_bestA f_bestC ((Ag.args _ _ _).view hv_f_best hs) fg ((Ag.args _ _ _).elem hb_f hs) _ h) (fun v a w' hf hr => ?_)
      obtain ⟨y5, rfl, h2, hs2⟩ := hr
      replace h := h2; replace hs := hs.call hs2; clear h2 hs2
      refine R.nil (X.then_ ?_)
      refine ⟨(hs.mask [false, true, true, true, true, true]), ?_⟩
      refine H.val hf (hs.mask [false, true, true, true, true, true]) (v := iv (w64 (3 * y5))) (i := 7) rfl rfl rfl rfl (by kernel_rfl) (by kernel_rfl) (by kernel_rfl) (V.pure rfl) (fun a hf => ?_)
      refine H.val hf (hs.mask [false, true, true, true, true, true]) (v := iv (w64 ((w64 (3 * y5)) + n3))) (i := 9) rfl rfl rfl rfl (by kernel_rfl) (by kernel_rfl) (by kernel_rfl) (V.pure rfl) (fun a hf => ?_)
      obtain ⟨h0x3, x3, hx3, h⟩ := h
      refine H.val hf (hs.mask [false, true, true, true, true, true]) (v := elemPtr f_bestA ((w64 ((w64 (3 * y5)) + n3)).toNat * 2)) (i := 10) rfl rfl rfl rfl (by kernel_rfl) (by kernel_rfl) (by kernel_rfl) (V.index rfl rfl rfl Try.runUnderlying70 Try.sizeOf60 (hv_f_best.some_ (lt_of_get hx3)) h0x3 (lt_of_get hx3) rfl) (fun a hf => ?_)
      refine H.val hf (hs.mask [false, true, true, true, true, true]) (v := .agg #[iv x3.cost, iv x3.cells]) (i := 11) rfl rfl rfl rfl (by kernel_rfl) (by kernel_rfl) (by kernel_rfl) (V.loadEl (off := 0) (Ag.args _ _ _) (hv_f_best.flat hx3) rfl rfl rfl Try.isAgg60 Try.sizeOf60 rfl rfl) (fun a hf => ?_)
      refine H.one (i := 13) rfl (by kernel_rfl) ?_
      refine S.storeBox 0 hf hs rfl rfl [iv x3.cost, iv x3.cells] [iv x3.cost, iv x3.cells] rfl rfl rfl rfl rfl Try.sizeOf60 rfl rfl rfl rfl (fun a w hf hs => ?_)
      refine R.nil (X.then_ ?_)
      refine ⟨(hs.mask [false, true, true, true, true, true]), ?_⟩
      refine H.done (by kernel_rfl) ?_
      refine X.then_ (wp_seq ?_)
      refine C.cut (J := fun a w => ∃ (c1 : Bool), M_field_way_k4 l2 again1 xk2 next2 n3 c1 ∧ FrOk 99 [(0, (pn fg 0)), (3, (pn g1 0)), (5, .slice l2A l2.length l2C), (6, iv n2), (7, (pn g2 0)), (9, (pn g3 0)), (11, iv n3), (43, .slice y3A y3.length y3C), (44, iv (y3.length : Int)), (45, iv (k2 : Int)), (90, .bool c1)] a ∧ Sat w0 none_ [hbox g4 60 [iv x3.cost, iv x3.cells], hbox g3 28 [iv xk2.X, iv xk2.Y, iv xk2.Layer], hown 28 y3A y3C y3, hbox g2 60 [iv x2.cost, iv x2.cells], hown 28 l2A l2C l2, hbox g1 28 [iv b2.X, iv b2.Y, iv b2.Layer]] w) ?_ ?_
      ·rintro a w ⟨c1, h, hf, hs⟩
       unfold M_field_way_k4 at h
       refine C.cond hf (b := c1) rfl (fun hc => ?_) (fun hc => ?_)
       ·replace h := h.1 hc
        refine wp_seq (R.list ?_)
        refine S.v hf hs (.agg #[iv xk2.X, iv xk2.Y, iv xk2.Layer]) rfl (V.loadBox 1 rfl rfl rfl Try.isAgg28 Try.sizeOf28 rfl rfl) fun a hf => ?_
        refine S.p hf hs (iv n3) rfl rfl fun a hf => ?_
        refine S.storeBox 5 hf hs rfl rfl [iv xk2.X, iv xk2.Y, iv xk2.Layer] [iv xk2.X, iv xk2.Y, iv xk2.Layer] rfl rfl rfl rfl rfl Try.sizeOf28 rfl rfl rfl rfl (fun a w hf hs => ?_)
        refine S.p hf hs (iv n3) rfl rfl fun a hf => ?_
        refine R.nil (X.then_ (wp_seq (R.list ?_)))
        refine S.p hf hs (.slice l2A l2.length l2C) rfl rfl fun a hf => ?_
        refine S.v hf hs (.agg #[iv xk2.X, iv xk2.Y, iv xk2.Layer]) rfl (V.loadBox 1 rfl rfl rfl Try.isAgg28 Try.sizeOf28 rfl rfl) fun a hf => ?_
        refine S.build1 hf hs rfl rfl rfl (α := Cell) xk2 rfl rfl rfl Try.runUnderlying22 Try.sizeOf28 Try.zeroValue28 rfl (by decide) (fun A2 a w hf hs => ?_)
        obtain ⟨hroom, h⟩ := h
        refine S.appendCells 5 hf hs rfl rfl rfl rfl rfl rfl rfl Try.underlying22 info28 rfl hroom ((hs.ownView 0 rfl).some_ (i := 0) (by simp)) (hs.ownView 0 rfl) (fun A3 C1 a w hf hs => ?_)
        replace hs := hs.drop
        refine S.p hf hs (.slice A3 (l2 ++ [xk2]).length C1) rfl rfl fun a hf => ?_
        refine R.nil (X.then_ (wp_exit ?_))
        refine X.blk_other rfl ?_
        refine X.then_exit (X.then_exit (X.blk_exit (X.blk (X.then_ ?_))))
        exact ⟨(l2 ++ [xk2]), A3, C1, xk2, n3, (by rw [hagain1] at h; exact h), ((((hf.nil.cons (hf.get 6 _ rfl)).cons (hf.get 5 _ rfl)).cons (hf.get 3 _ rfl)).cons (hf.get 0 _ rfl)), hs.drop.drop.drop.drop⟩
       ·replace h := h.2 hc
        refine wp_skip (X.blk (X.then_ (R.list ?_)))
        refine S.v hf hs (iv ((k2 + 1 : Nat) : Int)) rfl (V.incr rfl rfl rfl hltk2 hlenk2) fun a hf => ?_
        refine S.p hf hs (iv ((k2 + 1 : Nat) : Int)) rfl rfl fun a hf => ?_
        refine R.nil (X.then_ ?_)
        exact ⟨xk2, llk2, rfl, k2 + 1, range_drop hlk2, range_len hkk2, (by rw [hnext2] at h; exact h), ((((((((hf.nil.cons (hf.get 44 _ rfl)).cons (hf.get 43 _ rfl)).cons (hf.get 7 _ rfl)).cons (hf.get 6 _ rfl)).cons (hf.get 5 _ rfl)).cons (hf.get 3 _ rfl)).cons (hf.get 0 _ rfl)).cons (hf.get 45 _ rfl)), hs.drop.drop⟩
      ·skip
       refine H.start (S := Sat w0 none_ [hbox g4 60 [iv x3.cost, iv x3.cells], hbox g3 28 [iv xk2.X, iv xk2.Y, iv xk2.Layer], hown 28 y3A y3C y3, hbox g2 60 [iv x2.cost, iv x2.cells], hown 28 l2A l2C l2, hbox g1 28 [iv b2.X, iv b2.Y, iv b2.Layer]]) mo ?_
       replace hs := hs.drew
       refine H.v hf hs ((pn g4 1)) 0 rfl rfl (by kernel_rfl) (V.fieldBox rfl rfl Try.runUnderlying60 rfl Try.sizeOf3 rfl rfl) fun a hf => ?_
       refine H.v hf hs (iv x3.cells) 1 rfl rfl (by kernel_rfl) (V.loadBox 0 rfl rfl rfl Try.isAgg3 Try.sizeOf3 rfl rfl) fun a hf => ?_
       refine H.v hf hs ((pn g2 1)) 2 rfl rfl (by kernel_rfl) (V.fieldBox rfl rfl Try.runUnderlying60 rfl Try.sizeOf3 rfl rfl) fun a hf => ?_
       refine H.v hf hs (iv x2.cells) 3 rfl rfl (by kernel_rfl) (V.loadBox 3 rfl rfl rfl Try.isAgg3 Try.sizeOf3 rfl rfl) fun a hf => ?_
       refine H.v hf hs (iv (w64 (x2.cells - 1))) 4 rfl rfl (by kernel_rfl) (V.pure rfl) fun a hf => ?_
       refine H.v hf hs (.bool (x3.cells == (w64 (x2.cells - 1)))) 5 rfl rfl (by kernel_rfl) (V.pure rfl) fun a hf => ?_
       refine H.split hf hs (b := x3.cells == (w64 (x2.cells - 1))) (i := 6) rfl rfl rfl rfl (by kernel_rfl) (by kernel_rfl) (by kernel_rfl) (V.pure rfl) (fun hc a hf => ?_) (fun hc a hf => ?_)
       ·replace h := h.1 hc
        refine H.v hf hs ((pn g4 0)) 7 rfl rfl (by kernel_rfl) (V.fieldBox rfl rfl Try.runUnderlying60 rfl Try.sizeOf3 rfl rfl) fun a hf => ?_
        refine H.v hf hs (iv x3.cost) 8 rfl rfl (by kernel_rfl) (V.loadBox 0 rfl rfl rfl Try.isAgg3 Try.sizeOf3 rfl rfl) fun a hf => ?_
        refine H.v hf hs ((pn fg 0)) 9 rfl rfl (by kernel_rfl) (V.pure rfl) fun a hf => ?_
        refine H.v hf hs ((pn fg 0)) 10 rfl rfl (by kernel_rfl) (V.pure rfl) fun a hf => ?_
        refine H.v hf hs ((pn fg 4)) 11 rfl rfl (by kernel_rfl) (V.fieldBox rfl rfl Try.runUnderlying72 rfl Try.sizeOf26 rfl rfl) fun a hf => ?_
        refine H.v hf hs (.agg #[iv f.c.Step, iv f.c.Via, iv f.c.Turn, iv f.c.Against]) 12 rfl rfl (by kernel_rfl) (V.loadAt0 (off := 4) (Ag.args _ _ _) hb_f rfl rfl Try.isAgg26 Try.sizeOf26 rfl rfl) fun a hf => ?_
        refine H.v hf hs ((pn g3 2)) 13 rfl rfl (by kernel_rfl) (V.fieldBox rfl rfl Try.runUnderlying28 rfl Try.sizeOf3 rfl rfl) fun a hf => ?_
        refine H.v hf hs (iv xk2.Layer) 14 rfl rfl (by kernel_rfl) (V.loadBox 1 rfl rfl rfl Try.isAgg3 Try.sizeOf3 rfl rfl) fun a hf => ?_
        refine H.v hf hs (iv y4) 15 rfl rfl (by kernel_rfl) (V.pure rfl) fun a hf => ?_
        refine H.v hf hs (iv n2) 16 rfl rfl (by kernel_rfl) (V.pure rfl) fun a hf => ?_
        refine H.v hf hs ((pn g2 0)) 19 rfl rfl (by kernel_rfl) (V.fieldBox rfl rfl Try.runUnderlying60 rfl Try.sizeOf3 rfl rfl) fun a hf => ?_
        refine H.v hf hs (iv x2.cost) 20 rfl rfl (by kernel_rfl) (V.loadBox 3 rfl rfl rfl Try.isAgg3 Try.sizeOf3 rfl rfl) fun a hf => ?_
        refine H.one (i := 17) rfl (by kernel_rfl) ?_
        refine S.call hf rfl rfl rfl (call_fn (vs := [.agg #[iv f.c.Step, iv f.c.Via, iv f.c.Turn, iv f.c.Against], iv xk2.Layer, iv y4, iv n2]) rfl rfl rfl Try.call80) (R_ref7_stepCost f.c xk2.Layer y4 n2 _  _ h) (fun v a w' hf hr => ?_)
        obtain ⟨y6, rfl, h2, hs2⟩ := hr
        replace h := h2; replace hs := hs.call hs2; clear h2 hs2
        refine R.nil (X.then_ ?_)
        refine ⟨hs, ?_⟩
        refine H.v hf hs (iv (w64 (x3.cost + y6))) 18 rfl rfl (by kernel_rfl) (V.pure rfl) fun a hf => ?_
        refine H.v hf hs (.bool ((w64 (x3.cost + y6)) == x2.cost)) 21 rfl rfl (by kernel_rfl) (V.pure rfl) fun a hf => ?_
        refine H.v hf hs (.bool ((w64 (x3.cost + y6)) == x2.cost)) 22 rfl rfl (by kernel_rfl) (V.pure rfl) fun a hf => ?_
        refine H.done (by kernel_rfl) ?_
        refine X.then_ ?_
        exact ⟨((w64 (x3.cost + y6)) == x2.cost), h, (((((((((((hf.nil.cons (hf.get 90 _ rfl)).cons (hf.get 45 _ rfl)).cons (hf.get 44 _ rfl)).cons (hf.get 43 _ rfl)).cons (hf.get 11 _ rfl)).cons (hf.get 9 _ rfl)).cons (hf.get 7 _ rfl)).cons (hf.get 6 _ rfl)).cons (hf.get 5 _ rfl)).cons (hf.get 3 _ rfl)).cons (hf.get 0 _ rfl)), hs⟩
       ·replace h := h.2 hc
        refine H.k hf hs 7 rfl rfl (by kernel_rfl) fun a hf => ?_
        refine H.k hf hs 8 rfl rfl (by kernel_rfl) fun a hf => ?_
        refine H.k hf hs 9 rfl rfl (by kernel_rfl) fun a hf => ?_
        refine H.k hf hs 10 rfl rfl (by kernel_rfl) fun a hf => ?_
        refine H.k hf hs 11 rfl rfl (by kernel_rfl) fun a hf => ?_
        refine H.k hf hs 12 rfl rfl (by kernel_rfl) fun a hf => ?_
        refine H.k hf hs 13 rfl rfl (by kernel_rfl) fun a hf => ?_
        refine H.k hf hs 14 rfl rfl (by kernel_rfl) fun a hf => ?_
        refine H.k hf hs 15 rfl rfl (by kernel_rfl) fun a hf => ?_
        refine H.k hf hs 16 rfl rfl (by kernel_rfl) fun a hf => ?_
        refine H.k hf hs 19 rfl rfl (by kernel_rfl) fun a hf => ?_
        refine H.k hf hs 20 rfl rfl (by kernel_rfl) fun a hf => ?_
        refine H.one (i := 17) rfl (by kernel_rfl) ?_
        refine S.k hf rfl fun a hf => ?_
        refine R.nil (X.then_ ?_)
        refine ⟨hs, ?_⟩
        refine H.k hf hs 18 rfl rfl (by kernel_rfl) fun a hf => ?_
        refine H.k hf hs 21 rfl rfl (by kernel_rfl) fun a hf => ?_
        refine H.v hf hs (.bool false) 22 rfl rfl (by kernel_rfl) (V.pure rfl) fun a hf => ?_
        refine H.done (by kernel_rfl) ?_
        refine X.then_ ?_
        exact ⟨false, h, (((((((((((hf.nil.cons (hf.get 90 _ rfl)).cons (hf.get 45 _ rfl)).cons (hf.get 44 _ rfl)).cons (hf.get 43 _ rfl)).cons (hf.get 11 _ rfl)).cons (hf.get 9 _ rfl)).cons (hf.get 7 _ rfl)).cons (hf.get 6 _ rfl)).cons (hf.get 5 _ rfl)).cons (hf.get 3 _ rfl)).cons (hf.get 0 _ rfl)), hs⟩
    ·skip
     refine wp_seq (R.list ?_)
     refine S.p hf hs (iv y4) rfl rfl fun a hf => ?_
     refine S.p hf hs (.bool (y4 == 3)) rfl rfl fun a hf => ?_
     refine R.nil (X.then_ ?_)
     refine C.cond hf (b := y4 == 3) rfl (fun hc => ?_) (fun hc => ?_)
     ·replace h := h.1 hc
      refine R.list ?_
      refine S.p hf hs (iv n2) rfl rfl fun a hf => ?_
      refine S.p hf hs (iv n2) rfl rfl fun a hf => ?_
      refine R.nil (X.then_ ?_)
      exact ⟨n2, h, (((((((((((hf.nil.cons (hf.get 45 _ rfl)).cons (hf.get 44 _ rfl)).cons (hf.get 43 _ rfl)).cons (hf.get 11 _ rfl)).cons (hf.get 10 _ rfl)).cons (hf.get 9 _ rfl)).cons (hf.get 7 _ rfl)).cons (hf.get 6 _ rfl)).cons (hf.get 5 _ rfl)).cons (hf.get 3 _ rfl)).cons (hf.get 0 _ rfl)), hs⟩
     ·replace h := h.2 hc
      refine wp_skip (X.then_ ?_)
      exact ⟨y4, h, (((((((((((hf.nil.cons (hf.get 45 _ rfl)).cons (hf.get 44 _ rfl)).cons (hf.get 43 _ rfl)).cons (hf.get 11 _ rfl)).cons (hf.get 10 _ rfl)).cons (hf.get 9 _ rfl)).cons (hf.get 7 _ rfl)).cons (hf.get 6 _ rfl)).cons (hf.get 5 _ rfl)).cons (hf.get 3 _ rfl)).cons (hf.get 0 _ rfl)), hs⟩
 ·replace h := h.2 hc
  refine wp_exit (X.then_exit (X.then_exit (X.blk_exit (X.then_ (wp_seq (R.list ?_))))))
  refine S.p hf hs (.slice l2A l2.length l2C) rfl rfl fun a hf => ?_
  refine S.p hf hs (.slice l2A l2.length l2C) rfl rfl fun a hf => ?_
  refine R.nil (X.then_ (wp_ret ?_))
  replace hs := hs.take 1
  exact L.ret hf (run_results1 Try.results46 (ResIs.tmp hf rfl)) ⟨l2, l2A, l2C, rfl, h, hs⟩
set_option linter.unusedVariables false
end Go.Proofs.Ytihjaehkdgdenaa
