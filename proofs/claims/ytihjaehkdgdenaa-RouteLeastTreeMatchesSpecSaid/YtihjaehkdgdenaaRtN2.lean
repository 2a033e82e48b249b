/- Chapter 7: the reference's ends: the walks. -/
import Derived.Test.YtihjaehkdgdenaaRtN
namespace Go.Proofs.Ytihjaehkdgdenaa
open Go Go.RowKit
set_option linter.unusedVariables false
set_option linter.unusedSimpArgs false

set_option linter.unusedVariables false
def M_field_from (f : R7Field) (c : Cell) (Q : R7Worth → Prop) : Prop :=
  M_field_at f c fun y1 => idx f.best (w64 (3 * y1)) fun x1 => Q x1
set_option maxHeartbeats 1000000 in
theorem R_field_from (f : R7Field) (c : Cell) (w0 : World) (f_g_BlockedA : Option Addr) (f_g_BlockedC : Nat) (hv_f_g_Blocked : View w0 (old w0 none_) f_g_BlockedA f_g_BlockedC f.g.Blocked) (f_blockedA : Option Addr) (f_blockedC : Nat) (hv_f_blocked : View w0 (old w0 none_) f_blockedA f_blockedC f.blocked) (f_bestA : Option Addr) (f_bestC : Nat) (hv_f_best : View w0 (old w0 none_) f_bestA f_bestC f.best) (fg : Nat) (hb_f : ElemAt w0 (old w0 none_) (some ⟨fg, 0, none⟩) 0 [iv f.g.W, iv f.g.H, iv f.g.Layers, .slice f_g_BlockedA f.g.Blocked.length f_g_BlockedC, iv f.c.Step, iv f.c.Via, iv f.c.Turn, iv f.c.Against, .slice f_blockedA f.blocked.length f_blockedC, .slice f_bestA f.best.length f_bestC]) (Q : R7Worth → Prop) (h : M_field_from f c Q) :
    Ret Try.prog 39 #[(pn fg 0), .agg #[iv c.X, iv c.Y, iv c.Layer]] w0 fun v w' => ∃ (r0 : R7Worth), v = .agg #[iv r0.cost, iv r0.cells] ∧ Q r0 ∧ Sat w0 none_ [] w' := by
  refine fn_enter Try.func39 rfl Try.ntmps39 rfl (fs := [(0, (pn fg 0)), (1, .agg #[iv c.X, iv c.Y, iv c.Layer])]) rfl (fun a hf => ?_)
  have hs := Sat.start w0 none_
  unfold M_field_from at h
  refine wp_seq ?_
  refine R.list ?_
  refine S.box hf hs rfl rfl rfl [iv c.X, iv c.Y, iv c.Layer] rfl rfl rfl (fun g1 a w hf hs => ?_)
  refine S.alloc hf hs rfl rfl rfl [iv 0, iv 0] rfl Try.zeroValue60 rfl (fun g2 a w hf hs => ?_)
  refine R.nil ?_
  refine X.then_ ?_
  refine wp_seq ?_
  refine M.start 10 (Sat w0 none_ [hbox g2 60 [iv 0, iv 0], hbox g1 28 [iv c.X, iv c.Y, iv c.Layer]]) mo ?_
  replace hs := hs.drew
  refine M.v hf hs ((pn fg 0)) 0 rfl rfl (by kernel_rfl) (V.pure rfl) fun a hf => ?_
  refine M.v hf hs ((pn fg 0)) 1 rfl rfl (by kernel_rfl) (V.pure rfl) fun a hf => ?_
  refine M.v hf hs ((pn fg 9)) 2 rfl rfl (by kernel_rfl) (V.fieldBox rfl rfl Try.runUnderlying72 rfl Try.sizeOf70 rfl rfl) fun a hf => ?_
  refine M.v hf hs (.slice f_bestA f.best.length f_bestC) 3 rfl rfl (by kernel_rfl) (V.loadAt0 (off := 9) (Ag.args _ _ _) hb_f rfl rfl Try.isAgg70 Try.sizeOf70 rfl rfl) fun a hf => ?_
  refine M.v hf hs ((pn fg 0)) 4 rfl rfl (by kernel_rfl) (V.pure rfl) fun a hf => ?_
  refine M.v hf hs (.agg #[iv c.X, iv c.Y, iv c.Layer]) 5 rfl rfl (by kernel_rfl) (V.loadBox 1 rfl rfl rfl Try.isAgg28 Try.sizeOf28 rfl rfl) fun a hf => ?_
  refine M.one (i := 6) rfl (by kernel_rfl) ?_
  refine S.call hf rfl rfl rfl (call_fn (vs := [(pn fg 0), .agg #[iv c.X, iv c.Y, iv c.Layer]]) rfl rfl rfl Try.call63) (R_field_at f c _ f_g_BlockedA f_g_BlockedC ((Ag.args _ _ _).view hv_f_g_Blocked hs) f_blockedA f_blockedC ((Ag.args _ _ _).view hv_f_blocked hs) f_bestA f_bestC ((Ag.args _ _ _).view hv_f_best hs) fg ((Ag.args _ _ _).elem hb_f hs) _ h) (fun v a w' hf hr => ?_)
  obtain ⟨y1, rfl, h2, hs2⟩ := hr
  replace h := h2; replace hs := hs.call hs2; clear h2 hs2
  refine R.nil ?_
  refine X.then_ ?_
  refine ⟨hs, ?_⟩
  refine M.v hf hs (iv (w64 (3 * y1))) 7 rfl rfl (by kernel_rfl) (V.pure rfl) fun a hf => ?_
  obtain ⟨h0x1, x1, hx1, h⟩ := h
  refine M.v hf hs (elemPtr f_bestA ((w64 (3 * y1)).toNat * 2)) 8 rfl rfl (by kernel_rfl) (V.index rfl rfl rfl Try.runUnderlying70 Try.sizeOf60 (hv_f_best.some_ (lt_of_get hx1)) h0x1 (lt_of_get hx1) rfl) fun a hf => ?_
  refine M.v hf hs (.agg #[iv x1.cost, iv x1.cells]) 9 rfl rfl (by kernel_rfl) (V.loadEl (off := 0) (Ag.args _ _ _) (hv_f_best.flat hx1) rfl rfl rfl Try.isAgg60 Try.sizeOf60 rfl rfl) fun a hf => ?_
  refine M.last (i := 10) rfl (by kernel_rfl) (by kernel_rfl) ?_
  refine S.storeBox 0 hf hs rfl rfl [iv x1.cost, iv x1.cells] [iv x1.cost, iv x1.cells] rfl rfl rfl rfl rfl Try.sizeOf60 rfl rfl rfl rfl (fun a w hf hs => ?_)
  refine R.nil ?_
  refine X.then_ ?_
  refine M.done (by kernel_rfl) ?_
  refine X.then_ ?_
  refine wp_ret ?_
  have hsR := hs
  exact L.ret hf (run_results1 Try.results39 (ResIs.box hf hsR 0 rfl rfl Try.isAgg60 Try.sizeOf60 rfl rfl)) ⟨x1, rfl, h, hs.nil⟩

set_option linter.unusedVariables false
def M_ref7_askEnds_L2 (g : Grid) (Q : Int → Prop) (k2 : Nat) (xk2 : Cell)  (next2 : Prop) : Prop :=
  M_contains_cell g.Blocked xk2 fun y2 => cnd y2 (Q 14) (next2)
def M_ref7_askEnds_L1 (g : Grid) (Q : Int → Prop) (k1 : Nat) (xk1 : Cell)  (next1 : Prop) : Prop :=
  M_ref7_isCell g xk1 fun y3 => cnd (!y3) (Q 1) (next1)
def M_ref7_askEnds (g : Grid) (c : Costs) (l : (List Cell)) (Q : Int → Prop) : Prop :=
  M_ref7_askGrid g c fun y1 => cnd (y1 != 0) (Q y1) (forIn' (fun k x (s : Unit) next => M_ref7_askEnds_L1 g Q k x (next ())) (fun (s : Unit) => forIn' (fun k x (s : Unit) next => M_ref7_askEnds_L2 g Q k x (next ())) (fun (s : Unit) => Q 0) l 0 ()) l 0 ())
set_option maxHeartbeats 1000000 in
theorem R_ref7_askEnds (g : Grid) (c : Costs) (l : (List Cell)) (w0 : World) (g_BlockedA : Option Addr) (g_BlockedC : Nat) (hv_g_Blocked : View w0 (old w0 none_) g_BlockedA g_BlockedC g.Blocked) (lA : Option Addr) (lC : Nat) (hv_l : View w0 (old w0 none_) lA lC l) (Q : Int → Prop) (h : M_ref7_askEnds g c l Q) :
    Ret Try.prog 37 #[.agg #[iv g.W, iv g.H, iv g.Layers, .slice g_BlockedA g.Blocked.length g_BlockedC], .agg #[iv c.Step, iv c.Via, iv c.Turn, iv c.Against], .slice lA l.length lC] w0 fun v w' => ∃ (r0 : Int), v = iv r0 ∧ Q r0 ∧ Sat w0 none_ [] w' := by
  refine fn_enter Try.func37 rfl Try.ntmps37 rfl (fs := [(0, .agg #[iv g.W, iv g.H, iv g.Layers, .slice g_BlockedA g.Blocked.length g_BlockedC]), (1, .agg #[iv c.Step, iv c.Via, iv c.Turn, iv c.Against]), (2, .slice lA l.length lC)]) rfl (fun a hf => ?_)
  have hs := Sat.start w0 none_
  unfold M_ref7_askEnds at h
  refine wp_seq ?_
  refine R.list ?_
  refine S.box hf hs rfl rfl rfl [iv g.W, iv g.H, iv g.Layers, .slice g_BlockedA g.Blocked.length g_BlockedC] rfl rfl rfl (fun g1 a w hf hs => ?_)
  refine S.box hf hs rfl rfl rfl [iv c.Step, iv c.Via, iv c.Turn, iv c.Against] rfl rfl rfl (fun g2 a w hf hs => ?_)
  refine S.p hf hs (iv 0) rfl rfl fun a hf => ?_
  refine R.nil ?_
  refine X.then_ ?_
  refine wp_seq ?_
  refine wp_seq ?_
  refine R.list ?_
  refine S.v hf hs (.agg #[iv g.W, iv g.H, iv g.Layers, .slice g_BlockedA g.Blocked.length g_BlockedC]) rfl (V.loadBox 1 rfl rfl rfl Try.isAgg24 Try.sizeOf24 rfl rfl) fun a hf => ?_
  refine S.v hf hs (.agg #[iv c.Step, iv c.Via, iv c.Turn, iv c.Against]) rfl (V.loadBox 0 rfl rfl rfl Try.isAgg26 Try.sizeOf26 rfl rfl) fun a hf => ?_
  refine S.call hf rfl rfl rfl (call_fn (vs := [.agg #[iv g.W, iv g.H, iv g.Layers, .slice g_BlockedA g.Blocked.length g_BlockedC], .agg #[iv c.Step, iv c.Via, iv c.Turn, iv c.Against]]) rfl rfl rfl Try.call51) (R_ref7_askGrid g c _ g_BlockedA g_BlockedC ((Ag.args _ _ _).view hv_g_Blocked hs) _ h) (fun v a w' hf hr => ?_)
  obtain ⟨y1, rfl, h2, hs2⟩ := hr
  replace h := h2; replace hs := hs.call hs2; clear h2 hs2
  refine S.p hf hs (iv y1) rfl rfl fun a hf => ?_
  refine R.nil ?_
  refine X.then_ ?_
  refine wp_seq ?_
  refine R.list ?_
  refine S.p hf hs (iv y1) rfl rfl fun a hf => ?_
  refine S.p hf hs (.bool (y1 != 0)) rfl rfl fun a hf => ?_
  refine R.nil ?_
  refine X.then_ ?_
  refine C.cond hf (b := y1 != 0) rfl (fun hc => ?_) (fun hc => ?_)
  · replace h := h.1 hc
    refine wp_seq ?_
    refine R.list ?_
    refine S.p hf hs (iv y1) rfl rfl fun a hf => ?_
    refine S.p hf hs (iv y1) rfl rfl fun a hf => ?_
    refine R.nil ?_
    refine X.then_ ?_
    refine wp_ret ?_
    refine X.then_ret ?_
    exact L.ret hf (run_results1 Try.results37 (ResIs.tmp hf rfl)) ⟨y1, rfl, h, hs.nil⟩
  · replace h := h.2 hc
    refine wp_skip ?_
    refine X.then_ ?_
    refine wp_seq ?_
    refine wp_seq ?_
    refine R.list ?_
    refine S.p hf hs (.slice lA l.length lC) rfl rfl fun a hf => ?_
    refine S.v hf hs (iv (l.length : Int)) rfl (V.len rfl rfl Try.runUnderlying22) fun a hf => ?_
    refine S.p hf hs (iv 0) rfl rfl fun a hf => ?_
    refine R.nil ?_
    refine X.then_ ?_
    refine wp_block ?_
    have hlenk1 := hv_l.len64
    refine C.range (fun (ll : List Cell) a w => ∃ (k1 : Nat) , l.drop k1 = ll ∧ k1 + ll.length = l.length ∧ forIn' (fun k x (s : Unit) next => M_ref7_askEnds_L1 g Q k x (next ())) (fun (s : Unit) => forIn' (fun k x (s : Unit) next => M_ref7_askEnds_L2 g Q k x (next ())) (fun (s : Unit) => Q 0) l 0 ()) ll k1 () ∧ FrOk 40 [(20, iv (k1 : Int)), (2, .slice lA l.length lC), (3, (pn g1 0)), (18, .slice lA l.length lC), (19, iv (l.length : Int))] a ∧ Sat w0 none_ [hbox g2 26 [iv c.Step, iv c.Via, iv c.Turn, iv c.Against], hbox g1 24 [iv g.W, iv g.H, iv g.Layers, .slice g_BlockedA g.Blocked.length g_BlockedC]] w) l ⟨0, rfl, Nat.zero_add _, h, (((((hf.nil.cons (hf.get 19 _ rfl)).cons (hf.get 18 _ rfl)).cons (hf.get 3 _ rfl)).cons (hf.get 2 _ rfl)).cons (hf.get 20 _ rfl)), hs⟩ ?_
    clear h hf hs
    rintro llk1 a w ⟨k1, hlk1, hkk1, h, hf, hs⟩
    cases llk1 with
    | nil =>
      have hc := range_done hkk1
      replace h : forIn' (fun k x (s : Unit) next => M_ref7_askEnds_L2 g Q k x (next ())) (fun (s : Unit) => Q 0) l 0 () := h
      refine wp_seq ?_
      refine R.list ?_
      refine S.v hf hs (.bool false) rfl (V.cmp false rfl rfl rfl rfl hc) fun a hf => ?_
      refine R.nil ?_
      refine X.then_ ?_
      refine wp_seq ?_
      refine C.no hf rfl ?_
      refine wp_exit ?_
      refine X.then_exit ?_
      refine X.then_exit ?_
      refine X.blk_exit ?_
      refine X.then_ ?_
      refine wp_seq ?_
      refine wp_seq ?_
      refine R.list ?_
      refine S.p hf hs (.slice lA l.length lC) rfl rfl fun a hf => ?_
      refine S.v hf hs (iv (l.length : Int)) rfl (V.len rfl rfl Try.runUnderlying22) fun a hf => ?_
      refine S.p hf hs (iv 0) rfl rfl fun a hf => ?_
      refine R.nil ?_
      refine X.then_ ?_
      refine wp_block ?_
      have hlenk2 := hv_l.len64
      refine C.range (fun (ll : List Cell) a w => ∃ (k2 : Nat) , l.drop k2 = ll ∧ k2 + ll.length = l.length ∧ forIn' (fun k x (s : Unit) next => M_ref7_askEnds_L2 g Q k x (next ())) (fun (s : Unit) => Q 0) ll k2 () ∧ FrOk 40 [(31, iv (k2 : Int)), (3, (pn g1 0)), (29, .slice lA l.length lC), (30, iv (l.length : Int))] a ∧ Sat w0 none_ [hbox g2 26 [iv c.Step, iv c.Via, iv c.Turn, iv c.Against], hbox g1 24 [iv g.W, iv g.H, iv g.Layers, .slice g_BlockedA g.Blocked.length g_BlockedC]] w) l ⟨0, rfl, Nat.zero_add _, h, ((((hf.nil.cons (hf.get 30 _ rfl)).cons (hf.get 29 _ rfl)).cons (hf.get 3 _ rfl)).cons (hf.get 31 _ rfl)), hs⟩ ?_
      clear h hf hs
      rintro llk2 a w ⟨k2, hlk2, hkk2, h, hf, hs⟩
      cases llk2 with
      | nil =>
        have hc := range_done hkk2
        replace h : Q 0 := h
        refine wp_seq ?_
        refine R.list ?_
        refine S.v hf hs (.bool false) rfl (V.cmp false rfl rfl rfl rfl hc) fun a hf => ?_
        refine R.nil ?_
        refine X.then_ ?_
        refine wp_seq ?_
        refine C.no hf rfl ?_
        refine wp_exit ?_
        refine X.then_exit ?_
        refine X.then_exit ?_
        refine X.blk_exit ?_
        refine X.then_ ?_
        refine wp_seq ?_
        refine R.list ?_
        refine S.p hf hs (iv 0) rfl rfl fun a hf => ?_
        refine R.nil ?_
        refine X.then_ ?_
        refine wp_ret ?_
        exact L.ret hf (run_results1 Try.results37 (ResIs.tmp hf rfl)) ⟨0, rfl, h, hs.nil⟩
      | cons xk2 llk2 =>
        have hltk2 := range_lt hkk2; have hc := range_go hkk2; have hxk2 := range_get hlk2
        obtain ⟨next2, hnext2⟩ : ∃ X : Prop, X = (forIn' (fun k x (s : Unit) next => M_ref7_askEnds_L2 g Q k x (next ())) (fun (s : Unit) => Q 0) llk2 (k2 + 1) ()) := ⟨_, rfl⟩
        replace h : M_ref7_askEnds_L2 g Q k2 xk2  next2 := by rw [hnext2]; exact h
        unfold M_ref7_askEnds_L2 at h
        refine wp_seq ?_
        refine R.list ?_
        refine S.v hf hs (.bool true) rfl (V.cmp true rfl rfl rfl rfl hc) fun a hf => ?_
        refine R.nil ?_
        refine X.then_ ?_
        refine wp_seq ?_
        refine C.yes hf rfl ?_
        refine wp_skip ?_
        refine X.then_ ?_
        refine wp_seq ?_
        refine wp_block ?_
        refine wp_seq ?_
        refine R.list ?_
        refine S.v hf hs (elemPtr lA (k2 * 3)) rfl (V.index rfl rfl rfl Try.runUnderlying22 Try.sizeOf28 (hv_l.some_ (lt_of_get hxk2)) (Int.natCast_nonneg _) (lt_of_get hxk2) rfl) fun a hf => ?_
        refine S.v hf hs (.agg #[iv xk2.X, iv xk2.Y, iv xk2.Layer]) rfl (V.loadEl (off := 0) (Ag.args _ _ _) (hv_l.flat hxk2) rfl rfl rfl Try.isAgg28 Try.sizeOf28 rfl rfl) fun a hf => ?_
        refine S.alloc hf hs rfl rfl rfl [iv 0, iv 0, iv 0] rfl Try.zeroValue28 rfl (fun g3 a w hf hs => ?_)
        refine S.storeBox 0 hf hs rfl rfl [iv xk2.X, iv xk2.Y, iv xk2.Layer] [iv xk2.X, iv xk2.Y, iv xk2.Layer] rfl rfl rfl rfl rfl Try.sizeOf28 rfl rfl rfl rfl (fun a w hf hs => ?_)
        refine R.nil ?_
        refine X.then_ ?_
        refine wp_seq ?_
        refine R.list ?_
        refine S.v hf hs ((pn g1 3)) rfl (V.fieldBox rfl rfl Try.runUnderlying24 rfl Try.sizeOf22 rfl rfl) fun a hf => ?_
        refine S.v hf hs (.slice g_BlockedA g.Blocked.length g_BlockedC) rfl (V.loadBox 2 rfl rfl rfl Try.isAgg22 Try.sizeOf22 rfl rfl) fun a hf => ?_
        refine S.v hf hs (.agg #[iv xk2.X, iv xk2.Y, iv xk2.Layer]) rfl (V.loadBox 0 rfl rfl rfl Try.isAgg28 Try.sizeOf28 rfl rfl) fun a hf => ?_
        refine S.call hf rfl rfl rfl (call_fn (vs := [.slice g_BlockedA g.Blocked.length g_BlockedC, .agg #[iv xk2.X, iv xk2.Y, iv xk2.Layer]]) rfl rfl rfl Try.call71) (R_contains_cell g.Blocked xk2 _ g_BlockedA g_BlockedC ((Ag.args _ _ _).view hv_g_Blocked hs) _ h) (fun v a w' hf hr => ?_)
        obtain ⟨y2, rfl, h2, hs2⟩ := hr
        replace h := h2; replace hs := hs.call hs2; clear h2 hs2
        refine R.nil ?_
        refine X.then_ ?_
        refine C.cond hf (b := y2) rfl (fun hc => ?_) (fun hc => ?_)
        · replace h := h.1 hc
          refine wp_seq ?_
          refine R.list ?_
          refine S.p hf hs (iv 14) rfl rfl fun a hf => ?_
          refine R.nil ?_
          refine X.then_ ?_
          refine wp_ret ?_
          refine X.blk_ret ?_
          refine X.then_ret ?_
          refine X.then_ret ?_
          refine X.blk_ret ?_
          refine X.then_ret ?_
          exact L.ret hf (run_results1 Try.results37 (ResIs.tmp hf rfl)) ⟨14, rfl, h, hs.nil⟩
        · replace h := h.2 hc
          refine wp_skip ?_
          refine X.blk ?_
          refine X.then_ ?_
          refine R.list ?_
          refine S.v hf hs (iv ((k2 + 1 : Nat) : Int)) rfl (V.incr rfl rfl rfl hltk2 hlenk2) fun a hf => ?_
          refine S.p hf hs (iv ((k2 + 1 : Nat) : Int)) rfl rfl fun a hf => ?_
          refine R.nil ?_
          refine X.then_ ?_
          exact ⟨xk2, llk2, rfl, k2 + 1, range_drop hlk2, range_len hkk2, (by rw [hnext2] at h; exact h), ((((hf.nil.cons (hf.get 30 _ rfl)).cons (hf.get 29 _ rfl)).cons (hf.get 3 _ rfl)).cons (hf.get 31 _ rfl)), hs.drop⟩
    | cons xk1 llk1 =>
      have hltk1 := range_lt hkk1; have hc := range_go hkk1; have hxk1 := range_get hlk1
      obtain ⟨next1, hnext1⟩ : ∃ X : Prop, X = (forIn' (fun k x (s : Unit) next => M_ref7_askEnds_L1 g Q k x (next ())) (fun (s : Unit) => forIn' (fun k x (s : Unit) next => M_ref7_askEnds_L2 g Q k x (next ())) (fun (s : Unit) => Q 0) l 0 ()) llk1 (k1 + 1) ()) := ⟨_, rfl⟩
      replace h : M_ref7_askEnds_L1 g Q k1 xk1  next1 := by rw [hnext1]; exact h
      unfold M_ref7_askEnds_L1 at h
      refine wp_seq ?_
      refine R.list ?_
      refine S.v hf hs (.bool true) rfl (V.cmp true rfl rfl rfl rfl hc) fun a hf => ?_
      refine R.nil ?_
      refine X.then_ ?_
      refine wp_seq ?_
      refine C.yes hf rfl ?_
      refine wp_skip ?_
      refine X.then_ ?_
      refine wp_seq ?_
      refine wp_block ?_
      refine wp_seq ?_
      refine R.list ?_
      refine S.v hf hs (elemPtr lA (k1 * 3)) rfl (V.index rfl rfl rfl Try.runUnderlying22 Try.sizeOf28 (hv_l.some_ (lt_of_get hxk1)) (Int.natCast_nonneg _) (lt_of_get hxk1) rfl) fun a hf => ?_
      refine S.v hf hs (.agg #[iv xk1.X, iv xk1.Y, iv xk1.Layer]) rfl (V.loadEl (off := 0) (Ag.args _ _ _) (hv_l.flat hxk1) rfl rfl rfl Try.isAgg28 Try.sizeOf28 rfl rfl) fun a hf => ?_
      refine S.alloc hf hs rfl rfl rfl [iv 0, iv 0, iv 0] rfl Try.zeroValue28 rfl (fun g4 a w hf hs => ?_)
      refine S.storeBox 0 hf hs rfl rfl [iv xk1.X, iv xk1.Y, iv xk1.Layer] [iv xk1.X, iv xk1.Y, iv xk1.Layer] rfl rfl rfl rfl rfl Try.sizeOf28 rfl rfl rfl rfl (fun a w hf hs => ?_)
      refine R.nil ?_
      refine X.then_ ?_
      refine wp_seq ?_
      refine R.list ?_
      refine S.v hf hs (.agg #[iv g.W, iv g.H, iv g.Layers, .slice g_BlockedA g.Blocked.length g_BlockedC]) rfl (V.loadBox 2 rfl rfl rfl Try.isAgg24 Try.sizeOf24 rfl rfl) fun a hf => ?_
      refine S.v hf hs (.agg #[iv xk1.X, iv xk1.Y, iv xk1.Layer]) rfl (V.loadBox 0 rfl rfl rfl Try.isAgg28 Try.sizeOf28 rfl rfl) fun a hf => ?_
      refine S.call hf rfl rfl rfl (call_fn (vs := [.agg #[iv g.W, iv g.H, iv g.Layers, .slice g_BlockedA g.Blocked.length g_BlockedC], .agg #[iv xk1.X, iv xk1.Y, iv xk1.Layer]]) rfl rfl rfl Try.call55) (R_ref7_isCell g xk1 _ g_BlockedA g_BlockedC ((Ag.args _ _ _).view hv_g_Blocked hs) _ h) (fun v a w' hf hr => ?_)
      obtain ⟨y3, rfl, h2, hs2⟩ := hr
      replace h := h2; replace hs := hs.call hs2; clear h2 hs2
      refine S.p hf hs (.bool (!y3)) rfl rfl fun a hf => ?_
      refine R.nil ?_
      refine X.then_ ?_
      refine C.cond hf (b := !y3) rfl (fun hc => ?_) (fun hc => ?_)
      · replace h := h.1 hc
        refine wp_seq ?_
        refine R.list ?_
        refine S.p hf hs (iv 1) rfl rfl fun a hf => ?_
        refine R.nil ?_
        refine X.then_ ?_
        refine wp_ret ?_
        refine X.blk_ret ?_
        refine X.then_ret ?_
        refine X.then_ret ?_
        refine X.blk_ret ?_
        refine X.then_ret ?_
        exact L.ret hf (run_results1 Try.results37 (ResIs.tmp hf rfl)) ⟨1, rfl, h, hs.nil⟩
      · replace h := h.2 hc
        refine wp_skip ?_
        refine X.blk ?_
        refine X.then_ ?_
        refine R.list ?_
        refine S.v hf hs (iv ((k1 + 1 : Nat) : Int)) rfl (V.incr rfl rfl rfl hltk1 hlenk1) fun a hf => ?_
        refine S.p hf hs (iv ((k1 + 1 : Nat) : Int)) rfl rfl fun a hf => ?_
        refine R.nil ?_
        refine X.then_ ?_
        exact ⟨xk1, llk1, rfl, k1 + 1, range_drop hlk1, range_len hkk1, (by rw [hnext1] at h; exact h), (((((hf.nil.cons (hf.get 19 _ rfl)).cons (hf.get 18 _ rfl)).cons (hf.get 3 _ rfl)).cons (hf.get 2 _ rfl)).cons (hf.get 20 _ rfl)), hs.drop⟩

end Go.Proofs.Ytihjaehkdgdenaa
