/- Chapter 7: the reference's least costs: the walks. -/
import Derived.Test.YtihjaehkdgdenaaRtN2
namespace Go.Proofs.Ytihjaehkdgdenaa
open Go Go.RowKit
set_option linter.unusedVariables false
set_option linter.unusedSimpArgs false

set_option linter.unusedVariables false
def M_ref7_Least (g : Grid) (c : Costs) (from_ : Cell) (to : Cell) (Q : Int → Bool → Int → Prop) : Prop :=
  M_ref7_askEnds g c ([from_, to] : List Cell) fun y1 => cnd (y1 != 0) (Q 0 false y1) (M_ref7_fieldOf g c to fun y2o => optq y2o (False) (fun y2 => M_field_from (⟨g, c, y2.1, y2.2⟩ : R7Field) from_ fun y3 => Q y3.cost (decide (y3.cells > 0)) 0))
set_option maxHeartbeats 1000000 in
theorem R_ref7_Least (g : Grid) (c : Costs) (from_ : Cell) (to : Cell) (w0 : World) (g_BlockedA : Option Addr) (g_BlockedC : Nat) (hv_g_Blocked : View w0 (old w0 none_) g_BlockedA g_BlockedC g.Blocked) (Q : Int → Bool → Int → Prop) (h : M_ref7_Least g c from_ to Q) :
    Ret Try.prog 14 #[.agg #[iv g.W, iv g.H, iv g.Layers, .slice g_BlockedA g.Blocked.length g_BlockedC], .agg #[iv c.Step, iv c.Via, iv c.Turn, iv c.Against], .agg #[iv from_.X, iv from_.Y, iv from_.Layer], .agg #[iv to.X, iv to.Y, iv to.Layer]] w0 fun v w' => ∃ (r0 : Int) (r1 : Bool) (r2 : Int), v = .tuple #[iv r0, .bool r1, iv r2] ∧ Q r0 r1 r2 ∧ Sat w0 none_ [] w' := by
  refine fn_enter Try.func14 rfl Try.ntmps14 rfl (fs := [(0, .agg #[iv g.W, iv g.H, iv g.Layers, .slice g_BlockedA g.Blocked.length g_BlockedC]), (1, .agg #[iv c.Step, iv c.Via, iv c.Turn, iv c.Against]), (2, .agg #[iv from_.X, iv from_.Y, iv from_.Layer]), (3, .agg #[iv to.X, iv to.Y, iv to.Layer])]) rfl (fun a hf => ?_)
  have hs := Sat.start w0 none_
  unfold M_ref7_Least at h
  refine wp_seq ?_
  refine R.list ?_
  refine S.box hf hs rfl rfl rfl [iv g.W, iv g.H, iv g.Layers, .slice g_BlockedA g.Blocked.length g_BlockedC] rfl rfl rfl (fun g1 a w hf hs => ?_)
  refine S.box hf hs rfl rfl rfl [iv c.Step, iv c.Via, iv c.Turn, iv c.Against] rfl rfl rfl (fun g2 a w hf hs => ?_)
  refine S.box hf hs rfl rfl rfl [iv from_.X, iv from_.Y, iv from_.Layer] rfl rfl rfl (fun g3 a w hf hs => ?_)
  refine S.box hf hs rfl rfl rfl [iv to.X, iv to.Y, iv to.Layer] rfl rfl rfl (fun g4 a w hf hs => ?_)
  refine S.p hf hs (iv 0) rfl rfl fun a hf => ?_
  refine S.p hf hs (.bool false) rfl rfl fun a hf => ?_
  refine S.p hf hs (iv 0) rfl rfl fun a hf => ?_
  refine R.nil ?_
  refine X.then_ ?_
  refine wp_seq ?_
  refine wp_seq ?_
  refine R.list ?_
  refine S.v hf hs (.agg #[iv g.W, iv g.H, iv g.Layers, .slice g_BlockedA g.Blocked.length g_BlockedC]) rfl (V.loadBox 3 rfl rfl rfl Try.isAgg24 Try.sizeOf24 rfl rfl) fun a hf => ?_
  refine S.v hf hs (.agg #[iv c.Step, iv c.Via, iv c.Turn, iv c.Against]) rfl (V.loadBox 2 rfl rfl rfl Try.isAgg26 Try.sizeOf26 rfl rfl) fun a hf => ?_
  refine S.v hf hs (.agg #[iv from_.X, iv from_.Y, iv from_.Layer]) rfl (V.loadBox 1 rfl rfl rfl Try.isAgg28 Try.sizeOf28 rfl rfl) fun a hf => ?_
  refine S.v hf hs (.agg #[iv to.X, iv to.Y, iv to.Layer]) rfl (V.loadBox 0 rfl rfl rfl Try.isAgg28 Try.sizeOf28 rfl rfl) fun a hf => ?_
  refine S.buildSlice hf hs rfl rfl rfl (α := Cell) [from_, to] rfl rfl Try.runUnderlying22 Try.sizeOf28 Try.zeroValue28 (by kernel_rfl) rfl (by decide) (by decide) (fun A1 a w hf hs => ?_)
  refine S.call hf rfl rfl rfl (call_fn (vs := [.agg #[iv g.W, iv g.H, iv g.Layers, .slice g_BlockedA g.Blocked.length g_BlockedC], .agg #[iv c.Step, iv c.Via, iv c.Turn, iv c.Against], .slice A1 ([from_, to] : List Cell).length 2]) rfl rfl rfl Try.call37) (R_ref7_askEnds g c ([from_, to] : List Cell) _ g_BlockedA g_BlockedC ((Ag.args _ _ _).view hv_g_Blocked hs) A1 2 (hs.ownView 0 rfl) _ h) (fun v a w' hf hr => ?_)
  obtain ⟨y1, rfl, h2, hs2⟩ := hr
  replace h := h2; replace hs := hs.call hs2; clear h2 hs2
  refine S.p hf hs (iv y1) rfl rfl fun a hf => ?_
  refine R.nil ?_
  refine X.then_ ?_
  refine wp_seq ?_
  refine R.list ?_
  refine S.p hf hs (iv y1) rfl rfl fun a hf => ?_
  refine S.p hf hs (.bool (y1 != 0)) rfl rfl fun a hf => ?_
  refine R.nil ?_
  refine X.then_ ?_
  refine C.cond hf (b := y1 != 0) rfl (fun hc => ?_) (fun hc => ?_)
  · replace h := h.1 hc
    refine wp_seq ?_
    refine R.list ?_
    refine S.p hf hs (iv y1) rfl rfl fun a hf => ?_
    refine S.p hf hs (iv 0) rfl rfl fun a hf => ?_
    refine S.p hf hs (.bool false) rfl rfl fun a hf => ?_
    refine S.p hf hs (iv y1) rfl rfl fun a hf => ?_
    refine R.nil ?_
    refine X.then_ ?_
    refine wp_ret ?_
    refine X.then_ret ?_
    exact L.ret hf (run_results3 Try.results14 (ResIs.tmp hf rfl) (ResIs.tmp hf rfl) (ResIs.tmp hf rfl)) ⟨0, false, y1, rfl, h, hs.nil⟩
  · replace h := h.2 hc
    refine wp_skip ?_
    refine X.then_ ?_
    refine wp_seq ?_
    refine H.start (S := Sat w0 none_ [hown 28 A1 2 ([from_, to] : List Cell), hbox g4 28 [iv to.X, iv to.Y, iv to.Layer], hbox g3 28 [iv from_.X, iv from_.Y, iv from_.Layer], hbox g2 26 [iv c.Step, iv c.Via, iv c.Turn, iv c.Against], hbox g1 24 [iv g.W, iv g.H, iv g.Layers, .slice g_BlockedA g.Blocked.length g_BlockedC]]) mo ?_
    replace hs := hs.drew
    refine H.v hf hs (.agg #[iv g.W, iv g.H, iv g.Layers, .slice g_BlockedA g.Blocked.length g_BlockedC]) 0 rfl rfl (by kernel_rfl) (V.loadBox 4 rfl rfl rfl Try.isAgg24 Try.sizeOf24 rfl rfl) fun a hf => ?_
    refine H.v hf hs (.agg #[iv c.Step, iv c.Via, iv c.Turn, iv c.Against]) 1 rfl rfl (by kernel_rfl) (V.loadBox 3 rfl rfl rfl Try.isAgg26 Try.sizeOf26 rfl rfl) fun a hf => ?_
    refine H.v hf hs (.agg #[iv to.X, iv to.Y, iv to.Layer]) 2 rfl rfl (by kernel_rfl) (V.loadBox 1 rfl rfl rfl Try.isAgg28 Try.sizeOf28 rfl rfl) fun a hf => ?_
    refine H.v hf hs (.agg #[iv from_.X, iv from_.Y, iv from_.Layer]) 4 rfl rfl (by kernel_rfl) (V.loadBox 2 rfl rfl rfl Try.isAgg28 Try.sizeOf28 rfl rfl) fun a hf => ?_
    refine H.each2 (i0 := 3) (i1 := 6) rfl rfl (by kernel_rfl) ?_ ?_
    · refine S.call hf rfl rfl rfl (call_fn (vs := [.agg #[iv g.W, iv g.H, iv g.Layers, .slice g_BlockedA g.Blocked.length g_BlockedC], .agg #[iv c.Step, iv c.Via, iv c.Turn, iv c.Against], .agg #[iv to.X, iv to.Y, iv to.Layer]]) rfl rfl rfl Try.call38) (R_ref7_fieldOf g c to _ g_BlockedA g_BlockedC ((Ag.args _ _ _).view hv_g_Blocked hs) _ h) (fun v a w' hf hr => ?_)
      rcases hr with ⟨rfl, h2, hs2⟩ | ⟨y2, y2g, y2A0, y2C0, y2A1, y2C1, rfl, h2, hs2⟩
      · replace h := h2.1 rfl; replace hs := hs.call hs2; clear h2 hs2
        exact h.elim
      · replace h := h2.2 _ rfl; replace hs := hs.call hs2; clear h2 hs2
        refine R.nil ?_
        refine X.then_ ?_
        refine ⟨(hs.mask [false, false, false, true, true, true, true, true]), ?_⟩
        refine H.each2 (i0 := 5) (i1 := 6) rfl rfl (by kernel_rfl) ?_ ?_
        · refine S.call hf rfl rfl rfl (call_fn (vs := [(pn y2g 0), .agg #[iv from_.X, iv from_.Y, iv from_.Layer]]) rfl rfl rfl Try.call39) (R_field_from (⟨g, c, y2.1, y2.2⟩ : R7Field) from_ _ g_BlockedA g_BlockedC ((Ag.args _ _ _).view hv_g_Blocked hs) y2A0 y2C0 (hs.ownView 1 rfl) y2A1 y2C1 (hs.ownView 2 rfl) y2g (hs.boxAt 0 rfl) _ h) (fun v a w' hf hr => ?_)
          obtain ⟨y3, rfl, h2, hs2⟩ := hr
          replace h := h2; replace hs := hs.call hs2; clear h2 hs2
          refine R.nil ?_
          refine X.then_ ?_
          refine ⟨(hs.mask [false, false, false, true, true, true, true, true]), ?_⟩
          refine H.one (i := 6) rfl (by kernel_rfl) ?_
          refine S.alloc hf hs rfl rfl rfl [iv 0, iv 0] rfl Try.zeroValue60 rfl (fun g5 a w hf hs => ?_)
          refine R.nil ?_
          refine X.then_ ?_
          refine ⟨(hs.mask [false, false, false, false, true, true, true, true, true]), ?_⟩
          refine H.one (i := 7) rfl (by kernel_rfl) ?_
          refine S.storeBox 0 hf hs rfl rfl [iv y3.cost, iv y3.cells] [iv y3.cost, iv y3.cells] rfl rfl rfl rfl rfl Try.sizeOf60 rfl rfl rfl rfl (fun a w hf hs => ?_)
          refine R.nil ?_
          refine X.then_ ?_
          refine ⟨(hs.mask [false, false, false, false, true, true, true, true, true]), ?_⟩
          refine H.done (by kernel_rfl) ?_
          refine X.then_ ?_
          refine wp_seq ?_
          refine R.draw mo (by kernel_rfl) hs ?_
          refine D.v hf ((pn g5 0)) rfl (V.fieldBox rfl rfl Try.runUnderlying60 rfl Try.sizeOf3 rfl rfl) fun a hf => ?_
          refine D.v hf (iv y3.cost) rfl (V.loadBox 0 rfl rfl rfl Try.isAgg3 Try.sizeOf3 rfl rfl) fun a hf => ?_
          refine D.v hf ((pn g5 1)) rfl (V.fieldBox rfl rfl Try.runUnderlying60 rfl Try.sizeOf3 rfl rfl) fun a hf => ?_
          refine D.v hf (iv y3.cells) rfl (V.loadBox 0 rfl rfl rfl Try.isAgg3 Try.sizeOf3 rfl rfl) fun a hf => ?_
          refine D.p hf (.bool (decide (y3.cells > 0))) rfl rfl fun a hf => ?_
          refine D.p hf (iv y3.cost) rfl rfl fun a hf => ?_
          refine D.p hf (.bool (decide (y3.cells > 0))) rfl rfl fun a hf => ?_
          refine D.p hf (iv 0) rfl rfl fun a hf => ?_
          refine D.done (fun w hs => ?_)
          refine X.then_ ?_
          refine wp_ret ?_
          exact L.ret hf (run_results3 Try.results14 (ResIs.tmp hf rfl) (ResIs.tmp hf rfl) (ResIs.tmp hf rfl)) ⟨y3.cost, (decide (y3.cells > 0)), 0, rfl, h, hs.nil⟩
        · refine S.alloc hf hs rfl rfl rfl [iv 0, iv 0] rfl Try.zeroValue60 rfl (fun g5 a w hf hs => ?_)
          refine R.nil ?_
          refine X.then_ ?_
          refine ⟨(hs.mask [false, false, false, false, true, true, true, true, true]), ?_⟩
          refine H.one (i := 5) rfl (by kernel_rfl) ?_
          refine S.call hf rfl rfl rfl (call_fn (vs := [(pn y2g 0), .agg #[iv from_.X, iv from_.Y, iv from_.Layer]]) rfl rfl rfl Try.call39) (R_field_from (⟨g, c, y2.1, y2.2⟩ : R7Field) from_ _ g_BlockedA g_BlockedC ((Ag.args _ _ _).view hv_g_Blocked hs) y2A0 y2C0 (hs.ownView 2 rfl) y2A1 y2C1 (hs.ownView 3 rfl) y2g (hs.boxAt 1 rfl) _ h) (fun v a w' hf hr => ?_)
          obtain ⟨y3, rfl, h2, hs2⟩ := hr
          replace h := h2; replace hs := hs.call hs2; clear h2 hs2
          refine R.nil ?_
          refine X.then_ ?_
          refine ⟨(hs.mask [false, false, false, false, true, true, true, true, true]), ?_⟩
          refine H.one (i := 7) rfl (by kernel_rfl) ?_
          refine S.storeBox 0 hf hs rfl rfl [iv y3.cost, iv y3.cells] [iv y3.cost, iv y3.cells] rfl rfl rfl rfl rfl Try.sizeOf60 rfl rfl rfl rfl (fun a w hf hs => ?_)
          refine R.nil ?_
          refine X.then_ ?_
          refine ⟨(hs.mask [false, false, false, false, true, true, true, true, true]), ?_⟩
          refine H.done (by kernel_rfl) ?_
          refine X.then_ ?_
          refine wp_seq ?_
          refine R.draw mo (by kernel_rfl) hs ?_
          refine D.v hf ((pn g5 0)) rfl (V.fieldBox rfl rfl Try.runUnderlying60 rfl Try.sizeOf3 rfl rfl) fun a hf => ?_
          refine D.v hf (iv y3.cost) rfl (V.loadBox 0 rfl rfl rfl Try.isAgg3 Try.sizeOf3 rfl rfl) fun a hf => ?_
          refine D.v hf ((pn g5 1)) rfl (V.fieldBox rfl rfl Try.runUnderlying60 rfl Try.sizeOf3 rfl rfl) fun a hf => ?_
          refine D.v hf (iv y3.cells) rfl (V.loadBox 0 rfl rfl rfl Try.isAgg3 Try.sizeOf3 rfl rfl) fun a hf => ?_
          refine D.p hf (.bool (decide (y3.cells > 0))) rfl rfl fun a hf => ?_
          refine D.p hf (iv y3.cost) rfl rfl fun a hf => ?_
          refine D.p hf (.bool (decide (y3.cells > 0))) rfl rfl fun a hf => ?_
          refine D.p hf (iv 0) rfl rfl fun a hf => ?_
          refine D.done (fun w hs => ?_)
          refine X.then_ ?_
          refine wp_ret ?_
          exact L.ret hf (run_results3 Try.results14 (ResIs.tmp hf rfl) (ResIs.tmp hf rfl) (ResIs.tmp hf rfl)) ⟨y3.cost, (decide (y3.cells > 0)), 0, rfl, h, hs.nil⟩
    · refine S.alloc hf hs rfl rfl rfl [iv 0, iv 0] rfl Try.zeroValue60 rfl (fun g5 a w hf hs => ?_)
      refine R.nil ?_
      refine X.then_ ?_
      refine ⟨(hs.mask [false, true, true, true, true, true]), ?_⟩
      refine H.one (i := 3) rfl (by kernel_rfl) ?_
      refine S.call hf rfl rfl rfl (call_fn (vs := [.agg #[iv g.W, iv g.H, iv g.Layers, .slice g_BlockedA g.Blocked.length g_BlockedC], .agg #[iv c.Step, iv c.Via, iv c.Turn, iv c.Against], .agg #[iv to.X, iv to.Y, iv to.Layer]]) rfl rfl rfl Try.call38) (R_ref7_fieldOf g c to _ g_BlockedA g_BlockedC ((Ag.args _ _ _).view hv_g_Blocked hs) _ h) (fun v a w' hf hr => ?_)
      rcases hr with ⟨rfl, h2, hs2⟩ | ⟨y2, y2g, y2A0, y2C0, y2A1, y2C1, rfl, h2, hs2⟩
      · replace h := h2.1 rfl; replace hs := hs.call hs2; clear h2 hs2
        exact h.elim
      · replace h := h2.2 _ rfl; replace hs := hs.call hs2; clear h2 hs2
        refine R.nil ?_
        refine X.then_ ?_
        refine ⟨(hs.mask [false, false, false, false, true, true, true, true, true]), ?_⟩
        refine H.one (i := 5) rfl (by kernel_rfl) ?_
        refine S.call hf rfl rfl rfl (call_fn (vs := [(pn y2g 0), .agg #[iv from_.X, iv from_.Y, iv from_.Layer]]) rfl rfl rfl Try.call39) (R_field_from (⟨g, c, y2.1, y2.2⟩ : R7Field) from_ _ g_BlockedA g_BlockedC ((Ag.args _ _ _).view hv_g_Blocked hs) y2A0 y2C0 (hs.ownView 1 rfl) y2A1 y2C1 (hs.ownView 2 rfl) y2g (hs.boxAt 0 rfl) _ h) (fun v a w' hf hr => ?_)
        obtain ⟨y3, rfl, h2, hs2⟩ := hr
        replace h := h2; replace hs := hs.call hs2; clear h2 hs2
        refine R.nil ?_
        refine X.then_ ?_
        refine ⟨(hs.mask [false, false, false, false, true, true, true, true, true]), ?_⟩
        refine H.one (i := 7) rfl (by kernel_rfl) ?_
        refine S.storeBox 3 hf hs rfl rfl [iv y3.cost, iv y3.cells] [iv y3.cost, iv y3.cells] rfl rfl rfl rfl rfl Try.sizeOf60 rfl rfl rfl rfl (fun a w hf hs => ?_)
        refine R.nil ?_
        refine X.then_ ?_
        refine ⟨(hs.mask [false, false, false, false, true, true, true, true, true]), ?_⟩
        refine H.done (by kernel_rfl) ?_
        refine X.then_ ?_
        refine wp_seq ?_
        refine R.draw mo (by kernel_rfl) hs ?_
        refine D.v hf ((pn g5 0)) rfl (V.fieldBox rfl rfl Try.runUnderlying60 rfl Try.sizeOf3 rfl rfl) fun a hf => ?_
        refine D.v hf (iv y3.cost) rfl (V.loadBox 3 rfl rfl rfl Try.isAgg3 Try.sizeOf3 rfl rfl) fun a hf => ?_
        refine D.v hf ((pn g5 1)) rfl (V.fieldBox rfl rfl Try.runUnderlying60 rfl Try.sizeOf3 rfl rfl) fun a hf => ?_
        refine D.v hf (iv y3.cells) rfl (V.loadBox 3 rfl rfl rfl Try.isAgg3 Try.sizeOf3 rfl rfl) fun a hf => ?_
        refine D.p hf (.bool (decide (y3.cells > 0))) rfl rfl fun a hf => ?_
        refine D.p hf (iv y3.cost) rfl rfl fun a hf => ?_
        refine D.p hf (.bool (decide (y3.cells > 0))) rfl rfl fun a hf => ?_
        refine D.p hf (iv 0) rfl rfl fun a hf => ?_
        refine D.done (fun w hs => ?_)
        refine X.then_ ?_
        refine wp_ret ?_
        exact L.ret hf (run_results3 Try.results14 (ResIs.tmp hf rfl) (ResIs.tmp hf rfl) (ResIs.tmp hf rfl)) ⟨y3.cost, (decide (y3.cells > 0)), 0, rfl, h, hs.nil⟩

set_option linter.unusedVariables false
def M_ref7_Reach_L1 (g : Grid) (Q : Int → Int → Prop) (again1 : Prop)  : Prop :=
  cnd (decide (0 < w64 ((w64 (g.W * g.H)) * g.Layers))) (False) (Q 0 0)
def M_ref7_Reach_k3 (n3 : Int) (n4 : Int) (again2 : Int → Int → Prop) (c1 : Bool) : Prop :=
  cnd c1 (again2 (w64 (n3 + 1)) (w64 (n4 + 1))) (again2 n3 (w64 (n4 + 1)))
def M_ref7_Reach_L2 (g : Grid) (most : Int) (Q : Int → Int → Prop) (y2 : ((List Bool) × (List R7Worth))) (again2 : Int → Int → Prop) (n3 : Int) (n4 : Int) : Prop :=
  cnd (decide (n4 < w64 ((w64 (g.W * g.H)) * g.Layers))) (idx y2.2 (w64 (3 * n4)) fun x1 => cnd (decide (x1.cells > 0)) (M_ref7_Reach_k3 n3 n4 again2 (decide (x1.cost ≤ most))) (M_ref7_Reach_k3 n3 n4 again2 false)) (Q n3 0)
def M_ref7_Reach (g : Grid) (c : Costs) (from_ : Cell) (most : Int) (Q : Int → Int → Prop) : Prop :=
  M_ref7_askEnds g c [from_] fun y1 => cnd (y1 != 0) (Q 0 y1) (cnd (!(within most 0 100000000)) (Q 0 1) (M_ref7_fieldOf g c from_ fun y2o => optq y2o (lp (fun again (s : Unit) => M_ref7_Reach_L1 g Q (again ())) ()) (fun y2 => lp (fun again (s : Int × Int) => M_ref7_Reach_L2 g most Q y2 (fun n3 n4 => again (n3, n4)) s.1 s.2) (0, 0))))
set_option maxHeartbeats 1000000 in
theorem R_ref7_Reach (g : Grid) (c : Costs) (from_ : Cell) (most : Int) (w0 : World) (g_BlockedA : Option Addr) (g_BlockedC : Nat) (hv_g_Blocked : View w0 (old w0 none_) g_BlockedA g_BlockedC g.Blocked) (Q : Int → Int → Prop) (h : M_ref7_Reach g c from_ most Q) :
    Ret Try.prog 16 #[.agg #[iv g.W, iv g.H, iv g.Layers, .slice g_BlockedA g.Blocked.length g_BlockedC], .agg #[iv c.Step, iv c.Via, iv c.Turn, iv c.Against], .agg #[iv from_.X, iv from_.Y, iv from_.Layer], iv most] w0 fun v w' => ∃ (r0 : Int) (r1 : Int), v = .tuple #[iv r0, iv r1] ∧ Q r0 r1 ∧ Sat w0 none_ [] w' := by
  refine fn_enter Try.func16 rfl Try.ntmps16 rfl (fs := [(0, .agg #[iv g.W, iv g.H, iv g.Layers, .slice g_BlockedA g.Blocked.length g_BlockedC]), (1, .agg #[iv c.Step, iv c.Via, iv c.Turn, iv c.Against]), (2, .agg #[iv from_.X, iv from_.Y, iv from_.Layer]), (3, iv most)]) rfl (fun a hf => ?_)
  have hs := Sat.start w0 none_
  unfold M_ref7_Reach at h
  refine wp_seq ?_
  refine R.list ?_
  refine S.box hf hs rfl rfl rfl [iv g.W, iv g.H, iv g.Layers, .slice g_BlockedA g.Blocked.length g_BlockedC] rfl rfl rfl (fun g1 a w hf hs => ?_)
  refine S.box hf hs rfl rfl rfl [iv c.Step, iv c.Via, iv c.Turn, iv c.Against] rfl rfl rfl (fun g2 a w hf hs => ?_)
  refine S.box hf hs rfl rfl rfl [iv from_.X, iv from_.Y, iv from_.Layer] rfl rfl rfl (fun g3 a w hf hs => ?_)
  refine S.p hf hs (iv 0) rfl rfl fun a hf => ?_
  refine S.p hf hs (iv 0) rfl rfl fun a hf => ?_
  refine R.nil ?_
  refine X.then_ ?_
  refine wp_seq ?_
  refine wp_seq ?_
  refine R.list ?_
  refine S.v hf hs (.agg #[iv g.W, iv g.H, iv g.Layers, .slice g_BlockedA g.Blocked.length g_BlockedC]) rfl (V.loadBox 2 rfl rfl rfl Try.isAgg24 Try.sizeOf24 rfl rfl) fun a hf => ?_
  refine S.v hf hs (.agg #[iv c.Step, iv c.Via, iv c.Turn, iv c.Against]) rfl (V.loadBox 1 rfl rfl rfl Try.isAgg26 Try.sizeOf26 rfl rfl) fun a hf => ?_
  refine S.v hf hs (.agg #[iv from_.X, iv from_.Y, iv from_.Layer]) rfl (V.loadBox 0 rfl rfl rfl Try.isAgg28 Try.sizeOf28 rfl rfl) fun a hf => ?_
  refine S.build1 hf hs rfl rfl rfl (α := Cell) from_ rfl rfl rfl Try.runUnderlying22 Try.sizeOf28 Try.zeroValue28 rfl (by decide) (fun A1 a w hf hs => ?_)
  refine S.call hf rfl rfl rfl (call_fn (vs := [.agg #[iv g.W, iv g.H, iv g.Layers, .slice g_BlockedA g.Blocked.length g_BlockedC], .agg #[iv c.Step, iv c.Via, iv c.Turn, iv c.Against], .slice A1 [from_].length 1]) rfl rfl rfl Try.call37) (R_ref7_askEnds g c [from_] _ g_BlockedA g_BlockedC ((Ag.args _ _ _).view hv_g_Blocked hs) A1 1 (hs.ownView 0 rfl) _ h) (fun v a w' hf hr => ?_)
  obtain ⟨y1, rfl, h2, hs2⟩ := hr
  replace h := h2; replace hs := hs.call hs2; clear h2 hs2
  refine S.p hf hs (iv y1) rfl rfl fun a hf => ?_
  refine R.nil ?_
  refine X.then_ ?_
  refine wp_seq ?_
  refine R.list ?_
  refine S.p hf hs (iv y1) rfl rfl fun a hf => ?_
  refine S.p hf hs (.bool (y1 != 0)) rfl rfl fun a hf => ?_
  refine R.nil ?_
  refine X.then_ ?_
  refine C.cond hf (b := y1 != 0) rfl (fun hc => ?_) (fun hc => ?_)
  · replace h := h.1 hc
    refine wp_seq ?_
    refine R.list ?_
    refine S.p hf hs (iv y1) rfl rfl fun a hf => ?_
    refine S.p hf hs (iv 0) rfl rfl fun a hf => ?_
    refine S.p hf hs (iv y1) rfl rfl fun a hf => ?_
    refine R.nil ?_
    refine X.then_ ?_
    refine wp_ret ?_
    refine X.then_ret ?_
    exact L.ret hf (run_results2 Try.results16 (ResIs.tmp hf rfl) (ResIs.tmp hf rfl)) ⟨0, y1, rfl, h, hs.nil⟩
  · replace h := h.2 hc
    refine wp_skip ?_
    refine X.then_ ?_
    refine wp_seq ?_
    refine wp_seq ?_
    refine R.list ?_
    refine S.p hf hs (iv most) rfl rfl fun a hf => ?_
    refine S.callv hf rfl rfl rfl (call_fn (vs := [iv most, iv 0, iv 100000000]) rfl rfl rfl Try.call43) (C_ref7_within most 0 100000000 _ ) (fun a w hf hs' => ?_)
    replace hs := hs.call hs'; clear hs'
    refine S.p hf hs (.bool (!(within most 0 100000000))) rfl rfl fun a hf => ?_
    refine R.nil ?_
    refine X.then_ ?_
    refine C.cond hf (b := !(within most 0 100000000)) rfl (fun hc => ?_) (fun hc => ?_)
    · replace h := h.1 hc
      refine wp_seq ?_
      refine R.list ?_
      refine S.p hf hs (iv 0) rfl rfl fun a hf => ?_
      refine S.p hf hs (iv 1) rfl rfl fun a hf => ?_
      refine R.nil ?_
      refine X.then_ ?_
      refine wp_ret ?_
      refine X.then_ret ?_
      exact L.ret hf (run_results2 Try.results16 (ResIs.tmp hf rfl) (ResIs.tmp hf rfl)) ⟨0, 1, rfl, h, hs.nil⟩
    · replace h := h.2 hc
      refine wp_skip ?_
      refine X.then_ ?_
      refine wp_seq ?_
      refine R.list ?_
      refine S.v hf hs (.agg #[iv g.W, iv g.H, iv g.Layers, .slice g_BlockedA g.Blocked.length g_BlockedC]) rfl (V.loadBox 3 rfl rfl rfl Try.isAgg24 Try.sizeOf24 rfl rfl) fun a hf => ?_
      refine S.v hf hs (.agg #[iv c.Step, iv c.Via, iv c.Turn, iv c.Against]) rfl (V.loadBox 2 rfl rfl rfl Try.isAgg26 Try.sizeOf26 rfl rfl) fun a hf => ?_
      refine S.v hf hs (.agg #[iv from_.X, iv from_.Y, iv from_.Layer]) rfl (V.loadBox 1 rfl rfl rfl Try.isAgg28 Try.sizeOf28 rfl rfl) fun a hf => ?_
      refine S.call hf rfl rfl rfl (call_fn (vs := [.agg #[iv g.W, iv g.H, iv g.Layers, .slice g_BlockedA g.Blocked.length g_BlockedC], .agg #[iv c.Step, iv c.Via, iv c.Turn, iv c.Against], .agg #[iv from_.X, iv from_.Y, iv from_.Layer]]) rfl rfl rfl Try.call38) (R_ref7_fieldOf g c from_ _ g_BlockedA g_BlockedC ((Ag.args _ _ _).view hv_g_Blocked hs) _ h) (fun v a w' hf hr => ?_)
      rcases hr with ⟨rfl, h2, hs2⟩ | ⟨y2, y2g, y2A0, y2C0, y2A1, y2C1, rfl, h2, hs2⟩
      · replace h := h2.1 rfl; replace hs := hs.call hs2; clear h2 hs2
        refine S.p hf hs (.pointer none) rfl rfl fun a hf => ?_
        refine R.nil ?_
        refine X.then_ ?_
        refine wp_seq ?_
        refine R.list ?_
        refine S.p hf hs (iv 0) rfl rfl fun a hf => ?_
        refine R.nil ?_
        refine X.then_ ?_
        refine wp_seq ?_
        refine wp_seq ?_
        refine R.list ?_
        refine S.v hf hs ((pn g1 0)) rfl (V.fieldBox rfl rfl Try.runUnderlying24 rfl Try.sizeOf3 rfl rfl) fun a hf => ?_
        refine S.v hf hs (iv g.W) rfl (V.loadBox 3 rfl rfl rfl Try.isAgg3 Try.sizeOf3 rfl rfl) fun a hf => ?_
        refine S.v hf hs ((pn g1 1)) rfl (V.fieldBox rfl rfl Try.runUnderlying24 rfl Try.sizeOf3 rfl rfl) fun a hf => ?_
        refine S.v hf hs (iv g.H) rfl (V.loadBox 3 rfl rfl rfl Try.isAgg3 Try.sizeOf3 rfl rfl) fun a hf => ?_
        refine S.p hf hs (iv (w64 (g.W * g.H))) rfl rfl fun a hf => ?_
        refine S.v hf hs ((pn g1 2)) rfl (V.fieldBox rfl rfl Try.runUnderlying24 rfl Try.sizeOf3 rfl rfl) fun a hf => ?_
        refine S.v hf hs (iv g.Layers) rfl (V.loadBox 3 rfl rfl rfl Try.isAgg3 Try.sizeOf3 rfl rfl) fun a hf => ?_
        refine S.p hf hs (iv (w64 ((w64 (g.W * g.H)) * g.Layers))) rfl rfl fun a hf => ?_
        refine S.p hf hs (iv 0) rfl rfl fun a hf => ?_
        refine R.nil ?_
        refine X.then_ ?_
        refine wp_block ?_
        obtain ⟨kk, h⟩ := h
        refine C.loop (fun kk a w => iterF (fun again (s : Unit) => M_ref7_Reach_L1 g Q (again ())) kk () ∧ FrOk 62 [(3, iv most), (11, .pointer none), (12, iv 0), (37, iv (w64 ((w64 (g.W * g.H)) * g.Layers))), (38, iv 0)] a ∧ Sat w0 none_ [hown 28 A1 1 [from_], hbox g3 28 [iv from_.X, iv from_.Y, iv from_.Layer], hbox g2 26 [iv c.Step, iv c.Via, iv c.Turn, iv c.Against], hbox g1 24 [iv g.W, iv g.H, iv g.Layers, .slice g_BlockedA g.Blocked.length g_BlockedC]] w) kk ⟨h, (((((hf.nil.cons (hf.get 38 _ rfl)).cons (hf.get 37 _ rfl)).cons (hf.get 12 _ rfl)).cons (hf.get 11 _ rfl)).cons (hf.get 3 _ rfl)), hs⟩ (fun a w ⟨h, _, _⟩ => h) ?_
        clear h hf hs
        rintro kk a w ⟨h, hf, hs⟩
        obtain ⟨again1, hagain1⟩ : ∃ X : Prop, X = (iterF (fun again (s : Unit) => M_ref7_Reach_L1 g Q (again ())) kk ()) := ⟨_, rfl⟩
        replace h : M_ref7_Reach_L1 g Q again1  := by rw [hagain1]; exact h
        unfold M_ref7_Reach_L1 at h
        refine wp_seq ?_
        refine R.list ?_
        refine S.p hf hs (.bool (decide (0 < w64 ((w64 (g.W * g.H)) * g.Layers)))) rfl rfl fun a hf => ?_
        refine R.nil ?_
        refine X.then_ ?_
        refine wp_seq ?_
        refine C.cond hf (b := decide (0 < w64 ((w64 (g.W * g.H)) * g.Layers))) rfl (fun hc => ?_) (fun hc => ?_)
        · replace h := h.1 hc
          exact h.elim
        · replace h := h.2 hc
          refine wp_exit ?_
          refine X.then_exit ?_
          refine X.then_exit ?_
          refine X.blk_exit ?_
          refine X.then_ ?_
          refine wp_seq ?_
          refine R.list ?_
          refine S.p hf hs (iv 0) rfl rfl fun a hf => ?_
          refine S.p hf hs (iv 0) rfl rfl fun a hf => ?_
          refine S.p hf hs (iv 0) rfl rfl fun a hf => ?_
          refine R.nil ?_
          refine X.then_ ?_
          refine wp_ret ?_
          exact L.ret hf (run_results2 Try.results16 (ResIs.tmp hf rfl) (ResIs.tmp hf rfl)) ⟨0, 0, rfl, h, hs.nil⟩
      · replace h := h2.2 _ rfl; replace hs := hs.call hs2; clear h2 hs2
        refine S.p hf hs ((pn y2g 0)) rfl rfl fun a hf => ?_
        refine R.nil ?_
        refine X.then_ ?_
        refine wp_seq ?_
        refine R.list ?_
        refine S.p hf hs (iv 0) rfl rfl fun a hf => ?_
        refine R.nil ?_
        refine X.then_ ?_
        refine wp_seq ?_
        refine wp_seq ?_
        refine R.list ?_
        refine S.v hf hs ((pn g1 0)) rfl (V.fieldBox rfl rfl Try.runUnderlying24 rfl Try.sizeOf3 rfl rfl) fun a hf => ?_
        refine S.v hf hs (iv g.W) rfl (V.loadBox 6 rfl rfl rfl Try.isAgg3 Try.sizeOf3 rfl rfl) fun a hf => ?_
        refine S.v hf hs ((pn g1 1)) rfl (V.fieldBox rfl rfl Try.runUnderlying24 rfl Try.sizeOf3 rfl rfl) fun a hf => ?_
        refine S.v hf hs (iv g.H) rfl (V.loadBox 6 rfl rfl rfl Try.isAgg3 Try.sizeOf3 rfl rfl) fun a hf => ?_
        refine S.p hf hs (iv (w64 (g.W * g.H))) rfl rfl fun a hf => ?_
        refine S.v hf hs ((pn g1 2)) rfl (V.fieldBox rfl rfl Try.runUnderlying24 rfl Try.sizeOf3 rfl rfl) fun a hf => ?_
        refine S.v hf hs (iv g.Layers) rfl (V.loadBox 6 rfl rfl rfl Try.isAgg3 Try.sizeOf3 rfl rfl) fun a hf => ?_
        refine S.p hf hs (iv (w64 ((w64 (g.W * g.H)) * g.Layers))) rfl rfl fun a hf => ?_
        refine S.p hf hs (iv 0) rfl rfl fun a hf => ?_
        refine R.nil ?_
        refine X.then_ ?_
        refine wp_block ?_
        obtain ⟨kk, h⟩ := h
        refine C.loop (fun kk a w => ∃ (n3 : Int) (n4 : Int), iterF (fun again (s : Int × Int) => M_ref7_Reach_L2 g most Q y2 (fun n3 n4 => again (n3, n4)) s.1 s.2) kk (n3, n4) ∧ FrOk 62 [(3, iv most), (11, (pn y2g 0)), (12, iv n3), (37, iv (w64 ((w64 (g.W * g.H)) * g.Layers))), (38, iv n4)] a ∧ Sat w0 none_ [hbox y2g 72 [iv g.W, iv g.H, iv g.Layers, .slice g_BlockedA g.Blocked.length g_BlockedC, iv c.Step, iv c.Via, iv c.Turn, iv c.Against, .slice y2A0 y2.1.length y2C0, .slice y2A1 y2.2.length y2C1], hown 4 y2A0 y2C0 y2.1, hown 60 y2A1 y2C1 y2.2, hown 28 A1 1 [from_], hbox g3 28 [iv from_.X, iv from_.Y, iv from_.Layer], hbox g2 26 [iv c.Step, iv c.Via, iv c.Turn, iv c.Against], hbox g1 24 [iv g.W, iv g.H, iv g.Layers, .slice g_BlockedA g.Blocked.length g_BlockedC]] w) kk ⟨0, 0, h, (((((hf.nil.cons (hf.get 38 _ rfl)).cons (hf.get 37 _ rfl)).cons (hf.get 12 _ rfl)).cons (hf.get 11 _ rfl)).cons (hf.get 3 _ rfl)), hs⟩ (fun a w ⟨_, _, h, _, _⟩ => h) ?_
        clear h hf hs
        rintro kk a w ⟨n3, n4, h, hf, hs⟩
        obtain ⟨again2, hagain2⟩ : ∃ X : Int → Int → Prop, X = (fun n3 n4 => iterF (fun again (s : Int × Int) => M_ref7_Reach_L2 g most Q y2 (fun n3 n4 => again (n3, n4)) s.1 s.2) kk (n3, n4)) := ⟨_, rfl⟩
        replace h : M_ref7_Reach_L2 g most Q y2 again2 n3 n4 := by rw [hagain2]; exact h
        unfold M_ref7_Reach_L2 at h
        refine wp_seq ?_
        refine R.list ?_
        refine S.p hf hs (.bool (decide (n4 < w64 ((w64 (g.W * g.H)) * g.Layers)))) rfl rfl fun a hf => ?_
        refine R.nil ?_
        refine X.then_ ?_
        refine wp_seq ?_
        refine C.cond hf (b := decide (n4 < w64 ((w64 (g.W * g.H)) * g.Layers))) rfl (fun hc => ?_) (fun hc => ?_)
        · replace h := h.1 hc
          refine wp_skip ?_
          refine X.then_ ?_
          refine wp_seq ?_
          refine wp_block ?_
          refine wp_seq ?_
          refine R.list ?_
          refine S.p hf hs (iv n4) rfl rfl fun a hf => ?_
          refine S.p hf hs (iv n4) rfl rfl fun a hf => ?_
          refine R.nil ?_
          refine X.then_ ?_
          refine wp_seq ?_
          refine R.list ?_
          refine S.p hf hs ((pn y2g 0)) rfl rfl fun a hf => ?_
          refine S.p hf hs ((pn y2g 0)) rfl rfl fun a hf => ?_
          refine S.v hf hs ((pn y2g 9)) rfl (V.fieldBox rfl rfl Try.runUnderlying72 rfl Try.sizeOf70 rfl rfl) fun a hf => ?_
          refine S.v hf hs (.slice y2A1 y2.2.length y2C1) rfl (V.loadBox 0 rfl rfl rfl Try.isAgg70 Try.sizeOf70 rfl rfl) fun a hf => ?_
          refine S.p hf hs (iv n4) rfl rfl fun a hf => ?_
          refine S.p hf hs (iv (w64 (3 * n4))) rfl rfl fun a hf => ?_
          obtain ⟨h0x1, x1, hx1, h⟩ := h
          refine S.v hf hs (elemPtr y2A1 ((w64 (3 * n4)).toNat * 2)) rfl (V.index rfl rfl rfl Try.runUnderlying70 Try.sizeOf60 (hs.ownSome 2 rfl (lt_of_get hx1)) h0x1 (lt_of_get hx1) rfl) fun a hf => ?_
          refine S.v hf hs (.agg #[iv x1.cost, iv x1.cells]) rfl (V.loadOwn (off := 0) 2 rfl hx1 rfl rfl rfl Try.isAgg60 Try.sizeOf60 rfl rfl) fun a hf => ?_
          refine S.alloc hf hs rfl rfl rfl [iv 0, iv 0] rfl Try.zeroValue60 rfl (fun g4 a w hf hs => ?_)
          refine S.storeBox 0 hf hs rfl rfl [iv x1.cost, iv x1.cells] [iv x1.cost, iv x1.cells] rfl rfl rfl rfl rfl Try.sizeOf60 rfl rfl rfl rfl (fun a w hf hs => ?_)
          refine R.nil ?_
          refine X.then_ ?_
          refine wp_seq ?_
          refine C.cut (J := fun a w => ∃ (c1 : Bool), M_ref7_Reach_k3 n3 n4 again2 c1 ∧ FrOk 62 [(3, iv most), (11, (pn y2g 0)), (12, iv n3), (37, iv (w64 ((w64 (g.W * g.H)) * g.Layers))), (38, iv n4), (57, .bool c1)] a ∧ Sat w0 none_ [hbox g4 60 [iv x1.cost, iv x1.cells], hbox y2g 72 [iv g.W, iv g.H, iv g.Layers, .slice g_BlockedA g.Blocked.length g_BlockedC, iv c.Step, iv c.Via, iv c.Turn, iv c.Against, .slice y2A0 y2.1.length y2C0, .slice y2A1 y2.2.length y2C1], hown 4 y2A0 y2C0 y2.1, hown 60 y2A1 y2C1 y2.2, hown 28 A1 1 [from_], hbox g3 28 [iv from_.X, iv from_.Y, iv from_.Layer], hbox g2 26 [iv c.Step, iv c.Via, iv c.Turn, iv c.Against], hbox g1 24 [iv g.W, iv g.H, iv g.Layers, .slice g_BlockedA g.Blocked.length g_BlockedC]] w) ?_ ?_
          · rintro a w ⟨c1, h, hf, hs⟩
            unfold M_ref7_Reach_k3 at h
            refine C.cond hf (b := c1) rfl (fun hc => ?_) (fun hc => ?_)
            · replace h := h.1 hc
              refine R.list ?_
              refine S.p hf hs (iv n3) rfl rfl fun a hf => ?_
              refine S.p hf hs (iv (w64 (n3 + 1))) rfl rfl fun a hf => ?_
              refine S.p hf hs (iv (w64 (n3 + 1))) rfl rfl fun a hf => ?_
              refine R.nil ?_
              refine X.blk ?_
              refine X.then_ ?_
              refine R.list ?_
              refine S.p hf hs (iv (w64 (n4 + 1))) rfl rfl fun a hf => ?_
              refine S.p hf hs (iv (w64 (n4 + 1))) rfl rfl fun a hf => ?_
              refine R.nil ?_
              refine X.then_ ?_
              exact ⟨(w64 (n3 + 1)), (w64 (n4 + 1)), (by rw [hagain2] at h; exact h), (((((hf.nil.cons (hf.get 38 _ rfl)).cons (hf.get 37 _ rfl)).cons (hf.get 12 _ rfl)).cons (hf.get 11 _ rfl)).cons (hf.get 3 _ rfl)), hs.drop⟩
            · replace h := h.2 hc
              refine wp_skip ?_
              refine X.blk ?_
              refine X.then_ ?_
              refine R.list ?_
              refine S.p hf hs (iv (w64 (n4 + 1))) rfl rfl fun a hf => ?_
              refine S.p hf hs (iv (w64 (n4 + 1))) rfl rfl fun a hf => ?_
              refine R.nil ?_
              refine X.then_ ?_
              exact ⟨n3, (w64 (n4 + 1)), (by rw [hagain2] at h; exact h), (((((hf.nil.cons (hf.get 38 _ rfl)).cons (hf.get 37 _ rfl)).cons (hf.get 12 _ rfl)).cons (hf.get 11 _ rfl)).cons (hf.get 3 _ rfl)), hs.drop⟩
          · skip
            refine R.list ?_
            refine S.v hf hs ((pn g4 1)) rfl (V.fieldBox rfl rfl Try.runUnderlying60 rfl Try.sizeOf3 rfl rfl) fun a hf => ?_
            refine S.v hf hs (iv x1.cells) rfl (V.loadBox 0 rfl rfl rfl Try.isAgg3 Try.sizeOf3 rfl rfl) fun a hf => ?_
            refine S.p hf hs (.bool (decide (x1.cells > 0))) rfl rfl fun a hf => ?_
            refine S.split hf hs (b := decide (x1.cells > 0)) rfl rfl rfl (V.pure rfl) (fun hc a hf => ?_) (fun hc a hf => ?_)
            · replace h := h.1 hc
              refine S.v hf hs ((pn g4 0)) rfl (V.fieldBox rfl rfl Try.runUnderlying60 rfl Try.sizeOf3 rfl rfl) fun a hf => ?_
              refine S.v hf hs (iv x1.cost) rfl (V.loadBox 0 rfl rfl rfl Try.isAgg3 Try.sizeOf3 rfl rfl) fun a hf => ?_
              refine S.p hf hs (iv most) rfl rfl fun a hf => ?_
              refine S.p hf hs (.bool (decide (x1.cost ≤ most))) rfl rfl fun a hf => ?_
              refine S.p hf hs (.bool (decide (x1.cost ≤ most))) rfl rfl fun a hf => ?_
              refine R.nil ?_
              refine X.then_ ?_
              exact ⟨(decide (x1.cost ≤ most)), h, ((((((hf.nil.cons (hf.get 57 _ rfl)).cons (hf.get 38 _ rfl)).cons (hf.get 37 _ rfl)).cons (hf.get 12 _ rfl)).cons (hf.get 11 _ rfl)).cons (hf.get 3 _ rfl)), hs⟩
            · replace h := h.2 hc
              refine S.k hf rfl fun a hf => ?_
              refine S.k hf rfl fun a hf => ?_
              refine S.k hf rfl fun a hf => ?_
              refine S.k hf rfl fun a hf => ?_
              refine S.p hf hs (.bool false) rfl rfl fun a hf => ?_
              refine R.nil ?_
              refine X.then_ ?_
              exact ⟨false, h, ((((((hf.nil.cons (hf.get 57 _ rfl)).cons (hf.get 38 _ rfl)).cons (hf.get 37 _ rfl)).cons (hf.get 12 _ rfl)).cons (hf.get 11 _ rfl)).cons (hf.get 3 _ rfl)), hs⟩
        · replace h := h.2 hc
          refine wp_exit ?_
          refine X.then_exit ?_
          refine X.then_exit ?_
          refine X.blk_exit ?_
          refine X.then_ ?_
          refine wp_seq ?_
          refine R.list ?_
          refine S.p hf hs (iv n3) rfl rfl fun a hf => ?_
          refine S.p hf hs (iv n3) rfl rfl fun a hf => ?_
          refine S.p hf hs (iv 0) rfl rfl fun a hf => ?_
          refine R.nil ?_
          refine X.then_ ?_
          refine wp_ret ?_
          exact L.ret hf (run_results2 Try.results16 (ResIs.tmp hf rfl) (ResIs.tmp hf rfl)) ⟨n3, 0, rfl, h, hs.nil⟩

end Go.Proofs.Ytihjaehkdgdenaa
