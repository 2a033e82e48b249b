/- Chapter 7: the law on the way: the walk. -/
import Derived.Test.YtihjaehkdgdenaaRtN4
import Derived.Test.YtihjaehkdgdenaaRtO2
namespace Go.Proofs.Ytihjaehkdgdenaa
open Go Go.RowKit
set_option linter.unusedVariables false
set_option linter.unusedSimpArgs false

set_option linter.unusedVariables false
def M_equal_cell_L1 (s2 : (List Cell)) (Q : Bool → Prop) (k1 : Nat) (xk1 : Cell)  (next1 : Prop) : Prop :=
  idx s2 (k1 : Int) fun x1 => cnd (!(decide (xk1 = x1))) (Q false) (next1)
def M_equal_cell (s1 : (List Cell)) (s2 : (List Cell)) (Q : Bool → Prop) : Prop :=
  cnd ((s1.length : Int) != (s2.length : Int)) (Q false) (forIn' (fun k x (s : Unit) next => M_equal_cell_L1 s2 Q k x (next ())) (fun (s : Unit) => Q true) s1 0 ())
set_option maxHeartbeats 1000000 in
theorem R_equal_cell (s1 : (List Cell)) (s2 : (List Cell)) (w0 : World) (s1A : Option Addr) (s1C : Nat) (hv_s1 : View w0 (old w0 none_) s1A s1C s1) (s2A : Option Addr) (s2C : Nat) (hv_s2 : View w0 (old w0 none_) s2A s2C s2) (Q : Bool → Prop) (h : M_equal_cell s1 s2 Q) :
    Ret Try.prog 19 #[.slice s1A s1.length s1C, .slice s2A s2.length s2C] w0 fun v w' => ∃ (r0 : Bool), v = .bool r0 ∧ Q r0 ∧ Sat w0 none_ [] w' := by
  refine fn_enter Try.func19 rfl Try.ntmps19 rfl (fs := [(0, .slice s1A s1.length s1C), (1, .slice s2A s2.length s2C)]) rfl (fun a hf => ?_)
  have hs := Sat.start w0 none_
  unfold M_equal_cell at h
  refine wp_seq ?_
  refine R.list ?_
  refine S.p hf hs (.bool false) rfl rfl fun a hf => ?_
  refine R.nil ?_
  refine X.then_ ?_
  refine wp_seq ?_
  refine wp_seq ?_
  refine R.list ?_
  refine S.p hf hs (.slice s1A s1.length s1C) rfl rfl fun a hf => ?_
  refine S.v hf hs (iv (s1.length : Int)) rfl (V.len rfl rfl Try.runUnderlying22) fun a hf => ?_
  refine S.p hf hs (.slice s2A s2.length s2C) rfl rfl fun a hf => ?_
  refine S.v hf hs (iv (s2.length : Int)) rfl (V.len rfl rfl Try.runUnderlying22) fun a hf => ?_
  refine S.p hf hs (.bool ((s1.length : Int) != (s2.length : Int))) rfl rfl fun a hf => ?_
  refine R.nil ?_
  refine X.then_ ?_
  refine C.cond hf (b := (s1.length : Int) != (s2.length : Int)) rfl (fun hc => ?_) (fun hc => ?_)
  · replace h := h.1 hc
    refine wp_seq ?_
    refine R.list ?_
    refine S.p hf hs (.bool false) rfl rfl fun a hf => ?_
    refine R.nil ?_
    refine X.then_ ?_
    refine wp_ret ?_
    refine X.then_ret ?_
    exact L.ret hf (run_results1 Try.results19 (ResIs.tmp hf rfl)) ⟨false, rfl, h, hs.nil⟩
  · replace h := h.2 hc
    refine wp_skip ?_
    refine X.then_ ?_
    refine wp_seq ?_
    refine wp_seq ?_
    refine R.list ?_
    refine S.p hf hs (.slice s1A s1.length s1C) rfl rfl fun a hf => ?_
    refine S.v hf hs (iv (s1.length : Int)) rfl (V.len rfl rfl Try.runUnderlying22) fun a hf => ?_
    refine S.p hf hs (iv 0) rfl rfl fun a hf => ?_
    refine R.nil ?_
    refine X.then_ ?_
    refine wp_block ?_
    have hlenk1 := hv_s1.len64
    refine C.range (fun (ll : List Cell) a w => ∃ (k1 : Nat) , s1.drop k1 = ll ∧ k1 + ll.length = s1.length ∧ forIn' (fun k x (s : Unit) next => M_equal_cell_L1 s2 Q k x (next ())) (fun (s : Unit) => Q true) ll k1 () ∧ FrOk 26 [(13, iv (k1 : Int)), (0, .slice s1A s1.length s1C), (1, .slice s2A s2.length s2C), (12, iv (s1.length : Int))] a ∧ Sat w0 none_ [] w) s1 ⟨0, rfl, Nat.zero_add _, h, ((((hf.nil.cons (hf.get 12 _ rfl)).cons (hf.get 1 _ rfl)).cons (hf.get 0 _ rfl)).cons (hf.get 13 _ rfl)), hs⟩ ?_
    clear h hf hs
    rintro llk1 a w ⟨k1, hlk1, hkk1, h, hf, hs⟩
    cases llk1 with
    | nil =>
      have hc := range_done hkk1
      replace h : Q true := h
      refine wp_seq ?_
      refine R.list ?_
      refine S.v hf hs (.bool false) rfl (V.cmp false rfl rfl rfl rfl hc) fun a hf => ?_
      refine R.nil ?_
      refine X.then_ ?_
      refine wp_seq ?_
      refine C.no hf rfl ?_
      refine wp_exit ?_
      refine X.then_exit ?_
      refine X.then_exit ?_
      refine X.blk_exit ?_
      refine X.then_ ?_
      refine wp_seq ?_
      refine R.list ?_
      refine S.p hf hs (.bool true) rfl rfl fun a hf => ?_
      refine R.nil ?_
      refine X.then_ ?_
      refine wp_ret ?_
      exact L.ret hf (run_results1 Try.results19 (ResIs.tmp hf rfl)) ⟨true, rfl, h, hs.nil⟩
    | cons xk1 llk1 =>
      have hltk1 := range_lt hkk1; have hc := range_go hkk1; have hxk1 := range_get hlk1
      obtain ⟨next1, hnext1⟩ : ∃ X : Prop, X = (forIn' (fun k x (s : Unit) next => M_equal_cell_L1 s2 Q k x (next ())) (fun (s : Unit) => Q true) llk1 (k1 + 1) ()) := ⟨_, rfl⟩
      replace h : M_equal_cell_L1 s2 Q k1 xk1  next1 := by rw [hnext1]; exact h
      unfold M_equal_cell_L1 at h
      refine wp_seq ?_
      refine R.list ?_
      refine S.v hf hs (.bool true) rfl (V.cmp true rfl rfl rfl rfl hc) fun a hf => ?_
      refine R.nil ?_
      refine X.then_ ?_
      refine wp_seq ?_
      refine C.yes hf rfl ?_
      refine wp_skip ?_
      refine X.then_ ?_
      refine wp_seq ?_
      refine wp_block ?_
      refine wp_seq ?_
      refine R.list ?_
      refine S.p hf hs (iv (k1 : Int)) rfl rfl fun a hf => ?_
      refine S.p hf hs (iv (k1 : Int)) rfl rfl fun a hf => ?_
      refine R.nil ?_
      refine X.then_ ?_
      refine wp_seq ?_
      refine R.draw mo (by kernel_rfl) hs ?_
      refine D.p hf (.slice s1A s1.length s1C) rfl rfl fun a hf => ?_
      refine D.p hf (iv (k1 : Int)) rfl rfl fun a hf => ?_
      refine D.v hf (elemPtr s1A (k1 * 3)) rfl (V.index rfl rfl rfl Try.runUnderlying22 Try.sizeOf28 (hv_s1.some_ (lt_of_get hxk1)) (Int.natCast_nonneg _) (lt_of_get hxk1) rfl) fun a hf => ?_
      refine D.v hf (.agg #[iv xk1.X, iv xk1.Y, iv xk1.Layer]) rfl (V.loadEl (off := 0) (Ag.args _ _ _) (hv_s1.flat hxk1) rfl rfl rfl Try.isAgg28 Try.sizeOf28 rfl rfl) fun a hf => ?_
      refine D.p hf (.slice s2A s2.length s2C) rfl rfl fun a hf => ?_
      refine D.p hf (iv (k1 : Int)) rfl rfl fun a hf => ?_
      obtain ⟨h0x1, x1, hx1, h⟩ := h
      refine D.v hf (elemPtr s2A (k1 * 3)) rfl (V.index rfl rfl rfl Try.runUnderlying22 Try.sizeOf28 (hv_s2.some_ (lt_of_get hx1)) (Int.natCast_nonneg _) (lt_of_get hx1) rfl) fun a hf => ?_
      refine D.v hf (.agg #[iv x1.X, iv x1.Y, iv x1.Layer]) rfl (V.loadEl (off := 0) (Ag.args _ _ _) (hv_s2.flat hx1) rfl rfl rfl Try.isAgg28 Try.sizeOf28 rfl rfl) fun a hf => ?_
      refine D.v hf (.bool (!(decide (xk1 = x1)))) rfl (V.aggneq rfl rfl rfl (by kernel_rfl) (fun w => eqS28 xk1 x1 w)) fun a hf => ?_
      refine D.done (fun w hs => ?_)
      refine X.then_ ?_
      refine C.cond hf (b := !(decide (xk1 = x1))) rfl (fun hc => ?_) (fun hc => ?_)
      · replace h := h.1 hc
        refine wp_seq ?_
        refine R.list ?_
        refine S.p hf hs (.bool false) rfl rfl fun a hf => ?_
        refine R.nil ?_
        refine X.then_ ?_
        refine wp_ret ?_
        refine X.blk_ret ?_
        refine X.then_ret ?_
        refine X.then_ret ?_
        refine X.blk_ret ?_
        refine X.then_ret ?_
        exact L.ret hf (run_results1 Try.results19 (ResIs.tmp hf rfl)) ⟨false, rfl, h, hs.nil⟩
      · replace h := h.2 hc
        refine wp_skip ?_
        refine X.blk ?_
        refine X.then_ ?_
        refine R.list ?_
        refine S.v hf hs (iv ((k1 + 1 : Nat) : Int)) rfl (V.incr rfl rfl rfl hltk1 hlenk1) fun a hf => ?_
        refine S.p hf hs (iv ((k1 + 1 : Nat) : Int)) rfl rfl fun a hf => ?_
        refine R.nil ?_
        refine X.then_ ?_
        exact ⟨xk1, llk1, rfl, k1 + 1, range_drop hlk1, range_len hkk1, (by rw [hnext1] at h; exact h), ((((hf.nil.cons (hf.get 12 _ rfl)).cons (hf.get 1 _ rfl)).cons (hf.get 0 _ rfl)).cons (hf.get 13 _ rfl)), hs⟩

set_option linter.unusedVariables false
def M_law_Way (g : Grid) (c : Costs) (from_ : Cell) (to : Cell) (Q : Bool → Prop) : Prop :=
  M_route_Way g c from_ to fun y1 y2 y3 => M_ref7_Way g c from_ to fun y4 y5 y6 => cnd (y3 == y6) (cnd (y2 == y5) (M_equal_cell y1 y4 fun y7 => cnd y7 (M_route_awake  fun y8 => Q y8) (Q false)) (Q false)) (Q false)
set_option maxHeartbeats 1000000 in
theorem R_law_Way (g : Grid) (c : Costs) (from_ : Cell) (to : Cell) (w0 : World) (g_BlockedA : Option Addr) (g_BlockedC : Nat) (hv_g_Blocked : View w0 (old w0 none_) g_BlockedA g_BlockedC g.Blocked) (Q : Bool → Prop) (h : M_law_Way g c from_ to Q) :
    Ret Try.prog 5 #[.agg #[iv g.W, iv g.H, iv g.Layers, .slice g_BlockedA g.Blocked.length g_BlockedC], .agg #[iv c.Step, iv c.Via, iv c.Turn, iv c.Against], .agg #[iv from_.X, iv from_.Y, iv from_.Layer], .agg #[iv to.X, iv to.Y, iv to.Layer]] w0 fun v w' => ∃ (r0 : Bool), v = .bool r0 ∧ Q r0 ∧ Sat w0 none_ [] w' := by
  refine fn_enter Try.func5 rfl Try.ntmps5 rfl (fs := [(0, .agg #[iv g.W, iv g.H, iv g.Layers, .slice g_BlockedA g.Blocked.length g_BlockedC]), (1, .agg #[iv c.Step, iv c.Via, iv c.Turn, iv c.Against]), (2, .agg #[iv from_.X, iv from_.Y, iv from_.Layer]), (3, .agg #[iv to.X, iv to.Y, iv to.Layer])]) rfl (fun a hf => ?_)
  have hs := Sat.start w0 none_
  unfold M_law_Way at h
  refine wp_seq ?_
  refine R.list ?_
  refine S.box hf hs rfl rfl rfl [iv g.W, iv g.H, iv g.Layers, .slice g_BlockedA g.Blocked.length g_BlockedC] rfl rfl rfl (fun g1 a w hf hs => ?_)
  refine S.box hf hs rfl rfl rfl [iv c.Step, iv c.Via, iv c.Turn, iv c.Against] rfl rfl rfl (fun g2 a w hf hs => ?_)
  refine S.box hf hs rfl rfl rfl [iv from_.X, iv from_.Y, iv from_.Layer] rfl rfl rfl (fun g3 a w hf hs => ?_)
  refine S.box hf hs rfl rfl rfl [iv to.X, iv to.Y, iv to.Layer] rfl rfl rfl (fun g4 a w hf hs => ?_)
  refine S.p hf hs (.bool false) rfl rfl fun a hf => ?_
  refine R.nil ?_
  refine X.then_ ?_
  refine wp_seq ?_
  refine R.list ?_
  refine S.v hf hs (.agg #[iv g.W, iv g.H, iv g.Layers, .slice g_BlockedA g.Blocked.length g_BlockedC]) rfl (V.loadBox 3 rfl rfl rfl Try.isAgg24 Try.sizeOf24 rfl rfl) fun a hf => ?_
  refine S.v hf hs (.agg #[iv c.Step, iv c.Via, iv c.Turn, iv c.Against]) rfl (V.loadBox 2 rfl rfl rfl Try.isAgg26 Try.sizeOf26 rfl rfl) fun a hf => ?_
  refine S.v hf hs (.agg #[iv from_.X, iv from_.Y, iv from_.Layer]) rfl (V.loadBox 1 rfl rfl rfl Try.isAgg28 Try.sizeOf28 rfl rfl) fun a hf => ?_
  refine S.v hf hs (.agg #[iv to.X, iv to.Y, iv to.Layer]) rfl (V.loadBox 0 rfl rfl rfl Try.isAgg28 Try.sizeOf28 rfl rfl) fun a hf => ?_
  refine S.call hf rfl rfl rfl (call_fn (vs := [.agg #[iv g.W, iv g.H, iv g.Layers, .slice g_BlockedA g.Blocked.length g_BlockedC], .agg #[iv c.Step, iv c.Via, iv c.Turn, iv c.Against], .agg #[iv from_.X, iv from_.Y, iv from_.Layer], .agg #[iv to.X, iv to.Y, iv to.Layer]]) rfl rfl rfl Try.call17) (R_route_Way g c from_ to _ g_BlockedA g_BlockedC ((Ag.args _ _ _).view hv_g_Blocked hs) _ h) (fun v a w' hf hr => ?_)
  obtain ⟨y1, y1A, y1C, y2, y3, rfl, h2, hs2⟩ := hr
  replace h := h2; replace hs := hs.call hs2; clear h2 hs2
  refine S.p hf hs (.tuple #[.slice y1A y1.length y1C, .bool y2, iv y3]) rfl rfl fun a hf => ?_
  refine S.p hf hs (.slice y1A y1.length y1C) rfl rfl fun a hf => ?_
  refine S.p hf hs (.bool y2) rfl rfl fun a hf => ?_
  refine S.p hf hs (iv y3) rfl rfl fun a hf => ?_
  refine S.p hf hs (.slice y1A y1.length y1C) rfl rfl fun a hf => ?_
  refine S.p hf hs (.bool y2) rfl rfl fun a hf => ?_
  refine S.p hf hs (iv y3) rfl rfl fun a hf => ?_
  refine R.nil ?_
  refine X.then_ ?_
  refine wp_seq ?_
  refine R.list ?_
  refine S.v hf hs (.agg #[iv g.W, iv g.H, iv g.Layers, .slice g_BlockedA g.Blocked.length g_BlockedC]) rfl (V.loadBox 4 rfl rfl rfl Try.isAgg24 Try.sizeOf24 rfl rfl) fun a hf => ?_
  refine S.v hf hs (.agg #[iv c.Step, iv c.Via, iv c.Turn, iv c.Against]) rfl (V.loadBox 3 rfl rfl rfl Try.isAgg26 Try.sizeOf26 rfl rfl) fun a hf => ?_
  refine S.v hf hs (.agg #[iv from_.X, iv from_.Y, iv from_.Layer]) rfl (V.loadBox 2 rfl rfl rfl Try.isAgg28 Try.sizeOf28 rfl rfl) fun a hf => ?_
  refine S.v hf hs (.agg #[iv to.X, iv to.Y, iv to.Layer]) rfl (V.loadBox 1 rfl rfl rfl Try.isAgg28 Try.sizeOf28 rfl rfl) fun a hf => ?_
  refine S.call hf rfl rfl rfl (call_fn (vs := [.agg #[iv g.W, iv g.H, iv g.Layers, .slice g_BlockedA g.Blocked.length g_BlockedC], .agg #[iv c.Step, iv c.Via, iv c.Turn, iv c.Against], .agg #[iv from_.X, iv from_.Y, iv from_.Layer], .agg #[iv to.X, iv to.Y, iv to.Layer]]) rfl rfl rfl Try.call18) (R_ref7_Way g c from_ to _ g_BlockedA g_BlockedC ((Ag.args _ _ _).view hv_g_Blocked hs) _ h) (fun v a w' hf hr => ?_)
  obtain ⟨y4, y4A, y4C, y5, y6, rfl, h2, hs2⟩ := hr
  replace h := h2; replace hs := hs.call hs2; clear h2 hs2
  refine S.p hf hs (.tuple #[.slice y4A y4.length y4C, .bool y5, iv y6]) rfl rfl fun a hf => ?_
  refine S.p hf hs (.slice y4A y4.length y4C) rfl rfl fun a hf => ?_
  refine S.p hf hs (.bool y5) rfl rfl fun a hf => ?_
  refine S.p hf hs (iv y6) rfl rfl fun a hf => ?_
  refine S.p hf hs (.slice y4A y4.length y4C) rfl rfl fun a hf => ?_
  refine S.p hf hs (.bool y5) rfl rfl fun a hf => ?_
  refine S.p hf hs (iv y6) rfl rfl fun a hf => ?_
  refine R.nil ?_
  refine X.then_ ?_
  refine wp_seq ?_
  refine R.list ?_
  refine S.p hf hs (iv y3) rfl rfl fun a hf => ?_
  refine S.p hf hs (iv y6) rfl rfl fun a hf => ?_
  refine S.p hf hs (.bool (y3 == y6)) rfl rfl fun a hf => ?_
  refine S.split hf hs (b := y3 == y6) rfl rfl rfl (V.pure rfl) (fun hc a hf => ?_) (fun hc a hf => ?_)
  · replace h := h.1 hc
    refine S.p hf hs (.bool y2) rfl rfl fun a hf => ?_
    refine S.p hf hs (.bool y5) rfl rfl fun a hf => ?_
    refine S.v hf hs (.bool (y2 == y5)) rfl (V.boolEq rfl rfl rfl Try.underlying4 rfl) fun a hf => ?_
    refine S.p hf hs (.bool (y2 == y5)) rfl rfl fun a hf => ?_
    refine S.split hf hs (b := y2 == y5) rfl rfl rfl (V.pure rfl) (fun hc a hf => ?_) (fun hc a hf => ?_)
    · replace h := h.1 hc
      refine S.p hf hs (.slice y1A y1.length y1C) rfl rfl fun a hf => ?_
      refine S.p hf hs (.slice y4A y4.length y4C) rfl rfl fun a hf => ?_
      refine S.call hf rfl rfl rfl (call_fn (vs := [.slice y1A y1.length y1C, .slice y4A y4.length y4C]) rfl rfl rfl Try.call19) (R_equal_cell y1 y4 _ y1A y1C (hs.ownView 1 rfl) y4A y4C (hs.ownView 0 rfl) _ h) (fun v a w' hf hr => ?_)
      obtain ⟨y7, rfl, h2, hs2⟩ := hr
      replace h := h2; replace hs := hs.call hs2; clear h2 hs2
      refine S.p hf hs (.bool y7) rfl rfl fun a hf => ?_
      refine S.split hf hs (b := y7) rfl rfl rfl (V.pure rfl) (fun hc a hf => ?_) (fun hc a hf => ?_)
      · replace h := h.1 hc
        refine S.call hf rfl rfl rfl (call_fn (vs := []) rfl rfl rfl Try.call13) (R_route_awake  _  _ h) (fun v a w' hf hr => ?_)
        obtain ⟨y8, rfl, h2, hs2⟩ := hr
        replace h := h2; replace hs := hs.call hs2; clear h2 hs2
        refine S.p hf hs (.bool y8) rfl rfl fun a hf => ?_
        refine S.p hf hs (.bool y8) rfl rfl fun a hf => ?_
        refine R.nil ?_
        refine X.then_ ?_
        refine wp_ret ?_
        exact L.ret hf (run_results1 Try.results5 (ResIs.tmp hf rfl)) ⟨y8, rfl, h, hs.nil⟩
      · replace h := h.2 hc
        refine S.k hf rfl fun a hf => ?_
        refine S.p hf hs (.bool false) rfl rfl fun a hf => ?_
        refine S.p hf hs (.bool false) rfl rfl fun a hf => ?_
        refine R.nil ?_
        refine X.then_ ?_
        refine wp_ret ?_
        exact L.ret hf (run_results1 Try.results5 (ResIs.tmp hf rfl)) ⟨false, rfl, h, hs.nil⟩
    · replace h := h.2 hc
      refine S.k hf rfl fun a hf => ?_
      refine S.k hf rfl fun a hf => ?_
      refine S.k hf rfl fun a hf => ?_
      refine S.p hf hs (.bool false) rfl rfl fun a hf => ?_
      refine S.p hf hs (.bool false) rfl rfl fun a hf => ?_
      refine S.k hf rfl fun a hf => ?_
      refine S.p hf hs (.bool false) rfl rfl fun a hf => ?_
      refine S.p hf hs (.bool false) rfl rfl fun a hf => ?_
      refine R.nil ?_
      refine X.then_ ?_
      refine wp_ret ?_
      exact L.ret hf (run_results1 Try.results5 (ResIs.tmp hf rfl)) ⟨false, rfl, h, hs.nil⟩
  · replace h := h.2 hc
    refine S.k hf rfl fun a hf => ?_
    refine S.k hf rfl fun a hf => ?_
    refine S.k hf rfl fun a hf => ?_
    refine S.p hf hs (.bool false) rfl rfl fun a hf => ?_
    refine S.p hf hs (.bool false) rfl rfl fun a hf => ?_
    refine S.k hf rfl fun a hf => ?_
    refine S.k hf rfl fun a hf => ?_
    refine S.k hf rfl fun a hf => ?_
    refine S.p hf hs (.bool false) rfl rfl fun a hf => ?_
    refine S.p hf hs (.bool false) rfl rfl fun a hf => ?_
    refine S.k hf rfl fun a hf => ?_
    refine S.p hf hs (.bool false) rfl rfl fun a hf => ?_
    refine S.p hf hs (.bool false) rfl rfl fun a hf => ?_
    refine R.nil ?_
    refine X.then_ ?_
    refine wp_ret ?_
    exact L.ret hf (run_results1 Try.results5 (ResIs.tmp hf rfl)) ⟨false, rfl, h, hs.nil⟩

end Go.Proofs.Ytihjaehkdgdenaa
