/- Chapter 7: the law on least costs: the walk. -/
import Derived.Test.YtihjaehkdgdenaaRtN3
import Derived.Test.YtihjaehkdgdenaaRtO
namespace Go.Proofs.Ytihjaehkdgdenaa
open Go Go.RowKit
set_option linter.unusedVariables false
set_option linter.unusedSimpArgs false

set_option linter.unusedVariables false
def M_law_Least_k1 (g : Grid) (c : Costs) (from_ : Cell) (most : Int) (Q : Bool → Prop) (c1 : Bool) : Prop :=
  cnd c1 (Q false) (M_route_Reach g c from_ most fun y7 y8 => M_ref7_Reach g c from_ most fun y9 y10 => cnd (y8 == y10) (cnd (y7 == y9) (M_route_awake  fun y11 => Q y11) (Q false)) (Q false))
def M_law_Least (g : Grid) (c : Costs) (from_ : Cell) (to : Cell) (most : Int) (Q : Bool → Prop) : Prop :=
  M_route_Least g c from_ to fun y1 y2 y3 => M_ref7_Least g c from_ to fun y4 y5 y6 => cnd (y3 != y6) (M_law_Least_k1 g c from_ most Q true) (cnd (y1 != y4) (M_law_Least_k1 g c from_ most Q true) (M_law_Least_k1 g c from_ most Q (!(y2 == y5))))
set_option maxHeartbeats 1000000 in
theorem R_law_Least (g : Grid) (c : Costs) (from_ : Cell) (to : Cell) (most : Int) (w0 : World) (g_BlockedA : Option Addr) (g_BlockedC : Nat) (hv_g_Blocked : View w0 (old w0 none_) g_BlockedA g_BlockedC g.Blocked) (Q : Bool → Prop) (h : M_law_Least g c from_ to most Q) :
    Ret Try.prog 4 #[.agg #[iv g.W, iv g.H, iv g.Layers, .slice g_BlockedA g.Blocked.length g_BlockedC], .agg #[iv c.Step, iv c.Via, iv c.Turn, iv c.Against], .agg #[iv from_.X, iv from_.Y, iv from_.Layer], .agg #[iv to.X, iv to.Y, iv to.Layer], iv most] w0 fun v w' => ∃ (r0 : Bool), v = .bool r0 ∧ Q r0 ∧ Sat w0 none_ [] w' := by
  refine fn_enter Try.func4 rfl Try.ntmps4 rfl (fs := [(0, .agg #[iv g.W, iv g.H, iv g.Layers, .slice g_BlockedA g.Blocked.length g_BlockedC]), (1, .agg #[iv c.Step, iv c.Via, iv c.Turn, iv c.Against]), (2, .agg #[iv from_.X, iv from_.Y, iv from_.Layer]), (3, .agg #[iv to.X, iv to.Y, iv to.Layer]), (4, iv most)]) rfl (fun a hf => ?_)
  have hs := Sat.start w0 none_
  unfold M_law_Least at h
  refine wp_seq ?_
  refine R.list ?_
  refine S.box hf hs rfl rfl rfl [iv g.W, iv g.H, iv g.Layers, .slice g_BlockedA g.Blocked.length g_BlockedC] rfl rfl rfl (fun g1 a w hf hs => ?_)
  refine S.box hf hs rfl rfl rfl [iv c.Step, iv c.Via, iv c.Turn, iv c.Against] rfl rfl rfl (fun g2 a w hf hs => ?_)
  refine S.box hf hs rfl rfl rfl [iv from_.X, iv from_.Y, iv from_.Layer] rfl rfl rfl (fun g3 a w hf hs => ?_)
  refine S.box hf hs rfl rfl rfl [iv to.X, iv to.Y, iv to.Layer] rfl rfl rfl (fun g4 a w hf hs => ?_)
  refine S.p hf hs (.bool false) rfl rfl fun a hf => ?_
  refine R.nil ?_
  refine X.then_ ?_
  refine wp_seq ?_
  refine R.list ?_
  refine S.v hf hs (.agg #[iv g.W, iv g.H, iv g.Layers, .slice g_BlockedA g.Blocked.length g_BlockedC]) rfl (V.loadBox 3 rfl rfl rfl Try.isAgg24 Try.sizeOf24 rfl rfl) fun a hf => ?_
  refine S.v hf hs (.agg #[iv c.Step, iv c.Via, iv c.Turn, iv c.Against]) rfl (V.loadBox 2 rfl rfl rfl Try.isAgg26 Try.sizeOf26 rfl rfl) fun a hf => ?_
  refine S.v hf hs (.agg #[iv from_.X, iv from_.Y, iv from_.Layer]) rfl (V.loadBox 1 rfl rfl rfl Try.isAgg28 Try.sizeOf28 rfl rfl) fun a hf => ?_
  refine S.v hf hs (.agg #[iv to.X, iv to.Y, iv to.Layer]) rfl (V.loadBox 0 rfl rfl rfl Try.isAgg28 Try.sizeOf28 rfl rfl) fun a hf => ?_
  refine S.call hf rfl rfl rfl (call_fn (vs := [.agg #[iv g.W, iv g.H, iv g.Layers, .slice g_BlockedA g.Blocked.length g_BlockedC], .agg #[iv c.Step, iv c.Via, iv c.Turn, iv c.Against], .agg #[iv from_.X, iv from_.Y, iv from_.Layer], .agg #[iv to.X, iv to.Y, iv to.Layer]]) rfl rfl rfl Try.call12) (R_route_Least g c from_ to _ g_BlockedA g_BlockedC ((Ag.args _ _ _).view hv_g_Blocked hs) _ h) (fun v a w' hf hr => ?_)
  obtain ⟨y1, y2, y3, rfl, h2, hs2⟩ := hr
  replace h := h2; replace hs := hs.call hs2; clear h2 hs2
  refine S.p hf hs (.tuple #[iv y1, .bool y2, iv y3]) rfl rfl fun a hf => ?_
  refine S.p hf hs (iv y1) rfl rfl fun a hf => ?_
  refine S.p hf hs (.bool y2) rfl rfl fun a hf => ?_
  refine S.p hf hs (iv y3) rfl rfl fun a hf => ?_
  refine S.p hf hs (iv y1) rfl rfl fun a hf => ?_
  refine S.p hf hs (.bool y2) rfl rfl fun a hf => ?_
  refine S.p hf hs (iv y3) rfl rfl fun a hf => ?_
  refine R.nil ?_
  refine X.then_ ?_
  refine wp_seq ?_
  refine R.list ?_
  refine S.v hf hs (.agg #[iv g.W, iv g.H, iv g.Layers, .slice g_BlockedA g.Blocked.length g_BlockedC]) rfl (V.loadBox 3 rfl rfl rfl Try.isAgg24 Try.sizeOf24 rfl rfl) fun a hf => ?_
  refine S.v hf hs (.agg #[iv c.Step, iv c.Via, iv c.Turn, iv c.Against]) rfl (V.loadBox 2 rfl rfl rfl Try.isAgg26 Try.sizeOf26 rfl rfl) fun a hf => ?_
  refine S.v hf hs (.agg #[iv from_.X, iv from_.Y, iv from_.Layer]) rfl (V.loadBox 1 rfl rfl rfl Try.isAgg28 Try.sizeOf28 rfl rfl) fun a hf => ?_
  refine S.v hf hs (.agg #[iv to.X, iv to.Y, iv to.Layer]) rfl (V.loadBox 0 rfl rfl rfl Try.isAgg28 Try.sizeOf28 rfl rfl) fun a hf => ?_
  refine S.call hf rfl rfl rfl (call_fn (vs := [.agg #[iv g.W, iv g.H, iv g.Layers, .slice g_BlockedA g.Blocked.length g_BlockedC], .agg #[iv c.Step, iv c.Via, iv c.Turn, iv c.Against], .agg #[iv from_.X, iv from_.Y, iv from_.Layer], .agg #[iv to.X, iv to.Y, iv to.Layer]]) rfl rfl rfl Try.call14) (R_ref7_Least g c from_ to _ g_BlockedA g_BlockedC ((Ag.args _ _ _).view hv_g_Blocked hs) _ h) (fun v a w' hf hr => ?_)
  obtain ⟨y4, y5, y6, rfl, h2, hs2⟩ := hr
  replace h := h2; replace hs := hs.call hs2; clear h2 hs2
  refine S.p hf hs (.tuple #[iv y4, .bool y5, iv y6]) rfl rfl fun a hf => ?_
  refine S.p hf hs (iv y4) rfl rfl fun a hf => ?_
  refine S.p hf hs (.bool y5) rfl rfl fun a hf => ?_
  refine S.p hf hs (iv y6) rfl rfl fun a hf => ?_
  refine S.p hf hs (iv y4) rfl rfl fun a hf => ?_
  refine S.p hf hs (.bool y5) rfl rfl fun a hf => ?_
  refine S.p hf hs (iv y6) rfl rfl fun a hf => ?_
  refine R.nil ?_
  refine X.then_ ?_
  refine wp_seq ?_
  refine wp_seq ?_
  refine C.cut (J := fun a w => ∃ (c1 : Bool), M_law_Least_k1 g c from_ most Q c1 ∧ FrOk 75 [(4, iv most), (5, (pn g1 0)), (6, (pn g2 0)), (7, (pn g3 0)), (47, .bool c1)] a ∧ Sat w0 none_ [hbox g4 28 [iv to.X, iv to.Y, iv to.Layer], hbox g3 28 [iv from_.X, iv from_.Y, iv from_.Layer], hbox g2 26 [iv c.Step, iv c.Via, iv c.Turn, iv c.Against], hbox g1 24 [iv g.W, iv g.H, iv g.Layers, .slice g_BlockedA g.Blocked.length g_BlockedC]] w) ?_ ?_
  · rintro a w ⟨c1, h, hf, hs⟩
    unfold M_law_Least_k1 at h
    refine C.cond hf (b := c1) rfl (fun hc => ?_) (fun hc => ?_)
    · replace h := h.1 hc
      refine wp_seq ?_
      refine R.list ?_
      refine S.p hf hs (.bool false) rfl rfl fun a hf => ?_
      refine R.nil ?_
      refine X.then_ ?_
      refine wp_ret ?_
      refine X.then_ret ?_
      exact L.ret hf (run_results1 Try.results4 (ResIs.tmp hf rfl)) ⟨false, rfl, h, hs.nil⟩
    · replace h := h.2 hc
      refine wp_skip ?_
      refine X.then_ ?_
      refine wp_seq ?_
      refine R.list ?_
      refine S.v hf hs (.agg #[iv g.W, iv g.H, iv g.Layers, .slice g_BlockedA g.Blocked.length g_BlockedC]) rfl (V.loadBox 3 rfl rfl rfl Try.isAgg24 Try.sizeOf24 rfl rfl) fun a hf => ?_
      refine S.v hf hs (.agg #[iv c.Step, iv c.Via, iv c.Turn, iv c.Against]) rfl (V.loadBox 2 rfl rfl rfl Try.isAgg26 Try.sizeOf26 rfl rfl) fun a hf => ?_
      refine S.v hf hs (.agg #[iv from_.X, iv from_.Y, iv from_.Layer]) rfl (V.loadBox 1 rfl rfl rfl Try.isAgg28 Try.sizeOf28 rfl rfl) fun a hf => ?_
      refine S.p hf hs (iv most) rfl rfl fun a hf => ?_
      refine S.call hf rfl rfl rfl (call_fn (vs := [.agg #[iv g.W, iv g.H, iv g.Layers, .slice g_BlockedA g.Blocked.length g_BlockedC], .agg #[iv c.Step, iv c.Via, iv c.Turn, iv c.Against], .agg #[iv from_.X, iv from_.Y, iv from_.Layer], iv most]) rfl rfl rfl Try.call15) (R_route_Reach g c from_ most _ g_BlockedA g_BlockedC ((Ag.args _ _ _).view hv_g_Blocked hs) _ h) (fun v a w' hf hr => ?_)
      obtain ⟨y7, y8, rfl, h2, hs2⟩ := hr
      replace h := h2; replace hs := hs.call hs2; clear h2 hs2
      refine S.p hf hs (.tuple #[iv y7, iv y8]) rfl rfl fun a hf => ?_
      refine S.p hf hs (iv y7) rfl rfl fun a hf => ?_
      refine S.p hf hs (iv y8) rfl rfl fun a hf => ?_
      refine S.p hf hs (iv y7) rfl rfl fun a hf => ?_
      refine S.p hf hs (iv y8) rfl rfl fun a hf => ?_
      refine R.nil ?_
      refine X.then_ ?_
      refine wp_seq ?_
      refine R.list ?_
      refine S.v hf hs (.agg #[iv g.W, iv g.H, iv g.Layers, .slice g_BlockedA g.Blocked.length g_BlockedC]) rfl (V.loadBox 3 rfl rfl rfl Try.isAgg24 Try.sizeOf24 rfl rfl) fun a hf => ?_
      refine S.v hf hs (.agg #[iv c.Step, iv c.Via, iv c.Turn, iv c.Against]) rfl (V.loadBox 2 rfl rfl rfl Try.isAgg26 Try.sizeOf26 rfl rfl) fun a hf => ?_
      refine S.v hf hs (.agg #[iv from_.X, iv from_.Y, iv from_.Layer]) rfl (V.loadBox 1 rfl rfl rfl Try.isAgg28 Try.sizeOf28 rfl rfl) fun a hf => ?_
      refine S.p hf hs (iv most) rfl rfl fun a hf => ?_
      refine S.call hf rfl rfl rfl (call_fn (vs := [.agg #[iv g.W, iv g.H, iv g.Layers, .slice g_BlockedA g.Blocked.length g_BlockedC], .agg #[iv c.Step, iv c.Via, iv c.Turn, iv c.Against], .agg #[iv from_.X, iv from_.Y, iv from_.Layer], iv most]) rfl rfl rfl Try.call16) (R_ref7_Reach g c from_ most _ g_BlockedA g_BlockedC ((Ag.args _ _ _).view hv_g_Blocked hs) _ h) (fun v a w' hf hr => ?_)
      obtain ⟨y9, y10, rfl, h2, hs2⟩ := hr
      replace h := h2; replace hs := hs.call hs2; clear h2 hs2
      refine S.p hf hs (.tuple #[iv y9, iv y10]) rfl rfl fun a hf => ?_
      refine S.p hf hs (iv y9) rfl rfl fun a hf => ?_
      refine S.p hf hs (iv y10) rfl rfl fun a hf => ?_
      refine S.p hf hs (iv y9) rfl rfl fun a hf => ?_
      refine S.p hf hs (iv y10) rfl rfl fun a hf => ?_
      refine R.nil ?_
      refine X.then_ ?_
      refine wp_seq ?_
      refine R.list ?_
      refine S.p hf hs (iv y8) rfl rfl fun a hf => ?_
      refine S.p hf hs (iv y10) rfl rfl fun a hf => ?_
      refine S.p hf hs (.bool (y8 == y10)) rfl rfl fun a hf => ?_
      refine S.split hf hs (b := y8 == y10) rfl rfl rfl (V.pure rfl) (fun hc a hf => ?_) (fun hc a hf => ?_)
      · replace h := h.1 hc
        refine S.p hf hs (iv y7) rfl rfl fun a hf => ?_
        refine S.p hf hs (iv y9) rfl rfl fun a hf => ?_
        refine S.p hf hs (.bool (y7 == y9)) rfl rfl fun a hf => ?_
        refine S.p hf hs (.bool (y7 == y9)) rfl rfl fun a hf => ?_
        refine S.split hf hs (b := y7 == y9) rfl rfl rfl (V.pure rfl) (fun hc a hf => ?_) (fun hc a hf => ?_)
        · replace h := h.1 hc
          refine S.call hf rfl rfl rfl (call_fn (vs := []) rfl rfl rfl Try.call13) (R_route_awake  _  _ h) (fun v a w' hf hr => ?_)
          obtain ⟨y11, rfl, h2, hs2⟩ := hr
          replace h := h2; replace hs := hs.call hs2; clear h2 hs2
          refine S.p hf hs (.bool y11) rfl rfl fun a hf => ?_
          refine S.p hf hs (.bool y11) rfl rfl fun a hf => ?_
          refine R.nil ?_
          refine X.then_ ?_
          refine wp_ret ?_
          exact L.ret hf (run_results1 Try.results4 (ResIs.tmp hf rfl)) ⟨y11, rfl, h, hs.nil⟩
        · replace h := h.2 hc
          refine S.k hf rfl fun a hf => ?_
          refine S.p hf hs (.bool false) rfl rfl fun a hf => ?_
          refine S.p hf hs (.bool false) rfl rfl fun a hf => ?_
          refine R.nil ?_
          refine X.then_ ?_
          refine wp_ret ?_
          exact L.ret hf (run_results1 Try.results4 (ResIs.tmp hf rfl)) ⟨false, rfl, h, hs.nil⟩
      · replace h := h.2 hc
        refine S.k hf rfl fun a hf => ?_
        refine S.k hf rfl fun a hf => ?_
        refine S.k hf rfl fun a hf => ?_
        refine S.p hf hs (.bool false) rfl rfl fun a hf => ?_
        refine S.p hf hs (.bool false) rfl rfl fun a hf => ?_
        refine S.k hf rfl fun a hf => ?_
        refine S.p hf hs (.bool false) rfl rfl fun a hf => ?_
        refine S.p hf hs (.bool false) rfl rfl fun a hf => ?_
        refine R.nil ?_
        refine X.then_ ?_
        refine wp_ret ?_
        exact L.ret hf (run_results1 Try.results4 (ResIs.tmp hf rfl)) ⟨false, rfl, h, hs.nil⟩
  · skip
    refine R.list ?_
    refine S.p hf hs (iv y3) rfl rfl fun a hf => ?_
    refine S.p hf hs (iv y6) rfl rfl fun a hf => ?_
    refine S.p hf hs (.bool (y3 != y6)) rfl rfl fun a hf => ?_
    refine S.split hf hs (b := y3 != y6) rfl rfl rfl (V.pure rfl) (fun hc a hf => ?_) (fun hc a hf => ?_)
    · replace h := h.1 hc
      refine S.k hf rfl fun a hf => ?_
      refine S.k hf rfl fun a hf => ?_
      refine S.k hf rfl fun a hf => ?_
      refine S.p hf hs (.bool true) rfl rfl fun a hf => ?_
      refine S.p hf hs (.bool true) rfl rfl fun a hf => ?_
      refine S.k hf rfl fun a hf => ?_
      refine S.k hf rfl fun a hf => ?_
      refine S.k hf rfl fun a hf => ?_
      refine S.p hf hs (.bool true) rfl rfl fun a hf => ?_
      refine R.nil ?_
      refine X.then_ ?_
      exact ⟨true, h, (((((hf.nil.cons (hf.get 47 _ rfl)).cons (hf.get 7 _ rfl)).cons (hf.get 6 _ rfl)).cons (hf.get 5 _ rfl)).cons (hf.get 4 _ rfl)), hs⟩
    · replace h := h.2 hc
      refine S.p hf hs (iv y1) rfl rfl fun a hf => ?_
      refine S.p hf hs (iv y4) rfl rfl fun a hf => ?_
      refine S.p hf hs (.bool (y1 != y4)) rfl rfl fun a hf => ?_
      refine S.p hf hs (.bool (y1 != y4)) rfl rfl fun a hf => ?_
      refine S.split hf hs (b := y1 != y4) rfl rfl rfl (V.pure rfl) (fun hc a hf => ?_) (fun hc a hf => ?_)
      · replace h := h.1 hc
        refine S.k hf rfl fun a hf => ?_
        refine S.k hf rfl fun a hf => ?_
        refine S.k hf rfl fun a hf => ?_
        refine S.p hf hs (.bool true) rfl rfl fun a hf => ?_
        refine R.nil ?_
        refine X.then_ ?_
        exact ⟨true, h, (((((hf.nil.cons (hf.get 47 _ rfl)).cons (hf.get 7 _ rfl)).cons (hf.get 6 _ rfl)).cons (hf.get 5 _ rfl)).cons (hf.get 4 _ rfl)), hs⟩
      · replace h := h.2 hc
        refine S.p hf hs (.bool y2) rfl rfl fun a hf => ?_
        refine S.p hf hs (.bool y5) rfl rfl fun a hf => ?_
        refine S.v hf hs (.bool (!(y2 == y5))) rfl (V.boolEq rfl rfl rfl Try.underlying4 rfl) fun a hf => ?_
        refine S.p hf hs (.bool (!(y2 == y5))) rfl rfl fun a hf => ?_
        refine R.nil ?_
        refine X.then_ ?_
        exact ⟨(!(y2 == y5)), h, (((((hf.nil.cons (hf.get 47 _ rfl)).cons (hf.get 7 _ rfl)).cons (hf.get 6 _ rfl)).cons (hf.get 5 _ rfl)).cons (hf.get 4 _ rfl)), hs⟩

end Go.Proofs.Ytihjaehkdgdenaa
