/- Chapter 7: the law that a way costs the least: the walk. -/
import Derived.Test.YtihjaehkdgdenaaRtG2
import Derived.Test.YtihjaehkdgdenaaRtO2
namespace Go.Proofs.Ytihjaehkdgdenaa
open Go Go.RowKit
set_option linter.unusedVariables false
set_option linter.unusedSimpArgs false

set_option linter.unusedVariables false
def M_law_WayLeast_k2 (g : Grid) (c : Costs) (from_ : Cell) (to : Cell) (other : (List Cell)) (Q : Bool → Prop) (y5 : Int) (c2 : Bool) : Prop :=
  cnd c2 (Q false) (M_route_CostOf g c other fun y10 y11 => cnd (y11 != 0) (Q true) (idx other 0 fun x1 => cnd (!(decide (x1 = from_))) (Q true) (idx other (w64 ((other.length : Int) - 1)) fun x2 => cnd (!(decide (x2 = to))) (Q true) (Q (decide (y5 ≤ y10))))))
def M_law_WayLeast_k1 (g : Grid) (c : Costs) (from_ : Cell) (to : Cell) (other : (List Cell)) (Q : Bool → Prop) (y1 : (List Cell)) (c1 : Bool) : Prop :=
  cnd c1 (cnd ((y1.length : Int) == 0) (M_route_awake  fun y4 => Q y4) (Q false)) (M_route_CostOf g c y1 fun y5 y6 => M_route_Least g c from_ to fun y7 y8 y9 => cnd (y6 != 0) (M_law_WayLeast_k2 g c from_ to other Q y5 true) (cnd (y9 != 0) (M_law_WayLeast_k2 g c from_ to other Q y5 true) (cnd (!y8) (M_law_WayLeast_k2 g c from_ to other Q y5 true) (cnd (y5 != y7) (M_law_WayLeast_k2 g c from_ to other Q y5 true) (idx y1 0 fun x3 => cnd (!(decide (x3 = from_))) (M_law_WayLeast_k2 g c from_ to other Q y5 true) (idx y1 (w64 ((y1.length : Int) - 1)) fun x4 => cnd (!(decide (x4 = to))) (M_law_WayLeast_k2 g c from_ to other Q y5 true) (M_route_awake  fun y12 => M_law_WayLeast_k2 g c from_ to other Q y5 (!y12))))))))
def M_law_WayLeast (g : Grid) (c : Costs) (from_ : Cell) (to : Cell) (other : (List Cell)) (Q : Bool → Prop) : Prop :=
  M_route_Way g c from_ to fun y1 y2 y3 => cnd (y3 != 0) (M_law_WayLeast_k1 g c from_ to other Q y1 true) (M_law_WayLeast_k1 g c from_ to other Q y1 (!y2))
set_option maxHeartbeats 1000000 in
theorem R_law_WayLeast (g : Grid) (c : Costs) (from_ : Cell) (to : Cell) (other : (List Cell)) (w0 : World) (g_BlockedA : Option Addr) (g_BlockedC : Nat) (hv_g_Blocked : View w0 (old w0 none_) g_BlockedA g_BlockedC g.Blocked) (otherA : Option Addr) (otherC : Nat) (hv_other : View w0 (old w0 none_) otherA otherC other) (Q : Bool → Prop) (h : M_law_WayLeast g c from_ to other Q) :
    Ret Try.prog 7 #[.agg #[iv g.W, iv g.H, iv g.Layers, .slice g_BlockedA g.Blocked.length g_BlockedC], .agg #[iv c.Step, iv c.Via, iv c.Turn, iv c.Against], .agg #[iv from_.X, iv from_.Y, iv from_.Layer], .agg #[iv to.X, iv to.Y, iv to.Layer], .slice otherA other.length otherC] w0 fun v w' => ∃ (r0 : Bool), v = .bool r0 ∧ Q r0 ∧ Sat w0 none_ [] w' := by
  refine fn_enter Try.func7 rfl Try.ntmps7 rfl (fs := [(0, .agg #[iv g.W, iv g.H, iv g.Layers, .slice g_BlockedA g.Blocked.length g_BlockedC]), (1, .agg #[iv c.Step, iv c.Via, iv c.Turn, iv c.Against]), (2, .agg #[iv from_.X, iv from_.Y, iv from_.Layer]), (3, .agg #[iv to.X, iv to.Y, iv to.Layer]), (4, .slice otherA other.length otherC)]) rfl (fun a hf => ?_)
  have hs := Sat.start w0 none_
  unfold M_law_WayLeast at h
  refine wp_seq ?_
  refine R.list ?_
  refine S.box hf hs rfl rfl rfl [iv g.W, iv g.H, iv g.Layers, .slice g_BlockedA g.Blocked.length g_BlockedC] rfl rfl rfl (fun g1 a w hf hs => ?_)
  refine S.box hf hs rfl rfl rfl [iv c.Step, iv c.Via, iv c.Turn, iv c.Against] rfl rfl rfl (fun g2 a w hf hs => ?_)
  refine S.box hf hs rfl rfl rfl [iv from_.X, iv from_.Y, iv from_.Layer] rfl rfl rfl (fun g3 a w hf hs => ?_)
  refine S.box hf hs rfl rfl rfl [iv to.X, iv to.Y, iv to.Layer] rfl rfl rfl (fun g4 a w hf hs => ?_)
  refine S.p hf hs (.bool false) rfl rfl fun a hf => ?_
  refine R.nil ?_
  refine X.then_ ?_
  refine wp_seq ?_
  refine R.list ?_
  refine S.v hf hs (.agg #[iv g.W, iv g.H, iv g.Layers, .slice g_BlockedA g.Blocked.length g_BlockedC]) rfl (V.loadBox 3 rfl rfl rfl Try.isAgg24 Try.sizeOf24 rfl rfl) fun a hf => ?_
  refine S.v hf hs (.agg #[iv c.Step, iv c.Via, iv c.Turn, iv c.Against]) rfl (V.loadBox 2 rfl rfl rfl Try.isAgg26 Try.sizeOf26 rfl rfl) fun a hf => ?_
  refine S.v hf hs (.agg #[iv from_.X, iv from_.Y, iv from_.Layer]) rfl (V.loadBox 1 rfl rfl rfl Try.isAgg28 Try.sizeOf28 rfl rfl) fun a hf => ?_
  refine S.v hf hs (.agg #[iv to.X, iv to.Y, iv to.Layer]) rfl (V.loadBox 0 rfl rfl rfl Try.isAgg28 Try.sizeOf28 rfl rfl) fun a hf => ?_
  refine S.call hf rfl rfl rfl (call_fn (vs := [.agg #[iv g.W, iv g.H, iv g.Layers, .slice g_BlockedA g.Blocked.length g_BlockedC], .agg #[iv c.Step, iv c.Via, iv c.Turn, iv c.Against], .agg #[iv from_.X, iv from_.Y, iv from_.Layer], .agg #[iv to.X, iv to.Y, iv to.Layer]]) rfl rfl rfl Try.call17) (R_route_Way g c from_ to _ g_BlockedA g_BlockedC ((Ag.args _ _ _).view hv_g_Blocked hs) _ h) (fun v a w' hf hr => ?_)
  obtain ⟨y1, y1A, y1C, y2, y3, rfl, h2, hs2⟩ := hr
  replace h := h2; replace hs := hs.call hs2; clear h2 hs2
  refine S.p hf hs (.tuple #[.slice y1A y1.length y1C, .bool y2, iv y3]) rfl rfl fun a hf => ?_
  refine S.p hf hs (.slice y1A y1.length y1C) rfl rfl fun a hf => ?_
  refine S.p hf hs (.bool y2) rfl rfl fun a hf => ?_
  refine S.p hf hs (iv y3) rfl rfl fun a hf => ?_
  refine S.p hf hs (.slice y1A y1.length y1C) rfl rfl fun a hf => ?_
  refine S.p hf hs (.bool y2) rfl rfl fun a hf => ?_
  refine S.p hf hs (iv y3) rfl rfl fun a hf => ?_
  refine R.nil ?_
  refine X.then_ ?_
  refine wp_seq ?_
  refine wp_seq ?_
  refine C.cut (J := fun a w => ∃ (c1 : Bool), M_law_WayLeast_k1 g c from_ to other Q y1 c1 ∧ FrOk 123 [(4, .slice otherA other.length otherC), (5, (pn g1 0)), (6, (pn g2 0)), (7, (pn g3 0)), (8, (pn g4 0)), (11, .slice y1A y1.length y1C), (33, .bool c1)] a ∧ Sat w0 none_ [hown 28 y1A y1C y1, hbox g4 28 [iv to.X, iv to.Y, iv to.Layer], hbox g3 28 [iv from_.X, iv from_.Y, iv from_.Layer], hbox g2 26 [iv c.Step, iv c.Via, iv c.Turn, iv c.Against], hbox g1 24 [iv g.W, iv g.H, iv g.Layers, .slice g_BlockedA g.Blocked.length g_BlockedC]] w) ?_ ?_
  · rintro a w ⟨c1, h, hf, hs⟩
    unfold M_law_WayLeast_k1 at h
    refine C.cond hf (b := c1) rfl (fun hc => ?_) (fun hc => ?_)
    · replace h := h.1 hc
      refine wp_seq ?_
      refine R.list ?_
      refine S.p hf hs (.slice y1A y1.length y1C) rfl rfl fun a hf => ?_
      refine S.v hf hs (iv (y1.length : Int)) rfl (V.len rfl rfl Try.runUnderlying22) fun a hf => ?_
      refine S.p hf hs (.bool ((y1.length : Int) == 0)) rfl rfl fun a hf => ?_
      refine S.split hf hs (b := (y1.length : Int) == 0) rfl rfl rfl (V.pure rfl) (fun hc a hf => ?_) (fun hc a hf => ?_)
      · replace h := h.1 hc
        refine S.call hf rfl rfl rfl (call_fn (vs := []) rfl rfl rfl Try.call13) (R_route_awake  _  _ h) (fun v a w' hf hr => ?_)
        obtain ⟨y4, rfl, h2, hs2⟩ := hr
        replace h := h2; replace hs := hs.call hs2; clear h2 hs2
        refine S.p hf hs (.bool y4) rfl rfl fun a hf => ?_
        refine S.p hf hs (.bool y4) rfl rfl fun a hf => ?_
        refine R.nil ?_
        refine X.then_ ?_
        refine wp_ret ?_
        refine X.then_ret ?_
        exact L.ret hf (run_results1 Try.results7 (ResIs.tmp hf rfl)) ⟨y4, rfl, h, hs.nil⟩
      · replace h := h.2 hc
        refine S.k hf rfl fun a hf => ?_
        refine S.p hf hs (.bool false) rfl rfl fun a hf => ?_
        refine S.p hf hs (.bool false) rfl rfl fun a hf => ?_
        refine R.nil ?_
        refine X.then_ ?_
        refine wp_ret ?_
        refine X.then_ret ?_
        exact L.ret hf (run_results1 Try.results7 (ResIs.tmp hf rfl)) ⟨false, rfl, h, hs.nil⟩
    · replace h := h.2 hc
      refine wp_skip ?_
      refine X.then_ ?_
      refine wp_seq ?_
      refine R.list ?_
      refine S.v hf hs (.agg #[iv g.W, iv g.H, iv g.Layers, .slice g_BlockedA g.Blocked.length g_BlockedC]) rfl (V.loadBox 4 rfl rfl rfl Try.isAgg24 Try.sizeOf24 rfl rfl) fun a hf => ?_
      refine S.v hf hs (.agg #[iv c.Step, iv c.Via, iv c.Turn, iv c.Against]) rfl (V.loadBox 3 rfl rfl rfl Try.isAgg26 Try.sizeOf26 rfl rfl) fun a hf => ?_
      refine S.p hf hs (.slice y1A y1.length y1C) rfl rfl fun a hf => ?_
      refine S.call hf rfl rfl rfl (call_fn (vs := [.agg #[iv g.W, iv g.H, iv g.Layers, .slice g_BlockedA g.Blocked.length g_BlockedC], .agg #[iv c.Step, iv c.Via, iv c.Turn, iv c.Against], .slice y1A y1.length y1C]) rfl rfl rfl Try.call20) (R_route_CostOf g c y1 _ g_BlockedA g_BlockedC ((Ag.args _ _ _).view hv_g_Blocked hs) y1A y1C (hs.ownView 0 rfl) _ h) (fun v a w' hf hr => ?_)
      obtain ⟨y5, y6, rfl, h2, hs2⟩ := hr
      replace h := h2; replace hs := hs.call hs2; clear h2 hs2
      refine S.p hf hs (.tuple #[iv y5, iv y6]) rfl rfl fun a hf => ?_
      refine S.p hf hs (iv y5) rfl rfl fun a hf => ?_
      refine S.p hf hs (iv y6) rfl rfl fun a hf => ?_
      refine S.p hf hs (iv y5) rfl rfl fun a hf => ?_
      refine S.p hf hs (iv y6) rfl rfl fun a hf => ?_
      refine R.nil ?_
      refine X.then_ ?_
      refine wp_seq ?_
      refine R.list ?_
      refine S.v hf hs (.agg #[iv g.W, iv g.H, iv g.Layers, .slice g_BlockedA g.Blocked.length g_BlockedC]) rfl (V.loadBox 4 rfl rfl rfl Try.isAgg24 Try.sizeOf24 rfl rfl) fun a hf => ?_
      refine S.v hf hs (.agg #[iv c.Step, iv c.Via, iv c.Turn, iv c.Against]) rfl (V.loadBox 3 rfl rfl rfl Try.isAgg26 Try.sizeOf26 rfl rfl) fun a hf => ?_
      refine S.v hf hs (.agg #[iv from_.X, iv from_.Y, iv from_.Layer]) rfl (V.loadBox 2 rfl rfl rfl Try.isAgg28 Try.sizeOf28 rfl rfl) fun a hf => ?_
      refine S.v hf hs (.agg #[iv to.X, iv to.Y, iv to.Layer]) rfl (V.loadBox 1 rfl rfl rfl Try.isAgg28 Try.sizeOf28 rfl rfl) fun a hf => ?_
      refine S.call hf rfl rfl rfl (call_fn (vs := [.agg #[iv g.W, iv g.H, iv g.Layers, .slice g_BlockedA g.Blocked.length g_BlockedC], .agg #[iv c.Step, iv c.Via, iv c.Turn, iv c.Against], .agg #[iv from_.X, iv from_.Y, iv from_.Layer], .agg #[iv to.X, iv to.Y, iv to.Layer]]) rfl rfl rfl Try.call12) (R_route_Least g c from_ to _ g_BlockedA g_BlockedC ((Ag.args _ _ _).view hv_g_Blocked hs) _ h) (fun v a w' hf hr => ?_)
      obtain ⟨y7, y8, y9, rfl, h2, hs2⟩ := hr
      replace h := h2; replace hs := hs.call hs2; clear h2 hs2
      refine S.p hf hs (.tuple #[iv y7, .bool y8, iv y9]) rfl rfl fun a hf => ?_
      refine S.p hf hs (iv y7) rfl rfl fun a hf => ?_
      refine S.p hf hs (.bool y8) rfl rfl fun a hf => ?_
      refine S.p hf hs (iv y9) rfl rfl fun a hf => ?_
      refine S.p hf hs (iv y7) rfl rfl fun a hf => ?_
      refine S.p hf hs (.bool y8) rfl rfl fun a hf => ?_
      refine S.p hf hs (iv y9) rfl rfl fun a hf => ?_
      refine R.nil ?_
      refine X.then_ ?_
      refine wp_seq ?_
      refine wp_seq ?_
      refine C.cut (J := fun a w => ∃ (c2 : Bool), M_law_WayLeast_k2 g c from_ to other Q y5 c2 ∧ FrOk 123 [(4, .slice otherA other.length otherC), (5, (pn g1 0)), (6, (pn g2 0)), (7, (pn g3 0)), (8, (pn g4 0)), (14, iv y5), (91, .bool c2)] a ∧ Sat w0 none_ [hown 28 y1A y1C y1, hbox g4 28 [iv to.X, iv to.Y, iv to.Layer], hbox g3 28 [iv from_.X, iv from_.Y, iv from_.Layer], hbox g2 26 [iv c.Step, iv c.Via, iv c.Turn, iv c.Against], hbox g1 24 [iv g.W, iv g.H, iv g.Layers, .slice g_BlockedA g.Blocked.length g_BlockedC]] w) ?_ ?_
      · rintro a w ⟨c2, h, hf, hs⟩
        unfold M_law_WayLeast_k2 at h
        refine C.cond hf (b := c2) rfl (fun hc => ?_) (fun hc => ?_)
        · replace h := h.1 hc
          refine wp_seq ?_
          refine R.list ?_
          refine S.p hf hs (.bool false) rfl rfl fun a hf => ?_
          refine R.nil ?_
          refine X.then_ ?_
          refine wp_ret ?_
          refine X.then_ret ?_
          exact L.ret hf (run_results1 Try.results7 (ResIs.tmp hf rfl)) ⟨false, rfl, h, hs.nil⟩
        · replace h := h.2 hc
          refine wp_skip ?_
          refine X.then_ ?_
          refine wp_seq ?_
          refine R.list ?_
          refine S.v hf hs (.agg #[iv g.W, iv g.H, iv g.Layers, .slice g_BlockedA g.Blocked.length g_BlockedC]) rfl (V.loadBox 4 rfl rfl rfl Try.isAgg24 Try.sizeOf24 rfl rfl) fun a hf => ?_
          refine S.v hf hs (.agg #[iv c.Step, iv c.Via, iv c.Turn, iv c.Against]) rfl (V.loadBox 3 rfl rfl rfl Try.isAgg26 Try.sizeOf26 rfl rfl) fun a hf => ?_
          refine S.p hf hs (.slice otherA other.length otherC) rfl rfl fun a hf => ?_
          refine S.call hf rfl rfl rfl (call_fn (vs := [.agg #[iv g.W, iv g.H, iv g.Layers, .slice g_BlockedA g.Blocked.length g_BlockedC], .agg #[iv c.Step, iv c.Via, iv c.Turn, iv c.Against], .slice otherA other.length otherC]) rfl rfl rfl Try.call20) (R_route_CostOf g c other _ g_BlockedA g_BlockedC ((Ag.args _ _ _).view hv_g_Blocked hs) otherA otherC ((Ag.args _ _ _).view hv_other hs) _ h) (fun v a w' hf hr => ?_)
          obtain ⟨y10, y11, rfl, h2, hs2⟩ := hr
          replace h := h2; replace hs := hs.call hs2; clear h2 hs2
          refine S.p hf hs (.tuple #[iv y10, iv y11]) rfl rfl fun a hf => ?_
          refine S.p hf hs (iv y10) rfl rfl fun a hf => ?_
          refine S.p hf hs (iv y11) rfl rfl fun a hf => ?_
          refine S.p hf hs (iv y10) rfl rfl fun a hf => ?_
          refine S.p hf hs (iv y11) rfl rfl fun a hf => ?_
          refine R.nil ?_
          refine X.then_ ?_
          refine wp_seq ?_
          refine R.draw mo (by kernel_rfl) hs ?_
          refine D.p hf (iv y11) rfl rfl fun a hf => ?_
          refine D.p hf (.bool (y11 != 0)) rfl rfl fun a hf => ?_
          refine D.split hf (b := y11 != 0) rfl rfl rfl (V.pure rfl) (fun hc a hf => ?_) (fun hc a hf => ?_)
          · replace h := h.1 hc
            refine D.k hf rfl fun a hf => ?_
            refine D.k hf rfl fun a hf => ?_
            refine D.k hf rfl fun a hf => ?_
            refine D.k hf rfl fun a hf => ?_
            refine D.k hf rfl fun a hf => ?_
            refine D.p hf (.bool true) rfl rfl fun a hf => ?_
            refine D.p hf (.bool true) rfl rfl fun a hf => ?_
            refine D.k hf rfl fun a hf => ?_
            refine D.k hf rfl fun a hf => ?_
            refine D.k hf rfl fun a hf => ?_
            refine D.k hf rfl fun a hf => ?_
            refine D.k hf rfl fun a hf => ?_
            refine D.k hf rfl fun a hf => ?_
            refine D.k hf rfl fun a hf => ?_
            refine D.k hf rfl fun a hf => ?_
            refine D.p hf (.bool true) rfl rfl fun a hf => ?_
            refine D.p hf (.bool true) rfl rfl fun a hf => ?_
            refine D.k hf rfl fun a hf => ?_
            refine D.k hf rfl fun a hf => ?_
            refine D.k hf rfl fun a hf => ?_
            refine D.p hf (.bool true) rfl rfl fun a hf => ?_
            refine D.p hf (.bool true) rfl rfl fun a hf => ?_
            refine D.done (fun w hs => ?_)
            refine X.then_ ?_
            refine wp_ret ?_
            exact L.ret hf (run_results1 Try.results7 (ResIs.tmp hf rfl)) ⟨true, rfl, h, hs.nil⟩
          · replace h := h.2 hc
            refine D.p hf (.slice otherA other.length otherC) rfl rfl fun a hf => ?_
            obtain ⟨h0x1, x1, hx1, h⟩ := h
            refine D.v hf (elemPtr otherA (0 * 3)) rfl (V.index rfl rfl rfl Try.runUnderlying22 Try.sizeOf28 (hv_other.some_ (lt_of_get hx1)) h0x1 (lt_of_get hx1) rfl) fun a hf => ?_
            refine D.v hf (.agg #[iv x1.X, iv x1.Y, iv x1.Layer]) rfl (V.loadEl (off := 0) (Ag.args _ _ _) (hv_other.flat hx1) rfl rfl rfl Try.isAgg28 Try.sizeOf28 rfl rfl) fun a hf => ?_
            refine D.v hf (.agg #[iv from_.X, iv from_.Y, iv from_.Layer]) rfl (V.loadBox 2 rfl rfl rfl Try.isAgg28 Try.sizeOf28 rfl rfl) fun a hf => ?_
            refine D.v hf (.bool (!(decide (x1 = from_)))) rfl (V.aggneq rfl rfl rfl (by kernel_rfl) (fun w => eqS28 x1 from_ w)) fun a hf => ?_
            refine D.p hf (.bool (!(decide (x1 = from_)))) rfl rfl fun a hf => ?_
            refine D.split hf (b := !(decide (x1 = from_))) rfl rfl rfl (V.pure rfl) (fun hc a hf => ?_) (fun hc a hf => ?_)
            · replace h := h.1 hc
              refine D.k hf rfl fun a hf => ?_
              refine D.k hf rfl fun a hf => ?_
              refine D.k hf rfl fun a hf => ?_
              refine D.k hf rfl fun a hf => ?_
              refine D.k hf rfl fun a hf => ?_
              refine D.k hf rfl fun a hf => ?_
              refine D.k hf rfl fun a hf => ?_
              refine D.k hf rfl fun a hf => ?_
              refine D.p hf (.bool true) rfl rfl fun a hf => ?_
              refine D.p hf (.bool true) rfl rfl fun a hf => ?_
              refine D.k hf rfl fun a hf => ?_
              refine D.k hf rfl fun a hf => ?_
              refine D.k hf rfl fun a hf => ?_
              refine D.p hf (.bool true) rfl rfl fun a hf => ?_
              refine D.p hf (.bool true) rfl rfl fun a hf => ?_
              refine D.done (fun w hs => ?_)
              refine X.then_ ?_
              refine wp_ret ?_
              exact L.ret hf (run_results1 Try.results7 (ResIs.tmp hf rfl)) ⟨true, rfl, h, hs.nil⟩
            · replace h := h.2 hc
              refine D.p hf (.slice otherA other.length otherC) rfl rfl fun a hf => ?_
              refine D.p hf (.slice otherA other.length otherC) rfl rfl fun a hf => ?_
              refine D.v hf (iv (other.length : Int)) rfl (V.len rfl rfl Try.runUnderlying22) fun a hf => ?_
              refine D.p hf (iv (w64 ((other.length : Int) - 1))) rfl rfl fun a hf => ?_
              obtain ⟨h0x2, x2, hx2, h⟩ := h
              refine D.v hf (elemPtr otherA ((w64 ((other.length : Int) - 1)).toNat * 3)) rfl (V.index rfl rfl rfl Try.runUnderlying22 Try.sizeOf28 (hv_other.some_ (lt_of_get hx2)) h0x2 (lt_of_get hx2) rfl) fun a hf => ?_
              refine D.v hf (.agg #[iv x2.X, iv x2.Y, iv x2.Layer]) rfl (V.loadEl (off := 0) (Ag.args _ _ _) (hv_other.flat hx2) rfl rfl rfl Try.isAgg28 Try.sizeOf28 rfl rfl) fun a hf => ?_
              refine D.v hf (.agg #[iv to.X, iv to.Y, iv to.Layer]) rfl (V.loadBox 1 rfl rfl rfl Try.isAgg28 Try.sizeOf28 rfl rfl) fun a hf => ?_
              refine D.v hf (.bool (!(decide (x2 = to)))) rfl (V.aggneq rfl rfl rfl (by kernel_rfl) (fun w => eqS28 x2 to w)) fun a hf => ?_
              refine D.p hf (.bool (!(decide (x2 = to)))) rfl rfl fun a hf => ?_
              refine D.split hf (b := !(decide (x2 = to))) rfl rfl rfl (V.pure rfl) (fun hc a hf => ?_) (fun hc a hf => ?_)
              · replace h := h.1 hc
                refine D.k hf rfl fun a hf => ?_
                refine D.k hf rfl fun a hf => ?_
                refine D.k hf rfl fun a hf => ?_
                refine D.p hf (.bool true) rfl rfl fun a hf => ?_
                refine D.p hf (.bool true) rfl rfl fun a hf => ?_
                refine D.done (fun w hs => ?_)
                refine X.then_ ?_
                refine wp_ret ?_
                exact L.ret hf (run_results1 Try.results7 (ResIs.tmp hf rfl)) ⟨true, rfl, h, hs.nil⟩
              · replace h := h.2 hc
                refine D.p hf (iv y5) rfl rfl fun a hf => ?_
                refine D.p hf (iv y10) rfl rfl fun a hf => ?_
                refine D.p hf (.bool (decide (y5 ≤ y10))) rfl rfl fun a hf => ?_
                refine D.p hf (.bool (decide (y5 ≤ y10))) rfl rfl fun a hf => ?_
                refine D.p hf (.bool (decide (y5 ≤ y10))) rfl rfl fun a hf => ?_
                refine D.done (fun w hs => ?_)
                refine X.then_ ?_
                refine wp_ret ?_
                exact L.ret hf (run_results1 Try.results7 (ResIs.tmp hf rfl)) ⟨(decide (y5 ≤ y10)), rfl, h, hs.nil⟩
      · skip
        refine H.start (S := Sat w0 none_ [hown 28 y1A y1C y1, hbox g4 28 [iv to.X, iv to.Y, iv to.Layer], hbox g3 28 [iv from_.X, iv from_.Y, iv from_.Layer], hbox g2 26 [iv c.Step, iv c.Via, iv c.Turn, iv c.Against], hbox g1 24 [iv g.W, iv g.H, iv g.Layers, .slice g_BlockedA g.Blocked.length g_BlockedC]]) mo ?_
        replace hs := hs.drew
        refine H.v hf hs (iv y6) 0 rfl rfl (by kernel_rfl) (V.pure rfl) fun a hf => ?_
        refine H.v hf hs (.bool (y6 != 0)) 1 rfl rfl (by kernel_rfl) (V.pure rfl) fun a hf => ?_
        refine H.split hf hs (b := y6 != 0) (i := 2) rfl rfl rfl rfl (by kernel_rfl) (by kernel_rfl) (by kernel_rfl) (V.pure rfl) (fun hc a hf => ?_) (fun hc a hf => ?_)
        · replace h := h.1 hc
          refine H.k hf hs 3 rfl rfl (by kernel_rfl) fun a hf => ?_
          refine H.k hf hs 4 rfl rfl (by kernel_rfl) fun a hf => ?_
          refine H.v hf hs (.bool true) 5 rfl rfl (by kernel_rfl) (V.pure rfl) fun a hf => ?_
          refine H.v hf hs (.bool true) 6 rfl rfl (by kernel_rfl) (V.pure rfl) fun a hf => ?_
          refine H.k hf hs 7 rfl rfl (by kernel_rfl) fun a hf => ?_
          refine H.k hf hs 8 rfl rfl (by kernel_rfl) fun a hf => ?_
          refine H.v hf hs (.bool true) 9 rfl rfl (by kernel_rfl) (V.pure rfl) fun a hf => ?_
          refine H.v hf hs (.bool true) 10 rfl rfl (by kernel_rfl) (V.pure rfl) fun a hf => ?_
          refine H.k hf hs 11 rfl rfl (by kernel_rfl) fun a hf => ?_
          refine H.k hf hs 12 rfl rfl (by kernel_rfl) fun a hf => ?_
          refine H.k hf hs 13 rfl rfl (by kernel_rfl) fun a hf => ?_
          refine H.v hf hs (.bool true) 14 rfl rfl (by kernel_rfl) (V.pure rfl) fun a hf => ?_
          refine H.v hf hs (.bool true) 15 rfl rfl (by kernel_rfl) (V.pure rfl) fun a hf => ?_
          refine H.k hf hs 16 rfl rfl (by kernel_rfl) fun a hf => ?_
          refine H.k hf hs 17 rfl rfl (by kernel_rfl) fun a hf => ?_
          refine H.k hf hs 18 rfl rfl (by kernel_rfl) fun a hf => ?_
          refine H.k hf hs 19 rfl rfl (by kernel_rfl) fun a hf => ?_
          refine H.k hf hs 20 rfl rfl (by kernel_rfl) fun a hf => ?_
          refine H.v hf hs (.bool true) 21 rfl rfl (by kernel_rfl) (V.pure rfl) fun a hf => ?_
          refine H.v hf hs (.bool true) 22 rfl rfl (by kernel_rfl) (V.pure rfl) fun a hf => ?_
          refine H.k hf hs 23 rfl rfl (by kernel_rfl) fun a hf => ?_
          refine H.k hf hs 24 rfl rfl (by kernel_rfl) fun a hf => ?_
          refine H.k hf hs 25 rfl rfl (by kernel_rfl) fun a hf => ?_
          refine H.k hf hs 26 rfl rfl (by kernel_rfl) fun a hf => ?_
          refine H.k hf hs 27 rfl rfl (by kernel_rfl) fun a hf => ?_
          refine H.k hf hs 28 rfl rfl (by kernel_rfl) fun a hf => ?_
          refine H.k hf hs 29 rfl rfl (by kernel_rfl) fun a hf => ?_
          refine H.k hf hs 30 rfl rfl (by kernel_rfl) fun a hf => ?_
          refine H.v hf hs (.bool true) 31 rfl rfl (by kernel_rfl) (V.pure rfl) fun a hf => ?_
          refine H.v hf hs (.bool true) 32 rfl rfl (by kernel_rfl) (V.pure rfl) fun a hf => ?_
          refine H.one (i := 33) rfl (by kernel_rfl) ?_
          refine S.k hf rfl fun a hf => ?_
          refine R.nil ?_
          refine X.then_ ?_
          refine ⟨hs, ?_⟩
          refine H.k hf hs 34 rfl rfl (by kernel_rfl) fun a hf => ?_
          refine H.v hf hs (.bool true) 35 rfl rfl (by kernel_rfl) (V.pure rfl) fun a hf => ?_
          refine H.done (by kernel_rfl) ?_
          refine X.then_ ?_
          exact ⟨true, h, (((((((hf.nil.cons (hf.get 91 _ rfl)).cons (hf.get 14 _ rfl)).cons (hf.get 8 _ rfl)).cons (hf.get 7 _ rfl)).cons (hf.get 6 _ rfl)).cons (hf.get 5 _ rfl)).cons (hf.get 4 _ rfl)), hs⟩
        · replace h := h.2 hc
          refine H.v hf hs (iv y9) 3 rfl rfl (by kernel_rfl) (V.pure rfl) fun a hf => ?_
          refine H.v hf hs (.bool (y9 != 0)) 4 rfl rfl (by kernel_rfl) (V.pure rfl) fun a hf => ?_
          refine H.v hf hs (.bool (y9 != 0)) 5 rfl rfl (by kernel_rfl) (V.pure rfl) fun a hf => ?_
          refine H.split hf hs (b := y9 != 0) (i := 6) rfl rfl rfl rfl (by kernel_rfl) (by kernel_rfl) (by kernel_rfl) (V.pure rfl) (fun hc a hf => ?_) (fun hc a hf => ?_)
          · replace h := h.1 hc
            refine H.k hf hs 7 rfl rfl (by kernel_rfl) fun a hf => ?_
            refine H.k hf hs 8 rfl rfl (by kernel_rfl) fun a hf => ?_
            refine H.v hf hs (.bool true) 9 rfl rfl (by kernel_rfl) (V.pure rfl) fun a hf => ?_
            refine H.v hf hs (.bool true) 10 rfl rfl (by kernel_rfl) (V.pure rfl) fun a hf => ?_
            refine H.k hf hs 11 rfl rfl (by kernel_rfl) fun a hf => ?_
            refine H.k hf hs 12 rfl rfl (by kernel_rfl) fun a hf => ?_
            refine H.k hf hs 13 rfl rfl (by kernel_rfl) fun a hf => ?_
            refine H.v hf hs (.bool true) 14 rfl rfl (by kernel_rfl) (V.pure rfl) fun a hf => ?_
            refine H.v hf hs (.bool true) 15 rfl rfl (by kernel_rfl) (V.pure rfl) fun a hf => ?_
            refine H.k hf hs 16 rfl rfl (by kernel_rfl) fun a hf => ?_
            refine H.k hf hs 17 rfl rfl (by kernel_rfl) fun a hf => ?_
            refine H.k hf hs 18 rfl rfl (by kernel_rfl) fun a hf => ?_
            refine H.k hf hs 19 rfl rfl (by kernel_rfl) fun a hf => ?_
            refine H.k hf hs 20 rfl rfl (by kernel_rfl) fun a hf => ?_
            refine H.v hf hs (.bool true) 21 rfl rfl (by kernel_rfl) (V.pure rfl) fun a hf => ?_
            refine H.v hf hs (.bool true) 22 rfl rfl (by kernel_rfl) (V.pure rfl) fun a hf => ?_
            refine H.k hf hs 23 rfl rfl (by kernel_rfl) fun a hf => ?_
            refine H.k hf hs 24 rfl rfl (by kernel_rfl) fun a hf => ?_
            refine H.k hf hs 25 rfl rfl (by kernel_rfl) fun a hf => ?_
            refine H.k hf hs 26 rfl rfl (by kernel_rfl) fun a hf => ?_
            refine H.k hf hs 27 rfl rfl (by kernel_rfl) fun a hf => ?_
            refine H.k hf hs 28 rfl rfl (by kernel_rfl) fun a hf => ?_
            refine H.k hf hs 29 rfl rfl (by kernel_rfl) fun a hf => ?_
            refine H.k hf hs 30 rfl rfl (by kernel_rfl) fun a hf => ?_
            refine H.v hf hs (.bool true) 31 rfl rfl (by kernel_rfl) (V.pure rfl) fun a hf => ?_
            refine H.v hf hs (.bool true) 32 rfl rfl (by kernel_rfl) (V.pure rfl) fun a hf => ?_
            refine H.one (i := 33) rfl (by kernel_rfl) ?_
            refine S.k hf rfl fun a hf => ?_
            refine R.nil ?_
            refine X.then_ ?_
            refine ⟨hs, ?_⟩
            refine H.k hf hs 34 rfl rfl (by kernel_rfl) fun a hf => ?_
            refine H.v hf hs (.bool true) 35 rfl rfl (by kernel_rfl) (V.pure rfl) fun a hf => ?_
            refine H.done (by kernel_rfl) ?_
            refine X.then_ ?_
            exact ⟨true, h, (((((((hf.nil.cons (hf.get 91 _ rfl)).cons (hf.get 14 _ rfl)).cons (hf.get 8 _ rfl)).cons (hf.get 7 _ rfl)).cons (hf.get 6 _ rfl)).cons (hf.get 5 _ rfl)).cons (hf.get 4 _ rfl)), hs⟩
          · replace h := h.2 hc
            refine H.v hf hs (.bool y8) 7 rfl rfl (by kernel_rfl) (V.pure rfl) fun a hf => ?_
            refine H.v hf hs (.bool (!y8)) 8 rfl rfl (by kernel_rfl) (V.pure rfl) fun a hf => ?_
            refine H.v hf hs (.bool (!y8)) 9 rfl rfl (by kernel_rfl) (V.pure rfl) fun a hf => ?_
            refine H.split hf hs (b := !y8) (i := 10) rfl rfl rfl rfl (by kernel_rfl) (by kernel_rfl) (by kernel_rfl) (V.pure rfl) (fun hc a hf => ?_) (fun hc a hf => ?_)
            · replace h := h.1 hc
              refine H.k hf hs 11 rfl rfl (by kernel_rfl) fun a hf => ?_
              refine H.k hf hs 12 rfl rfl (by kernel_rfl) fun a hf => ?_
              refine H.k hf hs 13 rfl rfl (by kernel_rfl) fun a hf => ?_
              refine H.v hf hs (.bool true) 14 rfl rfl (by kernel_rfl) (V.pure rfl) fun a hf => ?_
              refine H.v hf hs (.bool true) 15 rfl rfl (by kernel_rfl) (V.pure rfl) fun a hf => ?_
              refine H.k hf hs 16 rfl rfl (by kernel_rfl) fun a hf => ?_
              refine H.k hf hs 17 rfl rfl (by kernel_rfl) fun a hf => ?_
              refine H.k hf hs 18 rfl rfl (by kernel_rfl) fun a hf => ?_
              refine H.k hf hs 19 rfl rfl (by kernel_rfl) fun a hf => ?_
              refine H.k hf hs 20 rfl rfl (by kernel_rfl) fun a hf => ?_
              refine H.v hf hs (.bool true) 21 rfl rfl (by kernel_rfl) (V.pure rfl) fun a hf => ?_
              refine H.v hf hs (.bool true) 22 rfl rfl (by kernel_rfl) (V.pure rfl) fun a hf => ?_
              refine H.k hf hs 23 rfl rfl (by kernel_rfl) fun a hf => ?_
              refine H.k hf hs 24 rfl rfl (by kernel_rfl) fun a hf => ?_
              refine H.k hf hs 25 rfl rfl (by kernel_rfl) fun a hf => ?_
              refine H.k hf hs 26 rfl rfl (by kernel_rfl) fun a hf => ?_
              refine H.k hf hs 27 rfl rfl (by kernel_rfl) fun a hf => ?_
              refine H.k hf hs 28 rfl rfl (by kernel_rfl) fun a hf => ?_
              refine H.k hf hs 29 rfl rfl (by kernel_rfl) fun a hf => ?_
              refine H.k hf hs 30 rfl rfl (by kernel_rfl) fun a hf => ?_
              refine H.v hf hs (.bool true) 31 rfl rfl (by kernel_rfl) (V.pure rfl) fun a hf => ?_
              refine H.v hf hs (.bool true) 32 rfl rfl (by kernel_rfl) (V.pure rfl) fun a hf => ?_
              refine H.one (i := 33) rfl (by kernel_rfl) ?_
              refine S.k hf rfl fun a hf => ?_
              refine R.nil ?_
              refine X.then_ ?_
              refine ⟨hs, ?_⟩
              refine H.k hf hs 34 rfl rfl (by kernel_rfl) fun a hf => ?_
              refine H.v hf hs (.bool true) 35 rfl rfl (by kernel_rfl) (V.pure rfl) fun a hf => ?_
              refine H.done (by kernel_rfl) ?_
              refine X.then_ ?_
              exact ⟨true, h, (((((((hf.nil.cons (hf.get 91 _ rfl)).cons (hf.get 14 _ rfl)).cons (hf.get 8 _ rfl)).cons (hf.get 7 _ rfl)).cons (hf.get 6 _ rfl)).cons (hf.get 5 _ rfl)).cons (hf.get 4 _ rfl)), hs⟩
            · replace h := h.2 hc
              refine H.v hf hs (iv y5) 11 rfl rfl (by kernel_rfl) (V.pure rfl) fun a hf => ?_
              refine H.v hf hs (iv y7) 12 rfl rfl (by kernel_rfl) (V.pure rfl) fun a hf => ?_
              refine H.v hf hs (.bool (y5 != y7)) 13 rfl rfl (by kernel_rfl) (V.pure rfl) fun a hf => ?_
              refine H.v hf hs (.bool (y5 != y7)) 14 rfl rfl (by kernel_rfl) (V.pure rfl) fun a hf => ?_
              refine H.split hf hs (b := y5 != y7) (i := 15) rfl rfl rfl rfl (by kernel_rfl) (by kernel_rfl) (by kernel_rfl) (V.pure rfl) (fun hc a hf => ?_) (fun hc a hf => ?_)
              · replace h := h.1 hc
                refine H.k hf hs 16 rfl rfl (by kernel_rfl) fun a hf => ?_
                refine H.k hf hs 17 rfl rfl (by kernel_rfl) fun a hf => ?_
                refine H.k hf hs 18 rfl rfl (by kernel_rfl) fun a hf => ?_
                refine H.k hf hs 19 rfl rfl (by kernel_rfl) fun a hf => ?_
                refine H.k hf hs 20 rfl rfl (by kernel_rfl) fun a hf => ?_
                refine H.v hf hs (.bool true) 21 rfl rfl (by kernel_rfl) (V.pure rfl) fun a hf => ?_
                refine H.v hf hs (.bool true) 22 rfl rfl (by kernel_rfl) (V.pure rfl) fun a hf => ?_
                refine H.k hf hs 23 rfl rfl (by kernel_rfl) fun a hf => ?_
                refine H.k hf hs 24 rfl rfl (by kernel_rfl) fun a hf => ?_
                refine H.k hf hs 25 rfl rfl (by kernel_rfl) fun a hf => ?_
                refine H.k hf hs 26 rfl rfl (by kernel_rfl) fun a hf => ?_
                refine H.k hf hs 27 rfl rfl (by kernel_rfl) fun a hf => ?_
                refine H.k hf hs 28 rfl rfl (by kernel_rfl) fun a hf => ?_
                refine H.k hf hs 29 rfl rfl (by kernel_rfl) fun a hf => ?_
                refine H.k hf hs 30 rfl rfl (by kernel_rfl) fun a hf => ?_
                refine H.v hf hs (.bool true) 31 rfl rfl (by kernel_rfl) (V.pure rfl) fun a hf => ?_
                refine H.v hf hs (.bool true) 32 rfl rfl (by kernel_rfl) (V.pure rfl) fun a hf => ?_
                refine H.one (i := 33) rfl (by kernel_rfl) ?_
                refine S.k hf rfl fun a hf => ?_
                refine R.nil ?_
                refine X.then_ ?_
                refine ⟨hs, ?_⟩
                refine H.k hf hs 34 rfl rfl (by kernel_rfl) fun a hf => ?_
                refine H.v hf hs (.bool true) 35 rfl rfl (by kernel_rfl) (V.pure rfl) fun a hf => ?_
                refine H.done (by kernel_rfl) ?_
                refine X.then_ ?_
                exact ⟨true, h, (((((((hf.nil.cons (hf.get 91 _ rfl)).cons (hf.get 14 _ rfl)).cons (hf.get 8 _ rfl)).cons (hf.get 7 _ rfl)).cons (hf.get 6 _ rfl)).cons (hf.get 5 _ rfl)).cons (hf.get 4 _ rfl)), hs⟩
              · replace h := h.2 hc
                refine H.v hf hs (.slice y1A y1.length y1C) 16 rfl rfl (by kernel_rfl) (V.pure rfl) fun a hf => ?_
                obtain ⟨h0x3, x3, hx3, h⟩ := h
                refine H.v hf hs (elemPtr y1A (0 * 3)) 17 rfl rfl (by kernel_rfl) (V.index rfl rfl rfl Try.runUnderlying22 Try.sizeOf28 (hs.ownSome 0 rfl (lt_of_get hx3)) h0x3 (lt_of_get hx3) rfl) fun a hf => ?_
                refine H.v hf hs (.agg #[iv x3.X, iv x3.Y, iv x3.Layer]) 18 rfl rfl (by kernel_rfl) (V.loadOwn (off := 0) 0 rfl hx3 rfl rfl rfl Try.isAgg28 Try.sizeOf28 rfl rfl) fun a hf => ?_
                refine H.v hf hs (.agg #[iv from_.X, iv from_.Y, iv from_.Layer]) 19 rfl rfl (by kernel_rfl) (V.loadBox 2 rfl rfl rfl Try.isAgg28 Try.sizeOf28 rfl rfl) fun a hf => ?_
                refine H.v hf hs (.bool (!(decide (x3 = from_)))) 20 rfl rfl (by kernel_rfl) (V.aggneq rfl rfl rfl (by kernel_rfl) (fun w => eqS28 x3 from_ w)) fun a hf => ?_
                refine H.v hf hs (.bool (!(decide (x3 = from_)))) 21 rfl rfl (by kernel_rfl) (V.pure rfl) fun a hf => ?_
                refine H.split hf hs (b := !(decide (x3 = from_))) (i := 22) rfl rfl rfl rfl (by kernel_rfl) (by kernel_rfl) (by kernel_rfl) (V.pure rfl) (fun hc a hf => ?_) (fun hc a hf => ?_)
                · replace h := h.1 hc
                  refine H.k hf hs 23 rfl rfl (by kernel_rfl) fun a hf => ?_
                  refine H.k hf hs 24 rfl rfl (by kernel_rfl) fun a hf => ?_
                  refine H.k hf hs 25 rfl rfl (by kernel_rfl) fun a hf => ?_
                  refine H.k hf hs 26 rfl rfl (by kernel_rfl) fun a hf => ?_
                  refine H.k hf hs 27 rfl rfl (by kernel_rfl) fun a hf => ?_
                  refine H.k hf hs 28 rfl rfl (by kernel_rfl) fun a hf => ?_
                  refine H.k hf hs 29 rfl rfl (by kernel_rfl) fun a hf => ?_
                  refine H.k hf hs 30 rfl rfl (by kernel_rfl) fun a hf => ?_
                  refine H.v hf hs (.bool true) 31 rfl rfl (by kernel_rfl) (V.pure rfl) fun a hf => ?_
                  refine H.v hf hs (.bool true) 32 rfl rfl (by kernel_rfl) (V.pure rfl) fun a hf => ?_
                  refine H.one (i := 33) rfl (by kernel_rfl) ?_
                  refine S.k hf rfl fun a hf => ?_
                  refine R.nil ?_
                  refine X.then_ ?_
                  refine ⟨hs, ?_⟩
                  refine H.k hf hs 34 rfl rfl (by kernel_rfl) fun a hf => ?_
                  refine H.v hf hs (.bool true) 35 rfl rfl (by kernel_rfl) (V.pure rfl) fun a hf => ?_
                  refine H.done (by kernel_rfl) ?_
                  refine X.then_ ?_
                  exact ⟨true, h, (((((((hf.nil.cons (hf.get 91 _ rfl)).cons (hf.get 14 _ rfl)).cons (hf.get 8 _ rfl)).cons (hf.get 7 _ rfl)).cons (hf.get 6 _ rfl)).cons (hf.get 5 _ rfl)).cons (hf.get 4 _ rfl)), hs⟩
                · replace h := h.2 hc
                  refine H.v hf hs (.slice y1A y1.length y1C) 23 rfl rfl (by kernel_rfl) (V.pure rfl) fun a hf => ?_
                  refine H.v hf hs (.slice y1A y1.length y1C) 24 rfl rfl (by kernel_rfl) (V.pure rfl) fun a hf => ?_
                  refine H.v hf hs (iv (y1.length : Int)) 25 rfl rfl (by kernel_rfl) (V.len rfl rfl Try.runUnderlying22) fun a hf => ?_
                  refine H.v hf hs (iv (w64 ((y1.length : Int) - 1))) 26 rfl rfl (by kernel_rfl) (V.pure rfl) fun a hf => ?_
                  obtain ⟨h0x4, x4, hx4, h⟩ := h
                  refine H.v hf hs (elemPtr y1A ((w64 ((y1.length : Int) - 1)).toNat * 3)) 27 rfl rfl (by kernel_rfl) (V.index rfl rfl rfl Try.runUnderlying22 Try.sizeOf28 (hs.ownSome 0 rfl (lt_of_get hx4)) h0x4 (lt_of_get hx4) rfl) fun a hf => ?_
                  refine H.v hf hs (.agg #[iv x4.X, iv x4.Y, iv x4.Layer]) 28 rfl rfl (by kernel_rfl) (V.loadOwn (off := 0) 0 rfl hx4 rfl rfl rfl Try.isAgg28 Try.sizeOf28 rfl rfl) fun a hf => ?_
                  refine H.v hf hs (.agg #[iv to.X, iv to.Y, iv to.Layer]) 29 rfl rfl (by kernel_rfl) (V.loadBox 1 rfl rfl rfl Try.isAgg28 Try.sizeOf28 rfl rfl) fun a hf => ?_
                  refine H.v hf hs (.bool (!(decide (x4 = to)))) 30 rfl rfl (by kernel_rfl) (V.aggneq rfl rfl rfl (by kernel_rfl) (fun w => eqS28 x4 to w)) fun a hf => ?_
                  refine H.v hf hs (.bool (!(decide (x4 = to)))) 31 rfl rfl (by kernel_rfl) (V.pure rfl) fun a hf => ?_
                  refine H.split hf hs (b := !(decide (x4 = to))) (i := 32) rfl rfl rfl rfl (by kernel_rfl) (by kernel_rfl) (by kernel_rfl) (V.pure rfl) (fun hc a hf => ?_) (fun hc a hf => ?_)
                  · replace h := h.1 hc
                    refine H.one (i := 33) rfl (by kernel_rfl) ?_
                    refine S.k hf rfl fun a hf => ?_
                    refine R.nil ?_
                    refine X.then_ ?_
                    refine ⟨hs, ?_⟩
                    refine H.k hf hs 34 rfl rfl (by kernel_rfl) fun a hf => ?_
                    refine H.v hf hs (.bool true) 35 rfl rfl (by kernel_rfl) (V.pure rfl) fun a hf => ?_
                    refine H.done (by kernel_rfl) ?_
                    refine X.then_ ?_
                    exact ⟨true, h, (((((((hf.nil.cons (hf.get 91 _ rfl)).cons (hf.get 14 _ rfl)).cons (hf.get 8 _ rfl)).cons (hf.get 7 _ rfl)).cons (hf.get 6 _ rfl)).cons (hf.get 5 _ rfl)).cons (hf.get 4 _ rfl)), hs⟩
                  · replace h := h.2 hc
                    refine H.one (i := 33) rfl (by kernel_rfl) ?_
                    refine S.call hf rfl rfl rfl (call_fn (vs := []) rfl rfl rfl Try.call13) (R_route_awake  _  _ h) (fun v a w' hf hr => ?_)
                    obtain ⟨y12, rfl, h2, hs2⟩ := hr
                    replace h := h2; replace hs := hs.call hs2; clear h2 hs2
                    refine R.nil ?_
                    refine X.then_ ?_
                    refine ⟨hs, ?_⟩
                    refine H.v hf hs (.bool (!y12)) 34 rfl rfl (by kernel_rfl) (V.pure rfl) fun a hf => ?_
                    refine H.v hf hs (.bool (!y12)) 35 rfl rfl (by kernel_rfl) (V.pure rfl) fun a hf => ?_
                    refine H.done (by kernel_rfl) ?_
                    refine X.then_ ?_
                    exact ⟨(!y12), h, (((((((hf.nil.cons (hf.get 91 _ rfl)).cons (hf.get 14 _ rfl)).cons (hf.get 8 _ rfl)).cons (hf.get 7 _ rfl)).cons (hf.get 6 _ rfl)).cons (hf.get 5 _ rfl)).cons (hf.get 4 _ rfl)), hs⟩
  · skip
    refine R.list ?_
    refine S.p hf hs (iv y3) rfl rfl fun a hf => ?_
    refine S.p hf hs (.bool (y3 != 0)) rfl rfl fun a hf => ?_
    refine S.split hf hs (b := y3 != 0) rfl rfl rfl (V.pure rfl) (fun hc a hf => ?_) (fun hc a hf => ?_)
    · replace h := h.1 hc
      refine S.k hf rfl fun a hf => ?_
      refine S.k hf rfl fun a hf => ?_
      refine S.p hf hs (.bool true) rfl rfl fun a hf => ?_
      refine R.nil ?_
      refine X.then_ ?_
      exact ⟨true, h, (((((((hf.nil.cons (hf.get 33 _ rfl)).cons (hf.get 11 _ rfl)).cons (hf.get 8 _ rfl)).cons (hf.get 7 _ rfl)).cons (hf.get 6 _ rfl)).cons (hf.get 5 _ rfl)).cons (hf.get 4 _ rfl)), hs⟩
    · replace h := h.2 hc
      refine S.p hf hs (.bool y2) rfl rfl fun a hf => ?_
      refine S.p hf hs (.bool (!y2)) rfl rfl fun a hf => ?_
      refine S.p hf hs (.bool (!y2)) rfl rfl fun a hf => ?_
      refine R.nil ?_
      refine X.then_ ?_
      exact ⟨(!y2), h, (((((((hf.nil.cons (hf.get 33 _ rfl)).cons (hf.get 11 _ rfl)).cons (hf.get 8 _ rfl)).cons (hf.get 7 _ rfl)).cons (hf.get 6 _ rfl)).cons (hf.get 5 _ rfl)).cons (hf.get 4 _ rfl)), hs⟩

end Go.Proofs.Ytihjaehkdgdenaa
