/- Chapter 7: the law that the least tree is the least: the walk. -/
import Derived.Test.YtihjaehkdgdenaaRtY
import Derived.Test.YtihjaehkdgdenaaRtX
import Derived.Test.YtihjaehkdgdenaaRtG2
namespace Go.Proofs.Ytihjaehkdgdenaa
open Go Go.RowKit
set_option linter.unusedVariables false

set_option linter.unusedVariables false
def M_law_LeastTreeIsLeast_L1 (g : Grid) (c : Costs) (Q : Bool → Prop) (k2 : Nat) (xk2 : (List Cell)) (n2 : Int) (next1 : Int → Prop) : Prop :=
  M_route_CostOf g (⟨c.Step, c.Via, 0, 0⟩ : Costs) xk2 fun y12 y13 => cnd (y13 != 0) (Q false) (next1 (w64 (n2 + y12)))
def M_law_LeastTreeIsLeast_k1 (g : Grid) (c : Costs) (pins : (List Cell)) (Q : Bool → Prop) (y1 : Int) (y2 : Bool) (y3 : Int) (y4 : (List (List Cell))) (y5 : Bool) (c1 : Bool) : Prop :=
  cnd c1 (cnd (y3 == 0) (M_route_awake  fun y7 => Q y7) (cnd (y1 == 0) (M_route_awake  fun y8 => Q y8) (Q false))) (forIn' (fun k x (s : Int) next => M_law_LeastTreeIsLeast_L1 g c Q k x s (fun n2 => next n2)) (fun (s : Int) => (fun (n2 : Int) => cnd (y2 == y5) (cnd (!y2) (M_route_awake  fun y9 => Q y9) (cnd (decide (y1 ≤ n2)) (cnd (decide ((pins.length : Int) > 2)) (M_route_awake  fun y10 => Q y10) (cnd (y1 == n2) (M_route_awake  fun y11 => Q y11) (Q false))) (Q false))) (Q false)) s) y4 0 0)
def M_law_LeastTreeIsLeast (g : Grid) (c : Costs) (pins : (List Cell)) (Q : Bool → Prop) : Prop :=
  M_route_LeastTree g (⟨c.Step, c.Via, 0, 0⟩ : Costs) pins fun y1 y2 y3 => M_route_Tree g (⟨c.Step, c.Via, 0, 0⟩ : Costs) pins fun y4 y5 y6 => cnd (y3 != 0) (M_law_LeastTreeIsLeast_k1 g c pins Q y1 y2 y3 y4 y5 true) (M_law_LeastTreeIsLeast_k1 g c pins Q y1 y2 y3 y4 y5 (y6 != 0))
set_option maxHeartbeats 1000000 in
theorem R_law_LeastTreeIsLeast (g : Grid) (c : Costs) (pins : (List Cell)) (w0 : World) (g_BlockedA : Option Addr) (g_BlockedC : Nat) (hv_g_Blocked : View w0 (old w0 none_) g_BlockedA g_BlockedC g.Blocked) (pinsA : Option Addr) (pinsC : Nat) (hv_pins : View w0 (old w0 none_) pinsA pinsC pins) (Q : Bool → Prop) (h : M_law_LeastTreeIsLeast g c pins Q) :
    Ret Try.prog 11 #[.agg #[iv g.W, iv g.H, iv g.Layers, .slice g_BlockedA g.Blocked.length g_BlockedC], .agg #[iv c.Step, iv c.Via, iv c.Turn, iv c.Against], .slice pinsA pins.length pinsC] w0 fun v w' => ∃ (r0 : Bool), v = .bool r0 ∧ Q r0 ∧ Sat w0 none_ [] w' := by
  refine fn_enter Try.func11 rfl Try.ntmps11 rfl (fs := [(0, .agg #[iv g.W, iv g.H, iv g.Layers, .slice g_BlockedA g.Blocked.length g_BlockedC]), (1, .agg #[iv c.Step, iv c.Via, iv c.Turn, iv c.Against]), (2, .slice pinsA pins.length pinsC)]) rfl (fun a hf => ?_)
  have hs := Sat.start w0 none_
  unfold M_law_LeastTreeIsLeast at h
  refine wp_seq ?_
  refine R.list ?_
  refine S.box hf hs rfl rfl rfl [iv g.W, iv g.H, iv g.Layers, .slice g_BlockedA g.Blocked.length g_BlockedC] rfl rfl rfl (fun g1 a w hf hs => ?_)
  refine S.box hf hs rfl rfl rfl [iv c.Step, iv c.Via, iv c.Turn, iv c.Against] rfl rfl rfl (fun g2 a w hf hs => ?_)
  refine S.p hf hs (.bool false) rfl rfl fun a hf => ?_
  refine R.nil ?_
  refine X.then_ ?_
  refine wp_seq ?_
  refine R.list ?_
  refine S.v hf hs ((pn g2 2)) rfl (V.fieldBox rfl rfl Try.runUnderlying26 rfl Try.sizeOf3 rfl rfl) fun a hf => ?_
  refine S.storeBox 0 hf hs rfl rfl [iv 0] [iv c.Step, iv c.Via, iv 0, iv c.Against] rfl rfl rfl rfl rfl Try.sizeOf3 rfl rfl rfl rfl (fun a w hf hs => ?_)
  refine S.v hf hs ((pn g2 3)) rfl (V.fieldBox rfl rfl Try.runUnderlying26 rfl Try.sizeOf3 rfl rfl) fun a hf => ?_
  refine S.storeBox 0 hf hs rfl rfl [iv 0] [iv c.Step, iv c.Via, iv 0, iv 0] rfl rfl rfl rfl rfl Try.sizeOf3 rfl rfl rfl rfl (fun a w hf hs => ?_)
  refine R.nil ?_
  refine X.then_ ?_
  refine wp_seq ?_
  refine R.list ?_
  refine S.v hf hs (.agg #[iv g.W, iv g.H, iv g.Layers, .slice g_BlockedA g.Blocked.length g_BlockedC]) rfl (V.loadBox 1 rfl rfl rfl Try.isAgg24 Try.sizeOf24 rfl rfl) fun a hf => ?_
  refine S.v hf hs (.agg #[iv c.Step, iv c.Via, iv 0, iv 0]) rfl (V.loadBox 0 rfl rfl rfl Try.isAgg26 Try.sizeOf26 rfl rfl) fun a hf => ?_
  refine S.p hf hs (.slice pinsA pins.length pinsC) rfl rfl fun a hf => ?_
  refine S.call hf rfl rfl rfl (call_fn (vs := [.agg #[iv g.W, iv g.H, iv g.Layers, .slice g_BlockedA g.Blocked.length g_BlockedC], .agg #[iv c.Step, iv c.Via, iv 0, iv 0], .slice pinsA pins.length pinsC]) rfl rfl rfl Try.call28) (R_route_LeastTree g (⟨c.Step, c.Via, 0, 0⟩ : Costs) pins _ g_BlockedA g_BlockedC ((Ag.args _ _ _).view hv_g_Blocked hs) pinsA pinsC ((Ag.args _ _ _).view hv_pins hs) _ h) (fun v a w' hf hr => ?_)
  obtain ⟨y1, y2, y3, rfl, h2, hs2⟩ := hr
  replace h := h2; replace hs := hs.call hs2; clear h2 hs2
  refine S.p hf hs (.tuple #[iv y1, .bool y2, iv y3]) rfl rfl fun a hf => ?_
  refine S.p hf hs (iv y1) rfl rfl fun a hf => ?_
  refine S.p hf hs (.bool y2) rfl rfl fun a hf => ?_
  refine S.p hf hs (iv y3) rfl rfl fun a hf => ?_
  refine S.p hf hs (iv y1) rfl rfl fun a hf => ?_
  refine S.p hf hs (.bool y2) rfl rfl fun a hf => ?_
  refine S.p hf hs (iv y3) rfl rfl fun a hf => ?_
  refine R.nil ?_
  refine X.then_ ?_
  refine wp_seq ?_
  refine R.list ?_
  refine S.v hf hs (.agg #[iv g.W, iv g.H, iv g.Layers, .slice g_BlockedA g.Blocked.length g_BlockedC]) rfl (V.loadBox 1 rfl rfl rfl Try.isAgg24 Try.sizeOf24 rfl rfl) fun a hf => ?_
  refine S.v hf hs (.agg #[iv c.Step, iv c.Via, iv 0, iv 0]) rfl (V.loadBox 0 rfl rfl rfl Try.isAgg26 Try.sizeOf26 rfl rfl) fun a hf => ?_
  refine S.p hf hs (.slice pinsA pins.length pinsC) rfl rfl fun a hf => ?_
  refine S.call hf rfl rfl rfl (call_fn (vs := [.agg #[iv g.W, iv g.H, iv g.Layers, .slice g_BlockedA g.Blocked.length g_BlockedC], .agg #[iv c.Step, iv c.Via, iv 0, iv 0], .slice pinsA pins.length pinsC]) rfl rfl rfl Try.call30) (R_route_Tree g (⟨c.Step, c.Via, 0, 0⟩ : Costs) pins _ g_BlockedA g_BlockedC ((Ag.args _ _ _).view hv_g_Blocked hs) pinsA pinsC ((Ag.args _ _ _).view hv_pins hs) _ h) (fun v a w' hf hr => ?_)
  obtain ⟨y4, y4A, y4C, y4as, y5, y6, rfl, h2, hs2⟩ := hr
  replace h := h2; replace hs := hs.call hs2; clear h2 hs2
  refine S.p hf hs (.tuple #[.slice y4A y4.length y4C, .bool y5, iv y6]) rfl rfl fun a hf => ?_
  refine S.p hf hs (.slice y4A y4.length y4C) rfl rfl fun a hf => ?_
  refine S.p hf hs (.bool y5) rfl rfl fun a hf => ?_
  refine S.p hf hs (iv y6) rfl rfl fun a hf => ?_
  refine S.p hf hs (.slice y4A y4.length y4C) rfl rfl fun a hf => ?_
  refine S.p hf hs (.bool y5) rfl rfl fun a hf => ?_
  refine S.p hf hs (iv y6) rfl rfl fun a hf => ?_
  refine R.nil ?_
  refine X.then_ ?_
  refine wp_seq ?_
  refine wp_seq ?_
  refine C.cut (J := fun a w => ∃ (c1 : Bool), M_law_LeastTreeIsLeast_k1 g c pins Q y1 y2 y3 y4 y5 c1 ∧ FrOk 95 [(2, .slice pinsA pins.length pinsC), (3, (pn g1 0)), (4, (pn g2 0)), (7, iv y1), (8, .bool y2), (9, iv y3), (10, .slice y4A y4.length y4C), (11, .bool y5), (41, .bool c1)] a ∧ Sat w0 none_ [hrows 22 28 y4A y4C y4as y4, hbox g2 26 [iv c.Step, iv c.Via, iv 0, iv 0], hbox g1 24 [iv g.W, iv g.H, iv g.Layers, .slice g_BlockedA g.Blocked.length g_BlockedC]] w) ?_ ?_
  · rintro a w ⟨c1, h, hf, hs⟩
    unfold M_law_LeastTreeIsLeast_k1 at h
    refine C.cond hf (b := c1) rfl (fun hc => ?_) (fun hc => ?_)
    · replace h := h.1 hc
      refine wp_seq ?_
      refine R.list ?_
      refine S.p hf hs (iv y3) rfl rfl fun a hf => ?_
      refine S.p hf hs (.bool (y3 == 0)) rfl rfl fun a hf => ?_
      refine S.split hf hs (b := y3 == 0) rfl rfl rfl (V.pure rfl) (fun hc a hf => ?_) (fun hc a hf => ?_)
      · replace h := h.1 hc
        refine S.k hf rfl fun a hf => ?_
        refine S.k hf rfl fun a hf => ?_
        refine S.p hf hs (.bool true) rfl rfl fun a hf => ?_
        refine S.p hf hs (.bool true) rfl rfl fun a hf => ?_
        refine S.call hf rfl rfl rfl (call_fn (vs := []) rfl rfl rfl Try.call13) (R_route_awake  _  _ h) (fun v a w' hf hr => ?_)
        obtain ⟨y7, rfl, h2, hs2⟩ := hr
        replace h := h2; replace hs := hs.call hs2; clear h2 hs2
        refine S.p hf hs (.bool y7) rfl rfl fun a hf => ?_
        refine S.p hf hs (.bool y7) rfl rfl fun a hf => ?_
        refine R.nil ?_
        refine X.then_ ?_
        refine wp_ret ?_
        refine X.then_ret ?_
        exact L.ret hf (run_results1 Try.results11 (ResIs.tmp hf rfl)) ⟨y7, rfl, h, hs.nil⟩
      · replace h := h.2 hc
        refine S.p hf hs (iv y1) rfl rfl fun a hf => ?_
        refine S.p hf hs (.bool (y1 == 0)) rfl rfl fun a hf => ?_
        refine S.p hf hs (.bool (y1 == 0)) rfl rfl fun a hf => ?_
        refine S.split hf hs (b := y1 == 0) rfl rfl rfl (V.pure rfl) (fun hc a hf => ?_) (fun hc a hf => ?_)
        · replace h := h.1 hc
          refine S.call hf rfl rfl rfl (call_fn (vs := []) rfl rfl rfl Try.call13) (R_route_awake  _  _ h) (fun v a w' hf hr => ?_)
          obtain ⟨y8, rfl, h2, hs2⟩ := hr
          replace h := h2; replace hs := hs.call hs2; clear h2 hs2
          refine S.p hf hs (.bool y8) rfl rfl fun a hf => ?_
          refine S.p hf hs (.bool y8) rfl rfl fun a hf => ?_
          refine R.nil ?_
          refine X.then_ ?_
          refine wp_ret ?_
          refine X.then_ret ?_
          exact L.ret hf (run_results1 Try.results11 (ResIs.tmp hf rfl)) ⟨y8, rfl, h, hs.nil⟩
        · replace h := h.2 hc
          refine S.k hf rfl fun a hf => ?_
          refine S.p hf hs (.bool false) rfl rfl fun a hf => ?_
          refine S.p hf hs (.bool false) rfl rfl fun a hf => ?_
          refine R.nil ?_
          refine X.then_ ?_
          refine wp_ret ?_
          refine X.then_ret ?_
          exact L.ret hf (run_results1 Try.results11 (ResIs.tmp hf rfl)) ⟨false, rfl, h, hs.nil⟩
    · replace h := h.2 hc
      refine wp_skip ?_
      refine X.then_ ?_
      refine wp_seq ?_
      refine R.list ?_
      refine S.p hf hs (iv 0) rfl rfl fun a hf => ?_
      refine R.nil ?_
      refine X.then_ ?_
      refine wp_seq ?_
      refine wp_seq ?_
      refine R.list ?_
      refine S.p hf hs (.slice y4A y4.length y4C) rfl rfl fun a hf => ?_
      refine S.v hf hs (iv (y4.length : Int)) rfl (V.len rfl rfl Try.runUnderlying47) fun a hf => ?_
      refine S.p hf hs (iv 0) rfl rfl fun a hf => ?_
      refine R.nil ?_
      refine X.then_ ?_
      refine wp_block ?_
      have hlenk2 := (hs.rowsView 0 rfl).len64
      refine C.range (fun (ll : List (List Cell)) a w => ∃ (k2 : Nat) (n2 : Int), y4.drop k2 = ll ∧ k2 + ll.length = y4.length ∧ forIn' (fun k x (s : Int) next => M_law_LeastTreeIsLeast_L1 g c Q k x s (fun n2 => next n2)) (fun (s : Int) => (fun (n2 : Int) => cnd (y2 == y5) (cnd (!y2) (M_route_awake  fun y9 => Q y9) (cnd (decide (y1 ≤ n2)) (cnd (decide ((pins.length : Int) > 2)) (M_route_awake  fun y10 => Q y10) (cnd (y1 == n2) (M_route_awake  fun y11 => Q y11) (Q false))) (Q false))) (Q false)) s) ll k2 n2 ∧ FrOk 95 [(53, iv (k2 : Int)), (2, .slice pinsA pins.length pinsC), (3, (pn g1 0)), (4, (pn g2 0)), (7, iv y1), (8, .bool y2), (11, .bool y5), (13, iv n2), (51, .slice y4A y4.length y4C), (52, iv (y4.length : Int))] a ∧ Sat w0 none_ [hrows 22 28 y4A y4C y4as y4, hbox g2 26 [iv c.Step, iv c.Via, iv 0, iv 0], hbox g1 24 [iv g.W, iv g.H, iv g.Layers, .slice g_BlockedA g.Blocked.length g_BlockedC]] w) y4 ⟨0, 0, rfl, Nat.zero_add _, h, ((((((((((hf.nil.cons (hf.get 52 _ rfl)).cons (hf.get 51 _ rfl)).cons (hf.get 13 _ rfl)).cons (hf.get 11 _ rfl)).cons (hf.get 8 _ rfl)).cons (hf.get 7 _ rfl)).cons (hf.get 4 _ rfl)).cons (hf.get 3 _ rfl)).cons (hf.get 2 _ rfl)).cons (hf.get 53 _ rfl)), hs⟩ ?_
      clear h hf hs
      rintro llk2 a w ⟨k2, n2, hlk2, hkk2, h, hf, hs⟩
      cases llk2 with
      | nil =>
        have hc := range_done hkk2
        replace h : (fun (n2 : Int) => cnd (y2 == y5) (cnd (!y2) (M_route_awake  fun y9 => Q y9) (cnd (decide (y1 ≤ n2)) (cnd (decide ((pins.length : Int) > 2)) (M_route_awake  fun y10 => Q y10) (cnd (y1 == n2) (M_route_awake  fun y11 => Q y11) (Q false))) (Q false))) (Q false)) n2 := h
        refine wp_seq ?_
        refine R.list ?_
        refine S.v hf hs (.bool false) rfl (V.cmp false rfl rfl rfl rfl hc) fun a hf => ?_
        refine R.nil ?_
        refine X.then_ ?_
        refine wp_seq ?_
        refine C.no hf rfl ?_
        refine wp_exit ?_
        refine X.then_exit ?_
        refine X.then_exit ?_
        refine X.blk_exit ?_
        refine X.then_ ?_
        refine wp_seq ?_
        refine R.list ?_
        refine S.p hf hs (.bool y2) rfl rfl fun a hf => ?_
        refine S.p hf hs (.bool y5) rfl rfl fun a hf => ?_
        refine S.v hf hs (.bool (y2 == y5)) rfl (V.boolEq rfl rfl rfl Try.underlying4 rfl) fun a hf => ?_
        refine S.split hf hs (b := y2 == y5) rfl rfl rfl (V.pure rfl) (fun hc a hf => ?_) (fun hc a hf => ?_)
        · replace h := h.1 hc
          refine S.p hf hs (.bool y2) rfl rfl fun a hf => ?_
          refine S.p hf hs (.bool (!y2)) rfl rfl fun a hf => ?_
          refine S.split hf hs (b := !y2) rfl rfl rfl (V.pure rfl) (fun hc a hf => ?_) (fun hc a hf => ?_)
          · replace h := h.1 hc
            refine S.k hf rfl fun a hf => ?_
            refine S.k hf rfl fun a hf => ?_
            refine S.k hf rfl fun a hf => ?_
            refine S.k hf rfl fun a hf => ?_
            refine S.k hf rfl fun a hf => ?_
            refine S.k hf rfl fun a hf => ?_
            refine S.k hf rfl fun a hf => ?_
            refine S.k hf rfl fun a hf => ?_
            refine S.k hf rfl fun a hf => ?_
            refine S.k hf rfl fun a hf => ?_
            refine S.k hf rfl fun a hf => ?_
            refine S.k hf rfl fun a hf => ?_
            refine S.k hf rfl fun a hf => ?_
            refine S.p hf hs (.bool true) rfl rfl fun a hf => ?_
            refine S.p hf hs (.bool true) rfl rfl fun a hf => ?_
            refine S.p hf hs (.bool true) rfl rfl fun a hf => ?_
            refine S.call hf rfl rfl rfl (call_fn (vs := []) rfl rfl rfl Try.call13) (R_route_awake  _  _ h) (fun v a w' hf hr => ?_)
            obtain ⟨y9, rfl, h2, hs2⟩ := hr
            replace h := h2; replace hs := hs.call hs2; clear h2 hs2
            refine S.p hf hs (.bool y9) rfl rfl fun a hf => ?_
            refine S.p hf hs (.bool y9) rfl rfl fun a hf => ?_
            refine R.nil ?_
            refine X.then_ ?_
            refine wp_ret ?_
            exact L.ret hf (run_results1 Try.results11 (ResIs.tmp hf rfl)) ⟨y9, rfl, h, hs.nil⟩
          · replace h := h.2 hc
            refine S.p hf hs (iv y1) rfl rfl fun a hf => ?_
            refine S.p hf hs (iv n2) rfl rfl fun a hf => ?_
            refine S.p hf hs (.bool (decide (y1 ≤ n2))) rfl rfl fun a hf => ?_
            refine S.split hf hs (b := decide (y1 ≤ n2)) rfl rfl rfl (V.pure rfl) (fun hc a hf => ?_) (fun hc a hf => ?_)
            · replace h := h.1 hc
              refine S.p hf hs (.slice pinsA pins.length pinsC) rfl rfl fun a hf => ?_
              refine S.v hf hs (iv (pins.length : Int)) rfl (V.len rfl rfl Try.runUnderlying22) fun a hf => ?_
              refine S.p hf hs (.bool (decide ((pins.length : Int) > 2))) rfl rfl fun a hf => ?_
              refine S.split hf hs (b := decide ((pins.length : Int) > 2)) rfl rfl rfl (V.pure rfl) (fun hc a hf => ?_) (fun hc a hf => ?_)
              · replace h := h.1 hc
                refine S.k hf rfl fun a hf => ?_
                refine S.k hf rfl fun a hf => ?_
                refine S.k hf rfl fun a hf => ?_
                refine S.p hf hs (.bool true) rfl rfl fun a hf => ?_
                refine S.p hf hs (.bool true) rfl rfl fun a hf => ?_
                refine S.p hf hs (.bool true) rfl rfl fun a hf => ?_
                refine S.p hf hs (.bool true) rfl rfl fun a hf => ?_
                refine S.p hf hs (.bool true) rfl rfl fun a hf => ?_
                refine S.call hf rfl rfl rfl (call_fn (vs := []) rfl rfl rfl Try.call13) (R_route_awake  _  _ h) (fun v a w' hf hr => ?_)
                obtain ⟨y10, rfl, h2, hs2⟩ := hr
                replace h := h2; replace hs := hs.call hs2; clear h2 hs2
                refine S.p hf hs (.bool y10) rfl rfl fun a hf => ?_
                refine S.p hf hs (.bool y10) rfl rfl fun a hf => ?_
                refine R.nil ?_
                refine X.then_ ?_
                refine wp_ret ?_
                exact L.ret hf (run_results1 Try.results11 (ResIs.tmp hf rfl)) ⟨y10, rfl, h, hs.nil⟩
              · replace h := h.2 hc
                refine S.p hf hs (iv y1) rfl rfl fun a hf => ?_
                refine S.p hf hs (iv n2) rfl rfl fun a hf => ?_
                refine S.p hf hs (.bool (y1 == n2)) rfl rfl fun a hf => ?_
                refine S.p hf hs (.bool (y1 == n2)) rfl rfl fun a hf => ?_
                refine S.p hf hs (.bool (y1 == n2)) rfl rfl fun a hf => ?_
                refine S.p hf hs (.bool (y1 == n2)) rfl rfl fun a hf => ?_
                refine S.p hf hs (.bool (y1 == n2)) rfl rfl fun a hf => ?_
                refine S.split hf hs (b := y1 == n2) rfl rfl rfl (V.pure rfl) (fun hc a hf => ?_) (fun hc a hf => ?_)
                · replace h := h.1 hc
                  refine S.call hf rfl rfl rfl (call_fn (vs := []) rfl rfl rfl Try.call13) (R_route_awake  _  _ h) (fun v a w' hf hr => ?_)
                  obtain ⟨y11, rfl, h2, hs2⟩ := hr
                  replace h := h2; replace hs := hs.call hs2; clear h2 hs2
                  refine S.p hf hs (.bool y11) rfl rfl fun a hf => ?_
                  refine S.p hf hs (.bool y11) rfl rfl fun a hf => ?_
                  refine R.nil ?_
                  refine X.then_ ?_
                  refine wp_ret ?_
                  exact L.ret hf (run_results1 Try.results11 (ResIs.tmp hf rfl)) ⟨y11, rfl, h, hs.nil⟩
                · replace h := h.2 hc
                  refine S.k hf rfl fun a hf => ?_
                  refine S.p hf hs (.bool false) rfl rfl fun a hf => ?_
                  refine S.p hf hs (.bool false) rfl rfl fun a hf => ?_
                  refine R.nil ?_
                  refine X.then_ ?_
                  refine wp_ret ?_
                  exact L.ret hf (run_results1 Try.results11 (ResIs.tmp hf rfl)) ⟨false, rfl, h, hs.nil⟩
            · replace h := h.2 hc
              refine S.k hf rfl fun a hf => ?_
              refine S.k hf rfl fun a hf => ?_
              refine S.k hf rfl fun a hf => ?_
              refine S.k hf rfl fun a hf => ?_
              refine S.k hf rfl fun a hf => ?_
              refine S.k hf rfl fun a hf => ?_
              refine S.k hf rfl fun a hf => ?_
              refine S.k hf rfl fun a hf => ?_
              refine S.p hf hs (.bool false) rfl rfl fun a hf => ?_
              refine S.p hf hs (.bool false) rfl rfl fun a hf => ?_
              refine S.p hf hs (.bool false) rfl rfl fun a hf => ?_
              refine S.p hf hs (.bool false) rfl rfl fun a hf => ?_
              refine S.k hf rfl fun a hf => ?_
              refine S.p hf hs (.bool false) rfl rfl fun a hf => ?_
              refine S.p hf hs (.bool false) rfl rfl fun a hf => ?_
              refine R.nil ?_
              refine X.then_ ?_
              refine wp_ret ?_
              exact L.ret hf (run_results1 Try.results11 (ResIs.tmp hf rfl)) ⟨false, rfl, h, hs.nil⟩
        · replace h := h.2 hc
          refine S.k hf rfl fun a hf => ?_
          refine S.k hf rfl fun a hf => ?_
          refine S.k hf rfl fun a hf => ?_
          refine S.k hf rfl fun a hf => ?_
          refine S.k hf rfl fun a hf => ?_
          refine S.k hf rfl fun a hf => ?_
          refine S.k hf rfl fun a hf => ?_
          refine S.k hf rfl fun a hf => ?_
          refine S.k hf rfl fun a hf => ?_
          refine S.k hf rfl fun a hf => ?_
          refine S.k hf rfl fun a hf => ?_
          refine S.k hf rfl fun a hf => ?_
          refine S.k hf rfl fun a hf => ?_
          refine S.k hf rfl fun a hf => ?_
          refine S.k hf rfl fun a hf => ?_
          refine S.k hf rfl fun a hf => ?_
          refine S.k hf rfl fun a hf => ?_
          refine S.p hf hs (.bool false) rfl rfl fun a hf => ?_
          refine S.p hf hs (.bool false) rfl rfl fun a hf => ?_
          refine S.k hf rfl fun a hf => ?_
          refine S.p hf hs (.bool false) rfl rfl fun a hf => ?_
          refine S.p hf hs (.bool false) rfl rfl fun a hf => ?_
          refine R.nil ?_
          refine X.then_ ?_
          refine wp_ret ?_
          exact L.ret hf (run_results1 Try.results11 (ResIs.tmp hf rfl)) ⟨false, rfl, h, hs.nil⟩
      | cons xk2 llk2 =>
        have hltk2 := range_lt hkk2; have hc := range_go hkk2; have hxk2 := range_get hlk2
        obtain ⟨next1, hnext1⟩ : ∃ X : Int → Prop, X = (fun n2 => forIn' (fun k x (s : Int) next => M_law_LeastTreeIsLeast_L1 g c Q k x s (fun n2 => next n2)) (fun (s : Int) => (fun (n2 : Int) => cnd (y2 == y5) (cnd (!y2) (M_route_awake  fun y9 => Q y9) (cnd (decide (y1 ≤ n2)) (cnd (decide ((pins.length : Int) > 2)) (M_route_awake  fun y10 => Q y10) (cnd (y1 == n2) (M_route_awake  fun y11 => Q y11) (Q false))) (Q false))) (Q false)) s) llk2 (k2 + 1) n2) := ⟨_, rfl⟩
        replace h : M_law_LeastTreeIsLeast_L1 g c Q k2 xk2 n2 next1 := by rw [hnext1]; exact h
        unfold M_law_LeastTreeIsLeast_L1 at h
        refine wp_seq ?_
        refine R.list ?_
        refine S.v hf hs (.bool true) rfl (V.cmp true rfl rfl rfl rfl hc) fun a hf => ?_
        refine R.nil ?_
        refine X.then_ ?_
        refine wp_seq ?_
        refine C.yes hf rfl ?_
        refine wp_skip ?_
        refine X.then_ ?_
        refine wp_seq ?_
        refine wp_block ?_
        refine wp_seq ?_
        refine R.list ?_
        refine S.v hf hs (elemPtr y4A (k2 * 1)) rfl (V.index rfl rfl rfl Try.runUnderlying47 Try.sizeOf22 (hs.rowsSome 0 rfl hxk2) (Int.natCast_nonneg _) (lt_of_get hxk2) rfl) fun a hf => ?_
        obtain ⟨B1, D1, hrB1⟩ := hs.rowAt 0 rfl hxk2
        refine S.v hf hs (.slice B1 xk2.length D1) rfl (V.loadRows (off := 0) 0 rfl hxk2 hrB1 rfl rfl rfl Try.isAgg22 Try.sizeOf22 rfl rfl) fun a hf => ?_
        refine S.p hf hs (.slice B1 xk2.length D1) rfl rfl fun a hf => ?_
        refine R.nil ?_
        refine X.then_ ?_
        refine wp_seq ?_
        refine R.list ?_
        refine S.v hf hs (.agg #[iv g.W, iv g.H, iv g.Layers, .slice g_BlockedA g.Blocked.length g_BlockedC]) rfl (V.loadBox 2 rfl rfl rfl Try.isAgg24 Try.sizeOf24 rfl rfl) fun a hf => ?_
        refine S.v hf hs (.agg #[iv c.Step, iv c.Via, iv 0, iv 0]) rfl (V.loadBox 1 rfl rfl rfl Try.isAgg26 Try.sizeOf26 rfl rfl) fun a hf => ?_
        refine S.p hf hs (.slice B1 xk2.length D1) rfl rfl fun a hf => ?_
        refine S.call hf rfl rfl rfl (call_fn (vs := [.agg #[iv g.W, iv g.H, iv g.Layers, .slice g_BlockedA g.Blocked.length g_BlockedC], .agg #[iv c.Step, iv c.Via, iv 0, iv 0], .slice B1 xk2.length D1]) rfl rfl rfl Try.call20) (R_route_CostOf g (⟨c.Step, c.Via, 0, 0⟩ : Costs) xk2 _ g_BlockedA g_BlockedC ((Ag.args _ _ _).view hv_g_Blocked hs) B1 D1 (hs.rowView 0 rfl hxk2 hrB1) _ h) (fun v a w' hf hr => ?_)
        obtain ⟨y12, y13, rfl, h2, hs2⟩ := hr
        replace h := h2; replace hs := hs.call hs2; clear h2 hs2
        refine S.p hf hs (.tuple #[iv y12, iv y13]) rfl rfl fun a hf => ?_
        refine S.p hf hs (iv y12) rfl rfl fun a hf => ?_
        refine S.p hf hs (iv y13) rfl rfl fun a hf => ?_
        refine S.p hf hs (iv y12) rfl rfl fun a hf => ?_
        refine S.p hf hs (iv y13) rfl rfl fun a hf => ?_
        refine R.nil ?_
        refine X.then_ ?_
        refine wp_seq ?_
        refine wp_seq ?_
        refine R.list ?_
        refine S.p hf hs (iv y13) rfl rfl fun a hf => ?_
        refine S.p hf hs (.bool (y13 != 0)) rfl rfl fun a hf => ?_
        refine R.nil ?_
        refine X.then_ ?_
        refine C.cond hf (b := y13 != 0) rfl (fun hc => ?_) (fun hc => ?_)
        · replace h := h.1 hc
          refine wp_seq ?_
          refine R.list ?_
          refine S.p hf hs (.bool false) rfl rfl fun a hf => ?_
          refine R.nil ?_
          refine X.then_ ?_
          refine wp_ret ?_
          refine X.then_ret ?_
          refine X.blk_ret ?_
          refine X.then_ret ?_
          refine X.then_ret ?_
          refine X.blk_ret ?_
          refine X.then_ret ?_
          exact L.ret hf (run_results1 Try.results11 (ResIs.tmp hf rfl)) ⟨false, rfl, h, hs.nil⟩
        · replace h := h.2 hc
          refine wp_skip ?_
          refine X.then_ ?_
          refine R.list ?_
          refine S.p hf hs (iv n2) rfl rfl fun a hf => ?_
          refine S.p hf hs (iv y12) rfl rfl fun a hf => ?_
          refine S.p hf hs (iv (w64 (n2 + y12))) rfl rfl fun a hf => ?_
          refine S.p hf hs (iv (w64 (n2 + y12))) rfl rfl fun a hf => ?_
          refine R.nil ?_
          refine X.blk ?_
          refine X.then_ ?_
          refine R.list ?_
          refine S.v hf hs (iv ((k2 + 1 : Nat) : Int)) rfl (V.incr rfl rfl rfl hltk2 hlenk2) fun a hf => ?_
          refine S.p hf hs (iv ((k2 + 1 : Nat) : Int)) rfl rfl fun a hf => ?_
          refine R.nil ?_
          refine X.then_ ?_
          exact ⟨xk2, llk2, rfl, k2 + 1, (w64 (n2 + y12)), range_drop hlk2, range_len hkk2, (by rw [hnext1] at h; exact h), ((((((((((hf.nil.cons (hf.get 52 _ rfl)).cons (hf.get 51 _ rfl)).cons (hf.get 13 _ rfl)).cons (hf.get 11 _ rfl)).cons (hf.get 8 _ rfl)).cons (hf.get 7 _ rfl)).cons (hf.get 4 _ rfl)).cons (hf.get 3 _ rfl)).cons (hf.get 2 _ rfl)).cons (hf.get 53 _ rfl)), hs⟩
  · skip
    refine R.list ?_
    refine S.p hf hs (iv y3) rfl rfl fun a hf => ?_
    refine S.p hf hs (.bool (y3 != 0)) rfl rfl fun a hf => ?_
    refine S.split hf hs (b := y3 != 0) rfl rfl rfl (V.pure rfl) (fun hc a hf => ?_) (fun hc a hf => ?_)
    · replace h := h.1 hc
      refine S.k hf rfl fun a hf => ?_
      refine S.k hf rfl fun a hf => ?_
      refine S.p hf hs (.bool true) rfl rfl fun a hf => ?_
      refine R.nil ?_
      refine X.then_ ?_
      exact ⟨true, h, (((((((((hf.nil.cons (hf.get 41 _ rfl)).cons (hf.get 11 _ rfl)).cons (hf.get 10 _ rfl)).cons (hf.get 9 _ rfl)).cons (hf.get 8 _ rfl)).cons (hf.get 7 _ rfl)).cons (hf.get 4 _ rfl)).cons (hf.get 3 _ rfl)).cons (hf.get 2 _ rfl)), hs⟩
    · replace h := h.2 hc
      refine S.p hf hs (iv y6) rfl rfl fun a hf => ?_
      refine S.p hf hs (.bool (y6 != 0)) rfl rfl fun a hf => ?_
      refine S.p hf hs (.bool (y6 != 0)) rfl rfl fun a hf => ?_
      refine R.nil ?_
      refine X.then_ ?_
      exact ⟨(y6 != 0), h, (((((((((hf.nil.cons (hf.get 41 _ rfl)).cons (hf.get 11 _ rfl)).cons (hf.get 10 _ rfl)).cons (hf.get 9 _ rfl)).cons (hf.get 8 _ rfl)).cons (hf.get 7 _ rfl)).cons (hf.get 4 _ rfl)).cons (hf.get 3 _ rfl)).cons (hf.get 2 _ rfl)), hs⟩


end Go.Proofs.Ytihjaehkdgdenaa
