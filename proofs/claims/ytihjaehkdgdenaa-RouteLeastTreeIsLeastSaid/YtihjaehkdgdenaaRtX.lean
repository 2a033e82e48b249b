/- Chapter 7: the least tree: the walks. -/
import Derived.Test.YtihjaehkdgdenaaRtW
namespace Go.Proofs.Ytihjaehkdgdenaa
open Go Go.RowKit
set_option linter.unusedVariables false

set_option linter.unusedVariables false
def M_route_LeastTree_k7 (k6 : Nat) (xk6 : Int) (l10 : List Int) (next5 : List Int → Prop) (x4 : Int) (c1 : Bool) : Prop :=
  cnd c1 (idx l10 (k6 : Int) fun x5 => next5 (l10.set k6 (w64 (xk6 + x4)))) (next5 l10)
def M_route_LeastTree_L5 (l2 : List (List Int)) (n3 : Int) (n7 : Int) (k6 : Nat) (xk6 : Int) (l10 : List Int) (next5 : List Int → Prop) : Prop :=
  idx l2 (w64 (n3 - n7)) fun x3 => idx x3 (k6 : Int) fun x4 => cnd (decide (xk6 ≥ 0)) (cnd (decide (x4 ≥ 0)) (idx l10 (k6 : Int) fun x6 => cnd (decide (x6 < 0)) (M_route_LeastTree_k7 k6 xk6 l10 next5 x4 true) (M_route_LeastTree_k7 k6 xk6 l10 next5 x4 (decide (w64 (xk6 + x4) < x6)))) (M_route_LeastTree_k7 k6 xk6 l10 next5 x4 false)) (M_route_LeastTree_k7 k6 xk6 l10 next5 x4 false)
def M_route_LeastTree_L4 (g : Grid) (c : Costs) (y1 : (List Bool)) (l2 : List (List Int)) (n3 : Int) (again1 : List (List Int) → Int → Prop) (again4 : List Int → Int → Prop) (l8 : List Int) (n7 : Int) : Prop :=
  cnd (decide (n7 > 0)) (idx l2 n7 fun x2 => forIn' (fun k x (s : List Int) next => M_route_LeastTree_L5 l2 n3 n7 k x s (fun l10 => next l10)) (fun (s : List Int) => (fun (l10 : List Int) => again4 l10 (andI .i64 (w64 (n7 - 1)) n3)) s) x2 0 l8) (M_finder_spread (⟨g, c, y1⟩ : RouteFinder) l8 fun z1 => idx l2 n3 fun x7 => again1 (l2.set n3.toNat z1) (w64 (n3 + 1)))
def M_route_LeastTree_L3 (g : Grid) (n3 : Int) (k4 : Nat) (xk4 : Cell) (l6 : List Int) (next3 : List Int → Prop) : Prop :=
  must (0 ≤ (k4 : Int)) (cnd (n3 == (shlI .i64 1 (k4 : Int))) (M_route_number g xk4 fun y4 => idx l6 y4 fun x8 => next3 (l6.set y4.toNat 0)) (next3 l6))
def M_route_LeastTree_L2 (g : Grid) (c : Costs) (pins : (List Cell)) (y1 : (List Bool)) (l2 : List (List Int)) (n3 : Int) (again1 : List (List Int) → Int → Prop) (again2 : List Int → Int → Prop) (l4 : List Int) (n5 : Int) : Prop :=
  cnd (decide (n5 < ((List.replicate y1.length (0 : Int)).length : Int))) (idx l4 n5 fun x1 => again2 (l4.set n5.toNat (-1)) (w64 (n5 + 1))) (forIn' (fun k x (s : List Int) next => M_route_LeastTree_L3 g n3 k x s (fun l6 => next l6)) (fun (s : List Int) => (fun (l6 : List Int) => lp (fun again (s : List Int × Int) => M_route_LeastTree_L4 g c y1 l2 n3 again1 (fun l8 n7 => again (l8, n7)) s.1 s.2) (l6, andI .i64 (w64 (n3 - 1)) n3)) s) pins 0 l4)
def M_route_LeastTree_L1 (g : Grid) (c : Costs) (pins : (List Cell)) (Q : Int → Bool → Int → Prop) (y1 : (List Bool)) (again1 : List (List Int) → Int → Prop) (l2 : List (List Int)) (n3 : Int) : Prop :=
  cnd (decide (n3 < (l2.length : Int))) (must (0 ≤ (y1.length : Int) ∧ (y1.length : Int) * 8 ≤ 281474976710656) (lp (fun again (s : List Int × Int) => M_route_LeastTree_L2 g c pins y1 l2 n3 again1 (fun l4 n5 => again (l4, n5)) s.1 s.2) ((List.replicate y1.length (0 : Int)), 0))) (idx l2 (w64 ((l2.length : Int) - 1)) fun x9 => idx pins 0 fun x10 => M_route_number g x10 fun y5 => idx x9 y5 fun x11 => cnd (decide (x11 < 0)) (Q 0 false 0) (Q x11 true 0))
def M_route_LeastTree_k1 (g : Grid) (c : Costs) (pins : (List Cell)) (Q : Int → Bool → Int → Prop) (y1 : (List Bool)) (n1 : Int) : Prop :=
  M_route_checkPins g y1 pins n1 fun y3 => cnd (y3 != 0) (Q 0 false y3) (must (0 ≤ (pins.length : Int)) (must (0 ≤ shlI .i64 1 (pins.length : Int) ∧ shlI .i64 1 (pins.length : Int) * 24 ≤ 281474976710656) (lp (fun again (s : List (List Int) × Int) => M_route_LeastTree_L1 g c pins Q y1 (fun l2 n3 => again (l2, n3)) s.1 s.2) ((List.replicate ((shlI .i64 1 (pins.length : Int)).toNat) ([] : (List Int))), 1))))
def M_route_LeastTree (g : Grid) (c : Costs) (pins : (List Cell)) (Q : Int → Bool → Int → Prop) : Prop :=
  M_find g c ([] : List Cell) fun y1o y2 => optq y1o (cnd (y2 != 0) (Q 0 false y2) (False)) (fun y1 => cnd (y2 != 0) (Q 0 false y2) (cnd (decide ((y1.length : Int) > 400)) (M_route_LeastTree_k1 g c pins Q y1 0) (M_route_LeastTree_k1 g c pins Q y1 6)))
set_option maxHeartbeats 1000000 in
theorem R_route_LeastTree (g : Grid) (c : Costs) (pins : (List Cell)) (w0 : World) (g_BlockedA : Option Addr) (g_BlockedC : Nat) (hv_g_Blocked : View w0 (old w0 none_) g_BlockedA g_BlockedC g.Blocked) (pinsA : Option Addr) (pinsC : Nat) (hv_pins : View w0 (old w0 none_) pinsA pinsC pins) (Q : Int → Bool → Int → Prop) (h : M_route_LeastTree g c pins Q) :
    Ret Try.prog 28 #[.agg #[iv g.W, iv g.H, iv g.Layers, .slice g_BlockedA g.Blocked.length g_BlockedC], .agg #[iv c.Step, iv c.Via, iv c.Turn, iv c.Against], .slice pinsA pins.length pinsC] w0 fun v w' => ∃ (r0 : Int) (r1 : Bool) (r2 : Int), v = .tuple #[iv r0, .bool r1, iv r2] ∧ Q r0 r1 r2 ∧ Sat w0 none_ [] w' := by
  refine fn_enter Try.func28 rfl Try.ntmps28 rfl (fs := [(0, .agg #[iv g.W, iv g.H, iv g.Layers, .slice g_BlockedA g.Blocked.length g_BlockedC]), (1, .agg #[iv c.Step, iv c.Via, iv c.Turn, iv c.Against]), (2, .slice pinsA pins.length pinsC)]) rfl (fun a hf => ?_)
  have hs := Sat.start w0 none_
  unfold M_route_LeastTree at h
  refine wp_seq ?_
  refine R.list ?_
  refine S.box hf hs rfl rfl rfl [iv g.W, iv g.H, iv g.Layers, .slice g_BlockedA g.Blocked.length g_BlockedC] rfl rfl rfl (fun g1 a w hf hs => ?_)
  refine S.box hf hs rfl rfl rfl [iv c.Step, iv c.Via, iv c.Turn, iv c.Against] rfl rfl rfl (fun g2 a w hf hs => ?_)
  refine S.p hf hs (iv 0) rfl rfl fun a hf => ?_
  refine S.p hf hs (.bool false) rfl rfl fun a hf => ?_
  refine S.p hf hs (iv 0) rfl rfl fun a hf => ?_
  refine R.nil ?_
  refine X.then_ ?_
  refine wp_seq ?_
  refine R.list ?_
  refine S.v hf hs (.agg #[iv g.W, iv g.H, iv g.Layers, .slice g_BlockedA g.Blocked.length g_BlockedC]) rfl (V.loadBox 1 rfl rfl rfl Try.isAgg24 Try.sizeOf24 rfl rfl) fun a hf => ?_
  refine S.v hf hs (.agg #[iv c.Step, iv c.Via, iv c.Turn, iv c.Against]) rfl (V.loadBox 0 rfl rfl rfl Try.isAgg26 Try.sizeOf26 rfl rfl) fun a hf => ?_
  refine S.call hf rfl rfl rfl (call_fn (vs := [.agg #[iv g.W, iv g.H, iv g.Layers, .slice g_BlockedA g.Blocked.length g_BlockedC], .agg #[iv c.Step, iv c.Via, iv c.Turn, iv c.Against], .slice none 0 0]) rfl rfl rfl Try.call34) (R_find g c ([] : List Cell) _ g_BlockedA g_BlockedC ((Ag.args _ _ _).view hv_g_Blocked hs) none 0 (View.nil _ _) _ h) (fun v a w' hf hr => ?_)
  rcases hr with ⟨y2, rfl, h2, hs2⟩ | ⟨y1, y1g, y1A0, y1C0, y2, rfl, h2, hs2⟩
  · replace h := h2.1 rfl; replace hs := hs.call hs2; clear h2 hs2
    refine S.p hf hs (.tuple #[.pointer none, iv y2]) rfl rfl fun a hf => ?_
    refine S.p hf hs (.pointer none) rfl rfl fun a hf => ?_
    refine S.p hf hs (iv y2) rfl rfl fun a hf => ?_
    refine S.p hf hs (.pointer none) rfl rfl fun a hf => ?_
    refine S.p hf hs (iv y2) rfl rfl fun a hf => ?_
    refine R.nil ?_
    refine X.then_ ?_
    refine wp_seq ?_
    refine wp_seq ?_
    refine R.list ?_
    refine S.p hf hs (iv y2) rfl rfl fun a hf => ?_
    refine S.p hf hs (.bool (y2 != 0)) rfl rfl fun a hf => ?_
    refine R.nil ?_
    refine X.then_ ?_
    refine C.cond hf (b := y2 != 0) rfl (fun hc => ?_) (fun hc => ?_)
    · replace h := h.1 hc
      refine wp_seq ?_
      refine R.list ?_
      refine S.p hf hs (iv y2) rfl rfl fun a hf => ?_
      refine S.p hf hs (iv 0) rfl rfl fun a hf => ?_
      refine S.p hf hs (.bool false) rfl rfl fun a hf => ?_
      refine S.p hf hs (iv y2) rfl rfl fun a hf => ?_
      refine R.nil ?_
      refine X.then_ ?_
      refine wp_ret ?_
      refine X.then_ret ?_
      exact L.ret hf (run_results3 Try.results28 (ResIs.tmp hf rfl) (ResIs.tmp hf rfl) (ResIs.tmp hf rfl)) ⟨0, false, y2, rfl, h, hs.nil⟩
    · replace h := h.2 hc
      exact h.elim
  · replace h := h2.2 _ rfl; replace hs := hs.call hs2; clear h2 hs2
    refine S.p hf hs (.tuple #[(pn y1g 0), iv y2]) rfl rfl fun a hf => ?_
    refine S.p hf hs ((pn y1g 0)) rfl rfl fun a hf => ?_
    refine S.p hf hs (iv y2) rfl rfl fun a hf => ?_
    refine S.p hf hs ((pn y1g 0)) rfl rfl fun a hf => ?_
    refine S.p hf hs (iv y2) rfl rfl fun a hf => ?_
    refine R.nil ?_
    refine X.then_ ?_
    refine wp_seq ?_
    refine wp_seq ?_
    refine R.list ?_
    refine S.p hf hs (iv y2) rfl rfl fun a hf => ?_
    refine S.p hf hs (.bool (y2 != 0)) rfl rfl fun a hf => ?_
    refine R.nil ?_
    refine X.then_ ?_
    refine C.cond hf (b := y2 != 0) rfl (fun hc => ?_) (fun hc => ?_)
    · replace h := h.1 hc
      refine wp_seq ?_
      refine R.list ?_
      refine S.p hf hs (iv y2) rfl rfl fun a hf => ?_
      refine S.p hf hs (iv 0) rfl rfl fun a hf => ?_
      refine S.p hf hs (.bool false) rfl rfl fun a hf => ?_
      refine S.p hf hs (iv y2) rfl rfl fun a hf => ?_
      refine R.nil ?_
      refine X.then_ ?_
      refine wp_ret ?_
      refine X.then_ret ?_
      exact L.ret hf (run_results3 Try.results28 (ResIs.tmp hf rfl) (ResIs.tmp hf rfl) (ResIs.tmp hf rfl)) ⟨0, false, y2, rfl, h, hs.nil⟩
    · replace h := h.2 hc
      refine wp_skip ?_
      refine X.then_ ?_
      refine wp_seq ?_
      refine R.list ?_
      refine S.p hf hs (iv 6) rfl rfl fun a hf => ?_
      refine R.nil ?_
      refine X.then_ ?_
      refine wp_seq ?_
      refine C.cut (J := fun a w => ∃ (n1 : Int), M_route_LeastTree_k1 g c pins Q y1 n1 ∧ FrOk 174 [(2, .slice pinsA pins.length pinsC), (3, (pn g1 0)), (9, (pn y1g 0)), (11, iv n1)] a ∧ Sat w0 none_ [hbox y1g 68 [iv g.W, iv g.H, iv g.Layers, .slice g_BlockedA g.Blocked.length g_BlockedC, iv c.Step, iv c.Via, iv c.Turn, iv c.Against, .slice y1A0 y1.length y1C0], hown 4 y1A0 y1C0 y1, hbox g2 26 [iv c.Step, iv c.Via, iv c.Turn, iv c.Against], hbox g1 24 [iv g.W, iv g.H, iv g.Layers, .slice g_BlockedA g.Blocked.length g_BlockedC]] w) ?_ ?_
      · rintro a w ⟨n1, h, hf, hs⟩
        unfold M_route_LeastTree_k1 at h
        refine wp_seq ?_
        refine wp_seq ?_
        refine H.start (S := Sat w0 none_ [hbox y1g 68 [iv g.W, iv g.H, iv g.Layers, .slice g_BlockedA g.Blocked.length g_BlockedC, iv c.Step, iv c.Via, iv c.Turn, iv c.Against, .slice y1A0 y1.length y1C0], hown 4 y1A0 y1C0 y1, hbox g2 26 [iv c.Step, iv c.Via, iv c.Turn, iv c.Against], hbox g1 24 [iv g.W, iv g.H, iv g.Layers, .slice g_BlockedA g.Blocked.length g_BlockedC]]) mo ?_
        replace hs := hs.drew
        refine H.v hf hs (.agg #[iv g.W, iv g.H, iv g.Layers, .slice g_BlockedA g.Blocked.length g_BlockedC]) 0 rfl rfl (by kernel_rfl) (V.loadBox 3 rfl rfl rfl Try.isAgg24 Try.sizeOf24 rfl rfl) fun a hf => ?_
        refine H.v hf hs ((pn y1g 0)) 1 rfl rfl (by kernel_rfl) (V.pure rfl) fun a hf => ?_
        refine H.v hf hs ((pn y1g 0)) 2 rfl rfl (by kernel_rfl) (V.pure rfl) fun a hf => ?_
        refine H.v hf hs ((pn y1g 8)) 3 rfl rfl (by kernel_rfl) (V.fieldBox rfl rfl Try.runUnderlying68 rfl Try.sizeOf66 rfl rfl) fun a hf => ?_
        refine H.v hf hs (.slice y1A0 y1.length y1C0) 4 rfl rfl (by kernel_rfl) (V.loadBox 0 rfl rfl rfl Try.isAgg66 Try.sizeOf66 rfl rfl) fun a hf => ?_
        refine H.v hf hs (.slice pinsA pins.length pinsC) 5 rfl rfl (by kernel_rfl) (V.pure rfl) fun a hf => ?_
        refine H.v hf hs (iv n1) 6 rfl rfl (by kernel_rfl) (V.pure rfl) fun a hf => ?_
        refine H.one (i := 7) rfl (by kernel_rfl) ?_
        refine S.call hf rfl rfl rfl (call_fn (vs := [.agg #[iv g.W, iv g.H, iv g.Layers, .slice g_BlockedA g.Blocked.length g_BlockedC], .slice y1A0 y1.length y1C0, .slice pinsA pins.length pinsC, iv n1]) rfl rfl rfl Try.call57) (R_route_checkPins g y1 pins n1 _ g_BlockedA g_BlockedC ((Ag.args _ _ _).view hv_g_Blocked hs) y1A0 y1C0 (hs.ownView 1 rfl) pinsA pinsC ((Ag.args _ _ _).view hv_pins hs) _ h) (fun v a w' hf hr => ?_)
        obtain ⟨y3, rfl, h2, hs2⟩ := hr
        replace h := h2; replace hs := hs.call hs2; clear h2 hs2
        refine R.nil ?_
        refine X.then_ ?_
        refine ⟨hs, ?_⟩
        refine H.v hf hs (iv y3) 8 rfl rfl (by kernel_rfl) (V.pure rfl) fun a hf => ?_
        refine H.done (by kernel_rfl) ?_
        refine X.then_ ?_
        refine wp_seq ?_
        refine R.list ?_
        refine S.p hf hs (iv y3) rfl rfl fun a hf => ?_
        refine S.p hf hs (.bool (y3 != 0)) rfl rfl fun a hf => ?_
        refine R.nil ?_
        refine X.then_ ?_
        refine C.cond hf (b := y3 != 0) rfl (fun hc => ?_) (fun hc => ?_)
        · replace h := h.1 hc
          refine wp_seq ?_
          refine R.list ?_
          refine S.p hf hs (iv y3) rfl rfl fun a hf => ?_
          refine S.p hf hs (iv 0) rfl rfl fun a hf => ?_
          refine S.p hf hs (.bool false) rfl rfl fun a hf => ?_
          refine S.p hf hs (iv y3) rfl rfl fun a hf => ?_
          refine R.nil ?_
          refine X.then_ ?_
          refine wp_ret ?_
          refine X.then_ret ?_
          exact L.ret hf (run_results3 Try.results28 (ResIs.tmp hf rfl) (ResIs.tmp hf rfl) (ResIs.tmp hf rfl)) ⟨0, false, y3, rfl, h, hs.nil⟩
        · replace h := h.2 hc
          refine wp_skip ?_
          refine X.then_ ?_
          refine wp_seq ?_
          refine R.list ?_
          refine S.p hf hs (.slice pinsA pins.length pinsC) rfl rfl fun a hf => ?_
          refine S.v hf hs (iv (pins.length : Int)) rfl (V.len rfl rfl Try.runUnderlying22) fun a hf => ?_
          obtain ⟨hsh, h⟩ := h
          refine S.v hf hs (iv (shlI .i64 1 (pins.length : Int))) rfl (V.shl rfl rfl rfl hsh) fun a hf => ?_
          obtain ⟨hmk, h⟩ := h
          refine S.makeRows hf hs rfl rfl rfl ([] : (List Int)) (z := (shlI .i64 1 (pins.length : Int))) (N := (shlI .i64 1 (pins.length : Int)).toNat) 3 rfl rfl rfl rfl Try.underlying83 info55 hmk rfl (by have := hmk.2; omega) (fun A1 a w hf hs => ?_)
          refine S.p hf hs (.slice A1 (List.replicate ((shlI .i64 1 (pins.length : Int)).toNat) ([] : (List Int))).length ((shlI .i64 1 (pins.length : Int)).toNat)) rfl rfl fun a hf => ?_
          refine R.nil ?_
          refine X.then_ ?_
          refine wp_seq ?_
          refine wp_seq ?_
          refine R.list ?_
          refine S.p hf hs (iv 1) rfl rfl fun a hf => ?_
          refine R.nil ?_
          refine X.then_ ?_
          refine wp_block ?_
          obtain ⟨kk, h⟩ := h
          refine C.loop (fun kk a w => ∃ (l2 : List (List Int)) (l2A : Option Addr) (l2C : Nat) (l2as : List (Option Addr × Nat)) (n3 : Int), iterF (fun again (s : List (List Int) × Int) => M_route_LeastTree_L1 g c pins Q y1 (fun l2 n3 => again (l2, n3)) s.1 s.2) kk (l2, n3) ∧ FrOk 174 [(2, .slice pinsA pins.length pinsC), (3, (pn g1 0)), (9, (pn y1g 0)), (13, .slice l2A l2.length l2C), (14, iv n3)] a ∧ Sat w0 none_ [hrows 55 3 l2A l2C l2as l2, hbox y1g 68 [iv g.W, iv g.H, iv g.Layers, .slice g_BlockedA g.Blocked.length g_BlockedC, iv c.Step, iv c.Via, iv c.Turn, iv c.Against, .slice y1A0 y1.length y1C0], hown 4 y1A0 y1C0 y1, hbox g2 26 [iv c.Step, iv c.Via, iv c.Turn, iv c.Against], hbox g1 24 [iv g.W, iv g.H, iv g.Layers, .slice g_BlockedA g.Blocked.length g_BlockedC]] w) kk ⟨(List.replicate ((shlI .i64 1 (pins.length : Int)).toNat) ([] : (List Int))), A1, ((shlI .i64 1 (pins.length : Int)).toNat), (List.replicate ((shlI .i64 1 (pins.length : Int)).toNat) ((none : Option Addr), 0)), 1, h, (((((hf.nil.cons (hf.get 14 _ rfl)).cons (hf.get 13 _ rfl)).cons (hf.get 9 _ rfl)).cons (hf.get 3 _ rfl)).cons (hf.get 2 _ rfl)), hs⟩ (fun a w ⟨_, _, _, _, _, h, _, _⟩ => h) ?_
          clear h hf hs
          rintro kk a w ⟨l2, l2A, l2C, l2as, n3, h, hf, hs⟩
          obtain ⟨again1, hagain1⟩ : ∃ X : List (List Int) → Int → Prop, X = (fun l2 n3 => iterF (fun again (s : List (List Int) × Int) => M_route_LeastTree_L1 g c pins Q y1 (fun l2 n3 => again (l2, n3)) s.1 s.2) kk (l2, n3)) := ⟨_, rfl⟩
          replace h : M_route_LeastTree_L1 g c pins Q y1 again1 l2 n3 := by rw [hagain1]; exact h
          unfold M_route_LeastTree_L1 at h
          refine wp_seq ?_
          refine wp_seq ?_
          refine R.list ?_
          refine S.p hf hs (iv n3) rfl rfl fun a hf => ?_
          refine S.p hf hs (.slice l2A l2.length l2C) rfl rfl fun a hf => ?_
          refine S.v hf hs (iv (l2.length : Int)) rfl (V.len rfl rfl Try.runUnderlying83) fun a hf => ?_
          refine S.p hf hs (.bool (decide (n3 < (l2.length : Int)))) rfl rfl fun a hf => ?_
          refine R.nil ?_
          refine X.then_ ?_
          refine C.cond hf (b := decide (n3 < (l2.length : Int))) rfl (fun hc => ?_) (fun hc => ?_)
          · replace h := h.1 hc
            refine wp_skip ?_
            refine X.then_ ?_
            refine wp_seq ?_
            refine wp_block ?_
            refine wp_seq ?_
            refine R.list ?_
            refine S.p hf hs ((pn y1g 0)) rfl rfl fun a hf => ?_
            refine S.p hf hs ((pn y1g 0)) rfl rfl fun a hf => ?_
            refine S.v hf hs ((pn y1g 8)) rfl (V.fieldBox rfl rfl Try.runUnderlying68 rfl Try.sizeOf66 rfl rfl) fun a hf => ?_
            refine S.v hf hs (.slice y1A0 y1.length y1C0) rfl (V.loadBox 1 rfl rfl rfl Try.isAgg66 Try.sizeOf66 rfl rfl) fun a hf => ?_
            refine S.v hf hs (iv (y1.length : Int)) rfl (V.len rfl rfl Try.runUnderlying66) fun a hf => ?_
            obtain ⟨hmk, h⟩ := h
            refine S.make hf hs rfl rfl rfl (α := Int) (0 : Int) (z := (y1.length : Int)) (N := y1.length) rfl rfl rfl Try.underlying55 info3 hmk rfl (by have := hmk.2; omega) (fun A2 a w hf hs => ?_)
            refine S.p hf hs (.slice A2 (List.replicate y1.length (0 : Int)).length y1.length) rfl rfl fun a hf => ?_
            refine R.nil ?_
            refine X.then_ ?_
            refine wp_seq ?_
            refine wp_seq ?_
            refine R.list ?_
            refine S.p hf hs (.slice A2 (List.replicate y1.length (0 : Int)).length y1.length) rfl rfl fun a hf => ?_
            refine S.v hf hs (iv ((List.replicate y1.length (0 : Int)).length : Int)) rfl (V.len rfl rfl Try.runUnderlying55) fun a hf => ?_
            refine S.p hf hs (iv 0) rfl rfl fun a hf => ?_
            refine R.nil ?_
            refine X.then_ ?_
            refine wp_block ?_
            obtain ⟨kk, h⟩ := h
            refine C.loop (fun kk a w => ∃ (l4 : List Int) (l4A : Option Addr) (l4C : Nat) (n5 : Int), iterF (fun again (s : List Int × Int) => M_route_LeastTree_L2 g c pins y1 l2 n3 again1 (fun l4 n5 => again (l4, n5)) s.1 s.2) kk (l4, n5) ∧ FrOk 174 [(2, .slice pinsA pins.length pinsC), (3, (pn g1 0)), (9, (pn y1g 0)), (13, .slice l2A l2.length l2C), (14, iv n3), (15, .slice l4A l4.length l4C), (67, iv ((List.replicate y1.length (0 : Int)).length : Int)), (68, iv n5)] a ∧ Sat w0 none_ [hown 3 l4A l4C l4, hrows 55 3 l2A l2C l2as l2, hbox y1g 68 [iv g.W, iv g.H, iv g.Layers, .slice g_BlockedA g.Blocked.length g_BlockedC, iv c.Step, iv c.Via, iv c.Turn, iv c.Against, .slice y1A0 y1.length y1C0], hown 4 y1A0 y1C0 y1, hbox g2 26 [iv c.Step, iv c.Via, iv c.Turn, iv c.Against], hbox g1 24 [iv g.W, iv g.H, iv g.Layers, .slice g_BlockedA g.Blocked.length g_BlockedC]] w) kk ⟨(List.replicate y1.length (0 : Int)), A2, y1.length, 0, h, ((((((((hf.nil.cons (hf.get 68 _ rfl)).cons (hf.get 67 _ rfl)).cons (hf.get 15 _ rfl)).cons (hf.get 14 _ rfl)).cons (hf.get 13 _ rfl)).cons (hf.get 9 _ rfl)).cons (hf.get 3 _ rfl)).cons (hf.get 2 _ rfl)), hs⟩ (fun a w ⟨_, _, _, _, h, _, _⟩ => h) ?_
            clear h hf hs
            rintro kk a w ⟨l4, l4A, l4C, n5, h, hf, hs⟩
            obtain ⟨again2, hagain2⟩ : ∃ X : List Int → Int → Prop, X = (fun l4 n5 => iterF (fun again (s : List Int × Int) => M_route_LeastTree_L2 g c pins y1 l2 n3 again1 (fun l4 n5 => again (l4, n5)) s.1 s.2) kk (l4, n5)) := ⟨_, rfl⟩
            replace h : M_route_LeastTree_L2 g c pins y1 l2 n3 again1 again2 l4 n5 := by rw [hagain2]; exact h
            unfold M_route_LeastTree_L2 at h
            refine wp_seq ?_
            refine R.list ?_
            refine S.p hf hs (.bool (decide (n5 < ((List.replicate y1.length (0 : Int)).length : Int)))) rfl rfl fun a hf => ?_
            refine R.nil ?_
            refine X.then_ ?_
            refine wp_seq ?_
            refine C.cond hf (b := decide (n5 < ((List.replicate y1.length (0 : Int)).length : Int))) rfl (fun hc => ?_) (fun hc => ?_)
            · replace h := h.1 hc
              refine wp_skip ?_
              refine X.then_ ?_
              refine wp_seq ?_
              refine wp_block ?_
              refine wp_seq ?_
              refine R.list ?_
              refine S.p hf hs (iv n5) rfl rfl fun a hf => ?_
              refine S.p hf hs (iv n5) rfl rfl fun a hf => ?_
              refine R.nil ?_
              refine X.then_ ?_
              refine R.list ?_
              refine S.p hf hs (.slice l4A l4.length l4C) rfl rfl fun a hf => ?_
              refine S.p hf hs (iv n5) rfl rfl fun a hf => ?_
              obtain ⟨h0x1, x1, hx1, h⟩ := h
              refine S.v hf hs (elemPtr l4A (n5.toNat * 1)) rfl (V.index rfl rfl rfl Try.runUnderlying55 Try.sizeOf3 (hs.ownSome 0 rfl (lt_of_get hx1)) h0x1 (lt_of_get hx1) rfl) fun a hf => ?_
              refine S.storeOwn (off := 0) 0 hf hs rfl rfl (-1) [iv (-1)] rfl hx1 rfl rfl rfl rfl rfl Try.sizeOf3 rfl (by decide) rfl rfl (fun a w hf hs => ?_)
              replace hf := hf.tell 15 (v := .slice l4A (l4.set n5.toNat (-1)).length l4C) ((hf.get 15 (.slice l4A l4.length l4C) rfl).trans (congrArg (fun n => Value.slice l4A n l4C) List.length_set.symm))
              replace hf := hf.tell 71 (v := .slice l4A (l4.set n5.toNat (-1)).length l4C) ((hf.get 71 (.slice l4A l4.length l4C) rfl).trans (congrArg (fun n => Value.slice l4A n l4C) List.length_set.symm))
              refine R.nil ?_
              refine X.blk ?_
              refine X.then_ ?_
              refine R.list ?_
              refine S.p hf hs (iv (w64 (n5 + 1))) rfl rfl fun a hf => ?_
              refine S.p hf hs (iv (w64 (n5 + 1))) rfl rfl fun a hf => ?_
              refine R.nil ?_
              refine X.then_ ?_
              exact ⟨(l4.set n5.toNat (-1)), l4A, l4C, (w64 (n5 + 1)), (by rw [hagain2] at h; exact h), ((((((((hf.nil.cons (hf.get 68 _ rfl)).cons (hf.get 67 _ rfl)).cons (hf.get 15 _ rfl)).cons (hf.get 14 _ rfl)).cons (hf.get 13 _ rfl)).cons (hf.get 9 _ rfl)).cons (hf.get 3 _ rfl)).cons (hf.get 2 _ rfl)), hs⟩
            · replace h := h.2 hc
              refine wp_exit ?_
              refine X.then_exit ?_
              refine X.then_exit ?_
              refine X.blk_exit ?_
              refine X.then_ ?_
              refine wp_seq ?_
              refine wp_seq ?_
              refine R.list ?_
              refine S.p hf hs (.slice pinsA pins.length pinsC) rfl rfl fun a hf => ?_
              refine S.v hf hs (iv (pins.length : Int)) rfl (V.len rfl rfl Try.runUnderlying22) fun a hf => ?_
              refine S.p hf hs (iv 0) rfl rfl fun a hf => ?_
              refine R.nil ?_
              refine X.then_ ?_
              refine wp_block ?_
              have hlenk4 := hv_pins.len64
              refine C.range (fun (ll : List Cell) a w => ∃ (k4 : Nat) (l6 : List Int) (l6A : Option Addr) (l6C : Nat), pins.drop k4 = ll ∧ k4 + ll.length = pins.length ∧ forIn' (fun k x (s : List Int) next => M_route_LeastTree_L3 g n3 k x s (fun l6 => next l6)) (fun (s : List Int) => (fun (l6 : List Int) => lp (fun again (s : List Int × Int) => M_route_LeastTree_L4 g c y1 l2 n3 again1 (fun l8 n7 => again (l8, n7)) s.1 s.2) (l6, andI .i64 (w64 (n3 - 1)) n3)) s) ll k4 l6 ∧ FrOk 174 [(77, iv (k4 : Int)), (2, .slice pinsA pins.length pinsC), (3, (pn g1 0)), (9, (pn y1g 0)), (13, .slice l2A l2.length l2C), (14, iv n3), (15, .slice l6A l6.length l6C), (75, .slice pinsA pins.length pinsC), (76, iv (pins.length : Int))] a ∧ Sat w0 none_ [hown 3 l6A l6C l6, hrows 55 3 l2A l2C l2as l2, hbox y1g 68 [iv g.W, iv g.H, iv g.Layers, .slice g_BlockedA g.Blocked.length g_BlockedC, iv c.Step, iv c.Via, iv c.Turn, iv c.Against, .slice y1A0 y1.length y1C0], hown 4 y1A0 y1C0 y1, hbox g2 26 [iv c.Step, iv c.Via, iv c.Turn, iv c.Against], hbox g1 24 [iv g.W, iv g.H, iv g.Layers, .slice g_BlockedA g.Blocked.length g_BlockedC]] w) pins ⟨0, l4, l4A, l4C, rfl, Nat.zero_add _, h, (((((((((hf.nil.cons (hf.get 76 _ rfl)).cons (hf.get 75 _ rfl)).cons (hf.get 15 _ rfl)).cons (hf.get 14 _ rfl)).cons (hf.get 13 _ rfl)).cons (hf.get 9 _ rfl)).cons (hf.get 3 _ rfl)).cons (hf.get 2 _ rfl)).cons (hf.get 77 _ rfl)), hs⟩ ?_
              clear h hf hs
              rintro llk4 a w ⟨k4, l6, l6A, l6C, hlk4, hkk4, h, hf, hs⟩
              cases llk4 with
              | nil =>
                have hc := range_done hkk4
                replace h : (fun (l6 : List Int) => lp (fun again (s : List Int × Int) => M_route_LeastTree_L4 g c y1 l2 n3 again1 (fun l8 n7 => again (l8, n7)) s.1 s.2) (l6, andI .i64 (w64 (n3 - 1)) n3)) l6 := h
                refine wp_seq ?_
                refine R.list ?_
                refine S.v hf hs (.bool false) rfl (V.cmp false rfl rfl rfl rfl hc) fun a hf => ?_
                refine R.nil ?_
                refine X.then_ ?_
                refine wp_seq ?_
                refine C.no hf rfl ?_
                refine wp_exit ?_
                refine X.then_exit ?_
                refine X.then_exit ?_
                refine X.blk_exit ?_
                refine X.then_ ?_
                refine wp_seq ?_
                refine wp_seq ?_
                refine R.list ?_
                refine S.p hf hs (iv n3) rfl rfl fun a hf => ?_
                refine S.p hf hs (iv (w64 (n3 - 1))) rfl rfl fun a hf => ?_
                refine S.p hf hs (iv n3) rfl rfl fun a hf => ?_
                refine S.v hf hs (iv (andI .i64 (w64 (n3 - 1)) n3)) rfl (V.bits rfl rfl rfl rfl) fun a hf => ?_
                refine S.p hf hs (iv (andI .i64 (w64 (n3 - 1)) n3)) rfl rfl fun a hf => ?_
                refine R.nil ?_
                refine X.then_ ?_
                refine wp_block ?_
                obtain ⟨kk, h⟩ := h
                refine C.loop (fun kk a w => ∃ (l8 : List Int) (l8A : Option Addr) (l8C : Nat) (n7 : Int), iterF (fun again (s : List Int × Int) => M_route_LeastTree_L4 g c y1 l2 n3 again1 (fun l8 n7 => again (l8, n7)) s.1 s.2) kk (l8, n7) ∧ FrOk 174 [(2, .slice pinsA pins.length pinsC), (3, (pn g1 0)), (9, (pn y1g 0)), (13, .slice l2A l2.length l2C), (14, iv n3), (15, .slice l8A l8.length l8C), (19, iv n7)] a ∧ Sat w0 none_ [hown 3 l8A l8C l8, hrows 55 3 l2A l2C l2as l2, hbox y1g 68 [iv g.W, iv g.H, iv g.Layers, .slice g_BlockedA g.Blocked.length g_BlockedC, iv c.Step, iv c.Via, iv c.Turn, iv c.Against, .slice y1A0 y1.length y1C0], hown 4 y1A0 y1C0 y1, hbox g2 26 [iv c.Step, iv c.Via, iv c.Turn, iv c.Against], hbox g1 24 [iv g.W, iv g.H, iv g.Layers, .slice g_BlockedA g.Blocked.length g_BlockedC]] w) kk ⟨l6, l6A, l6C, (andI .i64 (w64 (n3 - 1)) n3), h, (((((((hf.nil.cons (hf.get 19 _ rfl)).cons (hf.get 15 _ rfl)).cons (hf.get 14 _ rfl)).cons (hf.get 13 _ rfl)).cons (hf.get 9 _ rfl)).cons (hf.get 3 _ rfl)).cons (hf.get 2 _ rfl)), hs⟩ (fun a w ⟨_, _, _, _, h, _, _⟩ => h) ?_
                clear h hf hs
                rintro kk a w ⟨l8, l8A, l8C, n7, h, hf, hs⟩
                obtain ⟨again4, hagain4⟩ : ∃ X : List Int → Int → Prop, X = (fun l8 n7 => iterF (fun again (s : List Int × Int) => M_route_LeastTree_L4 g c y1 l2 n3 again1 (fun l8 n7 => again (l8, n7)) s.1 s.2) kk (l8, n7)) := ⟨_, rfl⟩
                replace h : M_route_LeastTree_L4 g c y1 l2 n3 again1 again4 l8 n7 := by rw [hagain4]; exact h
                unfold M_route_LeastTree_L4 at h
                refine wp_seq ?_
                refine wp_seq ?_
                refine R.list ?_
                refine S.p hf hs (iv n7) rfl rfl fun a hf => ?_
                refine S.p hf hs (.bool (decide (n7 > 0))) rfl rfl fun a hf => ?_
                refine R.nil ?_
                refine X.then_ ?_
                refine C.cond hf (b := decide (n7 > 0)) rfl (fun hc => ?_) (fun hc => ?_)
                · replace h := h.1 hc
                  refine wp_skip ?_
                  refine X.then_ ?_
                  refine wp_seq ?_
                  refine wp_block ?_
                  refine wp_seq ?_
                  refine R.list ?_
                  refine S.p hf hs (.slice l2A l2.length l2C) rfl rfl fun a hf => ?_
                  refine S.p hf hs (iv n7) rfl rfl fun a hf => ?_
                  obtain ⟨h0x2, x2, hx2, h⟩ := h
                  refine S.v hf hs (elemPtr l2A (n7.toNat * 1)) rfl (V.index rfl rfl rfl Try.runUnderlying83 Try.sizeOf55 (hs.rowsSome 1 rfl hx2) h0x2 (lt_of_get hx2) rfl) fun a hf => ?_
                  obtain ⟨B1, D1, hrB1⟩ := hs.rowAt 1 rfl hx2
                  refine S.v hf hs (.slice B1 x2.length D1) rfl (V.loadRows (off := 0) 1 rfl hx2 hrB1 rfl rfl rfl Try.isAgg55 Try.sizeOf55 rfl rfl) fun a hf => ?_
                  refine S.v hf hs (iv (x2.length : Int)) rfl (V.len rfl rfl Try.runUnderlying55) fun a hf => ?_
                  refine S.p hf hs (iv 0) rfl rfl fun a hf => ?_
                  refine R.nil ?_
                  refine X.then_ ?_
                  refine wp_block ?_
                  have hlenk6 := (hs.rowView 1 rfl hx2 hrB1).len64
                  refine C.range (fun (ll : List Int) a w => ∃ (k6 : Nat) (l10 : List Int) (l10A : Option Addr) (l10C : Nat), x2.drop k6 = ll ∧ k6 + ll.length = x2.length ∧ forIn' (fun k x (s : List Int) next => M_route_LeastTree_L5 l2 n3 n7 k x s (fun l10 => next l10)) (fun (s : List Int) => (fun (l10 : List Int) => again4 l10 (andI .i64 (w64 (n7 - 1)) n3)) s) ll k6 l10 ∧ FrOk 174 [(107, iv (k6 : Int)), (2, .slice pinsA pins.length pinsC), (3, (pn g1 0)), (9, (pn y1g 0)), (13, .slice l2A l2.length l2C), (14, iv n3), (15, .slice l10A l10.length l10C), (19, iv n7), (105, .slice B1 x2.length D1), (106, iv (x2.length : Int))] a ∧ Sat w0 none_ [hown 3 l10A l10C l10, hrows 55 3 l2A l2C l2as l2, hbox y1g 68 [iv g.W, iv g.H, iv g.Layers, .slice g_BlockedA g.Blocked.length g_BlockedC, iv c.Step, iv c.Via, iv c.Turn, iv c.Against, .slice y1A0 y1.length y1C0], hown 4 y1A0 y1C0 y1, hbox g2 26 [iv c.Step, iv c.Via, iv c.Turn, iv c.Against], hbox g1 24 [iv g.W, iv g.H, iv g.Layers, .slice g_BlockedA g.Blocked.length g_BlockedC]] w) x2 ⟨0, l8, l8A, l8C, rfl, Nat.zero_add _, h, ((((((((((hf.nil.cons (hf.get 106 _ rfl)).cons (hf.get 105 _ rfl)).cons (hf.get 19 _ rfl)).cons (hf.get 15 _ rfl)).cons (hf.get 14 _ rfl)).cons (hf.get 13 _ rfl)).cons (hf.get 9 _ rfl)).cons (hf.get 3 _ rfl)).cons (hf.get 2 _ rfl)).cons (hf.get 107 _ rfl)), hs⟩ ?_
                  clear h hf hs
                  rintro llk6 a w ⟨k6, l10, l10A, l10C, hlk6, hkk6, h, hf, hs⟩
                  cases llk6 with
                  | nil =>
                    have hc := range_done hkk6
                    replace h : (fun (l10 : List Int) => again4 l10 (andI .i64 (w64 (n7 - 1)) n3)) l10 := h
                    refine wp_seq ?_
                    refine R.list ?_
                    refine S.v hf hs (.bool false) rfl (V.cmp false rfl rfl rfl rfl hc) fun a hf => ?_
                    refine R.nil ?_
                    refine X.then_ ?_
                    refine wp_seq ?_
                    refine C.no hf rfl ?_
                    refine wp_exit ?_
                    refine X.then_exit ?_
                    refine X.then_exit ?_
                    refine X.blk_exit ?_
                    refine X.blk ?_
                    refine X.then_ ?_
                    refine R.list ?_
                    refine S.p hf hs (iv n7) rfl rfl fun a hf => ?_
                    refine S.p hf hs (iv (w64 (n7 - 1))) rfl rfl fun a hf => ?_
                    refine S.p hf hs (iv n3) rfl rfl fun a hf => ?_
                    refine S.v hf hs (iv (andI .i64 (w64 (n7 - 1)) n3)) rfl (V.bits rfl rfl rfl rfl) fun a hf => ?_
                    refine S.p hf hs (iv (andI .i64 (w64 (n7 - 1)) n3)) rfl rfl fun a hf => ?_
                    refine R.nil ?_
                    refine X.then_ ?_
                    exact ⟨l10, l10A, l10C, (andI .i64 (w64 (n7 - 1)) n3), (by rw [hagain4] at h; exact h), (((((((hf.nil.cons (hf.get 19 _ rfl)).cons (hf.get 15 _ rfl)).cons (hf.get 14 _ rfl)).cons (hf.get 13 _ rfl)).cons (hf.get 9 _ rfl)).cons (hf.get 3 _ rfl)).cons (hf.get 2 _ rfl)), hs⟩
                  | cons xk6 llk6 =>
                    have hltk6 := range_lt hkk6; have hc := range_go hkk6; have hxk6 := range_get hlk6
                    obtain ⟨next5, hnext5⟩ : ∃ X : List Int → Prop, X = (fun l10 => forIn' (fun k x (s : List Int) next => M_route_LeastTree_L5 l2 n3 n7 k x s (fun l10 => next l10)) (fun (s : List Int) => (fun (l10 : List Int) => again4 l10 (andI .i64 (w64 (n7 - 1)) n3)) s) llk6 (k6 + 1) l10) := ⟨_, rfl⟩
                    replace h : M_route_LeastTree_L5 l2 n3 n7 k6 xk6 l10 next5 := by rw [hnext5]; exact h
                    unfold M_route_LeastTree_L5 at h
                    refine wp_seq ?_
                    refine R.list ?_
                    refine S.v hf hs (.bool true) rfl (V.cmp true rfl rfl rfl rfl hc) fun a hf => ?_
                    refine R.nil ?_
                    refine X.then_ ?_
                    refine wp_seq ?_
                    refine C.yes hf rfl ?_
                    refine wp_skip ?_
                    refine X.then_ ?_
                    refine wp_seq ?_
                    refine wp_block ?_
                    refine wp_seq ?_
                    refine R.list ?_
                    refine S.p hf hs (iv (k6 : Int)) rfl rfl fun a hf => ?_
                    refine S.v hf hs (elemPtr B1 (k6 * 1)) rfl (V.index rfl rfl rfl Try.runUnderlying55 Try.sizeOf3 ((hs.rowView 1 rfl hx2 hrB1).some_ (lt_of_get hxk6)) (Int.natCast_nonneg _) (lt_of_get hxk6) rfl) fun a hf => ?_
                    refine S.v hf hs (iv xk6) rfl (V.loadRowEl (off := 0) 1 rfl hx2 hrB1 hxk6 rfl rfl rfl Try.isAgg3 Try.sizeOf3 rfl rfl) fun a hf => ?_
                    refine S.p hf hs (iv (k6 : Int)) rfl rfl fun a hf => ?_
                    refine S.p hf hs (iv xk6) rfl rfl fun a hf => ?_
                    refine R.nil ?_
                    refine X.then_ ?_
                    refine wp_seq ?_
                    refine R.list ?_
                    refine S.p hf hs (.slice l2A l2.length l2C) rfl rfl fun a hf => ?_
                    refine S.p hf hs (iv n3) rfl rfl fun a hf => ?_
                    refine S.p hf hs (iv n7) rfl rfl fun a hf => ?_
                    refine S.p hf hs (iv (w64 (n3 - n7))) rfl rfl fun a hf => ?_
                    obtain ⟨h0x3, x3, hx3, h⟩ := h
                    refine S.v hf hs (elemPtr l2A ((w64 (n3 - n7)).toNat * 1)) rfl (V.index rfl rfl rfl Try.runUnderlying83 Try.sizeOf55 (hs.rowsSome 1 rfl hx3) h0x3 (lt_of_get hx3) rfl) fun a hf => ?_
                    obtain ⟨B2, D2, hrB2⟩ := hs.rowAt 1 rfl hx3
                    refine S.v hf hs (.slice B2 x3.length D2) rfl (V.loadRows (off := 0) 1 rfl hx3 hrB2 rfl rfl rfl Try.isAgg55 Try.sizeOf55 rfl rfl) fun a hf => ?_
                    refine S.p hf hs (iv (k6 : Int)) rfl rfl fun a hf => ?_
                    obtain ⟨h0x4, x4, hx4, h⟩ := h
                    refine S.v hf hs (elemPtr B2 (k6 * 1)) rfl (V.index rfl rfl rfl Try.runUnderlying55 Try.sizeOf3 ((hs.rowView 1 rfl hx3 hrB2).some_ (lt_of_get hx4)) (Int.natCast_nonneg _) (lt_of_get hx4) rfl) fun a hf => ?_
                    refine S.v hf hs (iv x4) rfl (V.loadRowEl (off := 0) 1 rfl hx3 hrB2 hx4 rfl rfl rfl Try.isAgg3 Try.sizeOf3 rfl rfl) fun a hf => ?_
                    refine S.p hf hs (iv x4) rfl rfl fun a hf => ?_
                    refine R.nil ?_
                    refine X.then_ ?_
                    refine wp_seq ?_
                    refine C.cut (J := fun a w => ∃ (c1 : Bool), M_route_LeastTree_k7 k6 xk6 l10 next5 x4 c1 ∧ FrOk 174 [(2, .slice pinsA pins.length pinsC), (3, (pn g1 0)), (9, (pn y1g 0)), (13, .slice l2A l2.length l2C), (14, iv n3), (15, .slice l10A l10.length l10C), (19, iv n7), (20, iv (k6 : Int)), (21, iv xk6), (22, iv x4), (105, .slice B1 x2.length D1), (106, iv (x2.length : Int)), (107, iv (k6 : Int)), (143, .bool c1)] a ∧ Sat w0 none_ [hown 3 l10A l10C l10, hrows 55 3 l2A l2C l2as l2, hbox y1g 68 [iv g.W, iv g.H, iv g.Layers, .slice g_BlockedA g.Blocked.length g_BlockedC, iv c.Step, iv c.Via, iv c.Turn, iv c.Against, .slice y1A0 y1.length y1C0], hown 4 y1A0 y1C0 y1, hbox g2 26 [iv c.Step, iv c.Via, iv c.Turn, iv c.Against], hbox g1 24 [iv g.W, iv g.H, iv g.Layers, .slice g_BlockedA g.Blocked.length g_BlockedC]] w) ?_ ?_
                    · rintro a w ⟨c1, h, hf, hs⟩
                      unfold M_route_LeastTree_k7 at h
                      refine C.cond hf (b := c1) rfl (fun hc => ?_) (fun hc => ?_)
                      · replace h := h.1 hc
                        refine R.list ?_
                        refine S.p hf hs (.slice l10A l10.length l10C) rfl rfl fun a hf => ?_
                        refine S.p hf hs (iv (k6 : Int)) rfl rfl fun a hf => ?_
                        refine S.p hf hs (iv xk6) rfl rfl fun a hf => ?_
                        refine S.p hf hs (iv x4) rfl rfl fun a hf => ?_
                        refine S.p hf hs (iv (w64 (xk6 + x4))) rfl rfl fun a hf => ?_
                        obtain ⟨h0x5, x5, hx5, h⟩ := h
                        refine S.v hf hs (elemPtr l10A (k6 * 1)) rfl (V.index rfl rfl rfl Try.runUnderlying55 Try.sizeOf3 (hs.ownSome 0 rfl (lt_of_get hx5)) (Int.natCast_nonneg _) (lt_of_get hx5) rfl) fun a hf => ?_
                        refine S.storeOwn (off := 0) 0 hf hs rfl rfl (w64 (xk6 + x4)) [iv (w64 (xk6 + x4))] rfl hx5 rfl rfl rfl rfl rfl Try.sizeOf3 rfl (by decide) rfl rfl (fun a w hf hs => ?_)
                        replace hf := hf.tell 15 (v := .slice l10A (l10.set k6 (w64 (xk6 + x4))).length l10C) ((hf.get 15 (.slice l10A l10.length l10C) rfl).trans (congrArg (fun n => Value.slice l10A n l10C) List.length_set.symm))
                        replace hf := hf.tell 144 (v := .slice l10A (l10.set k6 (w64 (xk6 + x4))).length l10C) ((hf.get 144 (.slice l10A l10.length l10C) rfl).trans (congrArg (fun n => Value.slice l10A n l10C) List.length_set.symm))
                        refine R.nil ?_
                        refine X.blk ?_
                        refine X.then_ ?_
                        refine R.list ?_
                        refine S.v hf hs (iv ((k6 + 1 : Nat) : Int)) rfl (V.incr rfl rfl rfl hltk6 hlenk6) fun a hf => ?_
                        refine S.p hf hs (iv ((k6 + 1 : Nat) : Int)) rfl rfl fun a hf => ?_
                        refine R.nil ?_
                        refine X.then_ ?_
                        exact ⟨xk6, llk6, rfl, k6 + 1, (l10.set k6 (w64 (xk6 + x4))), l10A, l10C, range_drop hlk6, range_len hkk6, (by rw [hnext5] at h; exact h), ((((((((((hf.nil.cons (hf.get 106 _ rfl)).cons (hf.get 105 _ rfl)).cons (hf.get 19 _ rfl)).cons (hf.get 15 _ rfl)).cons (hf.get 14 _ rfl)).cons (hf.get 13 _ rfl)).cons (hf.get 9 _ rfl)).cons (hf.get 3 _ rfl)).cons (hf.get 2 _ rfl)).cons (hf.get 107 _ rfl)), hs⟩
                      · replace h := h.2 hc
                        refine wp_skip ?_
                        refine X.blk ?_
                        refine X.then_ ?_
                        refine R.list ?_
                        refine S.v hf hs (iv ((k6 + 1 : Nat) : Int)) rfl (V.incr rfl rfl rfl hltk6 hlenk6) fun a hf => ?_
                        refine S.p hf hs (iv ((k6 + 1 : Nat) : Int)) rfl rfl fun a hf => ?_
                        refine R.nil ?_
                        refine X.then_ ?_
                        exact ⟨xk6, llk6, rfl, k6 + 1, l10, l10A, l10C, range_drop hlk6, range_len hkk6, (by rw [hnext5] at h; exact h), ((((((((((hf.nil.cons (hf.get 106 _ rfl)).cons (hf.get 105 _ rfl)).cons (hf.get 19 _ rfl)).cons (hf.get 15 _ rfl)).cons (hf.get 14 _ rfl)).cons (hf.get 13 _ rfl)).cons (hf.get 9 _ rfl)).cons (hf.get 3 _ rfl)).cons (hf.get 2 _ rfl)).cons (hf.get 107 _ rfl)), hs⟩
                    · skip
                      refine R.list ?_
                      refine S.p hf hs (iv xk6) rfl rfl fun a hf => ?_
                      refine S.p hf hs (.bool (decide (xk6 ≥ 0))) rfl rfl fun a hf => ?_
                      refine S.split hf hs (b := decide (xk6 ≥ 0)) rfl rfl rfl (V.pure rfl) (fun hc a hf => ?_) (fun hc a hf => ?_)
                      · replace h := h.1 hc
                        refine S.p hf hs (iv x4) rfl rfl fun a hf => ?_
                        refine S.p hf hs (.bool (decide (x4 ≥ 0))) rfl rfl fun a hf => ?_
                        refine S.p hf hs (.bool (decide (x4 ≥ 0))) rfl rfl fun a hf => ?_
                        refine S.split hf hs (b := decide (x4 ≥ 0)) rfl rfl rfl (V.pure rfl) (fun hc a hf => ?_) (fun hc a hf => ?_)
                        · replace h := h.1 hc
                          refine S.p hf hs (.slice l10A l10.length l10C) rfl rfl fun a hf => ?_
                          refine S.p hf hs (iv (k6 : Int)) rfl rfl fun a hf => ?_
                          obtain ⟨h0x6, x6, hx6, h⟩ := h
                          refine S.v hf hs (elemPtr l10A (k6 * 1)) rfl (V.index rfl rfl rfl Try.runUnderlying55 Try.sizeOf3 (hs.ownSome 0 rfl (lt_of_get hx6)) (Int.natCast_nonneg _) (lt_of_get hx6) rfl) fun a hf => ?_
                          refine S.v hf hs (iv x6) rfl (V.loadOwn (off := 0) 0 rfl hx6 rfl rfl rfl Try.isAgg3 Try.sizeOf3 rfl rfl) fun a hf => ?_
                          refine S.p hf hs (.bool (decide (x6 < 0))) rfl rfl fun a hf => ?_
                          refine S.split hf hs (b := decide (x6 < 0)) rfl rfl rfl (V.pure rfl) (fun hc a hf => ?_) (fun hc a hf => ?_)
                          · replace h := h.1 hc
                            refine S.k hf rfl fun a hf => ?_
                            refine S.k hf rfl fun a hf => ?_
                            refine S.k hf rfl fun a hf => ?_
                            refine S.k hf rfl fun a hf => ?_
                            refine S.k hf rfl fun a hf => ?_
                            refine S.k hf rfl fun a hf => ?_
                            refine S.k hf rfl fun a hf => ?_
                            refine S.k hf rfl fun a hf => ?_
                            refine S.p hf hs (.bool true) rfl rfl fun a hf => ?_
                            refine S.p hf hs (.bool true) rfl rfl fun a hf => ?_
                            refine R.nil ?_
                            refine X.then_ ?_
                            exact ⟨true, h, ((((((((((((((hf.nil.cons (hf.get 143 _ rfl)).cons (hf.get 107 _ rfl)).cons (hf.get 106 _ rfl)).cons (hf.get 105 _ rfl)).cons (hf.get 22 _ rfl)).cons (hf.get 21 _ rfl)).cons (hf.get 20 _ rfl)).cons (hf.get 19 _ rfl)).cons (hf.get 15 _ rfl)).cons (hf.get 14 _ rfl)).cons (hf.get 13 _ rfl)).cons (hf.get 9 _ rfl)).cons (hf.get 3 _ rfl)).cons (hf.get 2 _ rfl)), hs⟩
                          · replace h := h.2 hc
                            refine S.p hf hs (iv xk6) rfl rfl fun a hf => ?_
                            refine S.p hf hs (iv x4) rfl rfl fun a hf => ?_
                            refine S.p hf hs (iv (w64 (xk6 + x4))) rfl rfl fun a hf => ?_
                            refine S.p hf hs (.slice l10A l10.length l10C) rfl rfl fun a hf => ?_
                            refine S.p hf hs (iv (k6 : Int)) rfl rfl fun a hf => ?_
                            refine S.v hf hs (elemPtr l10A (k6 * 1)) rfl (V.index rfl rfl rfl Try.runUnderlying55 Try.sizeOf3 (hs.ownSome 0 rfl (lt_of_get hx6)) (Int.natCast_nonneg _) (lt_of_get hx6) rfl) fun a hf => ?_
                            refine S.v hf hs (iv x6) rfl (V.loadOwn (off := 0) 0 rfl hx6 rfl rfl rfl Try.isAgg3 Try.sizeOf3 rfl rfl) fun a hf => ?_
                            refine S.p hf hs (.bool (decide (w64 (xk6 + x4) < x6))) rfl rfl fun a hf => ?_
                            refine S.p hf hs (.bool (decide (w64 (xk6 + x4) < x6))) rfl rfl fun a hf => ?_
                            refine S.p hf hs (.bool (decide (w64 (xk6 + x4) < x6))) rfl rfl fun a hf => ?_
                            refine R.nil ?_
                            refine X.then_ ?_
                            exact ⟨(decide (w64 (xk6 + x4) < x6)), h, ((((((((((((((hf.nil.cons (hf.get 143 _ rfl)).cons (hf.get 107 _ rfl)).cons (hf.get 106 _ rfl)).cons (hf.get 105 _ rfl)).cons (hf.get 22 _ rfl)).cons (hf.get 21 _ rfl)).cons (hf.get 20 _ rfl)).cons (hf.get 19 _ rfl)).cons (hf.get 15 _ rfl)).cons (hf.get 14 _ rfl)).cons (hf.get 13 _ rfl)).cons (hf.get 9 _ rfl)).cons (hf.get 3 _ rfl)).cons (hf.get 2 _ rfl)), hs⟩
                        · replace h := h.2 hc
                          refine S.k hf rfl fun a hf => ?_
                          refine S.k hf rfl fun a hf => ?_
                          refine S.k hf rfl fun a hf => ?_
                          refine S.k hf rfl fun a hf => ?_
                          refine S.k hf rfl fun a hf => ?_
                          refine S.k hf rfl fun a hf => ?_
                          refine S.k hf rfl fun a hf => ?_
                          refine S.k hf rfl fun a hf => ?_
                          refine S.k hf rfl fun a hf => ?_
                          refine S.k hf rfl fun a hf => ?_
                          refine S.k hf rfl fun a hf => ?_
                          refine S.k hf rfl fun a hf => ?_
                          refine S.k hf rfl fun a hf => ?_
                          refine S.k hf rfl fun a hf => ?_
                          refine S.k hf rfl fun a hf => ?_
                          refine S.p hf hs (.bool false) rfl rfl fun a hf => ?_
                          refine R.nil ?_
                          refine X.then_ ?_
                          exact ⟨false, h, ((((((((((((((hf.nil.cons (hf.get 143 _ rfl)).cons (hf.get 107 _ rfl)).cons (hf.get 106 _ rfl)).cons (hf.get 105 _ rfl)).cons (hf.get 22 _ rfl)).cons (hf.get 21 _ rfl)).cons (hf.get 20 _ rfl)).cons (hf.get 19 _ rfl)).cons (hf.get 15 _ rfl)).cons (hf.get 14 _ rfl)).cons (hf.get 13 _ rfl)).cons (hf.get 9 _ rfl)).cons (hf.get 3 _ rfl)).cons (hf.get 2 _ rfl)), hs⟩
                      · replace h := h.2 hc
                        refine S.k hf rfl fun a hf => ?_
                        refine S.k hf rfl fun a hf => ?_
                        refine S.p hf hs (.bool false) rfl rfl fun a hf => ?_
                        refine S.p hf hs (.bool false) rfl rfl fun a hf => ?_
                        refine S.k hf rfl fun a hf => ?_
                        refine S.k hf rfl fun a hf => ?_
                        refine S.k hf rfl fun a hf => ?_
                        refine S.k hf rfl fun a hf => ?_
                        refine S.k hf rfl fun a hf => ?_
                        refine S.k hf rfl fun a hf => ?_
                        refine S.k hf rfl fun a hf => ?_
                        refine S.k hf rfl fun a hf => ?_
                        refine S.k hf rfl fun a hf => ?_
                        refine S.k hf rfl fun a hf => ?_
                        refine S.k hf rfl fun a hf => ?_
                        refine S.k hf rfl fun a hf => ?_
                        refine S.k hf rfl fun a hf => ?_
                        refine S.k hf rfl fun a hf => ?_
                        refine S.k hf rfl fun a hf => ?_
                        refine S.p hf hs (.bool false) rfl rfl fun a hf => ?_
                        refine R.nil ?_
                        refine X.then_ ?_
                        exact ⟨false, h, ((((((((((((((hf.nil.cons (hf.get 143 _ rfl)).cons (hf.get 107 _ rfl)).cons (hf.get 106 _ rfl)).cons (hf.get 105 _ rfl)).cons (hf.get 22 _ rfl)).cons (hf.get 21 _ rfl)).cons (hf.get 20 _ rfl)).cons (hf.get 19 _ rfl)).cons (hf.get 15 _ rfl)).cons (hf.get 14 _ rfl)).cons (hf.get 13 _ rfl)).cons (hf.get 9 _ rfl)).cons (hf.get 3 _ rfl)).cons (hf.get 2 _ rfl)), hs⟩
                · replace h := h.2 hc
                  refine wp_exit ?_
                  refine X.then_exit ?_
                  refine X.then_exit ?_
                  refine X.blk_exit ?_
                  refine X.then_ ?_
                  refine wp_seq ?_
                  refine R.list ?_
                  refine S.p hf hs ((pn y1g 0)) rfl rfl fun a hf => ?_
                  refine S.p hf hs (.slice l8A l8.length l8C) rfl rfl fun a hf => ?_
                  obtain ⟨F1, hsF, hback, hold, hrest⟩ := Sat.callOwns [hown 3 l8A l8C l8] (σ := [hrows 55 3 l2A l2C l2as l2, hbox y1g 68 [iv g.W, iv g.H, iv g.Layers, .slice g_BlockedA g.Blocked.length g_BlockedC, iv c.Step, iv c.Via, iv c.Turn, iv c.Against, .slice y1A0 y1.length y1C0], hown 4 y1A0 y1C0 y1, hbox g2 26 [iv c.Step, iv c.Via, iv c.Turn, iv c.Against], hbox g1 24 [iv g.W, iv g.H, iv g.Layers, .slice g_BlockedA g.Blocked.length g_BlockedC]]) hs
                  refine S.call hf rfl rfl rfl (call_fn (vs := [(pn y1g 0), .slice l8A l8.length l8C]) rfl rfl rfl Try.call58) (R_finder_spread (⟨g, c, y1⟩ : RouteFinder) l8 _ _ g_BlockedA g_BlockedC (viewArgsF hs hold hv_g_Blocked) y1A0 y1C0 (ownViewF hrest 2 rfl) y1g (boxAtF hrest 1 rfl) l8A l8C hsF _ h) (fun v a w' hf hr => ?_)
                  obtain ⟨z1, hl_z1, rfl, h2, hs2⟩ := hr
                  replace h := h2; replace hs := hback _ _ hs2; clear h2 hs2 hback hold hrest hsF
                  replace hf := hf.tell 15 (v := .slice l8A z1.length l8C) ((hf.get 15 (.slice l8A l8.length l8C) rfl).trans (congrArg (fun n => Value.slice l8A n l8C) hl_z1.symm))
                  replace hf := hf.tell 152 (v := .slice l8A z1.length l8C) ((hf.get 152 (.slice l8A l8.length l8C) rfl).trans (congrArg (fun n => Value.slice l8A n l8C) hl_z1.symm))
                  refine R.nil ?_
                  refine X.then_ ?_
                  refine R.list ?_
                  refine S.p hf hs (.slice l2A l2.length l2C) rfl rfl fun a hf => ?_
                  refine S.p hf hs (iv n3) rfl rfl fun a hf => ?_
                  refine S.p hf hs (.slice l8A z1.length l8C) rfl rfl fun a hf => ?_
                  obtain ⟨h0x7, x7, hx7, h⟩ := h
                  refine S.v hf hs (elemPtr l2A (n3.toNat * 1)) rfl (V.index rfl rfl rfl Try.runUnderlying83 Try.sizeOf55 (hs.rowsSome 1 rfl hx7) h0x7 (lt_of_get hx7) rfl) fun a hf => ?_
                  obtain ⟨B3, D3, hrB3⟩ := hs.rowAt 1 rfl hx7
                  refine S.putRow (off := 0) 0 hf hs rfl rfl z1 [.slice l8A z1.length l8C] rfl hx7 hrB3 rfl rfl rfl rfl rfl rfl Try.sizeOf55 rfl (by decide) rfl rfl (fun a w hf hs => ?_)
                  replace hf := hf.tell 13 (v := .slice l2A (l2.set n3.toNat z1).length l2C) ((hf.get 13 (.slice l2A l2.length l2C) rfl).trans (congrArg (fun n => Value.slice l2A n l2C) List.length_set.symm))
                  replace hf := hf.tell 154 (v := .slice l2A (l2.set n3.toNat z1).length l2C) ((hf.get 154 (.slice l2A l2.length l2C) rfl).trans (congrArg (fun n => Value.slice l2A n l2C) List.length_set.symm))
                  have hx1 : (l2.set n3.toNat z1)[n3.toNat]? = some z1 := List.getElem?_set_self (lt_of_get hx7)
                  have hr1 : (l2as.set n3.toNat (l8A, l8C))[n3.toNat]? = some (l8A, l8C) := List.getElem?_set_self (lt_of_get hrB3)
                  refine R.nil ?_
                  refine X.blk ?_
                  refine X.then_ ?_
                  refine R.list ?_
                  refine S.p hf hs (iv n3) rfl rfl fun a hf => ?_
                  refine S.p hf hs (iv (w64 (n3 + 1))) rfl rfl fun a hf => ?_
                  refine S.p hf hs (iv (w64 (n3 + 1))) rfl rfl fun a hf => ?_
                  refine R.nil ?_
                  refine X.then_ ?_
                  exact ⟨(l2.set n3.toNat z1), l2A, l2C, (l2as.set n3.toNat (l8A, l8C)), (w64 (n3 + 1)), (by rw [hagain1] at h; exact h), (((((hf.nil.cons (hf.get 14 _ rfl)).cons (hf.get 13 _ rfl)).cons (hf.get 9 _ rfl)).cons (hf.get 3 _ rfl)).cons (hf.get 2 _ rfl)), hs⟩
              | cons xk4 llk4 =>
                have hltk4 := range_lt hkk4; have hc := range_go hkk4; have hxk4 := range_get hlk4
                obtain ⟨next3, hnext3⟩ : ∃ X : List Int → Prop, X = (fun l6 => forIn' (fun k x (s : List Int) next => M_route_LeastTree_L3 g n3 k x s (fun l6 => next l6)) (fun (s : List Int) => (fun (l6 : List Int) => lp (fun again (s : List Int × Int) => M_route_LeastTree_L4 g c y1 l2 n3 again1 (fun l8 n7 => again (l8, n7)) s.1 s.2) (l6, andI .i64 (w64 (n3 - 1)) n3)) s) llk4 (k4 + 1) l6) := ⟨_, rfl⟩
                replace h : M_route_LeastTree_L3 g n3 k4 xk4 l6 next3 := by rw [hnext3]; exact h
                unfold M_route_LeastTree_L3 at h
                refine wp_seq ?_
                refine R.list ?_
                refine S.v hf hs (.bool true) rfl (V.cmp true rfl rfl rfl rfl hc) fun a hf => ?_
                refine R.nil ?_
                refine X.then_ ?_
                refine wp_seq ?_
                refine C.yes hf rfl ?_
                refine wp_skip ?_
                refine X.then_ ?_
                refine wp_seq ?_
                refine wp_block ?_
                refine wp_seq ?_
                refine R.list ?_
                refine S.p hf hs (iv (k4 : Int)) rfl rfl fun a hf => ?_
                refine S.v hf hs (elemPtr pinsA (k4 * 3)) rfl (V.index rfl rfl rfl Try.runUnderlying22 Try.sizeOf28 (hv_pins.some_ (lt_of_get hxk4)) (Int.natCast_nonneg _) (lt_of_get hxk4) rfl) fun a hf => ?_
                refine S.v hf hs (.agg #[iv xk4.X, iv xk4.Y, iv xk4.Layer]) rfl (V.loadEl (off := 0) (Ag.args _ _ _) (hv_pins.flat hxk4) rfl rfl rfl Try.isAgg28 Try.sizeOf28 rfl rfl) fun a hf => ?_
                refine S.alloc hf hs rfl rfl rfl [iv 0, iv 0, iv 0] rfl Try.zeroValue28 rfl (fun g3 a w hf hs => ?_)
                refine S.p hf hs (iv (k4 : Int)) rfl rfl fun a hf => ?_
                refine S.storeBox 0 hf hs rfl rfl [iv xk4.X, iv xk4.Y, iv xk4.Layer] [iv xk4.X, iv xk4.Y, iv xk4.Layer] rfl rfl rfl rfl rfl Try.sizeOf28 rfl rfl rfl rfl (fun a w hf hs => ?_)
                refine R.nil ?_
                refine X.then_ ?_
                refine wp_seq ?_
                refine R.list ?_
                refine S.p hf hs (iv n3) rfl rfl fun a hf => ?_
                refine S.p hf hs (iv (k4 : Int)) rfl rfl fun a hf => ?_
                obtain ⟨hsh, h⟩ := h
                refine S.v hf hs (iv (shlI .i64 1 (k4 : Int))) rfl (V.shl rfl rfl rfl hsh) fun a hf => ?_
                refine S.p hf hs (.bool (n3 == (shlI .i64 1 (k4 : Int)))) rfl rfl fun a hf => ?_
                refine R.nil ?_
                refine X.then_ ?_
                refine C.cond hf (b := n3 == (shlI .i64 1 (k4 : Int))) rfl (fun hc => ?_) (fun hc => ?_)
                · replace h := h.1 hc
                  refine R.list ?_
                  refine S.p hf hs (.slice l6A l6.length l6C) rfl rfl fun a hf => ?_
                  refine S.v hf hs (.agg #[iv g.W, iv g.H, iv g.Layers, .slice g_BlockedA g.Blocked.length g_BlockedC]) rfl (V.loadBox 6 rfl rfl rfl Try.isAgg24 Try.sizeOf24 rfl rfl) fun a hf => ?_
                  refine S.v hf hs (.agg #[iv xk4.X, iv xk4.Y, iv xk4.Layer]) rfl (V.loadBox 0 rfl rfl rfl Try.isAgg28 Try.sizeOf28 rfl rfl) fun a hf => ?_
                  refine S.call hf rfl rfl rfl (call_fn (vs := [.agg #[iv g.W, iv g.H, iv g.Layers, .slice g_BlockedA g.Blocked.length g_BlockedC], .agg #[iv xk4.X, iv xk4.Y, iv xk4.Layer]]) rfl rfl rfl Try.call36) (R_route_number g xk4 _ g_BlockedA g_BlockedC ((Ag.args _ _ _).view hv_g_Blocked hs) _ h) (fun v a w' hf hr => ?_)
                  obtain ⟨y4, rfl, h2, hs2⟩ := hr
                  replace h := h2; replace hs := hs.call hs2; clear h2 hs2
                  obtain ⟨h0x8, x8, hx8, h⟩ := h
                  refine S.v hf hs (elemPtr l6A (y4.toNat * 1)) rfl (V.index rfl rfl rfl Try.runUnderlying55 Try.sizeOf3 (hs.ownSome 1 rfl (lt_of_get hx8)) h0x8 (lt_of_get hx8) rfl) fun a hf => ?_
                  refine S.storeOwn (off := 0) 1 hf hs rfl rfl 0 [iv 0] rfl hx8 rfl rfl rfl rfl rfl Try.sizeOf3 rfl (by decide) rfl rfl (fun a w hf hs => ?_)
                  replace hf := hf.tell 15 (v := .slice l6A (l6.set y4.toNat 0).length l6C) ((hf.get 15 (.slice l6A l6.length l6C) rfl).trans (congrArg (fun n => Value.slice l6A n l6C) List.length_set.symm))
                  replace hf := hf.tell 86 (v := .slice l6A (l6.set y4.toNat 0).length l6C) ((hf.get 86 (.slice l6A l6.length l6C) rfl).trans (congrArg (fun n => Value.slice l6A n l6C) List.length_set.symm))
                  refine R.nil ?_
                  refine X.blk ?_
                  refine X.then_ ?_
                  refine R.list ?_
                  refine S.v hf hs (iv ((k4 + 1 : Nat) : Int)) rfl (V.incr rfl rfl rfl hltk4 hlenk4) fun a hf => ?_
                  refine S.p hf hs (iv ((k4 + 1 : Nat) : Int)) rfl rfl fun a hf => ?_
                  refine R.nil ?_
                  refine X.then_ ?_
                  exact ⟨xk4, llk4, rfl, k4 + 1, (l6.set y4.toNat 0), l6A, l6C, range_drop hlk4, range_len hkk4, (by rw [hnext3] at h; exact h), (((((((((hf.nil.cons (hf.get 76 _ rfl)).cons (hf.get 75 _ rfl)).cons (hf.get 15 _ rfl)).cons (hf.get 14 _ rfl)).cons (hf.get 13 _ rfl)).cons (hf.get 9 _ rfl)).cons (hf.get 3 _ rfl)).cons (hf.get 2 _ rfl)).cons (hf.get 77 _ rfl)), hs.drop⟩
                · replace h := h.2 hc
                  refine wp_skip ?_
                  refine X.blk ?_
                  refine X.then_ ?_
                  refine R.list ?_
                  refine S.v hf hs (iv ((k4 + 1 : Nat) : Int)) rfl (V.incr rfl rfl rfl hltk4 hlenk4) fun a hf => ?_
                  refine S.p hf hs (iv ((k4 + 1 : Nat) : Int)) rfl rfl fun a hf => ?_
                  refine R.nil ?_
                  refine X.then_ ?_
                  exact ⟨xk4, llk4, rfl, k4 + 1, l6, l6A, l6C, range_drop hlk4, range_len hkk4, (by rw [hnext3] at h; exact h), (((((((((hf.nil.cons (hf.get 76 _ rfl)).cons (hf.get 75 _ rfl)).cons (hf.get 15 _ rfl)).cons (hf.get 14 _ rfl)).cons (hf.get 13 _ rfl)).cons (hf.get 9 _ rfl)).cons (hf.get 3 _ rfl)).cons (hf.get 2 _ rfl)).cons (hf.get 77 _ rfl)), hs.drop⟩
          · replace h := h.2 hc
            refine wp_exit ?_
            refine X.then_exit ?_
            refine X.then_exit ?_
            refine X.blk_exit ?_
            refine X.then_ ?_
            refine wp_seq ?_
            refine H.start (S := Sat w0 none_ [hrows 55 3 l2A l2C l2as l2, hbox y1g 68 [iv g.W, iv g.H, iv g.Layers, .slice g_BlockedA g.Blocked.length g_BlockedC, iv c.Step, iv c.Via, iv c.Turn, iv c.Against, .slice y1A0 y1.length y1C0], hown 4 y1A0 y1C0 y1, hbox g2 26 [iv c.Step, iv c.Via, iv c.Turn, iv c.Against], hbox g1 24 [iv g.W, iv g.H, iv g.Layers, .slice g_BlockedA g.Blocked.length g_BlockedC]]) mo ?_
            replace hs := hs.drew
            refine H.v hf hs (.slice l2A l2.length l2C) 0 rfl rfl (by kernel_rfl) (V.pure rfl) fun a hf => ?_
            refine H.v hf hs (.slice l2A l2.length l2C) 1 rfl rfl (by kernel_rfl) (V.pure rfl) fun a hf => ?_
            refine H.v hf hs (iv (l2.length : Int)) 2 rfl rfl (by kernel_rfl) (V.len rfl rfl Try.runUnderlying83) fun a hf => ?_
            refine H.v hf hs (iv (w64 ((l2.length : Int) - 1))) 3 rfl rfl (by kernel_rfl) (V.pure rfl) fun a hf => ?_
            obtain ⟨h0x9, x9, hx9, h⟩ := h
            refine H.v hf hs (elemPtr l2A ((w64 ((l2.length : Int) - 1)).toNat * 1)) 4 rfl rfl (by kernel_rfl) (V.index rfl rfl rfl Try.runUnderlying83 Try.sizeOf55 (hs.rowsSome 0 rfl hx9) h0x9 (lt_of_get hx9) rfl) fun a hf => ?_
            obtain ⟨B4, D4, hrB4⟩ := hs.rowAt 0 rfl hx9
            refine H.v hf hs (.slice B4 x9.length D4) 5 rfl rfl (by kernel_rfl) (V.loadRows (off := 0) 0 rfl hx9 hrB4 rfl rfl rfl Try.isAgg55 Try.sizeOf55 rfl rfl) fun a hf => ?_
            refine H.v hf hs (.agg #[iv g.W, iv g.H, iv g.Layers, .slice g_BlockedA g.Blocked.length g_BlockedC]) 6 rfl rfl (by kernel_rfl) (V.loadBox 4 rfl rfl rfl Try.isAgg24 Try.sizeOf24 rfl rfl) fun a hf => ?_
            refine H.v hf hs (.slice pinsA pins.length pinsC) 7 rfl rfl (by kernel_rfl) (V.pure rfl) fun a hf => ?_
            obtain ⟨h0x10, x10, hx10, h⟩ := h
            refine H.v hf hs (elemPtr pinsA (0 * 3)) 8 rfl rfl (by kernel_rfl) (V.index rfl rfl rfl Try.runUnderlying22 Try.sizeOf28 (hv_pins.some_ (lt_of_get hx10)) h0x10 (lt_of_get hx10) rfl) fun a hf => ?_
            refine H.v hf hs (.agg #[iv x10.X, iv x10.Y, iv x10.Layer]) 9 rfl rfl (by kernel_rfl) (V.loadEl (off := 0) (Ag.args _ _ _) (hv_pins.flat hx10) rfl rfl rfl Try.isAgg28 Try.sizeOf28 rfl rfl) fun a hf => ?_
            refine H.one (i := 10) rfl (by kernel_rfl) ?_
            refine S.call hf rfl rfl rfl (call_fn (vs := [.agg #[iv g.W, iv g.H, iv g.Layers, .slice g_BlockedA g.Blocked.length g_BlockedC], .agg #[iv x10.X, iv x10.Y, iv x10.Layer]]) rfl rfl rfl Try.call36) (R_route_number g x10 _ g_BlockedA g_BlockedC ((Ag.args _ _ _).view hv_g_Blocked hs) _ h) (fun v a w' hf hr => ?_)
            obtain ⟨y5, rfl, h2, hs2⟩ := hr
            replace h := h2; replace hs := hs.call hs2; clear h2 hs2
            refine R.nil ?_
            refine X.then_ ?_
            refine ⟨hs, ?_⟩
            obtain ⟨h0x11, x11, hx11, h⟩ := h
            refine H.v hf hs (elemPtr B4 (y5.toNat * 1)) 11 rfl rfl (by kernel_rfl) (V.index rfl rfl rfl Try.runUnderlying55 Try.sizeOf3 ((hs.rowView 0 rfl hx9 hrB4).some_ (lt_of_get hx11)) h0x11 (lt_of_get hx11) rfl) fun a hf => ?_
            refine H.v hf hs (iv x11) 12 rfl rfl (by kernel_rfl) (V.loadRowEl (off := 0) 0 rfl hx9 hrB4 hx11 rfl rfl rfl Try.isAgg3 Try.sizeOf3 rfl rfl) fun a hf => ?_
            refine H.v hf hs (iv x11) 13 rfl rfl (by kernel_rfl) (V.pure rfl) fun a hf => ?_
            refine H.done (by kernel_rfl) ?_
            refine X.then_ ?_
            refine wp_seq ?_
            refine wp_seq ?_
            refine R.list ?_
            refine S.p hf hs (iv x11) rfl rfl fun a hf => ?_
            refine S.p hf hs (.bool (decide (x11 < 0))) rfl rfl fun a hf => ?_
            refine R.nil ?_
            refine X.then_ ?_
            refine C.cond hf (b := decide (x11 < 0)) rfl (fun hc => ?_) (fun hc => ?_)
            · replace h := h.1 hc
              refine wp_seq ?_
              refine R.list ?_
              refine S.p hf hs (iv 0) rfl rfl fun a hf => ?_
              refine S.p hf hs (.bool false) rfl rfl fun a hf => ?_
              refine S.p hf hs (iv 0) rfl rfl fun a hf => ?_
              refine R.nil ?_
              refine X.then_ ?_
              refine wp_ret ?_
              refine X.then_ret ?_
              exact L.ret hf (run_results3 Try.results28 (ResIs.tmp hf rfl) (ResIs.tmp hf rfl) (ResIs.tmp hf rfl)) ⟨0, false, 0, rfl, h, hs.nil⟩
            · replace h := h.2 hc
              refine wp_skip ?_
              refine X.then_ ?_
              refine wp_seq ?_
              refine R.list ?_
              refine S.p hf hs (iv x11) rfl rfl fun a hf => ?_
              refine S.p hf hs (iv x11) rfl rfl fun a hf => ?_
              refine S.p hf hs (.bool true) rfl rfl fun a hf => ?_
              refine S.p hf hs (iv 0) rfl rfl fun a hf => ?_
              refine R.nil ?_
              refine X.then_ ?_
              refine wp_ret ?_
              exact L.ret hf (run_results3 Try.results28 (ResIs.tmp hf rfl) (ResIs.tmp hf rfl) (ResIs.tmp hf rfl)) ⟨x11, true, 0, rfl, h, hs.nil⟩
      · skip
        refine wp_seq ?_
        refine R.list ?_
        refine S.p hf hs ((pn y1g 0)) rfl rfl fun a hf => ?_
        refine S.p hf hs ((pn y1g 0)) rfl rfl fun a hf => ?_
        refine S.v hf hs ((pn y1g 8)) rfl (V.fieldBox rfl rfl Try.runUnderlying68 rfl Try.sizeOf66 rfl rfl) fun a hf => ?_
        refine S.v hf hs (.slice y1A0 y1.length y1C0) rfl (V.loadBox 0 rfl rfl rfl Try.isAgg66 Try.sizeOf66 rfl rfl) fun a hf => ?_
        refine S.v hf hs (iv (y1.length : Int)) rfl (V.len rfl rfl Try.runUnderlying66) fun a hf => ?_
        refine S.p hf hs (.bool (decide ((y1.length : Int) > 400))) rfl rfl fun a hf => ?_
        refine R.nil ?_
        refine X.then_ ?_
        refine C.cond hf (b := decide ((y1.length : Int) > 400)) rfl (fun hc => ?_) (fun hc => ?_)
        · replace h := h.1 hc
          refine R.list ?_
          refine S.p hf hs (iv 0) rfl rfl fun a hf => ?_
          refine R.nil ?_
          refine X.then_ ?_
          exact ⟨0, h, ((((hf.nil.cons (hf.get 11 _ rfl)).cons (hf.get 9 _ rfl)).cons (hf.get 3 _ rfl)).cons (hf.get 2 _ rfl)), hs⟩
        · replace h := h.2 hc
          refine wp_skip ?_
          refine X.then_ ?_
          exact ⟨6, h, ((((hf.nil.cons (hf.get 11 _ rfl)).cons (hf.get 9 _ rfl)).cons (hf.get 3 _ rfl)).cons (hf.get 2 _ rfl)), hs⟩


end Go.Proofs.Ytihjaehkdgdenaa
