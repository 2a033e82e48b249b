/- Chapter 7: the reference's least tree: the walk. -/
import Derived.Test.YtihjaehkdgdenaaRtX2a
namespace Go.Proofs.Ytihjaehkdgdenaa
open Go Go.RowKit
set_option linter.unusedVariables false

set_option linter.unusedVariables false
def M_ref7_LeastTree_k6 (n3 : Int) (n7 : Int) (again3 : List (List Int) → Int → Prop) (l8 : List (List Int)) : Prop :=
  again3 l8 (andI .i64 (w64 (n7 - 1)) n3)
def M_ref7_LeastTree_k7 (n3 : Int) (n5 : Int) (l7 : List (List Int)) (n7 : Int) (again3 : List (List Int) → Int → Prop) (x6 : Int) (x8 : Int) (c1 : Bool) : Prop :=
  cnd c1 (idx l7 n3 fun x9 => idx x9 n5 fun x10 => M_ref7_LeastTree_k6 n3 n7 again3 (l7.set n3.toNat (x9.set n5.toNat (w64 (x6 + x8))))) (M_ref7_LeastTree_k6 n3 n7 again3 l7)
def M_ref7_LeastTree_L3 (n3 : Int) (n5 : Int) (again2 : List (List Int) → Int → Prop) (again3 : List (List Int) → Int → Prop) (l7 : List (List Int)) (n7 : Int) : Prop :=
  cnd (decide (n7 > 0)) (idx l7 n7 fun x5 => idx x5 n5 fun x6 => idx l7 (xorI .i64 n3 n7) fun x7 => idx x7 n5 fun x8 => cnd (decide (x6 ≥ 0)) (cnd (decide (x8 ≥ 0)) (idx l7 n3 fun x11 => idx x11 n5 fun x12 => cnd (decide (x12 < 0)) (M_ref7_LeastTree_k7 n3 n5 l7 n7 again3 x6 x8 true) (M_ref7_LeastTree_k7 n3 n5 l7 n7 again3 x6 x8 (decide (w64 (x6 + x8) < x12)))) (M_ref7_LeastTree_k7 n3 n5 l7 n7 again3 x6 x8 false)) (M_ref7_LeastTree_k7 n3 n5 l7 n7 again3 x6 x8 false)) (again2 l7 (w64 (n5 + 1)))
def M_ref7_LeastTree_k4 (n3 : Int) (n5 : Int) (again2 : List (List Int) → Int → Prop) (l5 : List (List Int)) : Prop :=
  lp (fun again (s : List (List Int) × Int) => M_ref7_LeastTree_L3 n3 n5 again2 (fun l7 n7 => again (l7, n7)) s.1 s.2) (l5, andI .i64 (w64 (n3 - 1)) n3)
def M_ref7_LeastTree_k8 (n3 : Int) (l4 : List (List Int)) (n5 : Int) (again2 : List (List Int) → Int → Prop) (x3 : (List Int)) (c2 : Bool) : Prop :=
  cnd c2 (idx (x3.set n5.toNat (-1)) n5 fun x13 => M_ref7_LeastTree_k4 n3 n5 again2 ((l4.set n3.toNat (x3.set n5.toNat (-1))).set n3.toNat ((x3.set n5.toNat (-1)).set n5.toNat 0))) (M_ref7_LeastTree_k4 n3 n5 again2 (l4.set n3.toNat (x3.set n5.toNat (-1))))
def M_ref7_LeastTree_L2 (g : Grid) (c : Costs) (pins : (List Cell)) (y3 : ((List Bool) × (List R7Worth))) (n3 : Int) (again1 : List (List Int) → Int → Prop) (again2 : List (List Int) → Int → Prop) (l4 : List (List Int)) (n5 : Int) : Prop :=
  cnd (decide (n5 < (y3.1.length : Int))) (idx l4 n3 fun x3 => idx x3 n5 fun x4 => cnd ((andI .i64 n3 (w64 (n3 - 1))) == 0) (M_field_cell (⟨g, c, y3.1, y3.2⟩ : R7Field) n5 fun y4 => M_ref7_bitOf n3 fun y5 => idx pins y5 fun x14 => M_ref7_LeastTree_k8 n3 l4 n5 again2 x3 (decide (y4 = x14))) (M_ref7_LeastTree_k8 n3 l4 n5 again2 x3 false)) (idx l4 n3 fun x15 => M_field_grow (⟨g, c, y3.1, y3.2⟩ : R7Field) x15 fun z1 => again1 (l4.set n3.toNat z1) (w64 (n3 + 1)))
def M_ref7_LeastTree_L1 (g : Grid) (c : Costs) (pins : (List Cell)) (Q : Int → Bool → Int → Prop) (x1 : Cell) (y3 : ((List Bool) × (List R7Worth))) (again1 : List (List Int) → Int → Prop) (l2 : List (List Int)) (n3 : Int) : Prop :=
  cnd (decide (n3 < shlI .i64 1 (pins.length : Int))) (must (0 ≤ (y3.1.length : Int) ∧ (y3.1.length : Int) * 8 ≤ 281474976710656) (idx l2 n3 fun x2 => lp (fun again (s : List (List Int) × Int) => M_ref7_LeastTree_L2 g c pins y3 n3 again1 (fun l4 n5 => again (l4, n5)) s.1 s.2) ((l2.set n3.toNat (List.replicate y3.1.length (0 : Int))), 0))) (idx l2 (w64 ((shlI .i64 1 (pins.length : Int)) - 1)) fun x16 => M_field_at (⟨g, c, y3.1, y3.2⟩ : R7Field) x1 fun y6 => idx x16 y6 fun x17 => cnd (decide (x17 < 0)) (Q 0 false 0) (Q x17 true 0))
def M_ref7_LeastTree_k1 (g : Grid) (c : Costs) (pins : (List Cell)) (Q : Int → Bool → Int → Prop) (n1 : Int) : Prop :=
  cnd ((pins.length : Int) == 0) (Q 0 false 9) (M_ref7_checkPins g pins n1 fun y2 => cnd (y2 != 0) (Q 0 false y2) (idx pins 0 fun x1 => M_ref7_fieldOf g c x1 fun y3o => optq y3o (False) (fun y3 => must (0 ≤ (pins.length : Int)) (must (0 ≤ shlI .i64 1 (pins.length : Int) ∧ shlI .i64 1 (pins.length : Int) * 24 ≤ 281474976710656) (lp (fun again (s : List (List Int) × Int) => M_ref7_LeastTree_L1 g c pins Q x1 y3 (fun l2 n3 => again (l2, n3)) s.1 s.2) ((List.replicate ((shlI .i64 1 (pins.length : Int)).toNat) ([] : (List Int))), 1))))))
def M_ref7_LeastTree (g : Grid) (c : Costs) (pins : (List Cell)) (Q : Int → Bool → Int → Prop) : Prop :=
  M_ref7_askGrid g c fun y1 => cnd (y1 != 0) (Q 0 false y1) (cnd (decide (w64 ((w64 (g.W * g.H)) * g.Layers) > 400)) (M_ref7_LeastTree_k1 g c pins Q (-1)) (M_ref7_LeastTree_k1 g c pins Q 6))
set_option maxHeartbeats 1000000 in
theorem R_ref7_LeastTree (g : Grid) (c : Costs) (pins : (List Cell)) (w0 : World) (g_BlockedA : Option Addr) (g_BlockedC : Nat) (hv_g_Blocked : View w0 (old w0 none_) g_BlockedA g_BlockedC g.Blocked) (pinsA : Option Addr) (pinsC : Nat) (hv_pins : View w0 (old w0 none_) pinsA pinsC pins) (Q : Int → Bool → Int → Prop) (h : M_ref7_LeastTree g c pins Q) :
    Ret Try.prog 29 #[.agg #[iv g.W, iv g.H, iv g.Layers, .slice g_BlockedA g.Blocked.length g_BlockedC], .agg #[iv c.Step, iv c.Via, iv c.Turn, iv c.Against], .slice pinsA pins.length pinsC] w0 fun v w' => ∃ (r0 : Int) (r1 : Bool) (r2 : Int), v = .tuple #[iv r0, .bool r1, iv r2] ∧ Q r0 r1 r2 ∧ Sat w0 none_ [] w' := by
  refine fn_enter Try.func29 rfl Try.ntmps29 rfl (fs := [(0, .agg #[iv g.W, iv g.H, iv g.Layers, .slice g_BlockedA g.Blocked.length g_BlockedC]), (1, .agg #[iv c.Step, iv c.Via, iv c.Turn, iv c.Against]), (2, .slice pinsA pins.length pinsC)]) rfl (fun a hf => ?_)
  have hs := Sat.start w0 none_
  unfold M_ref7_LeastTree at h
  refine wp_seq ?_
  refine R.list ?_
  refine S.box hf hs rfl rfl rfl [iv g.W, iv g.H, iv g.Layers, .slice g_BlockedA g.Blocked.length g_BlockedC] rfl rfl rfl (fun g1 a w hf hs => ?_)
  refine S.box hf hs rfl rfl rfl [iv c.Step, iv c.Via, iv c.Turn, iv c.Against] rfl rfl rfl (fun g2 a w hf hs => ?_)
  refine S.p hf hs (iv 0) rfl rfl fun a hf => ?_
  refine S.p hf hs (.bool false) rfl rfl fun a hf => ?_
  refine S.p hf hs (iv 0) rfl rfl fun a hf => ?_
  refine R.nil ?_
  refine X.then_ ?_
  refine wp_seq ?_
  refine wp_seq ?_
  refine R.list ?_
  refine S.v hf hs (.agg #[iv g.W, iv g.H, iv g.Layers, .slice g_BlockedA g.Blocked.length g_BlockedC]) rfl (V.loadBox 1 rfl rfl rfl Try.isAgg24 Try.sizeOf24 rfl rfl) fun a hf => ?_
  refine S.v hf hs (.agg #[iv c.Step, iv c.Via, iv c.Turn, iv c.Against]) rfl (V.loadBox 0 rfl rfl rfl Try.isAgg26 Try.sizeOf26 rfl rfl) fun a hf => ?_
  refine S.call hf rfl rfl rfl (call_fn (vs := [.agg #[iv g.W, iv g.H, iv g.Layers, .slice g_BlockedA g.Blocked.length g_BlockedC], .agg #[iv c.Step, iv c.Via, iv c.Turn, iv c.Against]]) rfl rfl rfl Try.call51) (R_ref7_askGrid g c _ g_BlockedA g_BlockedC ((Ag.args _ _ _).view hv_g_Blocked hs) _ h) (fun v a w' hf hr => ?_)
  obtain ⟨y1, rfl, h2, hs2⟩ := hr
  replace h := h2; replace hs := hs.call hs2; clear h2 hs2
  refine S.p hf hs (iv y1) rfl rfl fun a hf => ?_
  refine R.nil ?_
  refine X.then_ ?_
  refine wp_seq ?_
  refine R.list ?_
  refine S.p hf hs (iv y1) rfl rfl fun a hf => ?_
  refine S.p hf hs (.bool (y1 != 0)) rfl rfl fun a hf => ?_
  refine R.nil ?_
  refine X.then_ ?_
  refine C.cond hf (b := y1 != 0) rfl (fun hc => ?_) (fun hc => ?_)
  · replace h := h.1 hc
    refine wp_seq ?_
    refine R.list ?_
    refine S.p hf hs (iv y1) rfl rfl fun a hf => ?_
    refine S.p hf hs (iv 0) rfl rfl fun a hf => ?_
    refine S.p hf hs (.bool false) rfl rfl fun a hf => ?_
    refine S.p hf hs (iv y1) rfl rfl fun a hf => ?_
    refine R.nil ?_
    refine X.then_ ?_
    refine wp_ret ?_
    refine X.then_ret ?_
    exact L.ret hf (run_results3 Try.results29 (ResIs.tmp hf rfl) (ResIs.tmp hf rfl) (ResIs.tmp hf rfl)) ⟨0, false, y1, rfl, h, hs.nil⟩
  · replace h := h.2 hc
    refine wp_skip ?_
    refine X.then_ ?_
    refine wp_seq ?_
    refine R.list ?_
    refine S.p hf hs (iv 6) rfl rfl fun a hf => ?_
    refine R.nil ?_
    refine X.then_ ?_
    refine wp_seq ?_
    refine C.cut (J := fun a w => ∃ (n1 : Int), M_ref7_LeastTree_k1 g c pins Q n1 ∧ FrOk 191 [(2, .slice pinsA pins.length pinsC), (3, (pn g1 0)), (4, (pn g2 0)), (10, iv n1)] a ∧ Sat w0 none_ [hbox g2 26 [iv c.Step, iv c.Via, iv c.Turn, iv c.Against], hbox g1 24 [iv g.W, iv g.H, iv g.Layers, .slice g_BlockedA g.Blocked.length g_BlockedC]] w) ?_ ?_
    · rintro a w ⟨n1, h, hf, hs⟩
      unfold M_ref7_LeastTree_k1 at h
      refine wp_seq ?_
      refine wp_seq ?_
      refine R.list ?_
      refine S.p hf hs (.slice pinsA pins.length pinsC) rfl rfl fun a hf => ?_
      refine S.v hf hs (iv (pins.length : Int)) rfl (V.len rfl rfl Try.runUnderlying22) fun a hf => ?_
      refine S.p hf hs (.bool ((pins.length : Int) == 0)) rfl rfl fun a hf => ?_
      refine R.nil ?_
      refine X.then_ ?_
      refine C.cond hf (b := (pins.length : Int) == 0) rfl (fun hc => ?_) (fun hc => ?_)
      · replace h := h.1 hc
        refine wp_seq ?_
        refine R.list ?_
        refine S.p hf hs (iv 0) rfl rfl fun a hf => ?_
        refine S.p hf hs (.bool false) rfl rfl fun a hf => ?_
        refine S.p hf hs (iv 9) rfl rfl fun a hf => ?_
        refine R.nil ?_
        refine X.then_ ?_
        refine wp_ret ?_
        refine X.then_ret ?_
        exact L.ret hf (run_results3 Try.results29 (ResIs.tmp hf rfl) (ResIs.tmp hf rfl) (ResIs.tmp hf rfl)) ⟨0, false, 9, rfl, h, hs.nil⟩
      · replace h := h.2 hc
        refine wp_skip ?_
        refine X.then_ ?_
        refine wp_seq ?_
        refine wp_seq ?_
        refine R.list ?_
        refine S.v hf hs (.agg #[iv g.W, iv g.H, iv g.Layers, .slice g_BlockedA g.Blocked.length g_BlockedC]) rfl (V.loadBox 1 rfl rfl rfl Try.isAgg24 Try.sizeOf24 rfl rfl) fun a hf => ?_
        refine S.p hf hs (.slice pinsA pins.length pinsC) rfl rfl fun a hf => ?_
        refine S.p hf hs (iv n1) rfl rfl fun a hf => ?_
        refine S.call hf rfl rfl rfl (call_fn (vs := [.agg #[iv g.W, iv g.H, iv g.Layers, .slice g_BlockedA g.Blocked.length g_BlockedC], .slice pinsA pins.length pinsC, iv n1]) rfl rfl rfl Try.call59) (R_ref7_checkPins g pins n1 _ g_BlockedA g_BlockedC ((Ag.args _ _ _).view hv_g_Blocked hs) pinsA pinsC ((Ag.args _ _ _).view hv_pins hs) _ h) (fun v a w' hf hr => ?_)
        obtain ⟨y2, rfl, h2, hs2⟩ := hr
        replace h := h2; replace hs := hs.call hs2; clear h2 hs2
        refine S.p hf hs (iv y2) rfl rfl fun a hf => ?_
        refine R.nil ?_
        refine X.then_ ?_
        refine wp_seq ?_
        refine R.list ?_
        refine S.p hf hs (iv y2) rfl rfl fun a hf => ?_
        refine S.p hf hs (.bool (y2 != 0)) rfl rfl fun a hf => ?_
        refine R.nil ?_
        refine X.then_ ?_
        refine C.cond hf (b := y2 != 0) rfl (fun hc => ?_) (fun hc => ?_)
        · replace h := h.1 hc
          refine wp_seq ?_
          refine R.list ?_
          refine S.p hf hs (iv y2) rfl rfl fun a hf => ?_
          refine S.p hf hs (iv 0) rfl rfl fun a hf => ?_
          refine S.p hf hs (.bool false) rfl rfl fun a hf => ?_
          refine S.p hf hs (iv y2) rfl rfl fun a hf => ?_
          refine R.nil ?_
          refine X.then_ ?_
          refine wp_ret ?_
          refine X.then_ret ?_
          exact L.ret hf (run_results3 Try.results29 (ResIs.tmp hf rfl) (ResIs.tmp hf rfl) (ResIs.tmp hf rfl)) ⟨0, false, y2, rfl, h, hs.nil⟩
        · replace h := h.2 hc
          refine wp_skip ?_
          refine X.then_ ?_
          refine wp_seq ?_
          refine H.start (S := Sat w0 none_ [hbox g2 26 [iv c.Step, iv c.Via, iv c.Turn, iv c.Against], hbox g1 24 [iv g.W, iv g.H, iv g.Layers, .slice g_BlockedA g.Blocked.length g_BlockedC]]) mo ?_
          replace hs := hs.drew
          refine H.v hf hs (.agg #[iv g.W, iv g.H, iv g.Layers, .slice g_BlockedA g.Blocked.length g_BlockedC]) 0 rfl rfl (by kernel_rfl) (V.loadBox 1 rfl rfl rfl Try.isAgg24 Try.sizeOf24 rfl rfl) fun a hf => ?_
          refine H.v hf hs (.agg #[iv c.Step, iv c.Via, iv c.Turn, iv c.Against]) 1 rfl rfl (by kernel_rfl) (V.loadBox 0 rfl rfl rfl Try.isAgg26 Try.sizeOf26 rfl rfl) fun a hf => ?_
          refine H.v hf hs (.slice pinsA pins.length pinsC) 2 rfl rfl (by kernel_rfl) (V.pure rfl) fun a hf => ?_
          obtain ⟨h0x1, x1, hx1, h⟩ := h
          refine H.v hf hs (elemPtr pinsA (0 * 3)) 3 rfl rfl (by kernel_rfl) (V.index rfl rfl rfl Try.runUnderlying22 Try.sizeOf28 (hv_pins.some_ (lt_of_get hx1)) h0x1 (lt_of_get hx1) rfl) fun a hf => ?_
          refine H.v hf hs (.agg #[iv x1.X, iv x1.Y, iv x1.Layer]) 4 rfl rfl (by kernel_rfl) (V.loadEl (off := 0) (Ag.args _ _ _) (hv_pins.flat hx1) rfl rfl rfl Try.isAgg28 Try.sizeOf28 rfl rfl) fun a hf => ?_
          refine H.one (i := 5) rfl (by kernel_rfl) ?_
          refine S.call hf rfl rfl rfl (call_fn (vs := [.agg #[iv g.W, iv g.H, iv g.Layers, .slice g_BlockedA g.Blocked.length g_BlockedC], .agg #[iv c.Step, iv c.Via, iv c.Turn, iv c.Against], .agg #[iv x1.X, iv x1.Y, iv x1.Layer]]) rfl rfl rfl Try.call38) (R_ref7_fieldOf g c x1 _ g_BlockedA g_BlockedC ((Ag.args _ _ _).view hv_g_Blocked hs) _ h) (fun v a w' hf hr => ?_)
          rcases hr with ⟨rfl, h2, hs2⟩ | ⟨y3, y3g, y3A0, y3C0, y3A1, y3C1, rfl, h2, hs2⟩
          · replace h := h2.1 rfl; replace hs := hs.call hs2; clear h2 hs2
            exact h.elim
          · replace h := h2.2 _ rfl; replace hs := hs.call hs2; clear h2 hs2
            refine R.nil ?_
            refine X.then_ ?_
            refine ⟨(hs.mask [false, false, false, true, true]), ?_⟩
            refine H.val hf (hs.mask [false, false, false, true, true]) (v := (pn y3g 0)) (i := 6) rfl rfl rfl rfl (by kernel_rfl) (by kernel_rfl) (by kernel_rfl) (V.pure rfl) (fun a hf => ?_)
            refine H.done (by kernel_rfl) ?_
            refine X.then_ ?_
            refine wp_seq ?_
            refine R.list ?_
            refine S.p hf hs ((pn y3g 0)) rfl rfl fun a hf => ?_
            refine S.p hf hs ((pn y3g 0)) rfl rfl fun a hf => ?_
            refine S.v hf hs ((pn y3g 8)) rfl (V.fieldBox rfl rfl Try.runUnderlying72 rfl Try.sizeOf66 rfl rfl) fun a hf => ?_
            refine S.v hf hs (.slice y3A0 y3.1.length y3C0) rfl (V.loadBox 0 rfl rfl rfl Try.isAgg66 Try.sizeOf66 rfl rfl) fun a hf => ?_
            refine S.v hf hs (iv (y3.1.length : Int)) rfl (V.len rfl rfl Try.runUnderlying66) fun a hf => ?_
            refine S.p hf hs (iv (y3.1.length : Int)) rfl rfl fun a hf => ?_
            refine R.nil ?_
            refine X.then_ ?_
            refine wp_seq ?_
            refine R.list ?_
            refine S.p hf hs (.slice pinsA pins.length pinsC) rfl rfl fun a hf => ?_
            refine S.v hf hs (iv (pins.length : Int)) rfl (V.len rfl rfl Try.runUnderlying22) fun a hf => ?_
            obtain ⟨hsh, h⟩ := h
            refine S.v hf hs (iv (shlI .i64 1 (pins.length : Int))) rfl (V.shl rfl rfl rfl hsh) fun a hf => ?_
            refine S.p hf hs (iv (shlI .i64 1 (pins.length : Int))) rfl rfl fun a hf => ?_
            refine R.nil ?_
            refine X.then_ ?_
            refine wp_seq ?_
            refine R.list ?_
            refine S.p hf hs (iv (shlI .i64 1 (pins.length : Int))) rfl rfl fun a hf => ?_
            obtain ⟨hmk, h⟩ := h
            refine S.makeRows hf hs rfl rfl rfl ([] : (List Int)) (z := (shlI .i64 1 (pins.length : Int))) (N := (shlI .i64 1 (pins.length : Int)).toNat) 3 rfl rfl rfl rfl Try.underlying83 info55 hmk rfl (by have := hmk.2; omega) (fun A1 a w hf hs => ?_)
            refine S.p hf hs (.slice A1 (List.replicate ((shlI .i64 1 (pins.length : Int)).toNat) ([] : (List Int))).length ((shlI .i64 1 (pins.length : Int)).toNat)) rfl rfl fun a hf => ?_
            refine R.nil ?_
            refine X.then_ ?_
            refine wp_seq ?_
            refine wp_seq ?_
            refine R.list ?_
            refine S.p hf hs (iv 1) rfl rfl fun a hf => ?_
            refine R.nil ?_
            refine X.then_ ?_
            refine wp_block ?_
            obtain ⟨kk, h⟩ := h
            refine C.loop (fun kk a w => ∃ (l2 : List (List Int)) (l2A : Option Addr) (l2C : Nat) (l2as : List (Option Addr × Nat)) (n3 : Int), iterF (fun again (s : List (List Int) × Int) => M_ref7_LeastTree_L1 g c pins Q x1 y3 (fun l2 n3 => again (l2, n3)) s.1 s.2) kk (l2, n3) ∧ FrOk 191 [(2, .slice pinsA pins.length pinsC), (12, (pn y3g 0)), (13, iv (y3.1.length : Int)), (14, iv (shlI .i64 1 (pins.length : Int))), (15, .slice l2A l2.length l2C), (16, iv n3)] a ∧ Sat w0 none_ [hrows 55 3 l2A l2C l2as l2, hbox y3g 72 [iv g.W, iv g.H, iv g.Layers, .slice g_BlockedA g.Blocked.length g_BlockedC, iv c.Step, iv c.Via, iv c.Turn, iv c.Against, .slice y3A0 y3.1.length y3C0, .slice y3A1 y3.2.length y3C1], hown 4 y3A0 y3C0 y3.1, hown 60 y3A1 y3C1 y3.2, hbox g2 26 [iv c.Step, iv c.Via, iv c.Turn, iv c.Against], hbox g1 24 [iv g.W, iv g.H, iv g.Layers, .slice g_BlockedA g.Blocked.length g_BlockedC]] w) kk ⟨(List.replicate ((shlI .i64 1 (pins.length : Int)).toNat) ([] : (List Int))), A1, ((shlI .i64 1 (pins.length : Int)).toNat), (List.replicate ((shlI .i64 1 (pins.length : Int)).toNat) ((none : Option Addr), 0)), 1, h, ((((((hf.nil.cons (hf.get 16 _ rfl)).cons (hf.get 15 _ rfl)).cons (hf.get 14 _ rfl)).cons (hf.get 13 _ rfl)).cons (hf.get 12 _ rfl)).cons (hf.get 2 _ rfl)), hs⟩ (fun a w ⟨_, _, _, _, _, h, _, _⟩ => h) ?_
            clear h hf hs
            rintro kk a w ⟨l2, l2A, l2C, l2as, n3, h, hf, hs⟩
            obtain ⟨again1, hagain1⟩ : ∃ X : List (List Int) → Int → Prop, X = (fun l2 n3 => iterF (fun again (s : List (List Int) × Int) => M_ref7_LeastTree_L1 g c pins Q x1 y3 (fun l2 n3 => again (l2, n3)) s.1 s.2) kk (l2, n3)) := ⟨_, rfl⟩
            replace h : M_ref7_LeastTree_L1 g c pins Q x1 y3 again1 l2 n3 := by rw [hagain1]; exact h
            unfold M_ref7_LeastTree_L1 at h
            refine wp_seq ?_
            refine wp_seq ?_
            refine R.list ?_
            refine S.p hf hs (iv n3) rfl rfl fun a hf => ?_
            refine S.p hf hs (iv (shlI .i64 1 (pins.length : Int))) rfl rfl fun a hf => ?_
            refine S.p hf hs (.bool (decide (n3 < shlI .i64 1 (pins.length : Int)))) rfl rfl fun a hf => ?_
            refine R.nil ?_
            refine X.then_ ?_
            refine C.cond hf (b := decide (n3 < shlI .i64 1 (pins.length : Int))) rfl (fun hc => ?_) (fun hc => ?_)
            · replace h := h.1 hc
              refine wp_skip ?_
              refine X.then_ ?_
              refine wp_seq ?_
              refine wp_block ?_
              refine wp_seq ?_
              refine R.list ?_
              refine S.p hf hs (.slice l2A l2.length l2C) rfl rfl fun a hf => ?_
              refine S.p hf hs (iv n3) rfl rfl fun a hf => ?_
              refine S.p hf hs (iv (y3.1.length : Int)) rfl rfl fun a hf => ?_
              obtain ⟨hmk, h⟩ := h
              refine S.make hf hs rfl rfl rfl (α := Int) (0 : Int) (z := (y3.1.length : Int)) (N := y3.1.length) rfl rfl rfl Try.underlying55 info3 hmk rfl (by have := hmk.2; omega) (fun A2 a w hf hs => ?_)
              obtain ⟨h0x2, x2, hx2, h⟩ := h
              refine S.v hf hs (elemPtr l2A (n3.toNat * 1)) rfl (V.index rfl rfl rfl Try.runUnderlying83 Try.sizeOf55 (hs.rowsSome 1 rfl hx2) h0x2 (lt_of_get hx2) rfl) fun a hf => ?_
              obtain ⟨B1, D1, hrB1⟩ := hs.rowAt 1 rfl hx2
              refine S.putRow (off := 0) 0 hf hs rfl rfl (List.replicate y3.1.length (0 : Int)) [.slice A2 (List.replicate y3.1.length (0 : Int)).length y3.1.length] rfl hx2 hrB1 rfl rfl rfl rfl rfl rfl Try.sizeOf55 rfl (by decide) rfl rfl (fun a w hf hs => ?_)
              replace hf := hf.tell 15 (v := .slice l2A (l2.set n3.toNat (List.replicate y3.1.length (0 : Int))).length l2C) ((hf.get 15 (.slice l2A l2.length l2C) rfl).trans (congrArg (fun n => Value.slice l2A n l2C) List.length_set.symm))
              replace hf := hf.tell 68 (v := .slice l2A (l2.set n3.toNat (List.replicate y3.1.length (0 : Int))).length l2C) ((hf.get 68 (.slice l2A l2.length l2C) rfl).trans (congrArg (fun n => Value.slice l2A n l2C) List.length_set.symm))
              have hx1 : (l2.set n3.toNat (List.replicate y3.1.length (0 : Int)))[n3.toNat]? = some (List.replicate y3.1.length (0 : Int)) := List.getElem?_set_self (lt_of_get hx2)
              have hr1 : (l2as.set n3.toNat (A2, y3.1.length))[n3.toNat]? = some (A2, y3.1.length) := List.getElem?_set_self (lt_of_get hrB1)
              refine R.nil ?_
              refine X.then_ ?_
              refine wp_seq ?_
              refine wp_seq ?_
              refine R.list ?_
              refine S.p hf hs (iv (y3.1.length : Int)) rfl rfl fun a hf => ?_
              refine S.p hf hs (iv 0) rfl rfl fun a hf => ?_
              refine R.nil ?_
              refine X.then_ ?_
              refine wp_block ?_
              obtain ⟨kk, h⟩ := h
              refine C.loop (fun kk a w => ∃ (l4 : List (List Int)) (l4A : Option Addr) (l4C : Nat) (l4as : List (Option Addr × Nat)) (n5 : Int), iterF (fun again (s : List (List Int) × Int) => M_ref7_LeastTree_L2 g c pins y3 n3 again1 (fun l4 n5 => again (l4, n5)) s.1 s.2) kk (l4, n5) ∧ FrOk 191 [(2, .slice pinsA pins.length pinsC), (12, (pn y3g 0)), (13, iv (y3.1.length : Int)), (14, iv (shlI .i64 1 (pins.length : Int))), (15, .slice l4A l4.length l4C), (16, iv n3), (73, iv (y3.1.length : Int)), (74, iv n5)] a ∧ Sat w0 none_ [hrows 55 3 l4A l4C l4as l4, hbox y3g 72 [iv g.W, iv g.H, iv g.Layers, .slice g_BlockedA g.Blocked.length g_BlockedC, iv c.Step, iv c.Via, iv c.Turn, iv c.Against, .slice y3A0 y3.1.length y3C0, .slice y3A1 y3.2.length y3C1], hown 4 y3A0 y3C0 y3.1, hown 60 y3A1 y3C1 y3.2, hbox g2 26 [iv c.Step, iv c.Via, iv c.Turn, iv c.Against], hbox g1 24 [iv g.W, iv g.H, iv g.Layers, .slice g_BlockedA g.Blocked.length g_BlockedC]] w) kk ⟨(l2.set n3.toNat (List.replicate y3.1.length (0 : Int))), l2A, l2C, (l2as.set n3.toNat (A2, y3.1.length)), 0, h, ((((((((hf.nil.cons (hf.get 74 _ rfl)).cons (hf.get 73 _ rfl)).cons (hf.get 16 _ rfl)).cons (hf.get 15 _ rfl)).cons (hf.get 14 _ rfl)).cons (hf.get 13 _ rfl)).cons (hf.get 12 _ rfl)).cons (hf.get 2 _ rfl)), hs⟩ (fun a w ⟨_, _, _, _, _, h, _, _⟩ => h) ?_
              clear h hf hs
              rintro kk a w ⟨l4, l4A, l4C, l4as, n5, h, hf, hs⟩
              obtain ⟨again2, hagain2⟩ : ∃ X : List (List Int) → Int → Prop, X = (fun l4 n5 => iterF (fun again (s : List (List Int) × Int) => M_ref7_LeastTree_L2 g c pins y3 n3 again1 (fun l4 n5 => again (l4, n5)) s.1 s.2) kk (l4, n5)) := ⟨_, rfl⟩
              replace h : M_ref7_LeastTree_L2 g c pins y3 n3 again1 again2 l4 n5 := by rw [hagain2]; exact h
              unfold M_ref7_LeastTree_L2 at h
              refine wp_seq ?_
              refine R.list ?_
              refine S.p hf hs (.bool (decide (n5 < (y3.1.length : Int)))) rfl rfl fun a hf => ?_
              refine R.nil ?_
              refine X.then_ ?_
              refine wp_seq ?_
              refine C.cond hf (b := decide (n5 < (y3.1.length : Int))) rfl (fun hc => ?_) (fun hc => ?_)
              · replace h := h.1 hc
                refine wp_skip ?_
                refine X.then_ ?_
                refine wp_seq ?_
                refine wp_block ?_
                refine wp_seq ?_
                refine R.list ?_
                refine S.p hf hs (iv n5) rfl rfl fun a hf => ?_
                refine S.p hf hs (iv n5) rfl rfl fun a hf => ?_
                refine R.nil ?_
                refine X.then_ ?_
                refine wp_seq ?_
                refine R.list ?_
                refine S.p hf hs (.slice l4A l4.length l4C) rfl rfl fun a hf => ?_
                refine S.p hf hs (iv n3) rfl rfl fun a hf => ?_
                obtain ⟨h0x3, x3, hx3, h⟩ := h
                refine S.v hf hs (elemPtr l4A (n3.toNat * 1)) rfl (V.index rfl rfl rfl Try.runUnderlying83 Try.sizeOf55 (hs.rowsSome 0 rfl hx3) h0x3 (lt_of_get hx3) rfl) fun a hf => ?_
                obtain ⟨B2, D2, hrB2⟩ := hs.rowAt 0 rfl hx3
                refine S.v hf hs (.slice B2 x3.length D2) rfl (V.loadRows (off := 0) 0 rfl hx3 hrB2 rfl rfl rfl Try.isAgg55 Try.sizeOf55 rfl rfl) fun a hf => ?_
                refine S.p hf hs (iv n5) rfl rfl fun a hf => ?_
                obtain ⟨h0x4, x4, hx4, h⟩ := h
                refine S.v hf hs (elemPtr B2 (n5.toNat * 1)) rfl (V.index rfl rfl rfl Try.runUnderlying55 Try.sizeOf3 ((hs.rowView 0 rfl hx3 hrB2).some_ (lt_of_get hx4)) h0x4 (lt_of_get hx4) rfl) fun a hf => ?_
                refine S.storeRowEl (off := 0) 0 hf hs rfl rfl (x3.set n5.toNat (-1)) (-1) [iv (-1)] rfl hx3 hrB2 hx4 rfl (row_same _ _ List.length_set _ _) rfl rfl rfl rfl rfl Try.sizeOf3 rfl (by decide) rfl rfl (fun a w hf hs => ?_)
                replace hf := hf.tell 15 (v := .slice l4A (l4.set n3.toNat (x3.set n5.toNat (-1))).length l4C) ((hf.get 15 (.slice l4A l4.length l4C) rfl).trans (congrArg (fun n => Value.slice l4A n l4C) List.length_set.symm))
                replace hf := hf.tell 77 (v := .slice l4A (l4.set n3.toNat (x3.set n5.toNat (-1))).length l4C) ((hf.get 77 (.slice l4A l4.length l4C) rfl).trans (congrArg (fun n => Value.slice l4A n l4C) List.length_set.symm))
                have hx2 : (l4.set n3.toNat (x3.set n5.toNat (-1)))[n3.toNat]? = some (x3.set n5.toNat (-1)) := List.getElem?_set_self (lt_of_get hx3)
                replace hf := hf.tell 80 (v := .slice B2 (x3.set n5.toNat (-1)).length D2) ((hf.get 80 (.slice B2 x3.length D2) rfl).trans (congrArg (fun n => Value.slice B2 n D2) List.length_set.symm))
                refine R.nil ?_
                refine X.then_ ?_
                refine wp_seq ?_
                refine C.cut (J := fun a w => ∃ (l5 : List (List Int)) (l5A : Option Addr) (l5C : Nat) (l5as : List (Option Addr × Nat)), M_ref7_LeastTree_k4 n3 n5 again2 l5 ∧ FrOk 191 [(2, .slice pinsA pins.length pinsC), (12, (pn y3g 0)), (13, iv (y3.1.length : Int)), (14, iv (shlI .i64 1 (pins.length : Int))), (15, .slice l5A l5.length l5C), (16, iv n3), (17, iv n5), (73, iv (y3.1.length : Int)), (74, iv n5)] a ∧ Sat w0 none_ [hrows 55 3 l5A l5C l5as l5, hbox y3g 72 [iv g.W, iv g.H, iv g.Layers, .slice g_BlockedA g.Blocked.length g_BlockedC, iv c.Step, iv c.Via, iv c.Turn, iv c.Against, .slice y3A0 y3.1.length y3C0, .slice y3A1 y3.2.length y3C1], hown 4 y3A0 y3C0 y3.1, hown 60 y3A1 y3C1 y3.2, hbox g2 26 [iv c.Step, iv c.Via, iv c.Turn, iv c.Against], hbox g1 24 [iv g.W, iv g.H, iv g.Layers, .slice g_BlockedA g.Blocked.length g_BlockedC]] w) ?_ ?_
                · rintro a w ⟨l5, l5A, l5C, l5as, h, hf, hs⟩
                  unfold M_ref7_LeastTree_k4 at h
                  refine wp_seq ?_
                  refine R.list ?_
                  refine S.p hf hs (iv n3) rfl rfl fun a hf => ?_
                  refine S.p hf hs (iv (w64 (n3 - 1))) rfl rfl fun a hf => ?_
                  refine S.p hf hs (iv n3) rfl rfl fun a hf => ?_
                  refine S.v hf hs (iv (andI .i64 (w64 (n3 - 1)) n3)) rfl (V.bits rfl rfl rfl rfl) fun a hf => ?_
                  refine S.p hf hs (iv (andI .i64 (w64 (n3 - 1)) n3)) rfl rfl fun a hf => ?_
                  refine R.nil ?_
                  refine X.then_ ?_
                  refine wp_block ?_
                  obtain ⟨kk, h⟩ := h
                  refine C.loop (fun kk a w => ∃ (l7 : List (List Int)) (l7A : Option Addr) (l7C : Nat) (l7as : List (Option Addr × Nat)) (n7 : Int), iterF (fun again (s : List (List Int) × Int) => M_ref7_LeastTree_L3 n3 n5 again2 (fun l7 n7 => again (l7, n7)) s.1 s.2) kk (l7, n7) ∧ FrOk 191 [(2, .slice pinsA pins.length pinsC), (12, (pn y3g 0)), (13, iv (y3.1.length : Int)), (14, iv (shlI .i64 1 (pins.length : Int))), (15, .slice l7A l7.length l7C), (16, iv n3), (17, iv n5), (18, iv n7), (73, iv (y3.1.length : Int)), (74, iv n5)] a ∧ Sat w0 none_ [hrows 55 3 l7A l7C l7as l7, hbox y3g 72 [iv g.W, iv g.H, iv g.Layers, .slice g_BlockedA g.Blocked.length g_BlockedC, iv c.Step, iv c.Via, iv c.Turn, iv c.Against, .slice y3A0 y3.1.length y3C0, .slice y3A1 y3.2.length y3C1], hown 4 y3A0 y3C0 y3.1, hown 60 y3A1 y3C1 y3.2, hbox g2 26 [iv c.Step, iv c.Via, iv c.Turn, iv c.Against], hbox g1 24 [iv g.W, iv g.H, iv g.Layers, .slice g_BlockedA g.Blocked.length g_BlockedC]] w) kk ⟨l5, l5A, l5C, l5as, (andI .i64 (w64 (n3 - 1)) n3), h, ((((((((((hf.nil.cons (hf.get 74 _ rfl)).cons (hf.get 73 _ rfl)).cons (hf.get 18 _ rfl)).cons (hf.get 17 _ rfl)).cons (hf.get 16 _ rfl)).cons (hf.get 15 _ rfl)).cons (hf.get 14 _ rfl)).cons (hf.get 13 _ rfl)).cons (hf.get 12 _ rfl)).cons (hf.get 2 _ rfl)), hs⟩ (fun a w ⟨_, _, _, _, _, h, _, _⟩ => h) ?_
                  clear h hf hs
                  rintro kk a w ⟨l7, l7A, l7C, l7as, n7, h, hf, hs⟩
                  obtain ⟨again3, hagain3⟩ : ∃ X : List (List Int) → Int → Prop, X = (fun l7 n7 => iterF (fun again (s : List (List Int) × Int) => M_ref7_LeastTree_L3 n3 n5 again2 (fun l7 n7 => again (l7, n7)) s.1 s.2) kk (l7, n7)) := ⟨_, rfl⟩
                  replace h : M_ref7_LeastTree_L3 n3 n5 again2 again3 l7 n7 := by rw [hagain3]; exact h
                  unfold M_ref7_LeastTree_L3 at h
                  refine wp_seq ?_
                  refine wp_seq ?_
                  refine R.list ?_
                  refine S.p hf hs (iv n7) rfl rfl fun a hf => ?_
                  refine S.p hf hs (.bool (decide (n7 > 0))) rfl rfl fun a hf => ?_
                  refine R.nil ?_
                  refine X.then_ ?_
                  refine C.cond hf (b := decide (n7 > 0)) rfl (fun hc => ?_) (fun hc => ?_)
                  · replace h := h.1 hc
                    refine wp_skip ?_
                    refine X.then_ ?_
                    refine wp_seq ?_
                    refine C.cut (J := fun a w => ∃ (l8 : List (List Int)) (l8A : Option Addr) (l8C : Nat) (l8as : List (Option Addr × Nat)), M_ref7_LeastTree_k6 n3 n7 again3 l8 ∧ FrOk 191 [(2, .slice pinsA pins.length pinsC), (12, (pn y3g 0)), (13, iv (y3.1.length : Int)), (14, iv (shlI .i64 1 (pins.length : Int))), (15, .slice l8A l8.length l8C), (16, iv n3), (17, iv n5), (18, iv n7), (73, iv (y3.1.length : Int)), (74, iv n5)] a ∧ Sat w0 none_ [hrows 55 3 l8A l8C l8as l8, hbox y3g 72 [iv g.W, iv g.H, iv g.Layers, .slice g_BlockedA g.Blocked.length g_BlockedC, iv c.Step, iv c.Via, iv c.Turn, iv c.Against, .slice y3A0 y3.1.length y3C0, .slice y3A1 y3.2.length y3C1], hown 4 y3A0 y3C0 y3.1, hown 60 y3A1 y3C1 y3.2, hbox g2 26 [iv c.Step, iv c.Via, iv c.Turn, iv c.Against], hbox g1 24 [iv g.W, iv g.H, iv g.Layers, .slice g_BlockedA g.Blocked.length g_BlockedC]] w) ?_ ?_
                    · rintro a w ⟨l8, l8A, l8C, l8as, h, hf, hs⟩
                      unfold M_ref7_LeastTree_k6 at h
                      refine R.list ?_
                      refine S.p hf hs (iv n7) rfl rfl fun a hf => ?_
                      refine S.p hf hs (iv (w64 (n7 - 1))) rfl rfl fun a hf => ?_
                      refine S.p hf hs (iv n3) rfl rfl fun a hf => ?_
                      refine S.v hf hs (iv (andI .i64 (w64 (n7 - 1)) n3)) rfl (V.bits rfl rfl rfl rfl) fun a hf => ?_
                      refine S.p hf hs (iv (andI .i64 (w64 (n7 - 1)) n3)) rfl rfl fun a hf => ?_
                      refine R.nil ?_
                      refine X.then_ ?_
                      exact ⟨l8, l8A, l8C, l8as, (andI .i64 (w64 (n7 - 1)) n3), (by rw [hagain3] at h; exact h), ((((((((((hf.nil.cons (hf.get 74 _ rfl)).cons (hf.get 73 _ rfl)).cons (hf.get 18 _ rfl)).cons (hf.get 17 _ rfl)).cons (hf.get 16 _ rfl)).cons (hf.get 15 _ rfl)).cons (hf.get 14 _ rfl)).cons (hf.get 13 _ rfl)).cons (hf.get 12 _ rfl)).cons (hf.get 2 _ rfl)), hs⟩
                    · skip
                      refine wp_block ?_
                      refine wp_seq ?_
                      refine R.draw mo (by kernel_rfl) hs ?_
                      refine D.p hf (.slice l7A l7.length l7C) rfl rfl fun a hf => ?_
                      refine D.p hf (iv n7) rfl rfl fun a hf => ?_
                      obtain ⟨h0x5, x5, hx5, h⟩ := h
                      refine D.v hf (elemPtr l7A (n7.toNat * 1)) rfl (V.index rfl rfl rfl Try.runUnderlying83 Try.sizeOf55 (hs.rowsSome 0 rfl hx5) h0x5 (lt_of_get hx5) rfl) fun a hf => ?_
                      obtain ⟨B3, D3, hrB3⟩ := hs.rowAt 0 rfl hx5
                      refine D.v hf (.slice B3 x5.length D3) rfl (V.loadRows (off := 0) 0 rfl hx5 hrB3 rfl rfl rfl Try.isAgg55 Try.sizeOf55 rfl rfl) fun a hf => ?_
                      refine D.p hf (iv n5) rfl rfl fun a hf => ?_
                      obtain ⟨h0x6, x6, hx6, h⟩ := h
                      refine D.v hf (elemPtr B3 (n5.toNat * 1)) rfl (V.index rfl rfl rfl Try.runUnderlying55 Try.sizeOf3 ((hs.rowView 0 rfl hx5 hrB3).some_ (lt_of_get hx6)) h0x6 (lt_of_get hx6) rfl) fun a hf => ?_
                      refine D.v hf (iv x6) rfl (V.loadRowEl (off := 0) 0 rfl hx5 hrB3 hx6 rfl rfl rfl Try.isAgg3 Try.sizeOf3 rfl rfl) fun a hf => ?_
                      refine D.p hf (.slice l7A l7.length l7C) rfl rfl fun a hf => ?_
                      refine D.p hf (iv n3) rfl rfl fun a hf => ?_
                      refine D.p hf (iv n7) rfl rfl fun a hf => ?_
                      refine D.v hf (iv (xorI .i64 n3 n7)) rfl (V.xor rfl rfl rfl) fun a hf => ?_
                      obtain ⟨h0x7, x7, hx7, h⟩ := h
                      refine D.v hf (elemPtr l7A ((xorI .i64 n3 n7).toNat * 1)) rfl (V.index rfl rfl rfl Try.runUnderlying83 Try.sizeOf55 (hs.rowsSome 0 rfl hx7) h0x7 (lt_of_get hx7) rfl) fun a hf => ?_
                      obtain ⟨B4, D4, hrB4⟩ := hs.rowAt 0 rfl hx7
                      refine D.v hf (.slice B4 x7.length D4) rfl (V.loadRows (off := 0) 0 rfl hx7 hrB4 rfl rfl rfl Try.isAgg55 Try.sizeOf55 rfl rfl) fun a hf => ?_
                      refine D.p hf (iv n5) rfl rfl fun a hf => ?_
                      obtain ⟨h0x8, x8, hx8, h⟩ := h
                      refine D.v hf (elemPtr B4 (n5.toNat * 1)) rfl (V.index rfl rfl rfl Try.runUnderlying55 Try.sizeOf3 ((hs.rowView 0 rfl hx7 hrB4).some_ (lt_of_get hx8)) h0x8 (lt_of_get hx8) rfl) fun a hf => ?_
                      refine D.v hf (iv x8) rfl (V.loadRowEl (off := 0) 0 rfl hx7 hrB4 hx8 rfl rfl rfl Try.isAgg3 Try.sizeOf3 rfl rfl) fun a hf => ?_
                      refine D.p hf (iv x6) rfl rfl fun a hf => ?_
                      refine D.p hf (iv x8) rfl rfl fun a hf => ?_
                      refine D.done (fun w hs => ?_)
                      refine X.then_ ?_
                      refine wp_seq ?_
                      refine C.cut (J := fun a w => ∃ (c1 : Bool), M_ref7_LeastTree_k7 n3 n5 l7 n7 again3 x6 x8 c1 ∧ FrOk 191 [(2, .slice pinsA pins.length pinsC), (12, (pn y3g 0)), (13, iv (y3.1.length : Int)), (14, iv (shlI .i64 1 (pins.length : Int))), (15, .slice l7A l7.length l7C), (16, iv n3), (17, iv n5), (18, iv n7), (19, iv x6), (20, iv x8), (73, iv (y3.1.length : Int)), (74, iv n5), (159, .bool c1)] a ∧ Sat w0 none_ [hrows 55 3 l7A l7C l7as l7, hbox y3g 72 [iv g.W, iv g.H, iv g.Layers, .slice g_BlockedA g.Blocked.length g_BlockedC, iv c.Step, iv c.Via, iv c.Turn, iv c.Against, .slice y3A0 y3.1.length y3C0, .slice y3A1 y3.2.length y3C1], hown 4 y3A0 y3C0 y3.1, hown 60 y3A1 y3C1 y3.2, hbox g2 26 [iv c.Step, iv c.Via, iv c.Turn, iv c.Against], hbox g1 24 [iv g.W, iv g.H, iv g.Layers, .slice g_BlockedA g.Blocked.length g_BlockedC]] w) ?_ ?_
                      · rintro a w ⟨c1, h, hf, hs⟩
                        unfold M_ref7_LeastTree_k7 at h
                        refine C.cond hf (b := c1) rfl (fun hc => ?_) (fun hc => ?_)
                        · replace h := h.1 hc
                          refine R.list ?_
                          refine S.p hf hs (.slice l7A l7.length l7C) rfl rfl fun a hf => ?_
                          refine S.p hf hs (iv n3) rfl rfl fun a hf => ?_
                          obtain ⟨h0x9, x9, hx9, h⟩ := h
                          refine S.v hf hs (elemPtr l7A (n3.toNat * 1)) rfl (V.index rfl rfl rfl Try.runUnderlying83 Try.sizeOf55 (hs.rowsSome 0 rfl hx9) h0x9 (lt_of_get hx9) rfl) fun a hf => ?_
                          obtain ⟨B5, D5, hrB5⟩ := hs.rowAt 0 rfl hx9
                          refine S.v hf hs (.slice B5 x9.length D5) rfl (V.loadRows (off := 0) 0 rfl hx9 hrB5 rfl rfl rfl Try.isAgg55 Try.sizeOf55 rfl rfl) fun a hf => ?_
                          refine S.p hf hs (iv n5) rfl rfl fun a hf => ?_
                          refine S.p hf hs (iv x6) rfl rfl fun a hf => ?_
                          refine S.p hf hs (iv x8) rfl rfl fun a hf => ?_
                          refine S.p hf hs (iv (w64 (x6 + x8))) rfl rfl fun a hf => ?_
                          obtain ⟨h0x10, x10, hx10, h⟩ := h
                          refine S.v hf hs (elemPtr B5 (n5.toNat * 1)) rfl (V.index rfl rfl rfl Try.runUnderlying55 Try.sizeOf3 ((hs.rowView 0 rfl hx9 hrB5).some_ (lt_of_get hx10)) h0x10 (lt_of_get hx10) rfl) fun a hf => ?_
                          refine S.storeRowEl (off := 0) 0 hf hs rfl rfl (x9.set n5.toNat (w64 (x6 + x8))) (w64 (x6 + x8)) [iv (w64 (x6 + x8))] rfl hx9 hrB5 hx10 rfl (row_same _ _ List.length_set _ _) rfl rfl rfl rfl rfl Try.sizeOf3 rfl (by decide) rfl rfl (fun a w hf hs => ?_)
                          replace hf := hf.tell 15 (v := .slice l7A (l7.set n3.toNat (x9.set n5.toNat (w64 (x6 + x8)))).length l7C) ((hf.get 15 (.slice l7A l7.length l7C) rfl).trans (congrArg (fun n => Value.slice l7A n l7C) List.length_set.symm))
                          replace hf := hf.tell 160 (v := .slice l7A (l7.set n3.toNat (x9.set n5.toNat (w64 (x6 + x8)))).length l7C) ((hf.get 160 (.slice l7A l7.length l7C) rfl).trans (congrArg (fun n => Value.slice l7A n l7C) List.length_set.symm))
                          have hx3 : (l7.set n3.toNat (x9.set n5.toNat (w64 (x6 + x8))))[n3.toNat]? = some (x9.set n5.toNat (w64 (x6 + x8))) := List.getElem?_set_self (lt_of_get hx9)
                          replace hf := hf.tell 163 (v := .slice B5 (x9.set n5.toNat (w64 (x6 + x8))).length D5) ((hf.get 163 (.slice B5 x9.length D5) rfl).trans (congrArg (fun n => Value.slice B5 n D5) List.length_set.symm))
                          refine R.nil ?_
                          refine X.blk ?_
                          refine X.then_ ?_
                          exact ⟨(l7.set n3.toNat (x9.set n5.toNat (w64 (x6 + x8)))), l7A, l7C, l7as, h, ((((((((((hf.nil.cons (hf.get 74 _ rfl)).cons (hf.get 73 _ rfl)).cons (hf.get 18 _ rfl)).cons (hf.get 17 _ rfl)).cons (hf.get 16 _ rfl)).cons (hf.get 15 _ rfl)).cons (hf.get 14 _ rfl)).cons (hf.get 13 _ rfl)).cons (hf.get 12 _ rfl)).cons (hf.get 2 _ rfl)), hs⟩
                        · replace h := h.2 hc
                          refine wp_skip ?_
                          refine X.blk ?_
                          refine X.then_ ?_
                          exact ⟨l7, l7A, l7C, l7as, h, ((((((((((hf.nil.cons (hf.get 74 _ rfl)).cons (hf.get 73 _ rfl)).cons (hf.get 18 _ rfl)).cons (hf.get 17 _ rfl)).cons (hf.get 16 _ rfl)).cons (hf.get 15 _ rfl)).cons (hf.get 14 _ rfl)).cons (hf.get 13 _ rfl)).cons (hf.get 12 _ rfl)).cons (hf.get 2 _ rfl)), hs⟩
                      · skip
                        refine R.list ?_
                        refine S.p hf hs (iv x6) rfl rfl fun a hf => ?_
                        refine S.p hf hs (.bool (decide (x6 ≥ 0))) rfl rfl fun a hf => ?_
                        refine S.split hf hs (b := decide (x6 ≥ 0)) rfl rfl rfl (V.pure rfl) (fun hc a hf => ?_) (fun hc a hf => ?_)
                        · replace h := h.1 hc
                          refine S.p hf hs (iv x8) rfl rfl fun a hf => ?_
                          refine S.p hf hs (.bool (decide (x8 ≥ 0))) rfl rfl fun a hf => ?_
                          refine S.p hf hs (.bool (decide (x8 ≥ 0))) rfl rfl fun a hf => ?_
                          refine S.split hf hs (b := decide (x8 ≥ 0)) rfl rfl rfl (V.pure rfl) (fun hc a hf => ?_) (fun hc a hf => ?_)
                          · replace h := h.1 hc
                            refine S.p hf hs (.slice l7A l7.length l7C) rfl rfl fun a hf => ?_
                            refine S.p hf hs (iv n3) rfl rfl fun a hf => ?_
                            obtain ⟨h0x11, x11, hx11, h⟩ := h
                            refine S.v hf hs (elemPtr l7A (n3.toNat * 1)) rfl (V.index rfl rfl rfl Try.runUnderlying83 Try.sizeOf55 (hs.rowsSome 0 rfl hx11) h0x11 (lt_of_get hx11) rfl) fun a hf => ?_
                            obtain ⟨B6, D6, hrB6⟩ := hs.rowAt 0 rfl hx11
                            refine S.v hf hs (.slice B6 x11.length D6) rfl (V.loadRows (off := 0) 0 rfl hx11 hrB6 rfl rfl rfl Try.isAgg55 Try.sizeOf55 rfl rfl) fun a hf => ?_
                            refine S.p hf hs (iv n5) rfl rfl fun a hf => ?_
                            obtain ⟨h0x12, x12, hx12, h⟩ := h
                            refine S.v hf hs (elemPtr B6 (n5.toNat * 1)) rfl (V.index rfl rfl rfl Try.runUnderlying55 Try.sizeOf3 ((hs.rowView 0 rfl hx11 hrB6).some_ (lt_of_get hx12)) h0x12 (lt_of_get hx12) rfl) fun a hf => ?_
                            refine S.v hf hs (iv x12) rfl (V.loadRowEl (off := 0) 0 rfl hx11 hrB6 hx12 rfl rfl rfl Try.isAgg3 Try.sizeOf3 rfl rfl) fun a hf => ?_
                            refine S.p hf hs (.bool (decide (x12 < 0))) rfl rfl fun a hf => ?_
                            refine S.split hf hs (b := decide (x12 < 0)) rfl rfl rfl (V.pure rfl) (fun hc a hf => ?_) (fun hc a hf => ?_)
                            · replace h := h.1 hc
                              refine S.k hf rfl fun a hf => ?_
                              refine S.k hf rfl fun a hf => ?_
                              refine S.k hf rfl fun a hf => ?_
                              refine S.k hf rfl fun a hf => ?_
                              refine S.k hf rfl fun a hf => ?_
                              refine S.k hf rfl fun a hf => ?_
                              refine S.k hf rfl fun a hf => ?_
                              refine S.k hf rfl fun a hf => ?_
                              refine S.k hf rfl fun a hf => ?_
                              refine S.k hf rfl fun a hf => ?_
                              refine S.k hf rfl fun a hf => ?_
                              refine S.p hf hs (.bool true) rfl rfl fun a hf => ?_
                              refine S.p hf hs (.bool true) rfl rfl fun a hf => ?_
                              refine R.nil ?_
                              refine X.then_ ?_
                              exact ⟨true, h, (((((((((((((hf.nil.cons (hf.get 159 _ rfl)).cons (hf.get 74 _ rfl)).cons (hf.get 73 _ rfl)).cons (hf.get 20 _ rfl)).cons (hf.get 19 _ rfl)).cons (hf.get 18 _ rfl)).cons (hf.get 17 _ rfl)).cons (hf.get 16 _ rfl)).cons (hf.get 15 _ rfl)).cons (hf.get 14 _ rfl)).cons (hf.get 13 _ rfl)).cons (hf.get 12 _ rfl)).cons (hf.get 2 _ rfl)), hs⟩
                            · replace h := h.2 hc
                              refine S.p hf hs (iv x6) rfl rfl fun a hf => ?_
                              refine S.p hf hs (iv x8) rfl rfl fun a hf => ?_
                              refine S.p hf hs (iv (w64 (x6 + x8))) rfl rfl fun a hf => ?_
                              refine S.p hf hs (.slice l7A l7.length l7C) rfl rfl fun a hf => ?_
                              refine S.p hf hs (iv n3) rfl rfl fun a hf => ?_
                              refine S.v hf hs (elemPtr l7A (n3.toNat * 1)) rfl (V.index rfl rfl rfl Try.runUnderlying83 Try.sizeOf55 (hs.rowsSome 0 rfl hx11) h0x11 (lt_of_get hx11) rfl) fun a hf => ?_
                              refine S.v hf hs (.slice B6 x11.length D6) rfl (V.loadRows (off := 0) 0 rfl hx11 hrB6 rfl rfl rfl Try.isAgg55 Try.sizeOf55 rfl rfl) fun a hf => ?_
                              refine S.p hf hs (iv n5) rfl rfl fun a hf => ?_
                              refine S.v hf hs (elemPtr B6 (n5.toNat * 1)) rfl (V.index rfl rfl rfl Try.runUnderlying55 Try.sizeOf3 ((hs.rowView 0 rfl hx11 hrB6).some_ (lt_of_get hx12)) h0x12 (lt_of_get hx12) rfl) fun a hf => ?_
                              refine S.v hf hs (iv x12) rfl (V.loadRowEl (off := 0) 0 rfl hx11 hrB6 hx12 rfl rfl rfl Try.isAgg3 Try.sizeOf3 rfl rfl) fun a hf => ?_
                              refine S.p hf hs (.bool (decide (w64 (x6 + x8) < x12))) rfl rfl fun a hf => ?_
                              refine S.p hf hs (.bool (decide (w64 (x6 + x8) < x12))) rfl rfl fun a hf => ?_
                              refine S.p hf hs (.bool (decide (w64 (x6 + x8) < x12))) rfl rfl fun a hf => ?_
                              refine R.nil ?_
                              refine X.then_ ?_
                              exact ⟨(decide (w64 (x6 + x8) < x12)), h, (((((((((((((hf.nil.cons (hf.get 159 _ rfl)).cons (hf.get 74 _ rfl)).cons (hf.get 73 _ rfl)).cons (hf.get 20 _ rfl)).cons (hf.get 19 _ rfl)).cons (hf.get 18 _ rfl)).cons (hf.get 17 _ rfl)).cons (hf.get 16 _ rfl)).cons (hf.get 15 _ rfl)).cons (hf.get 14 _ rfl)).cons (hf.get 13 _ rfl)).cons (hf.get 12 _ rfl)).cons (hf.get 2 _ rfl)), hs⟩
                          · replace h := h.2 hc
                            refine S.k hf rfl fun a hf => ?_
                            refine S.k hf rfl fun a hf => ?_
                            refine S.k hf rfl fun a hf => ?_
                            refine S.k hf rfl fun a hf => ?_
                            refine S.k hf rfl fun a hf => ?_
                            refine S.k hf rfl fun a hf => ?_
                            refine S.k hf rfl fun a hf => ?_
                            refine S.k hf rfl fun a hf => ?_
                            refine S.k hf rfl fun a hf => ?_
                            refine S.k hf rfl fun a hf => ?_
                            refine S.k hf rfl fun a hf => ?_
                            refine S.k hf rfl fun a hf => ?_
                            refine S.k hf rfl fun a hf => ?_
                            refine S.k hf rfl fun a hf => ?_
                            refine S.k hf rfl fun a hf => ?_
                            refine S.k hf rfl fun a hf => ?_
                            refine S.k hf rfl fun a hf => ?_
                            refine S.k hf rfl fun a hf => ?_
                            refine S.k hf rfl fun a hf => ?_
                            refine S.k hf rfl fun a hf => ?_
                            refine S.k hf rfl fun a hf => ?_
                            refine S.p hf hs (.bool false) rfl rfl fun a hf => ?_
                            refine R.nil ?_
                            refine X.then_ ?_
                            exact ⟨false, h, (((((((((((((hf.nil.cons (hf.get 159 _ rfl)).cons (hf.get 74 _ rfl)).cons (hf.get 73 _ rfl)).cons (hf.get 20 _ rfl)).cons (hf.get 19 _ rfl)).cons (hf.get 18 _ rfl)).cons (hf.get 17 _ rfl)).cons (hf.get 16 _ rfl)).cons (hf.get 15 _ rfl)).cons (hf.get 14 _ rfl)).cons (hf.get 13 _ rfl)).cons (hf.get 12 _ rfl)).cons (hf.get 2 _ rfl)), hs⟩
                        · replace h := h.2 hc
                          refine S.k hf rfl fun a hf => ?_
                          refine S.k hf rfl fun a hf => ?_
                          refine S.p hf hs (.bool false) rfl rfl fun a hf => ?_
                          refine S.p hf hs (.bool false) rfl rfl fun a hf => ?_
                          refine S.k hf rfl fun a hf => ?_
                          refine S.k hf rfl fun a hf => ?_
                          refine S.k hf rfl fun a hf => ?_
                          refine S.k hf rfl fun a hf => ?_
                          refine S.k hf rfl fun a hf => ?_
                          refine S.k hf rfl fun a hf => ?_
                          refine S.k hf rfl fun a hf => ?_
                          refine S.k hf rfl fun a hf => ?_
                          refine S.k hf rfl fun a hf => ?_
                          refine S.k hf rfl fun a hf => ?_
                          refine S.k hf rfl fun a hf => ?_
                          refine S.k hf rfl fun a hf => ?_
                          refine S.k hf rfl fun a hf => ?_
                          refine S.k hf rfl fun a hf => ?_
                          refine S.k hf rfl fun a hf => ?_
                          refine S.k hf rfl fun a hf => ?_
                          refine S.k hf rfl fun a hf => ?_
                          refine S.k hf rfl fun a hf => ?_
                          refine S.k hf rfl fun a hf => ?_
                          refine S.k hf rfl fun a hf => ?_
                          refine S.k hf rfl fun a hf => ?_
                          refine S.p hf hs (.bool false) rfl rfl fun a hf => ?_
                          refine R.nil ?_
                          refine X.then_ ?_
                          exact ⟨false, h, (((((((((((((hf.nil.cons (hf.get 159 _ rfl)).cons (hf.get 74 _ rfl)).cons (hf.get 73 _ rfl)).cons (hf.get 20 _ rfl)).cons (hf.get 19 _ rfl)).cons (hf.get 18 _ rfl)).cons (hf.get 17 _ rfl)).cons (hf.get 16 _ rfl)).cons (hf.get 15 _ rfl)).cons (hf.get 14 _ rfl)).cons (hf.get 13 _ rfl)).cons (hf.get 12 _ rfl)).cons (hf.get 2 _ rfl)), hs⟩
                  · replace h := h.2 hc
                    refine wp_exit ?_
                    refine X.then_exit ?_
                    refine X.then_exit ?_
                    refine X.blk_exit ?_
                    refine X.blk ?_
                    refine X.then_ ?_
                    refine R.list ?_
                    refine S.p hf hs (iv (w64 (n5 + 1))) rfl rfl fun a hf => ?_
                    refine S.p hf hs (iv (w64 (n5 + 1))) rfl rfl fun a hf => ?_
                    refine R.nil ?_
                    refine X.then_ ?_
                    exact ⟨l7, l7A, l7C, l7as, (w64 (n5 + 1)), (by rw [hagain2] at h; exact h), ((((((((hf.nil.cons (hf.get 74 _ rfl)).cons (hf.get 73 _ rfl)).cons (hf.get 16 _ rfl)).cons (hf.get 15 _ rfl)).cons (hf.get 14 _ rfl)).cons (hf.get 13 _ rfl)).cons (hf.get 12 _ rfl)).cons (hf.get 2 _ rfl)), hs⟩
                · skip
                  refine wp_seq ?_
                  refine C.cut (J := fun a w => ∃ (c2 : Bool), M_ref7_LeastTree_k8 n3 l4 n5 again2 x3 c2 ∧ FrOk 191 [(2, .slice pinsA pins.length pinsC), (12, (pn y3g 0)), (13, iv (y3.1.length : Int)), (14, iv (shlI .i64 1 (pins.length : Int))), (15, .slice l4A (l4.set n3.toNat (x3.set n5.toNat (-1))).length l4C), (16, iv n3), (17, iv n5), (73, iv (y3.1.length : Int)), (74, iv n5), (98, .bool c2)] a ∧ Sat w0 none_ [hrows 55 3 l4A l4C l4as (l4.set n3.toNat (x3.set n5.toNat (-1))), hbox y3g 72 [iv g.W, iv g.H, iv g.Layers, .slice g_BlockedA g.Blocked.length g_BlockedC, iv c.Step, iv c.Via, iv c.Turn, iv c.Against, .slice y3A0 y3.1.length y3C0, .slice y3A1 y3.2.length y3C1], hown 4 y3A0 y3C0 y3.1, hown 60 y3A1 y3C1 y3.2, hbox g2 26 [iv c.Step, iv c.Via, iv c.Turn, iv c.Against], hbox g1 24 [iv g.W, iv g.H, iv g.Layers, .slice g_BlockedA g.Blocked.length g_BlockedC]] w) ?_ ?_
                  · rintro a w ⟨c2, h, hf, hs⟩
                    unfold M_ref7_LeastTree_k8 at h
                    refine C.cond hf (b := c2) rfl (fun hc => ?_) (fun hc => ?_)
                    · replace h := h.1 hc
                      refine R.list ?_
                      refine S.p hf hs (.slice l4A (l4.set n3.toNat (x3.set n5.toNat (-1))).length l4C) rfl rfl fun a hf => ?_
                      refine S.p hf hs (iv n3) rfl rfl fun a hf => ?_
                      refine S.v hf hs (elemPtr l4A (n3.toNat * 1)) rfl (V.index rfl rfl rfl Try.runUnderlying83 Try.sizeOf55 (hs.rowsSome 0 rfl hx2) h0x3 (lt_of_get hx2) rfl) fun a hf => ?_
                      refine S.v hf hs (.slice B2 (x3.set n5.toNat (-1)).length D2) rfl (V.loadRows (off := 0) 0 rfl hx2 hrB2 rfl rfl rfl Try.isAgg55 Try.sizeOf55 rfl rfl) fun a hf => ?_
                      refine S.p hf hs (iv n5) rfl rfl fun a hf => ?_
                      obtain ⟨h0x13, x13, hx13, h⟩ := h
                      refine S.v hf hs (elemPtr B2 (n5.toNat * 1)) rfl (V.index rfl rfl rfl Try.runUnderlying55 Try.sizeOf3 ((hs.rowView 0 rfl hx2 hrB2).some_ (lt_of_get hx13)) h0x13 (lt_of_get hx13) rfl) fun a hf => ?_
                      refine S.storeRowEl (off := 0) 0 hf hs rfl rfl ((x3.set n5.toNat (-1)).set n5.toNat 0) 0 [iv 0] rfl hx2 hrB2 hx13 rfl (row_same _ _ List.length_set _ _) rfl rfl rfl rfl rfl Try.sizeOf3 rfl (by decide) rfl rfl (fun a w hf hs => ?_)
                      replace hf := hf.tell 15 (v := .slice l4A ((l4.set n3.toNat (x3.set n5.toNat (-1))).set n3.toNat ((x3.set n5.toNat (-1)).set n5.toNat 0)).length l4C) ((hf.get 15 (.slice l4A (l4.set n3.toNat (x3.set n5.toNat (-1))).length l4C) rfl).trans (congrArg (fun n => Value.slice l4A n l4C) List.length_set.symm))
                      replace hf := hf.tell 99 (v := .slice l4A ((l4.set n3.toNat (x3.set n5.toNat (-1))).set n3.toNat ((x3.set n5.toNat (-1)).set n5.toNat 0)).length l4C) ((hf.get 99 (.slice l4A (l4.set n3.toNat (x3.set n5.toNat (-1))).length l4C) rfl).trans (congrArg (fun n => Value.slice l4A n l4C) List.length_set.symm))
                      have hx4 : ((l4.set n3.toNat (x3.set n5.toNat (-1))).set n3.toNat ((x3.set n5.toNat (-1)).set n5.toNat 0))[n3.toNat]? = some ((x3.set n5.toNat (-1)).set n5.toNat 0) := List.getElem?_set_self (lt_of_get hx2)
                      replace hf := hf.tell 102 (v := .slice B2 ((x3.set n5.toNat (-1)).set n5.toNat 0).length D2) ((hf.get 102 (.slice B2 (x3.set n5.toNat (-1)).length D2) rfl).trans (congrArg (fun n => Value.slice B2 n D2) List.length_set.symm))
                      refine R.nil ?_
                      refine X.then_ ?_
                      exact ⟨((l4.set n3.toNat (x3.set n5.toNat (-1))).set n3.toNat ((x3.set n5.toNat (-1)).set n5.toNat 0)), l4A, l4C, l4as, h, (((((((((hf.nil.cons (hf.get 74 _ rfl)).cons (hf.get 73 _ rfl)).cons (hf.get 17 _ rfl)).cons (hf.get 16 _ rfl)).cons (hf.get 15 _ rfl)).cons (hf.get 14 _ rfl)).cons (hf.get 13 _ rfl)).cons (hf.get 12 _ rfl)).cons (hf.get 2 _ rfl)), hs⟩
                    · replace h := h.2 hc
                      refine wp_skip ?_
                      refine X.then_ ?_
                      exact ⟨(l4.set n3.toNat (x3.set n5.toNat (-1))), l4A, l4C, l4as, h, (((((((((hf.nil.cons (hf.get 74 _ rfl)).cons (hf.get 73 _ rfl)).cons (hf.get 17 _ rfl)).cons (hf.get 16 _ rfl)).cons (hf.get 15 _ rfl)).cons (hf.get 14 _ rfl)).cons (hf.get 13 _ rfl)).cons (hf.get 12 _ rfl)).cons (hf.get 2 _ rfl)), hs⟩
                  · skip
                    refine R.list ?_
                    refine S.p hf hs (iv n3) rfl rfl fun a hf => ?_
                    refine S.p hf hs (iv n3) rfl rfl fun a hf => ?_
                    refine S.p hf hs (iv (w64 (n3 - 1))) rfl rfl fun a hf => ?_
                    refine S.v hf hs (iv (andI .i64 n3 (w64 (n3 - 1)))) rfl (V.bits rfl rfl rfl rfl) fun a hf => ?_
                    refine S.p hf hs (.bool ((andI .i64 n3 (w64 (n3 - 1))) == 0)) rfl rfl fun a hf => ?_
                    refine S.split hf hs (b := (andI .i64 n3 (w64 (n3 - 1))) == 0) rfl rfl rfl (V.pure rfl) (fun hc a hf => ?_) (fun hc a hf => ?_)
                    · replace h := h.1 hc
                      refine S.p hf hs ((pn y3g 0)) rfl rfl fun a hf => ?_
                      refine S.p hf hs (iv n5) rfl rfl fun a hf => ?_
                      refine S.call hf rfl rfl rfl (call_fn (vs := [(pn y3g 0), iv n5]) rfl rfl rfl Try.call60) (R_field_cell (⟨g, c, y3.1, y3.2⟩ : R7Field) n5 _ g_BlockedA g_BlockedC ((Ag.args _ _ _).view hv_g_Blocked hs) y3A0 y3C0 (hs.ownView 2 rfl) y3A1 y3C1 (hs.ownView 3 rfl) y3g (hs.boxAt 1 rfl) _ h) (fun v a w' hf hr => ?_)
                      obtain ⟨y4, rfl, h2, hs2⟩ := hr
                      replace h := h2; replace hs := hs.call hs2; clear h2 hs2
                      refine S.p hf hs (.slice pinsA pins.length pinsC) rfl rfl fun a hf => ?_
                      refine S.p hf hs (iv n3) rfl rfl fun a hf => ?_
                      refine S.call hf rfl rfl rfl (call_fn (vs := [iv n3]) rfl rfl rfl Try.call61) (R_ref7_bitOf n3 _  _ h) (fun v a w' hf hr => ?_)
                      obtain ⟨y5, rfl, h2, hs2⟩ := hr
                      replace h := h2; replace hs := hs.call hs2; clear h2 hs2
                      obtain ⟨h0x14, x14, hx14, h⟩ := h
                      refine S.v hf hs (elemPtr pinsA (y5.toNat * 3)) rfl (V.index rfl rfl rfl Try.runUnderlying22 Try.sizeOf28 (hv_pins.some_ (lt_of_get hx14)) h0x14 (lt_of_get hx14) rfl) fun a hf => ?_
                      refine S.v hf hs (.agg #[iv x14.X, iv x14.Y, iv x14.Layer]) rfl (V.loadEl (off := 0) (Ag.args _ _ _) (hv_pins.flat hx14) rfl rfl rfl Try.isAgg28 Try.sizeOf28 rfl rfl) fun a hf => ?_
                      refine S.v hf hs (.bool (decide (y4 = x14))) rfl (V.aggeql rfl rfl rfl (by kernel_rfl) (fun w => eqS28 y4 x14 w)) fun a hf => ?_
                      refine S.p hf hs (.bool (decide (y4 = x14))) rfl rfl fun a hf => ?_
                      refine R.nil ?_
                      refine X.then_ ?_
                      exact ⟨(decide (y4 = x14)), h, ((((((((((hf.nil.cons (hf.get 98 _ rfl)).cons (hf.get 74 _ rfl)).cons (hf.get 73 _ rfl)).cons (hf.get 17 _ rfl)).cons (hf.get 16 _ rfl)).cons (hf.get 15 _ rfl)).cons (hf.get 14 _ rfl)).cons (hf.get 13 _ rfl)).cons (hf.get 12 _ rfl)).cons (hf.get 2 _ rfl)), hs⟩
                    · replace h := h.2 hc
                      refine S.k hf rfl fun a hf => ?_
                      refine S.k hf rfl fun a hf => ?_
                      refine S.k hf rfl fun a hf => ?_
                      refine S.k hf rfl fun a hf => ?_
                      refine S.k hf rfl fun a hf => ?_
                      refine S.k hf rfl fun a hf => ?_
                      refine S.k hf rfl fun a hf => ?_
                      refine S.k hf rfl fun a hf => ?_
                      refine S.k hf rfl fun a hf => ?_
                      refine S.p hf hs (.bool false) rfl rfl fun a hf => ?_
                      refine R.nil ?_
                      refine X.then_ ?_
                      exact ⟨false, h, ((((((((((hf.nil.cons (hf.get 98 _ rfl)).cons (hf.get 74 _ rfl)).cons (hf.get 73 _ rfl)).cons (hf.get 17 _ rfl)).cons (hf.get 16 _ rfl)).cons (hf.get 15 _ rfl)).cons (hf.get 14 _ rfl)).cons (hf.get 13 _ rfl)).cons (hf.get 12 _ rfl)).cons (hf.get 2 _ rfl)), hs⟩
              · replace h := h.2 hc
                refine wp_exit ?_
                refine X.then_exit ?_
                refine X.then_exit ?_
                refine X.blk_exit ?_
                refine X.then_ ?_
                refine R.list ?_
                refine S.p hf hs ((pn y3g 0)) rfl rfl fun a hf => ?_
                refine S.p hf hs (.slice l4A l4.length l4C) rfl rfl fun a hf => ?_
                refine S.p hf hs (iv n3) rfl rfl fun a hf => ?_
                obtain ⟨h0x15, x15, hx15, h⟩ := h
                refine S.v hf hs (elemPtr l4A (n3.toNat * 1)) rfl (V.index rfl rfl rfl Try.runUnderlying83 Try.sizeOf55 (hs.rowsSome 0 rfl hx15) h0x15 (lt_of_get hx15) rfl) fun a hf => ?_
                obtain ⟨B7, D7, hrB7⟩ := hs.rowAt 0 rfl hx15
                refine S.v hf hs (.slice B7 x15.length D7) rfl (V.loadRows (off := 0) 0 rfl hx15 hrB7 rfl rfl rfl Try.isAgg55 Try.sizeOf55 rfl rfl) fun a hf => ?_
                replace hs := hs.takeRow 0 rfl hx15 hrB7
                obtain ⟨F1, hsF, hback, hold, hrest⟩ := Sat.callOwns [hown 3 B7 D7 x15] (σ := [hrowsH 55 3 l4A l4C l4as l4 n3.toNat, hbox y3g 72 [iv g.W, iv g.H, iv g.Layers, .slice g_BlockedA g.Blocked.length g_BlockedC, iv c.Step, iv c.Via, iv c.Turn, iv c.Against, .slice y3A0 y3.1.length y3C0, .slice y3A1 y3.2.length y3C1], hown 4 y3A0 y3C0 y3.1, hown 60 y3A1 y3C1 y3.2, hbox g2 26 [iv c.Step, iv c.Via, iv c.Turn, iv c.Against], hbox g1 24 [iv g.W, iv g.H, iv g.Layers, .slice g_BlockedA g.Blocked.length g_BlockedC]]) hs
                refine S.call hf rfl rfl rfl (call_fn (vs := [(pn y3g 0), .slice B7 x15.length D7]) rfl rfl rfl Try.call62) (R_field_grow (⟨g, c, y3.1, y3.2⟩ : R7Field) x15 _ _ g_BlockedA g_BlockedC (viewArgsF hs hold hv_g_Blocked) y3A0 y3C0 (ownViewF hrest 2 rfl) y3A1 y3C1 (ownViewF hrest 3 rfl) y3g (boxAtF hrest 1 rfl) B7 D7 hsF _ h) (fun v a w' hf hr => ?_)
                obtain ⟨z1, hl_z1, rfl, h2, hs2⟩ := hr
                replace h := h2; replace hs := hback _ _ hs2; clear h2 hs2 hback hold hrest hsF
                replace hs := Sat.backRow 0 hs rfl hx15 hrB7 z1 rfl (row_same _ _ hl_z1 _ _)
                replace hf := hf.tell 15 (v := .slice l4A (l4.set n3.toNat z1).length l4C) ((hf.get 15 (.slice l4A l4.length l4C) rfl).trans (congrArg (fun n => Value.slice l4A n l4C) List.length_set.symm))
                replace hf := hf.tell 171 (v := .slice l4A (l4.set n3.toNat z1).length l4C) ((hf.get 171 (.slice l4A l4.length l4C) rfl).trans (congrArg (fun n => Value.slice l4A n l4C) List.length_set.symm))
                have hx5 : (l4.set n3.toNat z1)[n3.toNat]? = some z1 := List.getElem?_set_self (lt_of_get hx15)
                replace hf := hf.tell 174 (v := .slice B7 z1.length D7) ((hf.get 174 (.slice B7 x15.length D7) rfl).trans (congrArg (fun n => Value.slice B7 n D7) hl_z1.symm))
                refine R.nil ?_
                refine X.blk ?_
                refine X.then_ ?_
                refine R.list ?_
                refine S.p hf hs (iv n3) rfl rfl fun a hf => ?_
                refine S.p hf hs (iv (w64 (n3 + 1))) rfl rfl fun a hf => ?_
                refine S.p hf hs (iv (w64 (n3 + 1))) rfl rfl fun a hf => ?_
                refine R.nil ?_
                refine X.then_ ?_
                exact ⟨(l4.set n3.toNat z1), l4A, l4C, l4as, (w64 (n3 + 1)), (by rw [hagain1] at h; exact h), ((((((hf.nil.cons (hf.get 16 _ rfl)).cons (hf.get 15 _ rfl)).cons (hf.get 14 _ rfl)).cons (hf.get 13 _ rfl)).cons (hf.get 12 _ rfl)).cons (hf.get 2 _ rfl)), hs⟩
            · replace h := h.2 hc
              refine wp_exit ?_
              refine X.then_exit ?_
              refine X.then_exit ?_
              refine X.blk_exit ?_
              refine X.then_ ?_
              refine wp_seq ?_
              refine H.start (S := Sat w0 none_ [hrows 55 3 l2A l2C l2as l2, hbox y3g 72 [iv g.W, iv g.H, iv g.Layers, .slice g_BlockedA g.Blocked.length g_BlockedC, iv c.Step, iv c.Via, iv c.Turn, iv c.Against, .slice y3A0 y3.1.length y3C0, .slice y3A1 y3.2.length y3C1], hown 4 y3A0 y3C0 y3.1, hown 60 y3A1 y3C1 y3.2, hbox g2 26 [iv c.Step, iv c.Via, iv c.Turn, iv c.Against], hbox g1 24 [iv g.W, iv g.H, iv g.Layers, .slice g_BlockedA g.Blocked.length g_BlockedC]]) mo ?_
              replace hs := hs.drew
              refine H.v hf hs (.slice l2A l2.length l2C) 0 rfl rfl (by kernel_rfl) (V.pure rfl) fun a hf => ?_
              refine H.v hf hs (iv (shlI .i64 1 (pins.length : Int))) 1 rfl rfl (by kernel_rfl) (V.pure rfl) fun a hf => ?_
              refine H.v hf hs (iv (w64 ((shlI .i64 1 (pins.length : Int)) - 1))) 2 rfl rfl (by kernel_rfl) (V.pure rfl) fun a hf => ?_
              obtain ⟨h0x16, x16, hx16, h⟩ := h
              refine H.v hf hs (elemPtr l2A ((w64 ((shlI .i64 1 (pins.length : Int)) - 1)).toNat * 1)) 3 rfl rfl (by kernel_rfl) (V.index rfl rfl rfl Try.runUnderlying83 Try.sizeOf55 (hs.rowsSome 0 rfl hx16) h0x16 (lt_of_get hx16) rfl) fun a hf => ?_
              obtain ⟨B8, D8, hrB8⟩ := hs.rowAt 0 rfl hx16
              refine H.v hf hs (.slice B8 x16.length D8) 4 rfl rfl (by kernel_rfl) (V.loadRows (off := 0) 0 rfl hx16 hrB8 rfl rfl rfl Try.isAgg55 Try.sizeOf55 rfl rfl) fun a hf => ?_
              refine H.v hf hs ((pn y3g 0)) 5 rfl rfl (by kernel_rfl) (V.pure rfl) fun a hf => ?_
              refine H.v hf hs (.slice pinsA pins.length pinsC) 6 rfl rfl (by kernel_rfl) (V.pure rfl) fun a hf => ?_
              refine H.v hf hs (elemPtr pinsA (0 * 3)) 7 rfl rfl (by kernel_rfl) (V.index rfl rfl rfl Try.runUnderlying22 Try.sizeOf28 (hv_pins.some_ (lt_of_get hx1)) h0x1 (lt_of_get hx1) rfl) fun a hf => ?_
              refine H.v hf hs (.agg #[iv x1.X, iv x1.Y, iv x1.Layer]) 8 rfl rfl (by kernel_rfl) (V.loadEl (off := 0) (Ag.args _ _ _) (hv_pins.flat hx1) rfl rfl rfl Try.isAgg28 Try.sizeOf28 rfl rfl) fun a hf => ?_
              refine H.one (i := 9) rfl (by kernel_rfl) ?_
              refine S.call hf rfl rfl rfl (call_fn (vs := [(pn y3g 0), .agg #[iv x1.X, iv x1.Y, iv x1.Layer]]) rfl rfl rfl Try.call63) (R_field_at (⟨g, c, y3.1, y3.2⟩ : R7Field) x1 _ g_BlockedA g_BlockedC ((Ag.args _ _ _).view hv_g_Blocked hs) y3A0 y3C0 (hs.ownView 2 rfl) y3A1 y3C1 (hs.ownView 3 rfl) y3g (hs.boxAt 1 rfl) _ h) (fun v a w' hf hr => ?_)
              obtain ⟨y6, rfl, h2, hs2⟩ := hr
              replace h := h2; replace hs := hs.call hs2; clear h2 hs2
              refine R.nil ?_
              refine X.then_ ?_
              refine ⟨hs, ?_⟩
              obtain ⟨h0x17, x17, hx17, h⟩ := h
              refine H.v hf hs (elemPtr B8 (y6.toNat * 1)) 10 rfl rfl (by kernel_rfl) (V.index rfl rfl rfl Try.runUnderlying55 Try.sizeOf3 ((hs.rowView 0 rfl hx16 hrB8).some_ (lt_of_get hx17)) h0x17 (lt_of_get hx17) rfl) fun a hf => ?_
              refine H.v hf hs (iv x17) 11 rfl rfl (by kernel_rfl) (V.loadRowEl (off := 0) 0 rfl hx16 hrB8 hx17 rfl rfl rfl Try.isAgg3 Try.sizeOf3 rfl rfl) fun a hf => ?_
              refine H.v hf hs (iv x17) 12 rfl rfl (by kernel_rfl) (V.pure rfl) fun a hf => ?_
              refine H.done (by kernel_rfl) ?_
              refine X.then_ ?_
              refine wp_seq ?_
              refine wp_seq ?_
              refine R.list ?_
              refine S.p hf hs (iv x17) rfl rfl fun a hf => ?_
              refine S.p hf hs (.bool (decide (x17 < 0))) rfl rfl fun a hf => ?_
              refine R.nil ?_
              refine X.then_ ?_
              refine C.cond hf (b := decide (x17 < 0)) rfl (fun hc => ?_) (fun hc => ?_)
              · replace h := h.1 hc
                refine wp_seq ?_
                refine R.list ?_
                refine S.p hf hs (iv 0) rfl rfl fun a hf => ?_
                refine S.p hf hs (.bool false) rfl rfl fun a hf => ?_
                refine S.p hf hs (iv 0) rfl rfl fun a hf => ?_
                refine R.nil ?_
                refine X.then_ ?_
                refine wp_ret ?_
                refine X.then_ret ?_
                exact L.ret hf (run_results3 Try.results29 (ResIs.tmp hf rfl) (ResIs.tmp hf rfl) (ResIs.tmp hf rfl)) ⟨0, false, 0, rfl, h, hs.nil⟩
              · replace h := h.2 hc
                refine wp_skip ?_
                refine X.then_ ?_
                refine wp_seq ?_
                refine R.list ?_
                refine S.p hf hs (iv x17) rfl rfl fun a hf => ?_
                refine S.p hf hs (iv x17) rfl rfl fun a hf => ?_
                refine S.p hf hs (.bool true) rfl rfl fun a hf => ?_
                refine S.p hf hs (iv 0) rfl rfl fun a hf => ?_
                refine R.nil ?_
                refine X.then_ ?_
                refine wp_ret ?_
                exact L.ret hf (run_results3 Try.results29 (ResIs.tmp hf rfl) (ResIs.tmp hf rfl) (ResIs.tmp hf rfl)) ⟨x17, true, 0, rfl, h, hs.nil⟩
    · skip
      refine wp_seq ?_
      refine R.list ?_
      refine S.v hf hs ((pn g1 0)) rfl (V.fieldBox rfl rfl Try.runUnderlying24 rfl Try.sizeOf3 rfl rfl) fun a hf => ?_
      refine S.v hf hs (iv g.W) rfl (V.loadBox 1 rfl rfl rfl Try.isAgg3 Try.sizeOf3 rfl rfl) fun a hf => ?_
      refine S.v hf hs ((pn g1 1)) rfl (V.fieldBox rfl rfl Try.runUnderlying24 rfl Try.sizeOf3 rfl rfl) fun a hf => ?_
      refine S.v hf hs (iv g.H) rfl (V.loadBox 1 rfl rfl rfl Try.isAgg3 Try.sizeOf3 rfl rfl) fun a hf => ?_
      refine S.p hf hs (iv (w64 (g.W * g.H))) rfl rfl fun a hf => ?_
      refine S.v hf hs ((pn g1 2)) rfl (V.fieldBox rfl rfl Try.runUnderlying24 rfl Try.sizeOf3 rfl rfl) fun a hf => ?_
      refine S.v hf hs (iv g.Layers) rfl (V.loadBox 1 rfl rfl rfl Try.isAgg3 Try.sizeOf3 rfl rfl) fun a hf => ?_
      refine S.p hf hs (iv (w64 ((w64 (g.W * g.H)) * g.Layers))) rfl rfl fun a hf => ?_
      refine S.p hf hs (.bool (decide (w64 ((w64 (g.W * g.H)) * g.Layers) > 400))) rfl rfl fun a hf => ?_
      refine R.nil ?_
      refine X.then_ ?_
      refine C.cond hf (b := decide (w64 ((w64 (g.W * g.H)) * g.Layers) > 400)) rfl (fun hc => ?_) (fun hc => ?_)
      · replace h := h.1 hc
        refine R.list ?_
        refine S.p hf hs (iv (-1)) rfl rfl fun a hf => ?_
        refine R.nil ?_
        refine X.then_ ?_
        exact ⟨(-1), h, ((((hf.nil.cons (hf.get 10 _ rfl)).cons (hf.get 4 _ rfl)).cons (hf.get 3 _ rfl)).cons (hf.get 2 _ rfl)), hs⟩
      · replace h := h.2 hc
        refine wp_skip ?_
        refine X.then_ ?_
        exact ⟨6, h, ((((hf.nil.cons (hf.get 10 _ rfl)).cons (hf.get 4 _ rfl)).cons (hf.get 3 _ rfl)).cons (hf.get 2 _ rfl)), hs⟩


end Go.Proofs.Ytihjaehkdgdenaa
