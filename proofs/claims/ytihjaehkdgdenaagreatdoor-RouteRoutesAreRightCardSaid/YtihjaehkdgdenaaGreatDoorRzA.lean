/- Chapter texts of ours, as far as the claim needs them. -/
import Derived.Test.YtihjaehkdgdenaaGreatDoorRtY
import Derived.Test.YtihjaehkdgdenaaGreatDoorRyA
import Derived.Test.YtihjaehkdgdenaaGreatDoorCut
namespace Go.Proofs.YtihjaehkdgdenaaGreatDoor
open Tryz Go Go.RowKit
set_option linter.unusedVariables false
set_option linter.unusedSectionVars false
set_option linter.unusedSimpArgs false
set_option maxHeartbeats 1000000
def M_clone_bool (s_ : (List Bool)) (Q : (List Bool) → Prop) : Prop :=
  nilq s_ fun b1 => cnd b1 (Q ([] : List Bool)) (must (room (([] : List Bool) ++ s_).length 1) (Q (([] : List Bool) ++ s_)))
theorem R_clone_bool (s_ : (List Bool)) (w0 : World) (s_A : Option Addr) (s_C : Nat) (hv_s_ : View w0 (old w0 none_) s_A s_C s_) (Q : (List Bool) → Prop) (h : M_clone_bool s_ Q) :
  Ret Tryz.prog 80 #[.slice s_A s_.length s_C] w0 fun v w' => ∃ (r0 : (List Bool)) (r0A : Option Addr) (r0C : Nat), v = .slice r0A r0.length r0C ∧ Q r0 ∧ Sat w0 none_ [hown 4 r0A r0C r0] w' := by
 refine fn_enter func80 rfl ntmps80 rfl (fs := [(0, .slice s_A s_.length s_C)]) rfl (fun a hf => ?_)
 have hs := Sat.start w0 none_
 unfold M_clone_bool at h
 refine X.l (S.q hf hs (.slice none 0 0) rfl fun a hf => X.n (wp_seq (X.l (S.q hf hs (.slice s_A s_.length s_C) rfl fun a hf => ?_))))
 obtain ⟨b1, hb1⟩ : ∃ b : Bool, b = Option.isNone s_A := ⟨_, rfl⟩
 replace h := h b1 (fun e => ((Ag.args _ _ _).view hv_s_ hs).nil_of (hb1.symm.trans e))
 refine S.v hf hs (.bool b1) rfl (V.eqNil b1 rfl rfl rfl underlying49 (by kernel_rfl) hb1) fun a hf => X.n ?_
 refine C.cond hf (b := b1) rfl (fun hc => ?_) (fun hc => ?_)
 ·replace h := h.1 hc
  refine X.l (S.q hf hs (.slice none 0 0) rfl fun a hf => X.n (wp_ret (X.then_ret ?_)))
  replace hs := hs.nilOwn (α := Bool) 4
  replace hs := hs.take 1
  exact L.ret hf (run_results1 results80 (ResIs.tmp hf rfl)) ⟨([] : List Bool), none, 0, rfl, h, hs⟩
 ·replace h := h.2 hc
  refine wp_skip (X.then_ (X.l (S.buildEmpty (α := Bool) hf hs rfl rfl rfl rfl runUnderlying49 sizeOf4 (fun A1 a w hf hs => S.q hf hs (.slice s_A s_.length s_C) rfl fun a hf => ?_))))
  obtain ⟨hroom, h⟩ := h
  refine S.appendAny 0 hf hs rfl rfl rfl rfl rfl rfl rfl underlying49 info4 rfl hroom ((Ag.args _ _ _).view hv_s_ hs) (fun A2 C1 a w hf hs => S.q hf hs (.slice A2 (([] : List Bool) ++ s_).length C1) rfl fun a hf => X.n (wp_ret ?_))
  replace hs := hs.take 1
  exact L.ret hf (run_results1 results80 (ResIs.tmp hf rfl)) ⟨(([] : List Bool) ++ s_), A2, C1, rfl, h, hs⟩
def M_route_round_L5 (g : Grid) (k5 : Nat) (xk5 : Cell) (l14 : List Bool) (next5 : List Bool → Prop) : Prop :=
  M_route_number g xk5 fun y5 => idx l14 y5 fun x3 => next5 (l14.set y5.toNat true)
def M_route_round_L4 (g : Grid) (k4 : Nat) (xk4 : (List Cell)) (l12 : List Bool) (next4 : List Bool → Prop) : Prop :=
  forIn' (fun k x (s : List Bool) next => M_route_round_L5 g k x s (fun l14 => next l14)) (fun (s : List Bool) => (fun (l14 : List Bool) => next4 l14) s) xk4 0 l12
def M_route_round_k6 (k3 : Nat) (l10 : List Bool) (next3 : List Bool → Prop) (c1 : Bool) : Prop :=
  cnd c1 (idx l10 (k3 : Int) fun x4 => next3 (l10.set k3 true)) (next3 l10)
def M_route_round_L3 (xk2 : Int) (k3 : Nat) (xk3 : Int) (l10 : List Bool) (next3 : List Bool → Prop) : Prop :=
  cnd (decide (xk3 > 0)) (M_route_round_k6 k3 l10 next3 (xk3 != (w64 (xk2 + 1)))) (M_route_round_k6 k3 l10 next3 false)
def M_route_round_L2 (g : Grid) (c : Costs) (t : (List Task)) (l2 : List Int) (k2 : Nat) (xk2 : Int) (l6 : List Int) (l7 : List (List (List Cell))) (l8 : List Bool) (next2 : List Int → List (List (List Cell)) → List Bool → Prop) : Prop :=
  M_clone_bool l8 fun y2 => forIn' (fun k x (s : List Bool) next => M_route_round_L3 xk2 k x s (fun l10 => next l10)) (fun (s : List Bool) => (fun (l10 : List Bool) => idx t xk2 fun x1 => M_finder_tree (⟨g, c, l10⟩ : RouteFinder) x1.Pins fun y3 y4 => cnd (!y4) (must (room (l6 ++ [xk2]).length 8) (next2 (l6 ++ [xk2]) l7 l8)) (idx l7 xk2 fun x2 => forIn' (fun k x (s : List Bool) next => M_route_round_L4 g k x s (fun l12 => next l12)) (fun (s : List Bool) => (fun (l12 : List Bool) => next2 l6 (l7.set xk2.toNat y3) l12) s) y3 0 l8)) s) l2 0 y2
def M_route_round_L6 (g : Grid) (k1 : Nat) (k7 : Nat) (xk7 : Cell) (l16 : List Int) (next6 : List Int → Prop) : Prop :=
  M_route_number g xk7 fun y6 => idx l16 y6 fun x5 => next6 (l16.set y6.toNat ((k1 + 1 : Nat) : Int))
def M_route_round_L1 (g : Grid) (k1 : Nat) (xk1 : Task) (l2 : List Int) (next1 : List Int → Prop) : Prop :=
  forIn' (fun k x (s : List Int) next => M_route_round_L6 g k1 k x s (fun l16 => next l16)) (fun (s : List Int) => (fun (l16 : List Int) => next1 l16) s) xk1.Pins 0 l2
def M_route_round (g : Grid) (c : Costs) (t : (List Task)) (row : (List Int)) (Q : (List (List (List Cell))) → (List Int) → Prop) : Prop :=
  M_route_blocked g fun y1 => must (0 ≤ (y1.length : Int) ∧ (y1.length : Int) * 8 ≤ 281474976710656) (forIn' (fun k x (s : List Int) next => M_route_round_L1 g k x s (fun l2 => next l2)) (fun (s : List Int) => (fun (l2 : List Int) => must (0 ≤ (t.length : Int) ∧ (t.length : Int) * 24 ≤ 281474976710656) (forIn' (fun k x (s : List Int × List (List (List Cell)) × List Bool) next => M_route_round_L2 g c t l2 k x s.1 s.2.1 s.2.2 (fun l6 l7 l8 => next (l6, l7, l8))) (fun (s : List Int × List (List (List Cell)) × List Bool) => (fun (l6 : List Int) (l7 : List (List (List Cell))) (l8 : List Bool) => Q l7 l6) s.1 s.2.1 s.2.2) row 0 (([] : List Int), (List.replicate t.length ([] : (List (List Cell)))), y1))) s) t 0 (List.replicate y1.length (0 : Int)))
theorem R_route_round (g : Grid) (c : Costs) (t : (List Task)) (row : (List Int)) (w0 : World) (g_BlockedA : Option Addr) (g_BlockedC : Nat) (hv_g_Blocked : View w0 (old w0 none_) g_BlockedA g_BlockedC g.Blocked) (tA : Option Addr) (tC : Nat) (hv_t : View w0 (old w0 none_) tA tC t) (rowA : Option Addr) (rowC : Nat) (hv_row : View w0 (old w0 none_) rowA rowC row) (Q : (List (List (List Cell))) → (List Int) → Prop) (h : M_route_round g c t row Q) :
  Ret Tryz.prog 39 #[.agg #[iv g.W, iv g.H, iv g.Layers, .slice g_BlockedA g.Blocked.length g_BlockedC], .agg #[iv c.Step, iv c.Via, iv c.Turn, iv c.Against], .slice tA t.length tC, .slice rowA row.length rowC] w0 fun v w' => ∃ (r0 : (List (List (List Cell)))) (r0A : Option Addr) (r0C : Nat) (r0as : List Dp) (r1 : (List Int)) (r1A : Option Addr) (r1C : Nat), v = .tuple #[.slice r0A r0.length r0C, .slice r1A r1.length r1C] ∧ Q r0 r1 ∧ Sat w0 none_ [hdeep 45 22 55 r0A r0C r0as r0, hown 3 r1A r1C r1] w' := by
 refine fn_enter func39 rfl ntmps39 rfl (fs := [(0, .agg #[iv g.W, iv g.H, iv g.Layers, .slice g_BlockedA g.Blocked.length g_BlockedC]), (1, .agg #[iv c.Step, iv c.Via, iv c.Turn, iv c.Against]), (2, .slice tA t.length tC), (3, .slice rowA row.length rowC)]) rfl (fun a hf => ?_)
 have hs := Sat.start w0 none_
 unfold M_route_round at h
 refine X.l (S.box hf hs rfl rfl rfl [iv g.W, iv g.H, iv g.Layers, .slice g_BlockedA g.Blocked.length g_BlockedC] rfl rfl rfl (fun g1 a w hf hs => S.box hf hs rfl rfl rfl [iv c.Step, iv c.Via, iv c.Turn, iv c.Against] rfl rfl rfl (fun g2 a w hf hs => S.q hf hs (.slice none 0 0) rfl fun a hf => S.q hf hs (.slice none 0 0) rfl fun a hf => X.n (X.l (S.v hf hs (.agg #[iv g.W, iv g.H, iv g.Layers, .slice g_BlockedA g.Blocked.length g_BlockedC]) rfl (V.loadBox 1 rfl rfl rfl isAgg24 sizeOf24 rfl rfl) fun a hf => S.call hf rfl rfl rfl (call_fn (vs := [.agg #[iv g.W, iv g.H, iv g.Layers, .slice g_BlockedA g.Blocked.length g_BlockedC]]) rfl rfl rfl call23) (R_route_blocked g _ g_BlockedA g_BlockedC ((Ag.args _ _ _).view hv_g_Blocked hs) _ h) (fun v a w' hf hr => ?_))))))
 obtain ⟨y1, y1A, y1C, rfl, h2, hs2⟩ := hr
 replace h := h2; replace hs := hs.call hs2; clear h2 hs2
 refine S.q hf hs (.slice y1A y1.length y1C) rfl fun a hf => X.n (X.l (S.q hf hs (.slice y1A y1.length y1C) rfl fun a hf => S.v hf hs (iv (y1.length : Int)) rfl (V.len rfl rfl runUnderlying49) fun a hf => ?_))
 obtain ⟨hmk, h⟩ := h
 refine S.make hf hs rfl rfl rfl (α := Int) (0 : Int) (z := (y1.length : Int)) (N := y1.length) rfl rfl rfl underlying72 info3 hmk rfl (by have := hmk.2; omega) (fun A1 a w hf hs => S.q hf hs (.slice A1 (List.replicate y1.length (0 : Int)).length y1.length) rfl fun a hf => X.n (wp_seq (X.l (S.q hf hs (.slice tA t.length tC) rfl fun a hf => S.v hf hs (iv (t.length : Int)) rfl (V.len rfl rfl runUnderlying27) fun a hf => S.q hf hs (iv 0) rfl fun a hf => X.n (wp_block ?_)))))
 have hlenk1 := hv_t.len64
 refine C.range (fun (ll : List Task) a w => ∃ (k1 : Nat) (l2 : List Int) (l2A : Option Addr) (l2C : Nat), t.drop k1 = ll ∧ k1 + ll.length = t.length ∧ forIn' (fun k x (s : List Int) next => M_route_round_L1 g k x s (fun l2 => next l2)) (fun (s : List Int) => (fun (l2 : List Int) => must (0 ≤ (t.length : Int) ∧ (t.length : Int) * 24 ≤ 281474976710656) (forIn' (fun k x (s : List Int × List (List (List Cell)) × List Bool) next => M_route_round_L2 g c t l2 k x s.1 s.2.1 s.2.2 (fun l6 l7 l8 => next (l6, l7, l8))) (fun (s : List Int × List (List (List Cell)) × List Bool) => (fun (l6 : List Int) (l7 : List (List (List Cell))) (l8 : List Bool) => Q l7 l6) s.1 s.2.1 s.2.2) row 0 (([] : List Int), (List.replicate t.length ([] : (List (List Cell)))), y1))) s) ll k1 l2 ∧ FrOk 136 [(36, iv (k1 : Int)), (2, .slice tA t.length tC), (3, .slice rowA row.length rowC), (4, (pn g1 0)), (5, (pn g2 0)), (10, .slice y1A y1.length y1C), (11, .slice l2A l2.length l2C), (34, .slice tA t.length tC), (35, iv (t.length : Int))] a ∧ Sat w0 none_ [hown 3 l2A l2C l2, hown 4 y1A y1C y1, hbox g2 26 [iv c.Step, iv c.Via, iv c.Turn, iv c.Against], hbox g1 24 [iv g.W, iv g.H, iv g.Layers, .slice g_BlockedA g.Blocked.length g_BlockedC]] w) t ⟨0, (List.replicate y1.length (0 : Int)), A1, y1.length, rfl, Nat.zero_add _, h, (((((((((hf.nil.cons (hf.get 35 _ rfl)).cons (hf.get 34 _ rfl)).cons (hf.get 11 _ rfl)).cons (hf.get 10 _ rfl)).cons (hf.get 5 _ rfl)).cons (hf.get 4 _ rfl)).cons (hf.get 3 _ rfl)).cons (hf.get 2 _ rfl)).cons (hf.get 36 _ rfl)), hs⟩ ?_
 clear h hf hs
 rintro llk1 a w ⟨k1, l2, l2A, l2C, hlk1, hkk1, h, hf, hs⟩
 cases llk1 with
 | nil =>
  have hc := range_done hkk1
  replace h : (fun (l2 : List Int) => must (0 ≤ (t.length : Int) ∧ (t.length : Int) * 24 ≤ 281474976710656) (forIn' (fun k x (s : List Int × List (List (List Cell)) × List Bool) next => M_route_round_L2 g c t l2 k x s.1 s.2.1 s.2.2 (fun l6 l7 l8 => next (l6, l7, l8))) (fun (s : List Int × List (List (List Cell)) × List Bool) => (fun (l6 : List Int) (l7 : List (List (List Cell))) (l8 : List Bool) => Q l7 l6) s.1 s.2.1 s.2.2) row 0 (([] : List Int), (List.replicate t.length ([] : (List (List Cell)))), y1))) l2 := h
  refine X.l (S.v hf hs (.bool false) rfl (V.cmp false rfl rfl rfl rfl hc) fun a hf => X.n (wp_seq (C.no hf rfl (wp_exit (X.then_exit (X.then_exit (X.blk_exit (X.then_ (X.l (S.q hf hs (.slice tA t.length tC) rfl fun a hf => S.v hf hs (iv (t.length : Int)) rfl (V.len rfl rfl runUnderlying27) fun a hf => ?_))))))))))
  obtain ⟨hmk, h⟩ := h
  refine S.makeRowsD hf hs rfl rfl rfl ([] : (List (List Cell))) (z := (t.length : Int)) (N := t.length) 22 55 rfl rfl rfl rfl underlying73 info45 hmk rfl (by have := hmk.2; omega) (fun A2 a w hf hs => S.q hf hs (.slice A2 (List.replicate t.length ([] : (List (List Cell)))).length t.length) rfl fun a hf => X.n (X.l (S.q hf hs (.slice none 0 0) rfl fun a hf => X.n (wp_seq (X.l (S.q hf hs (.slice rowA row.length rowC) rfl fun a hf => S.v hf hs (iv (row.length : Int)) rfl (V.len rfl rfl runUnderlying72) fun a hf => S.q hf hs (iv 0) rfl fun a hf => X.n (wp_block ?_)))))))
  replace hs := hs.nilOwn (α := Int) 3
  have hlenk2 := hv_row.len64
  refine C.range (fun (ll : List Int) a w => ∃ (k2 : Nat) (l6 : List Int) (l6A : Option Addr) (l6C : Nat) (l7 : List (List (List Cell))) (l7A : Option Addr) (l7C : Nat) (l7as : List Dp) (l8 : List Bool) (l8A : Option Addr) (l8C : Nat), row.drop k2 = ll ∧ k2 + ll.length = row.length ∧ forIn' (fun k x (s : List Int × List (List (List Cell)) × List Bool) next => M_route_round_L2 g c t l2 k x s.1 s.2.1 s.2.2 (fun l6 l7 l8 => next (l6, l7, l8))) (fun (s : List Int × List (List (List Cell)) × List Bool) => (fun (l6 : List Int) (l7 : List (List (List Cell))) (l8 : List Bool) => Q l7 l6) s.1 s.2.1 s.2.2) ll k2 (l6, l7, l8) ∧ FrOk 136 [(62, iv (k2 : Int)), (2, .slice tA t.length tC), (4, (pn g1 0)), (5, (pn g2 0)), (10, .slice l8A l8.length l8C), (11, .slice l2A l2.length l2C), (16, .slice l7A l7.length l7C), (17, .slice l6A l6.length l6C), (60, .slice rowA row.length rowC), (61, iv (row.length : Int))] a ∧ Sat w0 none_ [hown 3 l6A l6C l6, hdeep 45 22 55 l7A l7C l7as l7, hown 3 l2A l2C l2, hown 4 l8A l8C l8, hbox g2 26 [iv c.Step, iv c.Via, iv c.Turn, iv c.Against], hbox g1 24 [iv g.W, iv g.H, iv g.Layers, .slice g_BlockedA g.Blocked.length g_BlockedC]] w) row ⟨0, ([] : List Int), none, 0, (List.replicate t.length ([] : (List (List Cell)))), A2, t.length, (List.replicate t.length ((none, 0, []) : Dp)), y1, y1A, y1C, rfl, Nat.zero_add _, h, ((((((((((hf.nil.cons (hf.get 61 _ rfl)).cons (hf.get 60 _ rfl)).cons (hf.get 17 _ rfl)).cons (hf.get 16 _ rfl)).cons (hf.get 11 _ rfl)).cons (hf.get 10 _ rfl)).cons (hf.get 5 _ rfl)).cons (hf.get 4 _ rfl)).cons (hf.get 2 _ rfl)).cons (hf.get 62 _ rfl)), hs⟩ ?_
  clear h hf hs
  rintro llk2 a w ⟨k2, l6, l6A, l6C, l7, l7A, l7C, l7as, l8, l8A, l8C, hlk2, hkk2, h, hf, hs⟩
  cases llk2 with
  | nil =>
   have hc := range_done hkk2
   replace h : (fun (l6 : List Int) (l7 : List (List (List Cell))) (l8 : List Bool) => Q l7 l6) l6 l7 l8 := h
   refine X.l (S.v hf hs (.bool false) rfl (V.cmp false rfl rfl rfl rfl hc) fun a hf => X.n (wp_seq (C.no hf rfl (wp_exit (X.then_exit (X.then_exit (X.blk_exit (X.then_ (X.l (S.q hf hs (.slice l7A l7.length l7C) rfl fun a hf => S.q hf hs (.slice l6A l6.length l6C) rfl fun a hf => S.q hf hs (.slice l7A l7.length l7C) rfl fun a hf => S.q hf hs (.slice l6A l6.length l6C) rfl fun a hf => X.n (wp_ret ?_)))))))))))
   replace hs := hs.front 1 rfl
   replace hs := hs.take 2
   exact L.ret hf (run_results2 results39 (ResIs.tmp hf rfl) (ResIs.tmp hf rfl)) ⟨l7, l7A, l7C, l7as, l6, l6A, l6C, rfl, h, hs⟩
  | cons xk2 llk2 =>
   have hltk2 := range_lt hkk2; have hc := range_go hkk2; have hxk2 := range_get hlk2
   obtain ⟨next2, hnext2⟩ : ∃ X : List Int → List (List (List Cell)) → List Bool → Prop, X = (fun l6 l7 l8 => forIn' (fun k x (s : List Int × List (List (List Cell)) × List Bool) next => M_route_round_L2 g c t l2 k x s.1 s.2.1 s.2.2 (fun l6 l7 l8 => next (l6, l7, l8))) (fun (s : List Int × List (List (List Cell)) × List Bool) => (fun (l6 : List Int) (l7 : List (List (List Cell))) (l8 : List Bool) => Q l7 l6) s.1 s.2.1 s.2.2) llk2 (k2 + 1) (l6, l7, l8)) := ⟨_, rfl⟩
   replace h : M_route_round_L2 g c t l2 k2 xk2 l6 l7 l8 next2 := by rw [hnext2]; exact h
   unfold M_route_round_L2 at h
   refine X.l (S.v hf hs (.bool true) rfl (V.cmp true rfl rfl rfl rfl hc) fun a hf => X.n (wp_seq (C.yes hf rfl (wp_skip (X.then_ (wp_seq (wp_block (X.l (S.v hf hs (elemPtr rowA (k2 * 1)) rfl (V.index rfl rfl rfl runUnderlying72 sizeOf3 (hv_row.some_ (lt_of_get hxk2)) (Int.natCast_nonneg _) (lt_of_get hxk2) rfl) fun a hf => S.v hf hs (iv xk2) rfl (V.loadEl (off := 0) (Ag.args _ _ _) (hv_row.flat hxk2) rfl rfl rfl isAgg3 sizeOf3 rfl rfl) fun a hf => S.q hf hs (iv xk2) rfl fun a hf => X.n (wp_seq (H.start (S := Sat w0 none_ [hown 3 l6A l6C l6, hdeep 45 22 55 l7A l7C l7as l7, hown 3 l2A l2C l2, hown 4 l8A l8C l8, hbox g2 26 [iv c.Step, iv c.Via, iv c.Turn, iv c.Against], hbox g1 24 [iv g.W, iv g.H, iv g.Layers, .slice g_BlockedA g.Blocked.length g_BlockedC]]) mo ?_)))))))))))
   replace hs := hs.drew
   refine H.v hf hs (.agg #[iv g.W, iv g.H, iv g.Layers, .slice g_BlockedA g.Blocked.length g_BlockedC]) 0 rfl rfl (by kernel_rfl) (V.loadBox 5 rfl rfl rfl isAgg24 sizeOf24 rfl rfl) fun a hf => H.v hf hs (.agg #[iv c.Step, iv c.Via, iv c.Turn, iv c.Against]) 1 rfl rfl (by kernel_rfl) (V.loadBox 4 rfl rfl rfl isAgg26 sizeOf26 rfl rfl) fun a hf => H.v hf hs (.slice l8A l8.length l8C) 2 rfl rfl (by kernel_rfl) (V.pure rfl) fun a hf => H.one (i := 3) rfl (by kernel_rfl) (S.call hf rfl rfl rfl (call_fn (vs := [.slice l8A l8.length l8C]) rfl rfl rfl call80) (R_clone_bool l8 _ l8A l8C (hs.ownView 3 rfl) _ h) (fun v a w' hf hr => ?_))
   obtain ⟨y2, y2A, y2C, rfl, h2, hs2⟩ := hr
   replace h := h2; replace hs := hs.call hs2; clear h2 hs2
   refine X.n (⟨(hs.mask [false, true, true, true, true, true, true]), (H.val hf (hs.mask [false, true, true, true, true, true, true]) (v := .agg #[iv g.W, iv g.H, iv g.Layers, .slice g_BlockedA g.Blocked.length g_BlockedC, iv c.Step, iv c.Via, iv c.Turn, iv c.Against, .slice y2A y2.length y2C]) (i := 4) rfl rfl rfl rfl (by kernel_rfl) (by kernel_rfl) (by kernel_rfl) (V.build (places := #[(0, 4), (4, 4), (8, 1)]) rfl zeroValue120 runUnderlying120 (by intro w; simp [sizeOf24, sizeOf26, sizeOf49]) rfl (by kernel_rfl)) (fun a hf => H.one (i := 5) rfl (by kernel_rfl) (S.box hf hs rfl rfl rfl [iv g.W, iv g.H, iv g.Layers, .slice g_BlockedA g.Blocked.length g_BlockedC, iv c.Step, iv c.Via, iv c.Turn, iv c.Against, .slice y2A y2.length y2C] rfl rfl rfl (fun g3 a w hf hs => X.n (⟨(hs.mask [false, false, true, true, true, true, true, true]), (H.val hf (hs.mask [false, false, true, true, true, true, true, true]) (v := (pn g3 0)) (i := 6) rfl rfl rfl rfl (by kernel_rfl) (by kernel_rfl) (by kernel_rfl) (V.pure rfl) (fun a hf => H.done (by kernel_rfl) (X.then_ (wp_seq (X.l (S.q hf hs (.slice l2A l2.length l2C) rfl fun a hf => S.v hf hs (iv (l2.length : Int)) rfl (V.len rfl rfl runUnderlying72) fun a hf => ?_))))))⟩)))))⟩)
   refine S.q hf hs (iv 0) rfl fun a hf => X.n (wp_block ?_)
   have hlenk3 := (hs.ownView 4 rfl).len64
   refine C.range (fun (ll : List Int) a w => ∃ (k3 : Nat) (l10 : List Bool) (l10A : Option Addr) (l10C : Nat), l2.drop k3 = ll ∧ k3 + ll.length = l2.length ∧ forIn' (fun k x (s : List Bool) next => M_route_round_L3 xk2 k x s (fun l10 => next l10)) (fun (s : List Bool) => (fun (l10 : List Bool) => idx t xk2 fun x1 => M_finder_tree (⟨g, c, l10⟩ : RouteFinder) x1.Pins fun y3 y4 => cnd (!y4) (must (room (l6 ++ [xk2]).length 8) (next2 (l6 ++ [xk2]) l7 l8)) (idx l7 xk2 fun x2 => forIn' (fun k x (s : List Bool) next => M_route_round_L4 g k x s (fun l12 => next l12)) (fun (s : List Bool) => (fun (l12 : List Bool) => next2 l6 (l7.set xk2.toNat y3) l12) s) y3 0 l8)) s) ll k3 l10 ∧ FrOk 136 [(74, iv (k3 : Int)), (2, .slice tA t.length tC), (4, (pn g1 0)), (5, (pn g2 0)), (10, .slice l8A l8.length l8C), (11, .slice l2A l2.length l2C), (16, .slice l7A l7.length l7C), (17, .slice l6A l6.length l6C), (19, iv xk2), (20, (pn g3 0)), (60, .slice rowA row.length rowC), (61, iv (row.length : Int)), (62, iv (k2 : Int)), (72, .slice l2A l2.length l2C), (73, iv (l2.length : Int))] a ∧ Sat w0 none_ [hbox g3 120 [iv g.W, iv g.H, iv g.Layers, .slice g_BlockedA g.Blocked.length g_BlockedC, iv c.Step, iv c.Via, iv c.Turn, iv c.Against, .slice l10A l10.length l10C], hown 4 l10A l10C l10, hown 3 l6A l6C l6, hdeep 45 22 55 l7A l7C l7as l7, hown 3 l2A l2C l2, hown 4 l8A l8C l8, hbox g2 26 [iv c.Step, iv c.Via, iv c.Turn, iv c.Against], hbox g1 24 [iv g.W, iv g.H, iv g.Layers, .slice g_BlockedA g.Blocked.length g_BlockedC]] w) l2 ⟨0, y2, y2A, y2C, rfl, Nat.zero_add _, h, (((((((((((((((hf.nil.cons (hf.get 73 _ rfl)).cons (hf.get 72 _ rfl)).cons (hf.get 62 _ rfl)).cons (hf.get 61 _ rfl)).cons (hf.get 60 _ rfl)).cons (hf.get 20 _ rfl)).cons (hf.get 19 _ rfl)).cons (hf.get 17 _ rfl)).cons (hf.get 16 _ rfl)).cons (hf.get 11 _ rfl)).cons (hf.get 10 _ rfl)).cons (hf.get 5 _ rfl)).cons (hf.get 4 _ rfl)).cons (hf.get 2 _ rfl)).cons (hf.get 74 _ rfl)), hs⟩ ?_
   clear h hf hs
   rintro llk3 a w ⟨k3, l10, l10A, l10C, hlk3, hkk3, h, hf, hs⟩
   cases llk3 with
   | nil =>
    have hc := range_done hkk3
    replace h : (fun (l10 : List Bool) => idx t xk2 fun x1 => M_finder_tree (⟨g, c, l10⟩ : RouteFinder) x1.Pins fun y3 y4 => cnd (!y4) (must (room (l6 ++ [xk2]).length 8) (next2 (l6 ++ [xk2]) l7 l8)) (idx l7 xk2 fun x2 => forIn' (fun k x (s : List Bool) next => M_route_round_L4 g k x s (fun l12 => next l12)) (fun (s : List Bool) => (fun (l12 : List Bool) => next2 l6 (l7.set xk2.toNat y3) l12) s) y3 0 l8)) l10 := h
    refine X.l (S.v hf hs (.bool false) rfl (V.cmp false rfl rfl rfl rfl hc) fun a hf => X.n (wp_seq (C.no hf rfl (wp_exit (X.then_exit (X.then_exit (X.blk_exit (X.then_ (X.l (S.q hf hs ((pn g3 0)) rfl fun a hf => S.q hf hs (.slice tA t.length tC) rfl fun a hf => S.q hf hs (iv xk2) rfl fun a hf => ?_))))))))))
    obtain ⟨h0x1, x1, hx1, h⟩ := h
    obtain ⟨cs1, he1, hr1⟩ := hv_t.at_ _ _ hx1
    obtain ⟨u1A, u1C, rfl, hvu1⟩ := hr1
    refine S.v hf hs (elemPtr tA (xk2.toNat * 2)) rfl (V.index rfl rfl rfl runUnderlying27 sizeOf53 (hv_t.some_ (lt_of_get hx1)) h0x1 (lt_of_get hx1) rfl) fun a hf => S.v hf hs (elemPtr tA (xk2.toNat * 2 + 1)) rfl (V.fieldEl rfl rfl (hv_t.some_ (lt_of_get hx1)) runUnderlying53 rfl sizeOf22 rfl rfl) fun a hf => S.v hf hs (.slice u1A x1.Pins.length u1C) rfl (V.loadEl (off := 1) (Ag.args _ _ _) he1 rfl rfl rfl isAgg22 sizeOf22 rfl rfl) fun a hf => S.call hf rfl rfl rfl (call_fn (vs := [(pn g3 0), .slice u1A x1.Pins.length u1C]) rfl rfl rfl call81) (R_finder_tree (⟨g, c, l10⟩ : RouteFinder) x1.Pins _ g_BlockedA g_BlockedC ((Ag.args _ _ _).view hv_g_Blocked hs) l10A l10C (hs.ownView 1 rfl) g3 (hs.boxAt 0 rfl) u1A u1C ((Ag.args _ _ _).view hvu1 hs) _ h) (fun v a w' hf hr => ?_)
    obtain ⟨y3, y3A, y3C, y3as, y4, rfl, h2, hs2⟩ := hr
    replace h := h2; replace hs := hs.call hs2; clear h2 hs2
    refine S.q hf hs (.tuple #[.slice y3A y3.length y3C, .bool y4]) rfl fun a hf => S.q hf hs (.slice y3A y3.length y3C) rfl fun a hf => S.q hf hs (.bool y4) rfl fun a hf => S.q hf hs (.slice y3A y3.length y3C) rfl fun a hf => S.q hf hs (.bool y4) rfl fun a hf => X.n (wp_seq (X.l (S.q hf hs (.bool y4) rfl fun a hf => S.q hf hs (.bool (!y4)) rfl fun a hf => X.n ?_)))
    refine C.cond hf (b := !y4) rfl (fun hc => ?_) (fun hc => ?_)
    ·replace h := h.1 hc
     refine X.l (S.q hf hs (.slice l6A l6.length l6C) rfl fun a hf => S.q hf hs (iv xk2) rfl fun a hf => S.build1 hf hs rfl rfl rfl (α := Int) xk2 rfl rfl rfl runUnderlying72 sizeOf3 zeroValue3 rfl (by decide) (fun A3 a w hf hs => ?_))
     obtain ⟨hroom, h⟩ := h
     refine S.appendCells 4 hf hs rfl rfl rfl rfl rfl rfl rfl underlying72 info3 rfl hroom ((hs.ownView 0 rfl).some_ (i := 0) (by simp)) (hs.ownView 0 rfl) (fun A4 C1 a w hf hs => ?_)
     replace hs := hs.drop
     refine S.q hf hs (.slice A4 (l6 ++ [xk2]).length C1) rfl fun a hf => X.n (wp_exit (X.then_exit (X.blk_exit (X.then_ (R.list (S.v hf hs (iv ((k2 + 1 : Nat) : Int)) rfl (V.incr rfl rfl rfl hltk2 hlenk2) fun a hf => S.q hf hs (iv ((k2 + 1 : Nat) : Int)) rfl fun a hf => X.n ?_))))))
     exact ⟨xk2, llk2, rfl, k2 + 1, (l6 ++ [xk2]), A4, C1, l7, l7A, l7C, l7as, l8, l8A, l8C, range_drop hlk2, range_len hkk2, (by rw [hnext2] at h; exact h), ((((((((((hf.nil.cons (hf.get 61 _ rfl)).cons (hf.get 60 _ rfl)).cons (hf.get 17 _ rfl)).cons (hf.get 16 _ rfl)).cons (hf.get 11 _ rfl)).cons (hf.get 10 _ rfl)).cons (hf.get 5 _ rfl)).cons (hf.get 4 _ rfl)).cons (hf.get 2 _ rfl)).cons (hf.get 62 _ rfl)), hs.drop.drop.drop⟩
    ·replace h := h.2 hc
     refine wp_skip (X.then_ (X.l (S.q hf hs (.slice l7A l7.length l7C) rfl fun a hf => S.q hf hs (iv xk2) rfl fun a hf => S.q hf hs (.slice y3A y3.length y3C) rfl fun a hf => ?_)))
     obtain ⟨h0x2, x2, hx2, h⟩ := h
     refine S.v hf hs (elemPtr l7A (xk2.toNat * 1)) rfl (V.index rfl rfl rfl runUnderlying73 sizeOf45 (hs.rowsSomeD 4 rfl hx2) h0x2 (lt_of_get hx2) rfl) fun a hf => ?_
     obtain ⟨B1, D1, B1s, hrB1⟩ := hs.rowAtD 4 rfl hx2
     refine S.putRowD (off := 0) 3 hf hs rfl rfl y3 [.slice y3A y3.length y3C] rfl hx2 hrB1 rfl rfl rfl rfl rfl rfl sizeOf45 rfl (by decide) rfl rfl (fun a w hf hs => ?_)
     replace hf := hf.tell 16 (v := .slice l7A (l7.set xk2.toNat y3).length l7C) ((hf.get 16 (.slice l7A l7.length l7C) rfl).trans (congrArg (fun n => Value.slice l7A n l7C) List.length_set.symm))
     replace hf := hf.tell 110 (v := .slice l7A (l7.set xk2.toNat y3).length l7C) ((hf.get 110 (.slice l7A l7.length l7C) rfl).trans (congrArg (fun n => Value.slice l7A n l7C) List.length_set.symm))
     have hx1 : (l7.set xk2.toNat y3)[xk2.toNat]? = some y3 := List.getElem?_set_self (lt_of_get hx2)
     have hr2 : (l7as.set xk2.toNat (y3A, y3C, y3as))[xk2.toNat]? = some (y3A, y3C, y3as) := List.getElem?_set_self (lt_of_get hrB1)
     refine X.n (X.l (S.q hf hs (.slice y3A y3.length y3C) rfl fun a hf => S.v hf hs (iv (y3.length : Int)) rfl (V.len rfl rfl runUnderlying45) fun a hf => S.q hf hs (iv 0) rfl fun a hf => X.n (wp_block ?_)))
     have hlenk4 := (hs.rowViewD 3 rfl hx1 hr2).len64
     refine C.range (fun (ll : List (List Cell)) a w => ∃ (k4 : Nat) (l12 : List Bool) (l12A : Option Addr) (l12C : Nat), y3.drop k4 = ll ∧ k4 + ll.length = y3.length ∧ forIn' (fun k x (s : List Bool) next => M_route_round_L4 g k x s (fun l12 => next l12)) (fun (s : List Bool) => (fun (l12 : List Bool) => next2 l6 (l7.set xk2.toNat y3) l12) s) ll k4 l12 ∧ FrOk 136 [(116, iv (k4 : Int)), (2, .slice tA t.length tC), (4, (pn g1 0)), (5, (pn g2 0)), (10, .slice l12A l12.length l12C), (11, .slice l2A l2.length l2C), (16, .slice l7A (l7.set xk2.toNat y3).length l7C), (17, .slice l6A l6.length l6C), (60, .slice rowA row.length rowC), (61, iv (row.length : Int)), (62, iv (k2 : Int)), (114, .slice y3A y3.length y3C), (115, iv (y3.length : Int))] a ∧ Sat w0 none_ [hbox g3 120 [iv g.W, iv g.H, iv g.Layers, .slice g_BlockedA g.Blocked.length g_BlockedC, iv c.Step, iv c.Via, iv c.Turn, iv c.Against, .slice l10A l10.length l10C], hown 4 l10A l10C l10, hown 3 l6A l6C l6, hdeep 45 22 55 l7A l7C (l7as.set xk2.toNat (y3A, y3C, y3as)) (l7.set xk2.toNat y3), hown 3 l2A l2C l2, hown 4 l12A l12C l12, hbox g2 26 [iv c.Step, iv c.Via, iv c.Turn, iv c.Against], hbox g1 24 [iv g.W, iv g.H, iv g.Layers, .slice g_BlockedA g.Blocked.length g_BlockedC]] w) y3 ⟨0, l8, l8A, l8C, rfl, Nat.zero_add _, h, (((((((((((((hf.nil.cons (hf.get 115 _ rfl)).cons (hf.get 114 _ rfl)).cons (hf.get 62 _ rfl)).cons (hf.get 61 _ rfl)).cons (hf.get 60 _ rfl)).cons (hf.get 17 _ rfl)).cons (hf.get 16 _ rfl)).cons (hf.get 11 _ rfl)).cons (hf.get 10 _ rfl)).cons (hf.get 5 _ rfl)).cons (hf.get 4 _ rfl)).cons (hf.get 2 _ rfl)).cons (hf.get 116 _ rfl)), hs⟩ ?_
     clear h hf hs
     rintro llk4 a w ⟨k4, l12, l12A, l12C, hlk4, hkk4, h, hf, hs⟩
     cases llk4 with
     | nil =>
      have hc := range_done hkk4
      replace h : (fun (l12 : List Bool) => next2 l6 (l7.set xk2.toNat y3) l12) l12 := h
      refine X.l (S.v hf hs (.bool false) rfl (V.cmp false rfl rfl rfl rfl hc) fun a hf => X.n (wp_seq (C.no hf rfl (wp_exit (X.then_exit (X.then_exit (X.blk_exit (X.blk (X.then_ (R.list (S.v hf hs (iv ((k2 + 1 : Nat) : Int)) rfl (V.incr rfl rfl rfl hltk2 hlenk2) fun a hf => S.q hf hs (iv ((k2 + 1 : Nat) : Int)) rfl fun a hf => X.n ?_)))))))))))
      exact ⟨xk2, llk2, rfl, k2 + 1, l6, l6A, l6C, (l7.set xk2.toNat y3), l7A, l7C, (l7as.set xk2.toNat (y3A, y3C, y3as)), l12, l12A, l12C, range_drop hlk2, range_len hkk2, (by rw [hnext2] at h; exact h), ((((((((((hf.nil.cons (hf.get 61 _ rfl)).cons (hf.get 60 _ rfl)).cons (hf.get 17 _ rfl)).cons (hf.get 16 _ rfl)).cons (hf.get 11 _ rfl)).cons (hf.get 10 _ rfl)).cons (hf.get 5 _ rfl)).cons (hf.get 4 _ rfl)).cons (hf.get 2 _ rfl)).cons (hf.get 62 _ rfl)), hs.drop.drop⟩
     | cons xk4 llk4 =>
      have hltk4 := range_lt hkk4; have hc := range_go hkk4; have hxk4 := range_get hlk4
      obtain ⟨next4, hnext4⟩ : ∃ X : List Bool → Prop, X = (fun l12 => forIn' (fun k x (s : List Bool) next => M_route_round_L4 g k x s (fun l12 => next l12)) (fun (s : List Bool) => (fun (l12 : List Bool) => next2 l6 (l7.set xk2.toNat y3) l12) s) llk4 (k4 + 1) l12) := ⟨_, rfl⟩
      replace h : M_route_round_L4 g k4 xk4 l12 next4 := by rw [hnext4]; exact h
      unfold M_route_round_L4 at h
      refine X.l (S.v hf hs (.bool true) rfl (V.cmp true rfl rfl rfl rfl hc) fun a hf => X.n (wp_seq (C.yes hf rfl (wp_skip (X.then_ (wp_seq (wp_block (X.l (S.v hf hs (elemPtr y3A (k4 * 1)) rfl (V.index rfl rfl rfl runUnderlying45 sizeOf22 ((hs.rowViewD 3 rfl hx1 hr2).some_ (lt_of_get hxk4)) (Int.natCast_nonneg _) (lt_of_get hxk4) rfl) fun a hf => ?_)))))))))
      obtain ⟨B2, D2, hrB2⟩ := hs.row2At 3 rfl hx1 hr2 hxk4
      refine S.v hf hs (.slice B2 xk4.length D2) rfl (V.loadRow2 (off := 0) 3 rfl hx1 hr2 hxk4 hrB2 rfl rfl rfl isAgg22 sizeOf22 rfl rfl) fun a hf => S.q hf hs (.slice B2 xk4.length D2) rfl fun a hf => X.n (X.l (S.q hf hs (.slice B2 xk4.length D2) rfl fun a hf => S.v hf hs (iv (xk4.length : Int)) rfl (V.len rfl rfl runUnderlying22) fun a hf => S.q hf hs (iv 0) rfl fun a hf => X.n (wp_block ?_)))
      have hlenk5 := (hs.row2View 3 rfl hx1 hr2 hxk4 hrB2).len64
      refine C.range (fun (ll : List Cell) a w => ∃ (k5 : Nat) (l14 : List Bool) (l14A : Option Addr) (l14C : Nat), xk4.drop k5 = ll ∧ k5 + ll.length = xk4.length ∧ forIn' (fun k x (s : List Bool) next => M_route_round_L5 g k x s (fun l14 => next l14)) (fun (s : List Bool) => (fun (l14 : List Bool) => next4 l14) s) ll k5 l14 ∧ FrOk 136 [(122, iv (k5 : Int)), (2, .slice tA t.length tC), (4, (pn g1 0)), (5, (pn g2 0)), (10, .slice l14A l14.length l14C), (11, .slice l2A l2.length l2C), (16, .slice l7A (l7.set xk2.toNat y3).length l7C), (17, .slice l6A l6.length l6C), (60, .slice rowA row.length rowC), (61, iv (row.length : Int)), (62, iv (k2 : Int)), (114, .slice y3A y3.length y3C), (115, iv (y3.length : Int)), (116, iv (k4 : Int)), (120, .slice B2 xk4.length D2), (121, iv (xk4.length : Int))] a ∧ Sat w0 none_ [hbox g3 120 [iv g.W, iv g.H, iv g.Layers, .slice g_BlockedA g.Blocked.length g_BlockedC, iv c.Step, iv c.Via, iv c.Turn, iv c.Against, .slice l10A l10.length l10C], hown 4 l10A l10C l10, hown 3 l6A l6C l6, hdeep 45 22 55 l7A l7C (l7as.set xk2.toNat (y3A, y3C, y3as)) (l7.set xk2.toNat y3), hown 3 l2A l2C l2, hown 4 l14A l14C l14, hbox g2 26 [iv c.Step, iv c.Via, iv c.Turn, iv c.Against], hbox g1 24 [iv g.W, iv g.H, iv g.Layers, .slice g_BlockedA g.Blocked.length g_BlockedC]] w) xk4 ⟨0, l12, l12A, l12C, rfl, Nat.zero_add _, h, ((((((((((((((((hf.nil.cons (hf.get 121 _ rfl)).cons (hf.get 120 _ rfl)).cons (hf.get 116 _ rfl)).cons (hf.get 115 _ rfl)).cons (hf.get 114 _ rfl)).cons (hf.get 62 _ rfl)).cons (hf.get 61 _ rfl)).cons (hf.get 60 _ rfl)).cons (hf.get 17 _ rfl)).cons (hf.get 16 _ rfl)).cons (hf.get 11 _ rfl)).cons (hf.get 10 _ rfl)).cons (hf.get 5 _ rfl)).cons (hf.get 4 _ rfl)).cons (hf.get 2 _ rfl)).cons (hf.get 122 _ rfl)), hs⟩ ?_
      clear h hf hs
      rintro llk5 a w ⟨k5, l14, l14A, l14C, hlk5, hkk5, h, hf, hs⟩
      cases llk5 with
      | nil =>
       have hc := range_done hkk5
       replace h : (fun (l14 : List Bool) => next4 l14) l14 := h
       refine X.l (S.v hf hs (.bool false) rfl (V.cmp false rfl rfl rfl rfl hc) fun a hf => X.n (wp_seq (C.no hf rfl (wp_exit (X.then_exit (X.then_exit (X.blk_exit (X.blk (X.then_ (R.list (S.v hf hs (iv ((k4 + 1 : Nat) : Int)) rfl (V.incr rfl rfl rfl hltk4 hlenk4) fun a hf => S.q hf hs (iv ((k4 + 1 : Nat) : Int)) rfl fun a hf => X.n ?_)))))))))))
       exact ⟨xk4, llk4, rfl, k4 + 1, l14, l14A, l14C, range_drop hlk4, range_len hkk4, (by rw [hnext4] at h; exact h), (((((((((((((hf.nil.cons (hf.get 115 _ rfl)).cons (hf.get 114 _ rfl)).cons (hf.get 62 _ rfl)).cons (hf.get 61 _ rfl)).cons (hf.get 60 _ rfl)).cons (hf.get 17 _ rfl)).cons (hf.get 16 _ rfl)).cons (hf.get 11 _ rfl)).cons (hf.get 10 _ rfl)).cons (hf.get 5 _ rfl)).cons (hf.get 4 _ rfl)).cons (hf.get 2 _ rfl)).cons (hf.get 116 _ rfl)), hs⟩
      | cons xk5 llk5 =>
       have hltk5 := range_lt hkk5; have hc := range_go hkk5; have hxk5 := range_get hlk5
       obtain ⟨next5, hnext5⟩ : ∃ X : List Bool → Prop, X = (fun l14 => forIn' (fun k x (s : List Bool) next => M_route_round_L5 g k x s (fun l14 => next l14)) (fun (s : List Bool) => (fun (l14 : List Bool) => next4 l14) s) llk5 (k5 + 1) l14) := ⟨_, rfl⟩
       replace h : M_route_round_L5 g k5 xk5 l14 next5 := by rw [hnext5]; exact h
       unfold M_route_round_L5 at h
       refine X.l (S.v hf hs (.bool true) rfl (V.cmp true rfl rfl rfl rfl hc) fun a hf => X.n (wp_seq (C.yes hf rfl (wp_skip (X.then_ (wp_seq (wp_block (X.l (S.v hf hs (elemPtr B2 (k5 * 3)) rfl (V.index rfl rfl rfl runUnderlying22 sizeOf55 ((hs.row2View 3 rfl hx1 hr2 hxk4 hrB2).some_ (lt_of_get hxk5)) (Int.natCast_nonneg _) (lt_of_get hxk5) rfl) fun a hf => S.v hf hs (.agg #[iv xk5.X, iv xk5.Y, iv xk5.Layer]) rfl (V.loadRow2El (off := 0) 3 rfl hx1 hr2 hxk4 hrB2 hxk5 rfl rfl rfl isAgg55 sizeOf55 rfl rfl) fun a hf => S.alloc hf hs rfl rfl rfl [iv 0, iv 0, iv 0] rfl zeroValue55 rfl (fun g4 a w hf hs => S.storeBox 0 hf hs rfl rfl [iv xk5.X, iv xk5.Y, iv xk5.Layer] [iv xk5.X, iv xk5.Y, iv xk5.Layer] rfl rfl rfl rfl rfl sizeOf55 rfl rfl rfl rfl (fun a w hf hs => X.n (R.list (S.q hf hs (.slice l14A l14.length l14C) rfl fun a hf => S.v hf hs (.agg #[iv g.W, iv g.H, iv g.Layers, .slice g_BlockedA g.Blocked.length g_BlockedC]) rfl (V.loadBox 8 rfl rfl rfl isAgg24 sizeOf24 rfl rfl) fun a hf => ?_)))))))))))))
       refine S.v hf hs (.agg #[iv xk5.X, iv xk5.Y, iv xk5.Layer]) rfl (V.loadBox 0 rfl rfl rfl isAgg55 sizeOf55 rfl rfl) fun a hf => S.call hf rfl rfl rfl (call_fn (vs := [.agg #[iv g.W, iv g.H, iv g.Layers, .slice g_BlockedA g.Blocked.length g_BlockedC], .agg #[iv xk5.X, iv xk5.Y, iv xk5.Layer]]) rfl rfl rfl call32) (R_route_number g xk5 _ g_BlockedA g_BlockedC ((Ag.args _ _ _).view hv_g_Blocked hs) _ h) (fun v a w' hf hr => ?_)
       obtain ⟨y5, rfl, h2, hs2⟩ := hr
       replace h := h2; replace hs := hs.call hs2; clear h2 hs2
       obtain ⟨h0x3, x3, hx3, h⟩ := h
       refine S.v hf hs (elemPtr l14A (y5.toNat * 1)) rfl (V.index rfl rfl rfl runUnderlying49 sizeOf4 (hs.ownSome 6 rfl (lt_of_get hx3)) h0x3 (lt_of_get hx3) rfl) fun a hf => S.storeOwn (off := 0) 6 hf hs rfl rfl true [.bool true] rfl hx3 rfl rfl rfl rfl rfl sizeOf4 rfl (by decide) rfl rfl (fun a w hf hs => ?_)
       replace hf := hf.tell 10 (v := .slice l14A (l14.set y5.toNat true).length l14C) ((hf.get 10 (.slice l14A l14.length l14C) rfl).trans (congrArg (fun n => Value.slice l14A n l14C) List.length_set.symm))
       replace hf := hf.tell 126 (v := .slice l14A (l14.set y5.toNat true).length l14C) ((hf.get 126 (.slice l14A l14.length l14C) rfl).trans (congrArg (fun n => Value.slice l14A n l14C) List.length_set.symm))
       refine R.nil (X.blk (X.then_ (R.list (S.v hf hs (iv ((k5 + 1 : Nat) : Int)) rfl (V.incr rfl rfl rfl hltk5 hlenk5) fun a hf => S.q hf hs (iv ((k5 + 1 : Nat) : Int)) rfl fun a hf => X.n ?_))))
       exact ⟨xk5, llk5, rfl, k5 + 1, (l14.set y5.toNat true), l14A, l14C, range_drop hlk5, range_len hkk5, (by rw [hnext5] at h; exact h), ((((((((((((((((hf.nil.cons (hf.get 121 _ rfl)).cons (hf.get 120 _ rfl)).cons (hf.get 116 _ rfl)).cons (hf.get 115 _ rfl)).cons (hf.get 114 _ rfl)).cons (hf.get 62 _ rfl)).cons (hf.get 61 _ rfl)).cons (hf.get 60 _ rfl)).cons (hf.get 17 _ rfl)).cons (hf.get 16 _ rfl)).cons (hf.get 11 _ rfl)).cons (hf.get 10 _ rfl)).cons (hf.get 5 _ rfl)).cons (hf.get 4 _ rfl)).cons (hf.get 2 _ rfl)).cons (hf.get 122 _ rfl)), hs.drop⟩
   | cons xk3 llk3 =>
    have hltk3 := range_lt hkk3; have hc := range_go hkk3; have hxk3 := range_get hlk3
    obtain ⟨next3, hnext3⟩ : ∃ X : List Bool → Prop, X = (fun l10 => forIn' (fun k x (s : List Bool) next => M_route_round_L3 xk2 k x s (fun l10 => next l10)) (fun (s : List Bool) => (fun (l10 : List Bool) => idx t xk2 fun x1 => M_finder_tree (⟨g, c, l10⟩ : RouteFinder) x1.Pins fun y3 y4 => cnd (!y4) (must (room (l6 ++ [xk2]).length 8) (next2 (l6 ++ [xk2]) l7 l8)) (idx l7 xk2 fun x2 => forIn' (fun k x (s : List Bool) next => M_route_round_L4 g k x s (fun l12 => next l12)) (fun (s : List Bool) => (fun (l12 : List Bool) => next2 l6 (l7.set xk2.toNat y3) l12) s) y3 0 l8)) s) llk3 (k3 + 1) l10) := ⟨_, rfl⟩
    replace h : M_route_round_L3 xk2 k3 xk3 l10 next3 := by rw [hnext3]; exact h
    unfold M_route_round_L3 at h
    refine X.l (S.v hf hs (.bool true) rfl (V.cmp true rfl rfl rfl rfl hc) fun a hf => X.n (wp_seq (C.yes hf rfl (wp_skip (X.then_ (wp_seq (wp_block (X.l (S.q hf hs (iv (k3 : Int)) rfl fun a hf => S.v hf hs (elemPtr l2A (k3 * 1)) rfl (V.index rfl rfl rfl runUnderlying72 sizeOf3 (hs.ownSome 4 rfl (lt_of_get hxk3)) (Int.natCast_nonneg _) (lt_of_get hxk3) rfl) fun a hf => S.v hf hs (iv xk3) rfl (V.loadOwn (off := 0) 4 rfl hxk3 rfl rfl rfl isAgg3 sizeOf3 rfl rfl) fun a hf => S.q hf hs (iv (k3 : Int)) rfl fun a hf => S.q hf hs (iv xk3) rfl fun a hf => X.n (wp_seq ?_))))))))))
    refine C.cut (J := fun a w => ∃ (c1 : Bool), M_route_round_k6 k3 l10 next3 c1 ∧ FrOk 136 [(2, .slice tA t.length tC), (4, (pn g1 0)), (5, (pn g2 0)), (10, .slice l8A l8.length l8C), (11, .slice l2A l2.length l2C), (16, .slice l7A l7.length l7C), (17, .slice l6A l6.length l6C), (19, iv xk2), (20, (pn g3 0)), (21, iv (k3 : Int)), (60, .slice rowA row.length rowC), (61, iv (row.length : Int)), (62, iv (k2 : Int)), (72, .slice l2A l2.length l2C), (73, iv (l2.length : Int)), (74, iv (k3 : Int)), (86, .bool c1)] a ∧ Sat w0 none_ [hbox g3 120 [iv g.W, iv g.H, iv g.Layers, .slice g_BlockedA g.Blocked.length g_BlockedC, iv c.Step, iv c.Via, iv c.Turn, iv c.Against, .slice l10A l10.length l10C], hown 4 l10A l10C l10, hown 3 l6A l6C l6, hdeep 45 22 55 l7A l7C l7as l7, hown 3 l2A l2C l2, hown 4 l8A l8C l8, hbox g2 26 [iv c.Step, iv c.Via, iv c.Turn, iv c.Against], hbox g1 24 [iv g.W, iv g.H, iv g.Layers, .slice g_BlockedA g.Blocked.length g_BlockedC]] w) ?_ ?_
    ·rintro a w ⟨c1, h, hf, hs⟩
     unfold M_route_round_k6 at h
     refine C.cond hf (b := c1) rfl (fun hc => ?_) (fun hc => ?_)
     ·replace h := h.1 hc
      refine R.list (S.q hf hs ((pn g3 0)) rfl fun a hf => S.q hf hs ((pn g3 0)) rfl fun a hf => S.v hf hs ((pn g3 8)) rfl (V.fieldBox rfl rfl runUnderlying120 rfl sizeOf49 rfl rfl) fun a hf => S.v hf hs (.slice l10A l10.length l10C) rfl (V.loadBox 0 rfl rfl rfl isAgg49 sizeOf49 rfl rfl) fun a hf => S.q hf hs (iv (k3 : Int)) rfl fun a hf => ?_)
      obtain ⟨h0x4, x4, hx4, h⟩ := h
      refine S.v hf hs (elemPtr l10A (k3 * 1)) rfl (V.index rfl rfl rfl runUnderlying49 sizeOf4 (hs.ownSome 1 rfl (lt_of_get hx4)) (Int.natCast_nonneg _) (lt_of_get hx4) rfl) fun a hf => S.storeOwn (off := 0) 1 hf hs rfl rfl true [.bool true] rfl hx4 rfl rfl rfl rfl rfl sizeOf4 rfl (by decide) rfl rfl (fun a w hf hs => ?_)
      replace hs := hs.rebox 0 (vs' := [iv g.W, iv g.H, iv g.Layers, .slice g_BlockedA g.Blocked.length g_BlockedC, iv c.Step, iv c.Via, iv c.Turn, iv c.Against, .slice l10A (l10.set k3 true).length l10C]) rfl (congrArg (fun n => [iv g.W, iv g.H, iv g.Layers, .slice g_BlockedA g.Blocked.length g_BlockedC, iv c.Step, iv c.Via, iv c.Turn, iv c.Against, Value.slice l10A n l10C]) List.length_set.symm)
      replace hf := hf.tell 90 (v := .slice l10A (l10.set k3 true).length l10C) ((hf.get 90 (.slice l10A l10.length l10C) rfl).trans (congrArg (fun n => Value.slice l10A n l10C) List.length_set.symm))
      refine R.nil (X.blk (X.then_ (R.list (S.v hf hs (iv ((k3 + 1 : Nat) : Int)) rfl (V.incr rfl rfl rfl hltk3 hlenk3) fun a hf => S.q hf hs (iv ((k3 + 1 : Nat) : Int)) rfl fun a hf => X.n ?_))))
      exact ⟨xk3, llk3, rfl, k3 + 1, (l10.set k3 true), l10A, l10C, range_drop hlk3, range_len hkk3, (by rw [hnext3] at h; exact h), (((((((((((((((hf.nil.cons (hf.get 73 _ rfl)).cons (hf.get 72 _ rfl)).cons (hf.get 62 _ rfl)).cons (hf.get 61 _ rfl)).cons (hf.get 60 _ rfl)).cons (hf.get 20 _ rfl)).cons (hf.get 19 _ rfl)).cons (hf.get 17 _ rfl)).cons (hf.get 16 _ rfl)).cons (hf.get 11 _ rfl)).cons (hf.get 10 _ rfl)).cons (hf.get 5 _ rfl)).cons (hf.get 4 _ rfl)).cons (hf.get 2 _ rfl)).cons (hf.get 74 _ rfl)), hs⟩
     ·replace h := h.2 hc
      refine wp_skip (X.blk (X.then_ (R.list (S.v hf hs (iv ((k3 + 1 : Nat) : Int)) rfl (V.incr rfl rfl rfl hltk3 hlenk3) fun a hf => S.q hf hs (iv ((k3 + 1 : Nat) : Int)) rfl fun a hf => X.n ?_))))
      exact ⟨xk3, llk3, rfl, k3 + 1, l10, l10A, l10C, range_drop hlk3, range_len hkk3, (by rw [hnext3] at h; exact h), (((((((((((((((hf.nil.cons (hf.get 73 _ rfl)).cons (hf.get 72 _ rfl)).cons (hf.get 62 _ rfl)).cons (hf.get 61 _ rfl)).cons (hf.get 60 _ rfl)).cons (hf.get 20 _ rfl)).cons (hf.get 19 _ rfl)).cons (hf.get 17 _ rfl)).cons (hf.get 16 _ rfl)).cons (hf.get 11 _ rfl)).cons (hf.get 10 _ rfl)).cons (hf.get 5 _ rfl)).cons (hf.get 4 _ rfl)).cons (hf.get 2 _ rfl)).cons (hf.get 74 _ rfl)), hs⟩
    ·skip
     refine R.list (S.q hf hs (iv xk3) rfl fun a hf => S.q hf hs (.bool (decide (xk3 > 0))) rfl fun a hf => ?_)
     refine S.split hf hs (b := decide (xk3 > 0)) rfl rfl rfl (V.pure rfl) (fun hc a hf => ?_) (fun hc a hf => ?_)
     ·replace h := h.1 hc
      refine S.q hf hs (iv xk3) rfl fun a hf => S.q hf hs (iv xk2) rfl fun a hf => S.q hf hs (iv (w64 (xk2 + 1))) rfl fun a hf => S.q hf hs (.bool (xk3 != (w64 (xk2 + 1)))) rfl fun a hf => S.q hf hs (.bool (xk3 != (w64 (xk2 + 1)))) rfl fun a hf => X.n ?_
      exact ⟨(xk3 != (w64 (xk2 + 1))), h, (((((((((((((((((hf.nil.cons (hf.get 86 _ rfl)).cons (hf.get 74 _ rfl)).cons (hf.get 73 _ rfl)).cons (hf.get 72 _ rfl)).cons (hf.get 62 _ rfl)).cons (hf.get 61 _ rfl)).cons (hf.get 60 _ rfl)).cons (hf.get 21 _ rfl)).cons (hf.get 20 _ rfl)).cons (hf.get 19 _ rfl)).cons (hf.get 17 _ rfl)).cons (hf.get 16 _ rfl)).cons (hf.get 11 _ rfl)).cons (hf.get 10 _ rfl)).cons (hf.get 5 _ rfl)).cons (hf.get 4 _ rfl)).cons (hf.get 2 _ rfl)), hs⟩
     ·replace h := h.2 hc
      refine S.k hf rfl fun a hf => S.k hf rfl fun a hf => S.k hf rfl fun a hf => S.k hf rfl fun a hf => S.q hf hs (.bool false) rfl fun a hf => X.n ?_
      exact ⟨false, h, (((((((((((((((((hf.nil.cons (hf.get 86 _ rfl)).cons (hf.get 74 _ rfl)).cons (hf.get 73 _ rfl)).cons (hf.get 72 _ rfl)).cons (hf.get 62 _ rfl)).cons (hf.get 61 _ rfl)).cons (hf.get 60 _ rfl)).cons (hf.get 21 _ rfl)).cons (hf.get 20 _ rfl)).cons (hf.get 19 _ rfl)).cons (hf.get 17 _ rfl)).cons (hf.get 16 _ rfl)).cons (hf.get 11 _ rfl)).cons (hf.get 10 _ rfl)).cons (hf.get 5 _ rfl)).cons (hf.get 4 _ rfl)).cons (hf.get 2 _ rfl)), hs⟩
 | cons xk1 llk1 =>
  have hltk1 := range_lt hkk1; have hc := range_go hkk1; have hxk1 := range_get hlk1
  obtain ⟨next1, hnext1⟩ : ∃ X : List Int → Prop, X = (fun l2 => forIn' (fun k x (s : List Int) next => M_route_round_L1 g k x s (fun l2 => next l2)) (fun (s : List Int) => (fun (l2 : List Int) => must (0 ≤ (t.length : Int) ∧ (t.length : Int) * 24 ≤ 281474976710656) (forIn' (fun k x (s : List Int × List (List (List Cell)) × List Bool) next => M_route_round_L2 g c t l2 k x s.1 s.2.1 s.2.2 (fun l6 l7 l8 => next (l6, l7, l8))) (fun (s : List Int × List (List (List Cell)) × List Bool) => (fun (l6 : List Int) (l7 : List (List (List Cell))) (l8 : List Bool) => Q l7 l6) s.1 s.2.1 s.2.2) row 0 (([] : List Int), (List.replicate t.length ([] : (List (List Cell)))), y1))) s) llk1 (k1 + 1) l2) := ⟨_, rfl⟩
  replace h : M_route_round_L1 g k1 xk1 l2 next1 := by rw [hnext1]; exact h
  unfold M_route_round_L1 at h
  refine X.l (S.v hf hs (.bool true) rfl (V.cmp true rfl rfl rfl rfl hc) fun a hf => X.n (wp_seq (C.yes hf rfl (wp_skip (X.then_ (wp_seq (wp_block (X.l (S.q hf hs (iv (k1 : Int)) rfl fun a hf => ?_)))))))))
  obtain ⟨cs2, he2, hr3⟩ := hv_t.at_ _ _ hxk1
  obtain ⟨u2A, u2C, rfl, hvu2⟩ := hr3
  refine S.v hf hs (elemPtr tA (k1 * 2)) rfl (V.index rfl rfl rfl runUnderlying27 sizeOf53 (hv_t.some_ (lt_of_get hxk1)) (Int.natCast_nonneg _) (lt_of_get hxk1) rfl) fun a hf => S.v hf hs (.agg #[.string (ba xk1.Net), .slice u2A xk1.Pins.length u2C]) rfl (V.loadEl (off := 0) (Ag.args _ _ _) he2 rfl rfl rfl isAgg53 sizeOf53 rfl rfl) fun a hf => S.alloc hf hs rfl rfl rfl [.string (ba []), .slice none 0 0] rfl zeroValue53 rfl (fun g5 a w hf hs => S.q hf hs (iv (k1 : Int)) rfl fun a hf => S.storeBox 0 hf hs rfl rfl [.string (ba xk1.Net), .slice u2A xk1.Pins.length u2C] [.string (ba xk1.Net), .slice u2A xk1.Pins.length u2C] rfl rfl rfl rfl rfl sizeOf53 rfl rfl rfl rfl (fun a w hf hs => X.n (X.l (S.v hf hs ((pn g5 1)) rfl (V.fieldBox rfl rfl runUnderlying53 rfl sizeOf22 rfl rfl) fun a hf => S.v hf hs (.slice u2A xk1.Pins.length u2C) rfl (V.loadBox 0 rfl rfl rfl isAgg22 sizeOf22 rfl rfl) fun a hf => S.v hf hs (iv (xk1.Pins.length : Int)) rfl (V.len rfl rfl runUnderlying22) fun a hf => S.q hf hs (iv 0) rfl fun a hf => X.n (wp_block ?_)))))
  have hlenk7 := hvu2.len64
  refine C.range (fun (ll : List Cell) a w => ∃ (k7 : Nat) (l16 : List Int) (l16A : Option Addr) (l16C : Nat), xk1.Pins.drop k7 = ll ∧ k7 + ll.length = xk1.Pins.length ∧ forIn' (fun k x (s : List Int) next => M_route_round_L6 g k1 k x s (fun l16 => next l16)) (fun (s : List Int) => (fun (l16 : List Int) => next1 l16) s) ll k7 l16 ∧ FrOk 136 [(44, iv (k7 : Int)), (2, .slice tA t.length tC), (3, .slice rowA row.length rowC), (4, (pn g1 0)), (5, (pn g2 0)), (10, .slice y1A y1.length y1C), (11, .slice l16A l16.length l16C), (12, iv (k1 : Int)), (34, .slice tA t.length tC), (35, iv (t.length : Int)), (36, iv (k1 : Int)), (42, .slice u2A xk1.Pins.length u2C), (43, iv (xk1.Pins.length : Int))] a ∧ Sat w0 none_ [hbox g5 53 [.string (ba xk1.Net), .slice u2A xk1.Pins.length u2C], hown 3 l16A l16C l16, hown 4 y1A y1C y1, hbox g2 26 [iv c.Step, iv c.Via, iv c.Turn, iv c.Against], hbox g1 24 [iv g.W, iv g.H, iv g.Layers, .slice g_BlockedA g.Blocked.length g_BlockedC]] w) xk1.Pins ⟨0, l2, l2A, l2C, rfl, Nat.zero_add _, h, (((((((((((((hf.nil.cons (hf.get 43 _ rfl)).cons (hf.get 42 _ rfl)).cons (hf.get 36 _ rfl)).cons (hf.get 35 _ rfl)).cons (hf.get 34 _ rfl)).cons (hf.get 12 _ rfl)).cons (hf.get 11 _ rfl)).cons (hf.get 10 _ rfl)).cons (hf.get 5 _ rfl)).cons (hf.get 4 _ rfl)).cons (hf.get 3 _ rfl)).cons (hf.get 2 _ rfl)).cons (hf.get 44 _ rfl)), hs⟩ ?_
  clear h hf hs
  rintro llk7 a w ⟨k7, l16, l16A, l16C, hlk7, hkk7, h, hf, hs⟩
  cases llk7 with
  | nil =>
   have hc := range_done hkk7
   replace h : (fun (l16 : List Int) => next1 l16) l16 := h
   refine X.l (S.v hf hs (.bool false) rfl (V.cmp false rfl rfl rfl rfl hc) fun a hf => X.n (wp_seq (C.no hf rfl (wp_exit (X.then_exit (X.then_exit (X.blk_exit (X.blk (X.then_ (R.list (S.v hf hs (iv ((k1 + 1 : Nat) : Int)) rfl (V.incr rfl rfl rfl hltk1 hlenk1) fun a hf => S.q hf hs (iv ((k1 + 1 : Nat) : Int)) rfl fun a hf => X.n ?_)))))))))))
   exact ⟨xk1, llk1, rfl, k1 + 1, l16, l16A, l16C, range_drop hlk1, range_len hkk1, (by rw [hnext1] at h; exact h), (((((((((hf.nil.cons (hf.get 35 _ rfl)).cons (hf.get 34 _ rfl)).cons (hf.get 11 _ rfl)).cons (hf.get 10 _ rfl)).cons (hf.get 5 _ rfl)).cons (hf.get 4 _ rfl)).cons (hf.get 3 _ rfl)).cons (hf.get 2 _ rfl)).cons (hf.get 36 _ rfl)), hs.drop⟩
  | cons xk7 llk7 =>
   have hltk7 := range_lt hkk7; have hc := range_go hkk7; have hxk7 := range_get hlk7
   obtain ⟨next6, hnext6⟩ : ∃ X : List Int → Prop, X = (fun l16 => forIn' (fun k x (s : List Int) next => M_route_round_L6 g k1 k x s (fun l16 => next l16)) (fun (s : List Int) => (fun (l16 : List Int) => next1 l16) s) llk7 (k7 + 1) l16) := ⟨_, rfl⟩
   replace h : M_route_round_L6 g k1 k7 xk7 l16 next6 := by rw [hnext6]; exact h
   unfold M_route_round_L6 at h
   refine X.l (S.v hf hs (.bool true) rfl (V.cmp true rfl rfl rfl rfl hc) fun a hf => X.n (wp_seq (C.yes hf rfl (wp_skip (X.then_ (wp_seq (wp_block (X.l (S.v hf hs (elemPtr u2A (k7 * 3)) rfl (V.index rfl rfl rfl runUnderlying22 sizeOf55 (hvu2.some_ (lt_of_get hxk7)) (Int.natCast_nonneg _) (lt_of_get hxk7) rfl) fun a hf => S.v hf hs (.agg #[iv xk7.X, iv xk7.Y, iv xk7.Layer]) rfl (V.loadEl (off := 0) (Ag.args _ _ _) (hvu2.flat hxk7) rfl rfl rfl isAgg55 sizeOf55 rfl rfl) fun a hf => S.alloc hf hs rfl rfl rfl [iv 0, iv 0, iv 0] rfl zeroValue55 rfl (fun g6 a w hf hs => S.storeBox 0 hf hs rfl rfl [iv xk7.X, iv xk7.Y, iv xk7.Layer] [iv xk7.X, iv xk7.Y, iv xk7.Layer] rfl rfl rfl rfl rfl sizeOf55 rfl rfl rfl rfl (fun a w hf hs => X.n (R.list (S.q hf hs (.slice l16A l16.length l16C) rfl fun a hf => S.v hf hs (.agg #[iv g.W, iv g.H, iv g.Layers, .slice g_BlockedA g.Blocked.length g_BlockedC]) rfl (V.loadBox 5 rfl rfl rfl isAgg24 sizeOf24 rfl rfl) fun a hf => ?_)))))))))))))
   refine S.v hf hs (.agg #[iv xk7.X, iv xk7.Y, iv xk7.Layer]) rfl (V.loadBox 0 rfl rfl rfl isAgg55 sizeOf55 rfl rfl) fun a hf => S.call hf rfl rfl rfl (call_fn (vs := [.agg #[iv g.W, iv g.H, iv g.Layers, .slice g_BlockedA g.Blocked.length g_BlockedC], .agg #[iv xk7.X, iv xk7.Y, iv xk7.Layer]]) rfl rfl rfl call32) (R_route_number g xk7 _ g_BlockedA g_BlockedC ((Ag.args _ _ _).view hv_g_Blocked hs) _ h) (fun v a w' hf hr => ?_)
   obtain ⟨y6, rfl, h2, hs2⟩ := hr
   replace h := h2; replace hs := hs.call hs2; clear h2 hs2
   refine S.q hf hs (iv (k1 : Int)) rfl fun a hf => S.v hf hs (iv ((k1 + 1 : Nat) : Int)) rfl (V.incr rfl rfl rfl hltk1 hlenk1) fun a hf => ?_
   obtain ⟨h0x5, x5, hx5, h⟩ := h
   refine S.v hf hs (elemPtr l16A (y6.toNat * 1)) rfl (V.index rfl rfl rfl runUnderlying72 sizeOf3 (hs.ownSome 2 rfl (lt_of_get hx5)) h0x5 (lt_of_get hx5) rfl) fun a hf => S.storeOwn (off := 0) 2 hf hs rfl rfl ((k1 + 1 : Nat) : Int) [iv ((k1 + 1 : Nat) : Int)] rfl hx5 rfl rfl rfl rfl rfl sizeOf3 rfl (by decide) rfl rfl (fun a w hf hs => ?_)
   replace hf := hf.tell 11 (v := .slice l16A (l16.set y6.toNat ((k1 + 1 : Nat) : Int)).length l16C) ((hf.get 11 (.slice l16A l16.length l16C) rfl).trans (congrArg (fun n => Value.slice l16A n l16C) List.length_set.symm))
   replace hf := hf.tell 48 (v := .slice l16A (l16.set y6.toNat ((k1 + 1 : Nat) : Int)).length l16C) ((hf.get 48 (.slice l16A l16.length l16C) rfl).trans (congrArg (fun n => Value.slice l16A n l16C) List.length_set.symm))
   refine R.nil (X.blk (X.then_ (R.list (S.v hf hs (iv ((k7 + 1 : Nat) : Int)) rfl (V.incr rfl rfl rfl hltk7 hlenk7) fun a hf => S.q hf hs (iv ((k7 + 1 : Nat) : Int)) rfl fun a hf => X.n ?_))))
   exact ⟨xk7, llk7, rfl, k7 + 1, (l16.set y6.toNat ((k1 + 1 : Nat) : Int)), l16A, l16C, range_drop hlk7, range_len hkk7, (by rw [hnext6] at h; exact h), (((((((((((((hf.nil.cons (hf.get 43 _ rfl)).cons (hf.get 42 _ rfl)).cons (hf.get 36 _ rfl)).cons (hf.get 35 _ rfl)).cons (hf.get 34 _ rfl)).cons (hf.get 12 _ rfl)).cons (hf.get 11 _ rfl)).cons (hf.get 10 _ rfl)).cons (hf.get 5 _ rfl)).cons (hf.get 4 _ rfl)).cons (hf.get 3 _ rfl)).cons (hf.get 2 _ rfl)).cons (hf.get 44 _ rfl)), hs.drop⟩
def M_index_int_L1 (v_ : Int) (Q : Int → Prop) (k1 : Nat) (xk1 : Int)  (next1 : Prop) : Prop :=
  cnd (v_ == xk1) (Q (k1 : Int)) (next1)
def M_index_int (s_ : (List Int)) (v_ : Int) (Q : Int → Prop) : Prop :=
  forIn' (fun k x (s : Unit) next => M_index_int_L1 v_ Q k x (next ())) (fun (s : Unit) => Q (-1)) s_ 0 ()
theorem R_index_int (s_ : (List Int)) (v_ : Int) (w0 : World) (s_A : Option Addr) (s_C : Nat) (hv_s_ : View w0 (old w0 none_) s_A s_C s_) (Q : Int → Prop) (h : M_index_int s_ v_ Q) :
  Ret Tryz.prog 40 #[.slice s_A s_.length s_C, iv v_] w0 fun v w' => ∃ (r0 : Int), v = iv r0 ∧ Q r0 ∧ Sat w0 none_ [] w' := by
 refine fn_enter func40 rfl ntmps40 rfl (fs := [(0, .slice s_A s_.length s_C), (1, iv v_)]) rfl (fun a hf => ?_)
 have hs := Sat.start w0 none_
 unfold M_index_int at h
 refine X.l (S.q hf hs (iv 0) rfl fun a hf => X.n (wp_seq (X.l (S.q hf hs (.slice s_A s_.length s_C) rfl fun a hf => S.v hf hs (iv (s_.length : Int)) rfl (V.len rfl rfl runUnderlying72) fun a hf => S.q hf hs (iv 0) rfl fun a hf => X.n (wp_block ?_)))))
 have hlenk1 := hv_s_.len64
 refine C.range (fun (ll : List Int) a w => ∃ (k1 : Nat) , s_.drop k1 = ll ∧ k1 + ll.length = s_.length ∧ forIn' (fun k x (s : Unit) next => M_index_int_L1 v_ Q k x (next ())) (fun (s : Unit) => Q (-1)) ll k1 () ∧ FrOk 19 [(8, iv (k1 : Int)), (0, .slice s_A s_.length s_C), (1, iv v_), (7, iv (s_.length : Int))] a ∧ Sat w0 none_ [] w) s_ ⟨0, rfl, Nat.zero_add _, h, ((((hf.nil.cons (hf.get 7 _ rfl)).cons (hf.get 1 _ rfl)).cons (hf.get 0 _ rfl)).cons (hf.get 8 _ rfl)), hs⟩ ?_
 clear h hf hs
 rintro llk1 a w ⟨k1, hlk1, hkk1, h, hf, hs⟩
 cases llk1 with
 | nil =>
  have hc := range_done hkk1
  replace h : Q (-1) := h
  refine X.l (S.v hf hs (.bool false) rfl (V.cmp false rfl rfl rfl rfl hc) fun a hf => X.n (wp_seq (C.no hf rfl (wp_exit (X.then_exit (X.then_exit (X.blk_exit (X.then_ (X.l (S.q hf hs (iv (-1)) rfl fun a hf => X.n (wp_ret ?_)))))))))))
  exact L.ret hf (run_results1 results40 (ResIs.tmp hf rfl)) ⟨(-1), rfl, h, hs.nil⟩
 | cons xk1 llk1 =>
  have hltk1 := range_lt hkk1; have hc := range_go hkk1; have hxk1 := range_get hlk1
  obtain ⟨next1, hnext1⟩ : ∃ X : Prop, X = (forIn' (fun k x (s : Unit) next => M_index_int_L1 v_ Q k x (next ())) (fun (s : Unit) => Q (-1)) llk1 (k1 + 1) ()) := ⟨_, rfl⟩
  replace h : M_index_int_L1 v_ Q k1 xk1  next1 := by rw [hnext1]; exact h
  unfold M_index_int_L1 at h
  refine X.l (S.v hf hs (.bool true) rfl (V.cmp true rfl rfl rfl rfl hc) fun a hf => X.n (wp_seq (C.yes hf rfl (wp_skip (X.then_ (wp_seq (wp_block (X.l (S.q hf hs (iv (k1 : Int)) rfl fun a hf => S.q hf hs (iv (k1 : Int)) rfl fun a hf => X.n (X.l (S.q hf hs (iv v_) rfl fun a hf => S.q hf hs (.slice s_A s_.length s_C) rfl fun a hf => S.q hf hs (iv (k1 : Int)) rfl fun a hf => S.v hf hs (elemPtr s_A (k1 * 1)) rfl (V.index rfl rfl rfl runUnderlying72 sizeOf3 (hv_s_.some_ (lt_of_get hxk1)) (Int.natCast_nonneg _) (lt_of_get hxk1) rfl) fun a hf => ?_)))))))))))
  refine S.v hf hs (iv xk1) rfl (V.loadEl (off := 0) (Ag.args _ _ _) (hv_s_.flat hxk1) rfl rfl rfl isAgg3 sizeOf3 rfl rfl) fun a hf => S.q hf hs (.bool (v_ == xk1)) rfl fun a hf => X.n ?_
  refine C.cond hf (b := v_ == xk1) rfl (fun hc => ?_) (fun hc => ?_)
  ·replace h := h.1 hc
   refine X.l (S.q hf hs (iv (k1 : Int)) rfl fun a hf => S.q hf hs (iv (k1 : Int)) rfl fun a hf => X.n (wp_ret (X.blk_ret (X.then_ret (X.then_ret (X.blk_ret (X.then_ret ?_)))))))
   exact L.ret hf (run_results1 results40 (ResIs.tmp hf rfl)) ⟨(k1 : Int), rfl, h, hs.nil⟩
  ·replace h := h.2 hc
   refine wp_skip (X.blk (X.then_ (R.list (S.v hf hs (iv ((k1 + 1 : Nat) : Int)) rfl (V.incr rfl rfl rfl hltk1 hlenk1) fun a hf => S.q hf hs (iv ((k1 + 1 : Nat) : Int)) rfl fun a hf => X.n ?_))))
   exact ⟨xk1, llk1, rfl, k1 + 1, range_drop hlk1, range_len hkk1, (by rw [hnext1] at h; exact h), ((((hf.nil.cons (hf.get 7 _ rfl)).cons (hf.get 1 _ rfl)).cons (hf.get 0 _ rfl)).cons (hf.get 8 _ rfl)), hs⟩
def M_insert_int (s_ : (List Int)) (i : Int) (v_ : (List Int)) (Q : (List Int) → (List Int) → Prop) : Prop :=
  must (0 ≤ i ∧ i ≤ (s_.length : Int) ∧ v_ ≠ [] ∧ room (s_.length + v_.length) 8) (Q (s_.take i.toNat ++ v_ ++ s_.drop i.toNat) v_)
theorem R_insert_int (s_ : (List Int)) (i : Int) (v_ : (List Int)) (w0 : World) (F0 : Nat → Prop) (s_A : Option Addr) (s_C : Nat) (v_A : Option Addr) (v_C : Nat) (hs0 : Sat w0 F0 [hown 3 s_A s_C s_, hown 3 v_A v_C v_] w0) (Q : (List Int) → (List Int) → Prop) (h : M_insert_int s_ i v_ Q) :
  Ret Tryz.prog 41 #[.slice s_A s_.length s_C, .int .i64 i, .slice v_A v_.length v_C] w0 fun v w' => ∃ (r0 : (List Int)) (r0A : Option Addr) (r0C : Nat) (v_1 : (List Int)) (hl_v_1 : v_1.length = v_.length), v = .slice r0A r0.length r0C ∧ Q r0 v_1 ∧ Sat w0 F0 [hown 3 r0A r0C r0, hown 3 v_A v_C v_1] w' := by
 obtain ⟨⟨h0, h1, hvne, hroom⟩, hq⟩ := h
 obtain ⟨k, rfl⟩ : ∃ k : Nat, i = (k : Int) := ⟨i.toNat, by omega⟩
 have hkn : k ≤ s_.length := by omega
 rw [Int.toNat_natCast] at hq
 have hm0 : 0 < v_.length := List.length_pos_iff.2 hvne
 have hszE : ∀ w, (Go.sizeOf 3).run Tryz.prog w = .ok (Flat.sz Int) w := sizeOf3
 have hbig : s_.length + v_.length ≤ 9223372036854775807 := hroom.1
 refine fn_enter func41 rfl ntmps41 rfl (fs := [(0, .slice s_A s_.length s_C), (1, .int .i64 (k : Int)), (2, .slice v_A v_.length v_C)]) rfl (fun a hf => ?_)
 have hs := hs0
 refine X.l (S.val hf hs (v := .slice none 0 0) rfl rfl rfl (V.pure rfl) (fun a hf => X.n (X.l (S.val hf hs (v := .slice s_A s_.length s_C) rfl rfl rfl (V.pure rfl) (fun a hf => S.val hf hs (v := .int .i64 (k : Int)) rfl rfl rfl (V.pure rfl) (fun a hf => ?_))))))
 have hp1 : 0 ≤ (k : Int) ∧ (k : Int) ≤ (s_.length : Int) ∧ (s_.length : Int) ≤ (s_.length : Int) := ⟨Int.natCast_nonneg _, by omega, Int.le_refl _⟩
 refine S.val hf hs (v := .slice (segA s_A s_C (k : Int).toNat 1) (s_.length - k) (s_C - (k : Int).toNat)) rfl rfl rfl (V.slice (L := (k : Int)) (H := (s_.length : Int)) rfl rfl rfl rfl runUnderlying72 sizeOf3 rfl rfl hp1 (hs.ownView 0 rfl).cap (by simp)) (fun a hf => X.n (X.l (S.val hf hs (v := .slice v_A v_.length v_C) rfl rfl rfl (V.pure rfl) (fun a hf => S.val hf hs (v := .int .i64 (v_.length : Int)) rfl rfl rfl (V.len rfl rfl runUnderlying72) (fun a hf => S.val hf hs (v := .int .i64 (v_.length : Int)) rfl rfl rfl (V.pure rfl) (fun a hf => X.n (wp_seq (X.l (S.val hf hs (v := .int .i64 (v_.length : Int)) rfl rfl rfl (V.pure rfl) (fun a hf => S.val hf hs (v := .bool ((v_.length : Int) == 0)) rfl rfl rfl (V.pure rfl) (fun a hf => X.n ?_)))))))))))
 refine C.cond hf (b := ((v_.length : Int) == 0)) rfl (fun hc => ?_) (fun hc => ?_)
 ·exfalso; simp at hc; exact hvne hc
 refine wp_skip (X.then_ (X.l (S.val hf hs (v := .slice s_A s_.length s_C) rfl rfl rfl (V.pure rfl) (fun a hf => S.val hf hs (v := .int .i64 (s_.length : Int)) rfl rfl rfl (V.len rfl rfl runUnderlying72) (fun a hf => S.val hf hs (v := .int .i64 (s_.length : Int)) rfl rfl rfl (V.pure rfl) (fun a hf => X.n (wp_seq (X.l (S.val hf hs (v := .int .i64 (k : Int)) rfl rfl rfl (V.pure rfl) (fun a hf => S.val hf hs (v := .int .i64 (s_.length : Int)) rfl rfl rfl (V.pure rfl) (fun a hf => S.val hf hs (v := .bool ((k : Int) == (s_.length : Int))) rfl rfl rfl (V.pure rfl) (fun a hf => X.n ?_))))))))))))
 refine C.cond hf (b := ((k : Int) == (s_.length : Int))) rfl (fun hi => ?_) (fun hi => ?_)
 ·have hkn' : k = s_.length := by simp at hi; omega
  refine X.l (S.val hf hs (v := .slice s_A s_.length s_C) rfl rfl rfl (V.pure rfl) (fun a hf => S.val hf hs (v := .slice v_A v_.length v_C) rfl rfl rfl (V.pure rfl) (fun a hf => S.appendAny 0 hf hs rfl rfl rfl rfl rfl rfl rfl underlying72 info3 rfl (by rw [List.length_append]; exact hroom) (hs.ownView 1 rfl) (fun A1 C1 a w hf hs => S.val hf hs (v := .slice A1 (s_ ++ v_).length C1) rfl rfl rfl (V.pure rfl) (fun a hf => X.n (wp_ret (X.then_ret ?_)))))))
  have hq' : Q (s_ ++ v_) v_ := by subst hkn'; simpa using hq
  exact L.ret hf (run_results1 results41 (ResIs.tmp hf rfl)) ⟨s_ ++ v_, A1, C1, v_, rfl, rfl, hq', hs⟩
 refine wp_skip (X.then_ ?_)
 have hlt : k < s_.length := by simp at hi; omega
 obtain ⟨g1, cs1, hsA, hCl, hCm, hcl, hct, hsr⟩ := hs.toRaw 0 rfl (Nat.lt_of_le_of_lt (Nat.zero_le _) hlt)
 subst hsA
 refine wp_seq (X.l (S.val hf hs (v := .int .i64 (s_.length : Int)) rfl rfl rfl (V.pure rfl) (fun a hf => S.val hf hs (v := .int .i64 (v_.length : Int)) rfl rfl rfl (V.pure rfl) (fun a hf => S.val hf hs (v := .int .i64 ((s_.length + v_.length : Nat) : Int)) rfl rfl rfl (V.addNat rfl rfl rfl rfl hbig) (fun a hf => S.val hf hs (v := .slice (some ⟨g1, 0, none⟩) s_.length s_C) rfl rfl rfl (V.pure rfl) (fun a hf => S.val hf hs (v := .int .i64 (s_C : Int)) rfl rfl rfl (V.cap rfl rfl runUnderlying72) (fun a hf => S.val hf hs (v := .bool (decide (((s_.length + v_.length : Nat) : Int) > (s_C : Int)))) rfl rfl rfl (V.pure rfl) (fun a hf => X.n ?_))))))))
 refine C.cond hf (b := decide (((s_.length + v_.length : Nat) : Int) > (s_C : Int))) rfl (fun hc2 => ?_) (fun hc2 => ?_)
 ·have hgr : s_C < s_.length + v_.length := by simp at hc2; omega
  have hkc : k + (s_.length + v_.length - k) = s_.length + v_.length := by omega
  refine X.l (S.val hf hs (v := .slice (some ⟨g1, 0, none⟩) s_.length s_C) rfl rfl rfl (V.pure rfl) (fun a hf => S.val hf hs (v := .int .i64 (k : Int)) rfl rfl rfl (V.pure rfl) (fun a hf => S.val hf hs (v := .slice (some ⟨g1, 0, none⟩) k s_C) rfl rfl rfl (V.sliceCap rfl rfl rfl runUnderlying72 sizeOf3 (by omega)) (fun a hf => S.val hf hs (v := .int .i64 (s_.length : Int)) rfl rfl rfl (V.pure rfl) (fun a hf => S.val hf hs (v := .int .i64 (v_.length : Int)) rfl rfl rfl (V.pure rfl) (fun a hf => S.val hf hs (v := .int .i64 ((s_.length + v_.length : Nat) : Int)) rfl rfl rfl (V.addNat rfl rfl rfl rfl hbig) (fun a hf => S.val hf hs (v := .int .i64 (k : Int)) rfl rfl rfl (V.pure rfl) (fun a hf => S.val hf hs (v := .int .i64 (((s_.length + v_.length - k) : Nat) : Int)) rfl rfl rfl (V.subNat rfl rfl rfl hkc hbig) (fun a hf => S.growRaw 0 (α := Int) hf hs rfl rfl rfl rfl rfl hkn rfl rfl underlying72 underlying3 info3 rfl (by omega) (by omega) (by rw [hkc]; exact hroom) (fun g cs C' a w hf i1 i2 i3 i4 hs => ?_))))))))))
  rw [hkc] at hf i2
  refine S.val hf hs (v := .slice (some ⟨g, 0, none⟩) (s_.length + v_.length) C') rfl rfl rfl (V.pure rfl) (fun a hf => X.n (X.l (S.val hf hs (v := .slice (some ⟨g, 0, none⟩) (s_.length + v_.length) C') rfl rfl rfl (V.pure rfl) (fun a hf => S.val hf hs (v := .int .i64 (k : Int)) rfl rfl rfl (V.pure rfl) (fun a hf => S.val hf hs (v := .slice (some ⟨g, 0 + k * 1, none⟩) (s_.length + v_.length - k) (C' - k)) rfl rfl rfl (V.sliceFrom rfl rfl rfl runUnderlying72 sizeOf3 (by omega) i2 (by omega)) (fun a hf => S.val hf hs (v := .slice v_A v_.length v_C) rfl rfl rfl (V.pure rfl) (fun a hf => ?_)))))))
  have hfit1 : 0 + k * 1 + v_.length * Flat.sz Int ≤ cs.length := by rw [i1]; show 0 + k * Flat.sz Int + _ ≤ _; rw [Nat.zero_add, ← Nat.add_mul]; exact Nat.mul_le_mul_right _ (by omega)
  refine S.copyRaw 0 hf hs rfl rfl rfl rfl rfl rfl rfl underlying72 hszE v_ (hs.ownSome 2 rfl hm0) (hs.ownView 2 rfl) (by omega) hfit1 (fun a w hf hs => X.n (wp_seq (H.start (S := Sat w0 F0 [hown 3 (some ⟨g1, 0, none⟩) s_C s_, hown 3 v_A v_C v_]) mo ?_)))
  replace hs := hs.drew
  refine H.val hf (hs.mask [false, true, true]) (v := .slice (some ⟨g, 0, none⟩) (s_.length + v_.length) C') (i := 0) rfl rfl rfl rfl (by kernel_rfl) (by kernel_rfl) (by kernel_rfl) (V.pure rfl) (fun a hf => H.val hf (hs.mask [false, true, true]) (v := .int .i64 (k : Int)) (i := 1) rfl rfl rfl rfl (by kernel_rfl) (by kernel_rfl) (by kernel_rfl) (V.pure rfl) (fun a hf => H.val hf (hs.mask [false, true, true]) (v := .int .i64 (v_.length : Int)) (i := 2) rfl rfl rfl rfl (by kernel_rfl) (by kernel_rfl) (by kernel_rfl) (V.pure rfl) (fun a hf => H.val hf (hs.mask [false, true, true]) (v := .int .i64 ((k + v_.length : Nat) : Int)) (i := 3) rfl rfl rfl rfl (by kernel_rfl) (by kernel_rfl) (by kernel_rfl) (V.addNat rfl rfl rfl rfl (by omega)) (fun a hf => H.val hf (hs.mask [false, true, true]) (v := .slice (some ⟨g, 0 + (k + v_.length) * 1, none⟩) (s_.length + v_.length - (k + v_.length)) (C' - (k + v_.length))) (i := 4) rfl rfl rfl rfl (by kernel_rfl) (by kernel_rfl) (by kernel_rfl) (V.sliceFrom rfl rfl rfl runUnderlying72 sizeOf3 (by omega) i2 (by omega)) (fun a hf => H.val hf (hs.mask [false, true, true]) (v := .slice (some ⟨g1, 0, none⟩) s_.length s_C) (i := 5) rfl rfl rfl rfl (by kernel_rfl) (by kernel_rfl) (by kernel_rfl) (V.pure rfl) (fun a hf => H.val hf (hs.mask [false, true, true]) (v := .int .i64 (k : Int)) (i := 6) rfl rfl rfl rfl (by kernel_rfl) (by kernel_rfl) (by kernel_rfl) (V.pure rfl) (fun a hf => H.val hf (hs.mask [false, true, true]) (v := .slice (some ⟨g1, 0 + k * 1, none⟩) (s_.length - k) (s_C - k)) (i := 7) rfl rfl rfl rfl (by kernel_rfl) (by kernel_rfl) (by kernel_rfl) (V.sliceFrom rfl rfl rfl runUnderlying72 sizeOf3 (by omega) hCl (by omega)) (fun a hf => H.one (i := 8) rfl (by kernel_rfl) ?_))))))))
  have hlc1 : (cs.take (0 + k * 1) ++ v_.flatMap Flat.enc ++ cs.drop (0 + k * 1 + v_.length * Flat.sz Int)).length = C' * Flat.sz Int := by rw [← i1]; simp only [List.length_append, List.length_take, List.length_drop, length_flatMap_enc]; omega
  have hfit2 : 0 + (k + v_.length) * 1 + (s_.drop k).length * Flat.sz Int ≤ (cs.take (0 + k * 1) ++ v_.flatMap Flat.enc ++ cs.drop (0 + k * 1 + v_.length * Flat.sz Int)).length := by rw [hlc1]; show 0 + (k + v_.length) * Flat.sz Int + _ ≤ _; rw [Nat.zero_add, ← Nat.add_mul, List.length_drop]; exact Nat.mul_le_mul_right _ (by omega)
  refine S.copyRaw 0 hf hs rfl rfl rfl rfl rfl rfl rfl underlying72 hszE (s_.drop k) rfl (View.from_ (hs.ownView 1 rfl) hkn) (by rw [List.length_drop]; omega) hfit2 (fun a w hf hs => X.n (⟨(hs.mask [false, true, true]), (H.done (by kernel_rfl) (X.then_ (X.l (S.val hf hs (v := .slice (some ⟨g, 0, none⟩) (s_.length + v_.length) C') rfl rfl rfl (V.pure rfl) (fun a hf => S.val hf hs (v := .slice (some ⟨g, 0, none⟩) (s_.length + v_.length) C') rfl rfl rfl (V.pure rfl) (fun a hf => X.n (wp_ret (X.then_ret ?_))))))))⟩))
  have hs2 := hs.ofRaw 0 rfl (C := C') (s_.take k ++ v_ ++ s_.drop k) (by rw [← hlc1, List.length_append, List.length_append, List.length_take, List.length_drop, length_flatMap_enc]; omega) (by simp only [List.length_append, List.length_take, List.length_drop]; omega) i3 (insert_cells hkn hfit1 hfit2 i4)
  have hlen : (s_.take k ++ v_ ++ s_.drop k).length = s_.length + v_.length := by simp only [List.length_append, List.length_take, List.length_drop]; omega
  exact L.ret hf (run_results1 results41 (ResIs.tmp hf rfl)) ⟨s_.take k ++ v_ ++ s_.drop k, some ⟨g, 0, none⟩, C', v_, rfl, by rw [hlen], hq, hs2.mask [true, false, true]⟩
 refine wp_skip (X.then_ ?_)
 have hrm : s_.length + v_.length ≤ s_C := by simp at hc2; omega
 refine X.l (S.val hf hs (v := .slice (some ⟨g1, 0, none⟩) s_.length s_C) rfl rfl rfl (V.pure rfl) (fun a hf => S.val hf hs (v := .int .i64 (s_.length : Int)) rfl rfl rfl (V.pure rfl) (fun a hf => S.val hf hs (v := .int .i64 (v_.length : Int)) rfl rfl rfl (V.pure rfl) (fun a hf => S.val hf hs (v := .int .i64 ((s_.length + v_.length : Nat) : Int)) rfl rfl rfl (V.addNat rfl rfl rfl rfl hbig) (fun a hf => S.val hf hs (v := .slice (some ⟨g1, 0, none⟩) (s_.length + v_.length) s_C) rfl rfl rfl (V.sliceCap rfl rfl rfl runUnderlying72 sizeOf3 hrm) (fun a hf => S.val hf hs (v := .slice (some ⟨g1, 0, none⟩) (s_.length + v_.length) s_C) rfl rfl rfl (V.pure rfl) (fun a hf => X.n ?_)))))))
 replace hs := hs.toRaw 0 rfl (Nat.lt_of_le_of_lt (Nat.zero_le _) hlt)
 clear hcl hct hsr
 obtain ⟨g2, cs, hsA, _, _, i1, i4, hs⟩ := hs
 injection hsA with hsA; injection hsA with hsA; subst hsA
 refine wp_seq (X.l (S.val hf hs (v := .slice v_A v_.length v_C) rfl rfl rfl (V.pure rfl) (fun a hf => S.val hf hs (v := .slice (some ⟨g1, 0, none⟩) (s_.length + v_.length) s_C) rfl rfl rfl (V.pure rfl) (fun a hf => S.val hf hs (v := .int .i64 (k : Int)) rfl rfl rfl (V.pure rfl) (fun a hf => S.val hf hs (v := .int .i64 (v_.length : Int)) rfl rfl rfl (V.pure rfl) (fun a hf => S.val hf hs (v := .int .i64 ((k + v_.length : Nat) : Int)) rfl rfl rfl (V.addNat rfl rfl rfl rfl (by omega)) (fun a hf => S.val hf hs (v := .slice (some ⟨g1, 0 + (k + v_.length) * 1, none⟩) (s_.length + v_.length - (k + v_.length)) (s_C - (k + v_.length))) rfl rfl rfl (V.sliceFrom rfl rfl rfl runUnderlying72 sizeOf3 (by omega) hrm (by omega)) (fun a hf => ?_))))))))
 have hcs0 : 0 < cs.length := by rw [i1]; exact Nat.mul_pos (by omega) Flat.pos
 refine S.val hf hs (v := .bool false) rfl rfl rfl (V.externS func82 (by kernel_rfl) (by kernel_rfl) (by kernel_rfl) (by kernel_rfl) rfl rfl rfl (fun w hs => overlaps_no (B := 4) hs underlying72 hszE hm0 hcs0)) (fun a hf => S.val hf hs (v := .bool true) rfl rfl rfl (V.pure rfl) (fun a hf => X.n (C.yes hf rfl (wp_seq (H.start (S := Sat w0 F0 [hown 3 v_A v_C v_]) mo ?_)))))
 replace hs := hs.drew
 refine H.val hf (hs.mask [false, true]) (v := .slice (some ⟨g1, 0, none⟩) (s_.length + v_.length) s_C) (i := 0) rfl rfl rfl rfl (by kernel_rfl) (by kernel_rfl) (by kernel_rfl) (V.pure rfl) (fun a hf => H.val hf (hs.mask [false, true]) (v := .int .i64 (k : Int)) (i := 1) rfl rfl rfl rfl (by kernel_rfl) (by kernel_rfl) (by kernel_rfl) (V.pure rfl) (fun a hf => H.val hf (hs.mask [false, true]) (v := .int .i64 (v_.length : Int)) (i := 2) rfl rfl rfl rfl (by kernel_rfl) (by kernel_rfl) (by kernel_rfl) (V.pure rfl) (fun a hf => H.val hf (hs.mask [false, true]) (v := .int .i64 ((k + v_.length : Nat) : Int)) (i := 3) rfl rfl rfl rfl (by kernel_rfl) (by kernel_rfl) (by kernel_rfl) (V.addNat rfl rfl rfl rfl (by omega)) (fun a hf => H.val hf (hs.mask [false, true]) (v := .slice (some ⟨g1, 0 + (k + v_.length) * 1, none⟩) (s_.length + v_.length - (k + v_.length)) (s_C - (k + v_.length))) (i := 4) rfl rfl rfl rfl (by kernel_rfl) (by kernel_rfl) (by kernel_rfl) (V.sliceFrom rfl rfl rfl runUnderlying72 sizeOf3 (by omega) hrm (by omega)) (fun a hf => H.val hf (hs.mask [false, true]) (v := .slice (some ⟨g1, 0, none⟩) (s_.length + v_.length) s_C) (i := 5) rfl rfl rfl rfl (by kernel_rfl) (by kernel_rfl) (by kernel_rfl) (V.pure rfl) (fun a hf => H.val hf (hs.mask [false, true]) (v := .int .i64 (k : Int)) (i := 6) rfl rfl rfl rfl (by kernel_rfl) (by kernel_rfl) (by kernel_rfl) (V.pure rfl) (fun a hf => H.val hf (hs.mask [false, true]) (v := .slice (some ⟨g1, 0 + k * 1, none⟩) (s_.length + v_.length - k) (s_C - k)) (i := 7) rfl rfl rfl rfl (by kernel_rfl) (by kernel_rfl) (by kernel_rfl) (V.sliceFrom rfl rfl rfl runUnderlying72 sizeOf3 (by omega) hrm (by omega)) (fun a hf => H.one (i := 8) rfl (by kernel_rfl) ?_))))))))
 have hfit1 : 0 + (k + v_.length) * 1 + (s_.drop k).length * Flat.sz Int ≤ cs.length := by rw [i1]; show 0 + (k + v_.length) * Flat.sz Int + _ ≤ _; rw [Nat.zero_add, ← Nat.add_mul, List.length_drop]; exact Nat.mul_le_mul_right _ (by omega)
 refine S.copyRaw 0 hf hs rfl rfl rfl rfl rfl rfl rfl underlying72 hszE (s_.drop k) rfl (hs.rawView 0 rfl (0 + k * 1) (s_C - k) (s_.drop k) (shift_src hkn i4) (by rw [List.length_drop]; omega) (by omega)) (by rw [List.length_drop]; omega) hfit1 (fun a w hf hs => X.n (⟨(hs.mask [false, true]), (H.done (by kernel_rfl) (X.then_ ?_))⟩))
 have hlc1 : (cs.take (0 + (k + v_.length) * 1) ++ (s_.drop k).flatMap Flat.enc ++ cs.drop (0 + (k + v_.length) * 1 + (s_.drop k).length * Flat.sz Int)).length = s_C * Flat.sz Int := by rw [← i1]; simp only [List.length_append, List.length_take, List.length_drop, length_flatMap_enc] at hfit1 ⊢; omega
 refine X.l (S.val hf hs (v := .slice (some ⟨g1, 0, none⟩) (s_.length + v_.length) s_C) rfl rfl rfl (V.pure rfl) (fun a hf => S.val hf hs (v := .int .i64 (k : Int)) rfl rfl rfl (V.pure rfl) (fun a hf => S.val hf hs (v := .slice (some ⟨g1, 0 + k * 1, none⟩) (s_.length + v_.length - k) (s_C - k)) rfl rfl rfl (V.sliceFrom rfl rfl rfl runUnderlying72 sizeOf3 (by omega) hrm (by omega)) (fun a hf => S.val hf hs (v := .slice v_A v_.length v_C) rfl rfl rfl (V.pure rfl) (fun a hf => ?_)))))
 have hfit2 : 0 + k * 1 + v_.length * Flat.sz Int ≤ (cs.take (0 + (k + v_.length) * 1) ++ (s_.drop k).flatMap Flat.enc ++ cs.drop (0 + (k + v_.length) * 1 + (s_.drop k).length * Flat.sz Int)).length := by rw [hlc1]; show 0 + k * Flat.sz Int + _ ≤ _; rw [Nat.zero_add, ← Nat.add_mul]; exact Nat.mul_le_mul_right _ (by omega)
 refine S.copyRaw 0 hf hs rfl rfl rfl rfl rfl rfl rfl underlying72 hszE v_ (hs.ownSome 1 rfl hm0) (hs.ownView 1 rfl) (by omega) hfit2 (fun a w hf hs => X.n (X.l (S.val hf hs (v := .slice (some ⟨g1, 0, none⟩) (s_.length + v_.length) s_C) rfl rfl rfl (V.pure rfl) (fun a hf => S.val hf hs (v := .slice (some ⟨g1, 0, none⟩) (s_.length + v_.length) s_C) rfl rfl rfl (V.pure rfl) (fun a hf => X.n (wp_ret (X.then_ret ?_)))))))
 have hs2 := hs.ofRaw 0 rfl (C := s_C) (s_.take k ++ v_ ++ s_.drop k) (by have h9 := hfit2; rw [← hlc1]; generalize (cs.take (0 + (k + v_.length) * 1) ++ (s_.drop k).flatMap Flat.enc ++ cs.drop (0 + (k + v_.length) * 1 + (s_.drop k).length * Flat.sz Int)) = D at h9 ⊢; rw [List.length_append, List.length_append, List.length_take, List.length_drop, length_flatMap_enc]; omega) (by simp only [List.length_append, List.length_take, List.length_drop]; omega) hCm (shift_cells hkn hfit1 hfit2 i4)
 have hlen : (s_.take k ++ v_ ++ s_.drop k).length = s_.length + v_.length := by simp only [List.length_append, List.length_take, List.length_drop]; omega
 exact L.ret hf (run_results1 results41 (ResIs.tmp hf rfl)) ⟨s_.take k ++ v_ ++ s_.drop k, some ⟨g1, 0, none⟩, s_C, v_, rfl, by rw [hlen], hq, hs2⟩
def M_delete_int (s_ : (List Int)) (i j : Int) (Q : (List Int) → Prop) : Prop :=
  must (0 ≤ i ∧ i < j ∧ j ≤ (s_.length : Int)) (Q (s_.take i.toNat ++ s_.drop j.toNat))
theorem R_delete_int (s_ : (List Int)) (i j : Int) (w0 : World) (F0 : Nat → Prop) (s_A : Option Addr) (s_C : Nat) (hs0 : Sat w0 F0 [hown 3 s_A s_C s_] w0) (Q : (List Int) → Prop) (h : M_delete_int s_ i j Q) :
  Ret Tryz.prog 42 #[.slice s_A s_.length s_C, .int .i64 i, .int .i64 j] w0 fun v w' => ∃ (r0 : (List Int)) (r0A : Option Addr) (r0C : Nat), v = .slice r0A r0.length r0C ∧ Q r0 ∧ Sat w0 F0 [hown 3 r0A r0C r0] w' := by
 obtain ⟨⟨h0, h1, h2⟩, hq⟩ := h
 obtain ⟨k, rfl⟩ : ∃ k : Nat, i = (k : Int) := ⟨i.toNat, by omega⟩
 obtain ⟨l, rfl⟩ : ∃ l : Nat, j = (l : Int) := ⟨j.toNat, by omega⟩
 rw [Int.toNat_natCast, Int.toNat_natCast] at hq
 have hkl : k < l := by omega
 have hln : l ≤ s_.length := by omega
 refine fn_enter func42 rfl ntmps42 rfl (fs := [(0, .slice s_A s_.length s_C), (1, .int .i64 (k : Int)), (2, .int .i64 (l : Int))]) rfl (fun a hf => ?_)
 have hs := hs0
 have hcap := (hs.ownView 0 rfl).cap
 refine X.l (S.val hf hs (v := .slice none 0 0) rfl rfl rfl (V.pure rfl) (fun a hf => X.n (X.l (S.val hf hs (v := .slice s_A s_.length s_C) rfl rfl rfl (V.pure rfl) (fun a hf => S.val hf hs (v := .int .i64 (k : Int)) rfl rfl rfl (V.pure rfl) (fun a hf => S.val hf hs (v := .int .i64 (l : Int)) rfl rfl rfl (V.pure rfl) (fun a hf => S.val hf hs (v := .slice s_A s_.length s_C) rfl rfl rfl (V.pure rfl) (fun a hf => S.val hf hs (v := .int .i64 (s_.length : Int)) rfl rfl rfl (V.len rfl rfl runUnderlying72) (fun a hf => S.val hf hs (v := .slice (if s_.length = k then s_A else s_A.map (·.add (k * 1))) (l - k) (s_.length - k)) rfl rfl rfl (V.slice3 rfl rfl rfl rfl rfl runUnderlying72 sizeOf3 (by omega) hln hcap) (fun a hf => X.n (wp_seq (X.l (S.val hf hs (v := .int .i64 (k : Int)) rfl rfl rfl (V.pure rfl) (fun a hf => S.val hf hs (v := .int .i64 (l : Int)) rfl rfl rfl (V.pure rfl) (fun a hf => ?_)))))))))))))))
 refine S.val hf hs (v := .bool ((k : Int) == (l : Int))) rfl rfl rfl (V.pure rfl) (fun a hf => X.n ?_)
 refine C.cond hf (b := ((k : Int) == (l : Int))) rfl (fun hc => ?_) (fun hc => ?_)
 ·exfalso; simp at hc; omega
 refine wp_skip (X.then_ (X.l (S.val hf hs (v := .slice s_A s_.length s_C) rfl rfl rfl (V.pure rfl) (fun a hf => S.val hf hs (v := .int .i64 (s_.length : Int)) rfl rfl rfl (V.len rfl rfl runUnderlying72) (fun a hf => S.val hf hs (v := .int .i64 (s_.length : Int)) rfl rfl rfl (V.pure rfl) (fun a hf => X.n (wp_seq (H.start (S := Sat w0 F0 []) mo ?_))))))))
 replace hs := hs.drew
 have hv0 := (hs.ownView 0 rfl).sub (lo := (l : Int)) (hi := (s_.length : Int)) ⟨by omega, by omega, Int.le_refl _⟩
 have e9 : seg s_ (l : Int) (s_.length : Int) = s_.drop l := by unfold seg; simp
 rw [e9, Int.toNat_natCast] at hv0
 obtain ⟨g1, cs1, hsA, hCl, hCm, hcl, hct, hs⟩ := hs.toRaw 0 rfl (by omega)
 subst hsA
 refine H.val hf (hs.mask [false]) (v := .slice (some ⟨g1, 0, none⟩) s_.length s_C) (i := 0) rfl rfl rfl rfl (by kernel_rfl) (by kernel_rfl) (by kernel_rfl) (V.pure rfl) (fun a hf => H.val hf (hs.mask [false]) (v := .int .i64 (k : Int)) (i := 1) rfl rfl rfl rfl (by kernel_rfl) (by kernel_rfl) (by kernel_rfl) (V.pure rfl) (fun a hf => H.val hf (hs.mask [false]) (v := .slice (some ⟨g1, 0, none⟩) k s_C) (i := 2) rfl rfl rfl rfl (by kernel_rfl) (by kernel_rfl) (by kernel_rfl) (V.sliceCap rfl rfl rfl runUnderlying72 sizeOf3 (by omega)) (fun a hf => H.val hf (hs.mask [false]) (v := .slice (some ⟨g1, 0, none⟩) s_.length s_C) (i := 3) rfl rfl rfl rfl (by kernel_rfl) (by kernel_rfl) (by kernel_rfl) (V.pure rfl) (fun a hf => H.val hf (hs.mask [false]) (v := .int .i64 (l : Int)) (i := 4) rfl rfl rfl rfl (by kernel_rfl) (by kernel_rfl) (by kernel_rfl) (V.pure rfl) (fun a hf => ?_)))))
 have hp1 : 0 ≤ (l : Int) ∧ (l : Int) ≤ (s_.length : Int) ∧ (s_.length : Int) ≤ (s_.length : Int) := ⟨Int.natCast_nonneg _, by omega, Int.le_refl _⟩
 refine H.val hf (hs.mask [false]) (v := .slice (segA (some ⟨g1, 0, none⟩) s_C l 1) (s_.drop l).length (s_C - l)) (i := 5) rfl rfl rfl rfl (by kernel_rfl) (by kernel_rfl) (by kernel_rfl) (V.slice (L := (l : Int)) (H := (s_.length : Int)) rfl rfl rfl rfl runUnderlying72 sizeOf3 rfl rfl hp1 hCl (by rw [List.length_drop]; omega)) (fun a hf => H.one (i := 6) rfl (by kernel_rfl) ?_)
 have hdl : (s_.drop l).length = s_.length - l := List.length_drop
 have hm1 : (k + (s_.drop l).length) * 1 ≤ s_C * 1 := Nat.mul_le_mul_right _ (by omega)
 have hfz : Flat.sz Int = 1 := rfl
 have hcl' : cs1.length = s_C * 1 := hcl
 refine S.appendRaw 0 hf hs rfl rfl rfl rfl rfl (s_.drop l) rfl rfl underlying72 info3 (by unfold segA; split <;> rfl) hv0 (by omega) (by rw [hcl', hfz, ← Nat.add_mul]; exact hm1) (fun a w hf hs => X.n (⟨hs.mask [false], (H.val hf (hs.mask [false]) (v := .slice (some ⟨g1, 0, none⟩) (k + (s_.drop l).length) s_C) (i := 7) rfl rfl rfl rfl (by kernel_rfl) (by kernel_rfl) (by kernel_rfl) (V.pure rfl) (fun a hf => H.done (by kernel_rfl) (X.then_ ?_)))⟩))
 generalize hD : (cs1.take (k * Flat.sz Int) ++ (s_.drop l).flatMap Flat.enc ++ cs1.drop (k * Flat.sz Int + (s_.drop l).length * Flat.sz Int)) = D at hs
 have hDl : D.length = s_C * 1 := by rw [← hD, ← hcl']; simp only [List.length_append, List.length_take, List.length_drop, length_flatMap_enc, hfz] at hm1 hcl' ⊢; omega
 refine X.l (S.val hf hs (v := .slice (some ⟨g1, 0, none⟩) (k + (s_.drop l).length) s_C) rfl rfl rfl (V.pure rfl) (fun a hf => S.val hf hs (v := .slice (some ⟨g1, 0, none⟩) (k + (s_.drop l).length) s_C) rfl rfl rfl (V.pure rfl) (fun a hf => S.val hf hs (v := .int .i64 ((k + (s_.drop l).length : Nat) : Int)) rfl rfl rfl (V.len rfl rfl runUnderlying72) (fun a hf => S.val hf hs (v := .int .i64 (s_.length : Int)) rfl rfl rfl (V.pure rfl) (fun a hf => S.val hf hs (v := .slice (some ⟨g1, 0 + (k + (s_.drop l).length) * 1, none⟩) (s_.length - (k + (s_.drop l).length)) (s_C - (k + (s_.drop l).length))) rfl rfl rfl (V.sliceUpto rfl rfl rfl rfl runUnderlying72 sizeOf3 (by omega) hCl (by omega)) (fun a hf => ?_))))))
 have hfit : 0 + (k + (s_.drop l).length) * 1 + (s_.length - (k + (s_.drop l).length)) * 1 ≤ D.length := by rw [hDl, Nat.zero_add, ← Nat.add_mul]; exact Nat.mul_le_mul_right _ (by omega)
 refine S.clearRaw 0 hf hs rfl rfl rfl rfl rfl underlying72 info3 rfl (by decide) (by decide) (by omega) hfit (fun a w zs hf hzl hs => X.n (X.l (S.val hf hs (v := .slice (some ⟨g1, 0, none⟩) (k + (s_.drop l).length) s_C) rfl rfl rfl (V.pure rfl) (fun a hf => S.val hf hs (v := .slice (some ⟨g1, 0, none⟩) (k + (s_.drop l).length) s_C) rfl rfl rfl (V.pure rfl) (fun a hf => X.n (wp_ret ?_))))))
 have hcc := cut_cells (zs := zs) (o1 := 0 + (k + (s_.drop l).length) * 1) hkl hln (by rw [hcl]; exact Nat.mul_le_mul_right _ hCl) hct hD.symm (by rw [Nat.zero_add, hfz])
 rw [hzl] at hcc
 have hlen : (s_.take k ++ s_.drop l).length = k + (s_.drop l).length := by rw [List.length_append, List.length_take]; omega
 have hs2 := hs.ofRaw 0 rfl (C := s_C) (s_.take k ++ s_.drop l) (by rw [hfz, ← hDl]; simp only [List.length_append, List.length_take, List.length_drop, hzl] at hfit ⊢; omega) (by rw [hlen]; omega) hCm hcc
 exact L.ret hf (run_results1 results42 (ResIs.tmp hf rfl)) ⟨s_.take k ++ s_.drop l, some ⟨g1, 0, none⟩, s_C, by rw [hlen], hq, hs2⟩
def M_contains_int (s_ : (List Int)) (v_ : Int) (Q : Bool → Prop) : Prop :=
  M_index_int s_ v_ fun y1 => Q (decide (y1 ≥ 0))
theorem R_contains_int (s_ : (List Int)) (v_ : Int) (w0 : World) (s_A : Option Addr) (s_C : Nat) (hv_s_ : View w0 (old w0 none_) s_A s_C s_) (Q : Bool → Prop) (h : M_contains_int s_ v_ Q) :
  Ret Tryz.prog 43 #[.slice s_A s_.length s_C, iv v_] w0 fun v w' => ∃ (r0 : Bool), v = .bool r0 ∧ Q r0 ∧ Sat w0 none_ [] w' := by
 refine fn_enter func43 rfl ntmps43 rfl (fs := [(0, .slice s_A s_.length s_C), (1, iv v_)]) rfl (fun a hf => ?_)
 have hs := Sat.start w0 none_
 unfold M_contains_int at h
 refine X.l (S.q hf hs (.bool false) rfl fun a hf => X.n (X.l (S.q hf hs (.slice s_A s_.length s_C) rfl fun a hf => S.q hf hs (iv v_) rfl fun a hf => S.call hf rfl rfl rfl (call_fn (vs := [.slice s_A s_.length s_C, iv v_]) rfl rfl rfl call40) (R_index_int s_ v_ _ s_A s_C ((Ag.args _ _ _).view hv_s_ hs) _ h) (fun v a w' hf hr => ?_))))
 obtain ⟨y1, rfl, h2, hs2⟩ := hr
 replace h := h2; replace hs := hs.call hs2; clear h2 hs2
 refine S.q hf hs (.bool (decide (y1 ≥ 0))) rfl fun a hf => S.q hf hs (.bool (decide (y1 ≥ 0))) rfl fun a hf => X.n (wp_ret ?_)
 exact L.ret hf (run_results1 results43 (ResIs.tmp hf rfl)) ⟨(decide (y1 ≥ 0)), rfl, h, hs.nil⟩
def M_route_Route_L3 (y3 : (List (List (List Cell)))) (y4 : (List Int)) (k4 : Nat) (xk4 : Task) (l10 : List Routed) (next3 : List Routed → Prop) : Prop :=
  M_contains_int y4 (k4 : Int) fun y5 => cnd (!y5) (idx y3 (k4 : Int) fun x1 => must (room (l10 ++ [(⟨xk4.Net, x1⟩ : Routed)]).length 40) (next3 (l10 ++ [(⟨xk4.Net, x1⟩ : Routed)]))) (next3 l10)
def M_route_Route_L4 (l7 : List (List (List Cell))) (l8 : List Int) (k5 : Nat) (xk5 : Task) (l12 : List Routed) (next4 : List Routed → Prop) : Prop :=
  M_contains_int l8 (k5 : Int) fun y9 => cnd (!y9) (idx l7 (k5 : Int) fun x3 => must (room (l12 ++ [(⟨xk5.Net, x3⟩ : Routed)]).length 40) (next4 (l12 ++ [(⟨xk5.Net, x3⟩ : Routed)]))) (next4 l12)
def M_route_Route_k3 (t : (List Task)) (Q : (List Routed) → Int → Prop) (l6 : List Int) (l7 : List (List (List Cell))) (l8 : List Int) (n2 : Int) (again2 : List Int → List (List (List Cell)) → List Int → Int → Prop) (y3 : (List (List (List Cell)))) (y4 : (List Int)) (c1 : Bool) : Prop :=
  cnd c1 (cnd ((y4.length : Int) == 0) (forIn' (fun k x (s : List Routed) next => M_route_Route_L3 y3 y4 k x s (fun l10 => next l10)) (fun (s : List Routed) => (fun (l10 : List Routed) => Q l10 0) s) t 0 ([] : List Routed)) (idx y4 0 fun x2 => M_index_int l6 x2 fun y6 => M_delete_int l6 y6 (w64 (y6 + 1)) fun y7 => M_insert_int y7 0 [x2] fun y8 z1 => again2 y8 y3 y4 (w64 (n2 + 1)))) (cnd ((y4.length : Int) == 0) (forIn' (fun k x (s : List Routed) next => M_route_Route_L4 l7 l8 k x s (fun l12 => next l12)) (fun (s : List Routed) => (fun (l12 : List Routed) => Q l12 0) s) t 0 ([] : List Routed)) (idx y4 0 fun x4 => M_index_int l6 x4 fun y10 => M_delete_int l6 y10 (w64 (y10 + 1)) fun y11 => M_insert_int y11 0 [x4] fun y12 z2 => again2 y12 l7 l8 (w64 (n2 + 1))))
def M_route_Route_L5 (l7 : List (List (List Cell))) (l8 : List Int) (k6 : Nat) (xk6 : Task) (l14 : List Routed) (next5 : List Routed → Prop) : Prop :=
  M_contains_int l8 (k6 : Int) fun y13 => cnd (!y13) (idx l7 (k6 : Int) fun x5 => must (room (l14 ++ [(⟨xk6.Net, x5⟩ : Routed)]).length 40) (next5 (l14 ++ [(⟨xk6.Net, x5⟩ : Routed)]))) (next5 l14)
def M_route_Route_L2 (g : Grid) (c : Costs) (t : (List Task)) (tries : Int) (Q : (List Routed) → Int → Prop) (again2 : List Int → List (List (List Cell)) → List Int → Int → Prop) (l6 : List Int) (l7 : List (List (List Cell))) (l8 : List Int) (n2 : Int) : Prop :=
  cnd (decide (n2 ≤ tries)) (M_route_round g c t l6 fun y3 y4 => cnd (n2 == 1) (M_route_Route_k3 t Q l6 l7 l8 n2 again2 y3 y4 true) (M_route_Route_k3 t Q l6 l7 l8 n2 again2 y3 y4 (decide ((y4.length : Int) < (l8.length : Int))))) (forIn' (fun k x (s : List Routed) next => M_route_Route_L5 l7 l8 k x s (fun l14 => next l14)) (fun (s : List Routed) => (fun (l14 : List Routed) => Q l14 0) s) t 0 ([] : List Routed))
def M_route_Route_L1  (k1 : Nat) (xk1 : Task) (l2 : List Int) (next1 : List Int → Prop) : Prop :=
  must (room (l2 ++ [(k1 : Int)]).length 8) (next1 (l2 ++ [(k1 : Int)]))
def M_route_Route (g : Grid) (c : Costs) (t : (List Task)) (tries : Int) (Q : (List Routed) → Int → Prop) : Prop :=
  M_route_checkBoth g c fun y1 => cnd (y1 != 0) (Q ([] : List Routed) y1) (M_route_CheckTasks g t fun y2 => cnd (y2 != 0) (Q ([] : List Routed) y2) (cnd (!(within tries 1 20)) (Q ([] : List Routed) 1) (forIn' (fun k x (s : List Int) next => M_route_Route_L1 k x s (fun l2 => next l2)) (fun (s : List Int) => (fun (l2 : List Int) => lp (fun again (s : List Int × List (List (List Cell)) × List Int × Int) => M_route_Route_L2 g c t tries Q (fun l6 l7 l8 n2 => again (l6, l7, l8, n2)) s.1 s.2.1 s.2.2.1 s.2.2.2) (l2, ([] : List (List (List Cell))), (([] : List Int)), 1)) s) t 0 ([] : List Int))))
theorem R_route_Route (g : Grid) (c : Costs) (t : (List Task)) (tries : Int) (w0 : World) (g_BlockedA : Option Addr) (g_BlockedC : Nat) (hv_g_Blocked : View w0 (old w0 none_) g_BlockedA g_BlockedC g.Blocked) (tA : Option Addr) (tC : Nat) (hv_t : View w0 (old w0 none_) tA tC t) (Q : (List Routed) → Int → Prop) (h : M_route_Route g c t tries Q) :
  Ret Tryz.prog 14 #[.agg #[iv g.W, iv g.H, iv g.Layers, .slice g_BlockedA g.Blocked.length g_BlockedC], .agg #[iv c.Step, iv c.Via, iv c.Turn, iv c.Against], .slice tA t.length tC, iv tries] w0 fun v w' => ∃ (r0 : (List Routed)) (r0A : Option Addr) (r0C : Nat) (r0as : List Dp) (r1 : Int), v = .tuple #[.slice r0A r0.length r0C, iv r1] ∧ Q r0 r1 ∧ Sat w0 none_ [hdeep 47 22 55 r0A r0C r0as r0] w' := by
 refine fn_enter func14 rfl ntmps14 rfl (fs := [(0, .agg #[iv g.W, iv g.H, iv g.Layers, .slice g_BlockedA g.Blocked.length g_BlockedC]), (1, .agg #[iv c.Step, iv c.Via, iv c.Turn, iv c.Against]), (2, .slice tA t.length tC), (3, iv tries)]) rfl (fun a hf => ?_)
 have hs := Sat.start w0 none_
 unfold M_route_Route at h
 refine X.l (S.box hf hs rfl rfl rfl [iv g.W, iv g.H, iv g.Layers, .slice g_BlockedA g.Blocked.length g_BlockedC] rfl rfl rfl (fun g1 a w hf hs => S.box hf hs rfl rfl rfl [iv c.Step, iv c.Via, iv c.Turn, iv c.Against] rfl rfl rfl (fun g2 a w hf hs => S.q hf hs (.slice none 0 0) rfl fun a hf => S.q hf hs (iv 0) rfl fun a hf => X.n (wp_seq (X.l (S.v hf hs (.agg #[iv g.W, iv g.H, iv g.Layers, .slice g_BlockedA g.Blocked.length g_BlockedC]) rfl (V.loadBox 1 rfl rfl rfl isAgg24 sizeOf24 rfl rfl) fun a hf => S.v hf hs (.agg #[iv c.Step, iv c.Via, iv c.Turn, iv c.Against]) rfl (V.loadBox 0 rfl rfl rfl isAgg26 sizeOf26 rfl rfl) fun a hf => S.call hf rfl rfl rfl (call_fn (vs := [.agg #[iv g.W, iv g.H, iv g.Layers, .slice g_BlockedA g.Blocked.length g_BlockedC], .agg #[iv c.Step, iv c.Via, iv c.Turn, iv c.Against]]) rfl rfl rfl call19) (R_route_checkBoth g c _ g_BlockedA g_BlockedC ((Ag.args _ _ _).view hv_g_Blocked hs) _ h) (fun v a w' hf hr => ?_)))))))
 obtain ⟨y1, rfl, h2, hs2⟩ := hr
 replace h := h2; replace hs := hs.call hs2; clear h2 hs2
 refine S.q hf hs (iv y1) rfl fun a hf => X.n (X.l (S.q hf hs (iv y1) rfl fun a hf => S.q hf hs (.bool (y1 != 0)) rfl fun a hf => X.n ?_))
 refine C.cond hf (b := y1 != 0) rfl (fun hc => ?_) (fun hc => ?_)
 ·replace h := h.1 hc
  refine X.l (S.q hf hs (iv y1) rfl fun a hf => S.q hf hs (.slice none 0 0) rfl fun a hf => S.q hf hs (iv y1) rfl fun a hf => X.n (wp_ret (X.then_ret ?_)))
  replace hs := hs.nilRowsD (α := Routed) 47 22 55
  replace hs := hs.take 1
  exact L.ret hf (run_results2 results14 (ResIs.tmp hf rfl) (ResIs.tmp hf rfl)) ⟨([] : List Routed), none, 0, [], y1, rfl, h, hs⟩
 ·replace h := h.2 hc
  refine wp_skip (X.then_ (wp_seq (X.l (S.v hf hs (.agg #[iv g.W, iv g.H, iv g.Layers, .slice g_BlockedA g.Blocked.length g_BlockedC]) rfl (V.loadBox 1 rfl rfl rfl isAgg24 sizeOf24 rfl rfl) fun a hf => S.q hf hs (.slice tA t.length tC) rfl fun a hf => S.call hf rfl rfl rfl (call_fn (vs := [.agg #[iv g.W, iv g.H, iv g.Layers, .slice g_BlockedA g.Blocked.length g_BlockedC], .slice tA t.length tC]) rfl rfl rfl call16) (R_route_CheckTasks g t _ g_BlockedA g_BlockedC ((Ag.args _ _ _).view hv_g_Blocked hs) tA tC ((Ag.args _ _ _).view hv_t hs) _ h) (fun v a w' hf hr => ?_)))))
  obtain ⟨y2, rfl, h2, hs2⟩ := hr
  replace h := h2; replace hs := hs.call hs2; clear h2 hs2
  refine S.q hf hs (iv y2) rfl fun a hf => X.n (X.l (S.q hf hs (iv y2) rfl fun a hf => S.q hf hs (.bool (y2 != 0)) rfl fun a hf => X.n ?_))
  refine C.cond hf (b := y2 != 0) rfl (fun hc => ?_) (fun hc => ?_)
  ·replace h := h.1 hc
   refine X.l (S.q hf hs (iv y2) rfl fun a hf => S.q hf hs (.slice none 0 0) rfl fun a hf => S.q hf hs (iv y2) rfl fun a hf => X.n (wp_ret (X.then_ret ?_)))
   replace hs := hs.nilRowsD (α := Routed) 47 22 55
   replace hs := hs.take 1
   exact L.ret hf (run_results2 results14 (ResIs.tmp hf rfl) (ResIs.tmp hf rfl)) ⟨([] : List Routed), none, 0, [], y2, rfl, h, hs⟩
  ·replace h := h.2 hc
   refine wp_skip (X.then_ (wp_seq (X.l (S.q hf hs (iv tries) rfl fun a hf => S.callv hf rfl rfl rfl (call_fn (vs := [iv tries, iv 1, iv 20]) rfl rfl rfl call38) (C_route_within tries 1 20 _ ) (fun a w hf hs' => ?_)))))
   replace hs := hs.call hs'; clear hs'
   refine S.q hf hs (.bool (!(within tries 1 20))) rfl fun a hf => X.n ?_
   refine C.cond hf (b := !(within tries 1 20)) rfl (fun hc => ?_) (fun hc => ?_)
   ·replace h := h.1 hc
    refine X.l (S.q hf hs (.slice none 0 0) rfl fun a hf => S.q hf hs (iv 1) rfl fun a hf => X.n (wp_ret (X.then_ret ?_)))
    replace hs := hs.nilRowsD (α := Routed) 47 22 55
    replace hs := hs.take 1
    exact L.ret hf (run_results2 results14 (ResIs.tmp hf rfl) (ResIs.tmp hf rfl)) ⟨([] : List Routed), none, 0, [], 1, rfl, h, hs⟩
   ·replace h := h.2 hc
    refine wp_skip (X.then_ (X.l (S.q hf hs (.slice none 0 0) rfl fun a hf => X.n (wp_seq (X.l (S.q hf hs (.slice tA t.length tC) rfl fun a hf => S.v hf hs (iv (t.length : Int)) rfl (V.len rfl rfl runUnderlying27) fun a hf => S.q hf hs (iv 0) rfl fun a hf => X.n (wp_block ?_)))))))
    replace hs := hs.nilOwn (α := Int) 3
    have hlenk1 := hv_t.len64
    refine C.range (fun (ll : List Task) a w => ∃ (k1 : Nat) (l2 : List Int) (l2A : Option Addr) (l2C : Nat), t.drop k1 = ll ∧ k1 + ll.length = t.length ∧ forIn' (fun k x (s : List Int) next => M_route_Route_L1 k x s (fun l2 => next l2)) (fun (s : List Int) => (fun (l2 : List Int) => lp (fun again (s : List Int × List (List (List Cell)) × List Int × Int) => M_route_Route_L2 g c t tries Q (fun l6 l7 l8 n2 => again (l6, l7, l8, n2)) s.1 s.2.1 s.2.2.1 s.2.2.2) (l2, ([] : List (List (List Cell))), (([] : List Int)), 1)) s) ll k1 l2 ∧ FrOk 113 [(40, iv (k1 : Int)), (2, .slice tA t.length tC), (3, iv tries), (4, (pn g1 0)), (5, (pn g2 0)), (12, .slice l2A l2.length l2C), (39, iv (t.length : Int))] a ∧ Sat w0 none_ [hown 3 l2A l2C l2, hbox g2 26 [iv c.Step, iv c.Via, iv c.Turn, iv c.Against], hbox g1 24 [iv g.W, iv g.H, iv g.Layers, .slice g_BlockedA g.Blocked.length g_BlockedC]] w) t ⟨0, ([] : List Int), none, 0, rfl, Nat.zero_add _, h, (((((((hf.nil.cons (hf.get 39 _ rfl)).cons (hf.get 12 _ rfl)).cons (hf.get 5 _ rfl)).cons (hf.get 4 _ rfl)).cons (hf.get 3 _ rfl)).cons (hf.get 2 _ rfl)).cons (hf.get 40 _ rfl)), hs⟩ ?_
    clear h hf hs
    rintro llk1 a w ⟨k1, l2, l2A, l2C, hlk1, hkk1, h, hf, hs⟩
    cases llk1 with
    | nil =>
     have hc := range_done hkk1
     replace h : (fun (l2 : List Int) => lp (fun again (s : List Int × List (List (List Cell)) × List Int × Int) => M_route_Route_L2 g c t tries Q (fun l6 l7 l8 n2 => again (l6, l7, l8, n2)) s.1 s.2.1 s.2.2.1 s.2.2.2) (l2, ([] : List (List (List Cell))), (([] : List Int)), 1)) l2 := h
     refine X.l (S.v hf hs (.bool false) rfl (V.cmp false rfl rfl rfl rfl hc) fun a hf => X.n (wp_seq (C.no hf rfl (wp_exit (X.then_exit (X.then_exit (X.blk_exit (X.then_ (X.l (S.q hf hs (.slice none 0 0) rfl fun a hf => X.n (X.l (S.q hf hs (.slice none 0 0) rfl fun a hf => X.n (wp_seq (X.l (S.q hf hs (iv 1) rfl fun a hf => X.n (wp_block ?_))))))))))))))))
     replace hs := hs.nilRowsD (α := (List (List Cell))) 45 22 55
     replace hs := hs.nilOwn (α := Int) 3
     replace hs := hs.front 1 rfl
     replace hs := hs.front 2 rfl
     replace hs := hs.front 3 rfl
     replace hs := hs.front 4 rfl
     obtain ⟨kk, h⟩ := h
     refine C.loop (fun kk a w => ∃ (l6 : List Int) (l6A : Option Addr) (l6C : Nat) (l7 : List (List (List Cell))) (l7A : Option Addr) (l7C : Nat) (l7as : List Dp) (l8 : List Int) (l8A : Option Addr) (l8C : Nat) (n2 : Int), iterF (fun again (s : List Int × List (List (List Cell)) × List Int × Int) => M_route_Route_L2 g c t tries Q (fun l6 l7 l8 n2 => again (l6, l7, l8, n2)) s.1 s.2.1 s.2.2.1 s.2.2.2) kk (l6, l7, l8, n2) ∧ FrOk 113 [(2, .slice tA t.length tC), (3, iv tries), (4, (pn g1 0)), (5, (pn g2 0)), (12, .slice l6A l6.length l6C), (14, .slice l7A l7.length l7C), (15, .slice l8A l8.length l8C), (16, iv n2)] a ∧ Sat w0 none_ [hbox g1 24 [iv g.W, iv g.H, iv g.Layers, .slice g_BlockedA g.Blocked.length g_BlockedC], hbox g2 26 [iv c.Step, iv c.Via, iv c.Turn, iv c.Against], hown 3 l6A l6C l6, hdeep 45 22 55 l7A l7C l7as l7, hown 3 l8A l8C l8] w) kk ⟨l2, l2A, l2C, ([] : List (List (List Cell))), none, 0, ([] : List Dp), (([] : List Int)), none, 0, 1, h, ((((((((hf.nil.cons (hf.get 16 _ rfl)).cons (hf.get 15 _ rfl)).cons (hf.get 14 _ rfl)).cons (hf.get 12 _ rfl)).cons (hf.get 5 _ rfl)).cons (hf.get 4 _ rfl)).cons (hf.get 3 _ rfl)).cons (hf.get 2 _ rfl)), hs⟩ (fun a w ⟨_, _, _, _, _, _, _, _, _, _, _, h, _, _⟩ => h) ?_
     clear h hf hs
     rintro kk a w ⟨l6, l6A, l6C, l7, l7A, l7C, l7as, l8, l8A, l8C, n2, h, hf, hs⟩
     obtain ⟨again2, hagain2⟩ : ∃ X : List Int → List (List (List Cell)) → List Int → Int → Prop, X = (fun l6 l7 l8 n2 => iterF (fun again (s : List Int × List (List (List Cell)) × List Int × Int) => M_route_Route_L2 g c t tries Q (fun l6 l7 l8 n2 => again (l6, l7, l8, n2)) s.1 s.2.1 s.2.2.1 s.2.2.2) kk (l6, l7, l8, n2)) := ⟨_, rfl⟩
     replace h : M_route_Route_L2 g c t tries Q again2 l6 l7 l8 n2 := by rw [hagain2]; exact h
     unfold M_route_Route_L2 at h
     refine wp_seq (X.l (S.q hf hs (iv n2) rfl fun a hf => S.q hf hs (iv tries) rfl fun a hf => S.q hf hs (.bool (decide (n2 ≤ tries))) rfl fun a hf => X.n ?_))
     refine C.cond hf (b := decide (n2 ≤ tries)) rfl (fun hc => ?_) (fun hc => ?_)
     ·replace h := h.1 hc
      refine wp_skip (X.then_ (wp_seq (wp_block (X.l (S.v hf hs (.agg #[iv g.W, iv g.H, iv g.Layers, .slice g_BlockedA g.Blocked.length g_BlockedC]) rfl (V.loadBox 0 rfl rfl rfl isAgg24 sizeOf24 rfl rfl) fun a hf => S.v hf hs (.agg #[iv c.Step, iv c.Via, iv c.Turn, iv c.Against]) rfl (V.loadBox 1 rfl rfl rfl isAgg26 sizeOf26 rfl rfl) fun a hf => S.q hf hs (.slice tA t.length tC) rfl fun a hf => S.q hf hs (.slice l6A l6.length l6C) rfl fun a hf => S.call hf rfl rfl rfl (call_fn (vs := [.agg #[iv g.W, iv g.H, iv g.Layers, .slice g_BlockedA g.Blocked.length g_BlockedC], .agg #[iv c.Step, iv c.Via, iv c.Turn, iv c.Against], .slice tA t.length tC, .slice l6A l6.length l6C]) rfl rfl rfl call39) (R_route_round g c t l6 _ g_BlockedA g_BlockedC ((Ag.args _ _ _).view hv_g_Blocked hs) tA tC ((Ag.args _ _ _).view hv_t hs) l6A l6C (hs.ownView 2 rfl) _ h) (fun v a w' hf hr => ?_))))))
      obtain ⟨y3, y3A, y3C, y3as, y4, y4A, y4C, rfl, h2, hs2⟩ := hr
      replace h := h2; replace hs := hs.call hs2; clear h2 hs2
      refine S.q hf hs (.tuple #[.slice y3A y3.length y3C, .slice y4A y4.length y4C]) rfl fun a hf => S.q hf hs (.slice y3A y3.length y3C) rfl fun a hf => S.q hf hs (.slice y4A y4.length y4C) rfl fun a hf => S.q hf hs (.slice y3A y3.length y3C) rfl fun a hf => S.q hf hs (.slice y4A y4.length y4C) rfl fun a hf => X.n (wp_seq (wp_seq ?_))
      refine C.cut (J := fun a w => ∃ (c1 : Bool), M_route_Route_k3 t Q l6 l7 l8 n2 again2 y3 y4 c1 ∧ FrOk 113 [(2, .slice tA t.length tC), (3, iv tries), (4, (pn g1 0)), (5, (pn g2 0)), (12, .slice l6A l6.length l6C), (14, .slice l7A l7.length l7C), (15, .slice l8A l8.length l8C), (16, iv n2), (17, .slice y3A y3.length y3C), (18, .slice y4A y4.length y4C), (69, .bool c1)] a ∧ Sat w0 none_ [hdeep 45 22 55 y3A y3C y3as y3, hown 3 y4A y4C y4, hbox g1 24 [iv g.W, iv g.H, iv g.Layers, .slice g_BlockedA g.Blocked.length g_BlockedC], hbox g2 26 [iv c.Step, iv c.Via, iv c.Turn, iv c.Against], hown 3 l6A l6C l6, hdeep 45 22 55 l7A l7C l7as l7, hown 3 l8A l8C l8] w) ?_ ?_
      ·rintro a w ⟨c1, h, hf, hs⟩
       unfold M_route_Route_k3 at h
       refine C.cond hf (b := c1) rfl (fun hc => ?_) (fun hc => ?_)
       ·replace h := h.1 hc
        refine R.list (S.q hf hs (.slice y3A y3.length y3C) rfl fun a hf => S.q hf hs (.slice y4A y4.length y4C) rfl fun a hf => S.q hf hs (.slice y3A y3.length y3C) rfl fun a hf => S.q hf hs (.slice y4A y4.length y4C) rfl fun a hf => X.n (wp_seq (X.l (S.q hf hs (.slice y4A y4.length y4C) rfl fun a hf => S.v hf hs (iv (y4.length : Int)) rfl (V.len rfl rfl runUnderlying72) fun a hf => S.q hf hs (.bool ((y4.length : Int) == 0)) rfl fun a hf => X.n ?_))))
        refine C.cond hf (b := (y4.length : Int) == 0) rfl (fun hc => ?_) (fun hc => ?_)
        ·replace h := h.1 hc
         refine wp_exit (X.then_exit (X.blk_other rfl (X.then_exit (X.then_exit (X.blk_exit (X.then_ (X.l (S.q hf hs (.slice none 0 0) rfl fun a hf => X.n (wp_seq (X.l (S.q hf hs (.slice tA t.length tC) rfl fun a hf => S.v hf hs (iv (t.length : Int)) rfl (V.len rfl rfl runUnderlying27) fun a hf => S.q hf hs (iv 0) rfl fun a hf => X.n (wp_block ?_))))))))))))
         replace hs := hs.nilRowsD (α := Routed) 47 22 55
         replace hs := hs.fromRowsD 1 rfl
         have hlenk4 := hv_t.len64
         refine C.range (fun (ll : List Task) a w => ∃ (k4 : Nat) (l10 : List Routed) (l10A : Option Addr) (l10C : Nat) (l10as : List Dp), t.drop k4 = ll ∧ k4 + ll.length = t.length ∧ forIn' (fun k x (s : List Routed) next => M_route_Route_L3 y3 y4 k x s (fun l10 => next l10)) (fun (s : List Routed) => (fun (l10 : List Routed) => Q l10 0) s) ll k4 l10 ∧ FrOk 113 [(92, iv (k4 : Int)), (14, .slice y3A y3.length y3C), (15, .slice y4A y4.length y4C), (20, .slice l10A l10.length l10C), (90, .slice tA t.length tC), (91, iv (t.length : Int))] a ∧ Sat w0 none_ [hdeep 47 22 55 l10A l10C l10as l10, hdeepF 45 22 55 y3A y3C y3as y3 k4, hown 3 y4A y4C y4, hbox g1 24 [iv g.W, iv g.H, iv g.Layers, .slice g_BlockedA g.Blocked.length g_BlockedC], hbox g2 26 [iv c.Step, iv c.Via, iv c.Turn, iv c.Against], hown 3 l6A l6C l6, hdeep 45 22 55 l7A l7C l7as l7, hown 3 l8A l8C l8] w) t ⟨0, ([] : List Routed), none, 0, ([] : List Dp), rfl, Nat.zero_add _, h, ((((((hf.nil.cons (hf.get 91 _ rfl)).cons (hf.get 90 _ rfl)).cons (hf.get 20 _ rfl)).cons (hf.get 15 _ rfl)).cons (hf.get 14 _ rfl)).cons (hf.get 92 _ rfl)), hs⟩ ?_
         clear h hf hs
         rintro llk4 a w ⟨k4, l10, l10A, l10C, l10as, hlk4, hkk4, h, hf, hs⟩
         cases llk4 with
         | nil =>
          have hc := range_done hkk4
          replace h : (fun (l10 : List Routed) => Q l10 0) l10 := h
          refine X.l (S.v hf hs (.bool false) rfl (V.cmp false rfl rfl rfl rfl hc) fun a hf => X.n (wp_seq (C.no hf rfl (wp_exit (X.then_exit (X.then_exit (X.blk_exit (X.then_ (X.l (S.q hf hs (.slice l10A l10.length l10C) rfl fun a hf => S.q hf hs (.slice l10A l10.length l10C) rfl fun a hf => S.q hf hs (iv 0) rfl fun a hf => X.n (wp_ret ?_)))))))))))
          replace hs := hs.take 1
          exact L.ret hf (run_results2 results14 (ResIs.tmp hf rfl) (ResIs.tmp hf rfl)) ⟨l10, l10A, l10C, l10as, 0, rfl, h, hs⟩
         | cons xk4 llk4 =>
          have hltk4 := range_lt hkk4; have hc := range_go hkk4; have hxk4 := range_get hlk4
          obtain ⟨next3, hnext3⟩ : ∃ X : List Routed → Prop, X = (fun l10 => forIn' (fun k x (s : List Routed) next => M_route_Route_L3 y3 y4 k x s (fun l10 => next l10)) (fun (s : List Routed) => (fun (l10 : List Routed) => Q l10 0) s) llk4 (k4 + 1) l10) := ⟨_, rfl⟩
          replace h : M_route_Route_L3 y3 y4 k4 xk4 l10 next3 := by rw [hnext3]; exact h
          unfold M_route_Route_L3 at h
          refine X.l (S.v hf hs (.bool true) rfl (V.cmp true rfl rfl rfl rfl hc) fun a hf => X.n (wp_seq (C.yes hf rfl (wp_skip (X.then_ (wp_seq (wp_block (X.l (S.q hf hs (iv (k4 : Int)) rfl fun a hf => ?_)))))))))
          obtain ⟨cs1, he1, hr1⟩ := hv_t.at_ _ _ hxk4
          obtain ⟨u1A, u1C, rfl, hvu1⟩ := hr1
          refine S.v hf hs (elemPtr tA (k4 * 2)) rfl (V.index rfl rfl rfl runUnderlying27 sizeOf53 (hv_t.some_ (lt_of_get hxk4)) (Int.natCast_nonneg _) (lt_of_get hxk4) rfl) fun a hf => S.v hf hs (.agg #[.string (ba xk4.Net), .slice u1A xk4.Pins.length u1C]) rfl (V.loadEl (off := 0) (Ag.args _ _ _) he1 rfl rfl rfl isAgg53 sizeOf53 rfl rfl) fun a hf => S.alloc hf hs rfl rfl rfl [.string (ba []), .slice none 0 0] rfl zeroValue53 rfl (fun g3 a w hf hs => S.q hf hs (iv (k4 : Int)) rfl fun a hf => S.storeBox 0 hf hs rfl rfl [.string (ba xk4.Net), .slice u1A xk4.Pins.length u1C] [.string (ba xk4.Net), .slice u1A xk4.Pins.length u1C] rfl rfl rfl rfl rfl sizeOf53 rfl rfl rfl rfl (fun a w hf hs => X.n (X.l (S.q hf hs (.slice y4A y4.length y4C) rfl fun a hf => S.q hf hs (iv (k4 : Int)) rfl fun a hf => S.call hf rfl rfl rfl (call_fn (vs := [.slice y4A y4.length y4C, iv (k4 : Int)]) rfl rfl rfl call43) (R_contains_int y4 (k4 : Int) _ y4A y4C (hs.ownView 3 rfl) _ h) (fun v a w' hf hr => ?_)))))
          obtain ⟨y5, rfl, h2, hs2⟩ := hr
          replace h := h2; replace hs := hs.call hs2; clear h2 hs2
          refine S.q hf hs (.bool (!y5)) rfl fun a hf => X.n ?_
          refine C.cond hf (b := !y5) rfl (fun hc => ?_) (fun hc => ?_)
          ·replace h := h.1 hc
           refine H.start (S := Sat w0 none_ [hbox g3 53 [.string (ba xk4.Net), .slice u1A xk4.Pins.length u1C], hown 3 y4A y4C y4, hbox g1 24 [iv g.W, iv g.H, iv g.Layers, .slice g_BlockedA g.Blocked.length g_BlockedC], hbox g2 26 [iv c.Step, iv c.Via, iv c.Turn, iv c.Against], hown 3 l6A l6C l6, hdeep 45 22 55 l7A l7C l7as l7, hown 3 l8A l8C l8]) mo ?_
           replace hs := hs.drew
           refine H.val hf (hs.mask [true, false, false, true, true, true, true, true, true]) (v := .slice l10A l10.length l10C) (i := 0) rfl rfl rfl rfl (by kernel_rfl) (by kernel_rfl) (by kernel_rfl) (V.pure rfl) (fun a hf => H.val hf (hs.mask [true, false, false, true, true, true, true, true, true]) (v := (pn g3 0)) (i := 1) rfl rfl rfl rfl (by kernel_rfl) (by kernel_rfl) (by kernel_rfl) (V.fieldBox rfl rfl runUnderlying53 rfl sizeOf9 rfl rfl) (fun a hf => H.val hf (hs.mask [true, false, false, true, true, true, true, true, true]) (v := .string (ba xk4.Net)) (i := 2) rfl rfl rfl rfl (by kernel_rfl) (by kernel_rfl) (by kernel_rfl) (V.loadBox 0 rfl rfl rfl isAgg9 sizeOf9 rfl rfl) (fun a hf => H.val hf (hs.mask [true, false, false, true, true, true, true, true, true]) (v := .slice y3A y3.length y3C) (i := 3) rfl rfl rfl rfl (by kernel_rfl) (by kernel_rfl) (by kernel_rfl) (V.pure rfl) (fun a hf => H.val hf (hs.mask [true, false, false, true, true, true, true, true, true]) (v := iv (k4 : Int)) (i := 4) rfl rfl rfl rfl (by kernel_rfl) (by kernel_rfl) (by kernel_rfl) (V.pure rfl) (fun a hf => ?_)))))
           obtain ⟨h0x1, x1, hx1, h⟩ := h
           refine H.val hf (hs.mask [true, false, false, true, true, true, true, true, true]) (v := elemPtr y3A (k4 * 1)) (i := 5) rfl rfl rfl rfl (by kernel_rfl) (by kernel_rfl) (by kernel_rfl) (V.index rfl rfl rfl runUnderlying73 sizeOf45 (hs.rowsSomeD 2 rfl hx1) (Int.natCast_nonneg _) (lt_of_get hx1) rfl) (fun a hf => H.one (i := 6) rfl (by kernel_rfl) ?_)
           obtain ⟨B1, D1, B1s, hrB1⟩ := hs.rowAtD 2 rfl hx1
           refine S.v hf hs (.slice B1 x1.length D1) rfl (V.loadRowsD (off := 0) 2 rfl hx1 hrB1 rfl rfl rfl isAgg45 sizeOf45 rfl rfl) fun a hf => X.n (⟨(hs.mask [true, false, false, true, true, true, true, true, true]), (H.val hf (hs.mask [true, false, false, true, true, true, true, true, true]) (v := .agg #[.string (ba xk4.Net), .slice B1 x1.length D1]) (i := 7) rfl rfl rfl rfl (by kernel_rfl) (by kernel_rfl) (by kernel_rfl) (V.build (places := #[(0, 1), (1, 1)]) rfl zeroValue47 runUnderlying47 (by intro w; simp [sizeOf45, sizeOf9]) rfl rfl) (fun a hf => H.one (i := 8) rfl (by kernel_rfl) ?_))⟩)
           replace hs := hs.takeRowDF 2 rfl hx1 hrB1
           refine S.build1 hf hs rfl rfl rfl (α := RoutedSh) (⟨xk4.Net, ⟨B1, x1.length, D1⟩⟩ : RoutedSh) rfl rfl rfl runUnderlying28 sizeOf47 zeroValue47 rfl (by decide) (fun A1 a w hf hs => X.n (⟨(hs.mask [false, false, true, false, false, true, true, true, true, true, true]), (H.one (i := 9) rfl (by kernel_rfl) ?_)⟩))
           replace hs := hs.front 1 rfl
           obtain ⟨hroom, h⟩ := h
           refine S.appendRowD 2 hf hs rfl rfl rfl (⟨xk4.Net, x1⟩ : Routed) rfl rfl rfl rfl rfl underlying28 info47 rfl hroom ((hs.ownView 1 rfl).some_ (i := 0) (by simp)) (hs.ownView 1 rfl) (fun A2 C1 a w hf hs => ?_)
           replace hs := hs.drop
           refine X.n (⟨(hs.mask [true, false, false, true, true, true, true, true, true]), (H.val hf (hs.mask [true, false, false, true, true, true, true, true, true]) (v := .slice A2 (l10 ++ [(⟨xk4.Net, x1⟩ : Routed)]).length C1) (i := 10) rfl rfl rfl rfl (by kernel_rfl) (by kernel_rfl) (by kernel_rfl) (V.pure rfl) (fun a hf => H.done (by kernel_rfl) (X.blk (X.then_ (R.list (S.v hf hs (iv ((k4 + 1 : Nat) : Int)) rfl (V.incr rfl rfl rfl hltk4 hlenk4) fun a hf => S.q hf hs (iv ((k4 + 1 : Nat) : Int)) rfl fun a hf => X.n ?_))))))⟩)
           exact ⟨xk4, llk4, rfl, k4 + 1, (l10 ++ [(⟨xk4.Net, x1⟩ : Routed)]), A2, C1, (l10as ++ [(B1, D1, B1s)]), range_drop hlk4, range_len hkk4, (by rw [hnext3] at h; exact h), ((((((hf.nil.cons (hf.get 91 _ rfl)).cons (hf.get 90 _ rfl)).cons (hf.get 20 _ rfl)).cons (hf.get 15 _ rfl)).cons (hf.get 14 _ rfl)).cons (hf.get 92 _ rfl)), hs.drop⟩
          ·replace h := h.2 hc
           refine wp_skip (X.blk (X.then_ (R.list (S.v hf hs (iv ((k4 + 1 : Nat) : Int)) rfl (V.incr rfl rfl rfl hltk4 hlenk4) fun a hf => S.q hf hs (iv ((k4 + 1 : Nat) : Int)) rfl fun a hf => X.n ?_))))
           replace hs := hs.fromSkipD 2 rfl
           exact ⟨xk4, llk4, rfl, k4 + 1, l10, l10A, l10C, l10as, range_drop hlk4, range_len hkk4, (by rw [hnext3] at h; exact h), ((((((hf.nil.cons (hf.get 91 _ rfl)).cons (hf.get 90 _ rfl)).cons (hf.get 20 _ rfl)).cons (hf.get 15 _ rfl)).cons (hf.get 14 _ rfl)).cons (hf.get 92 _ rfl)), hs.drop⟩
        ·replace h := h.2 hc
         refine wp_skip (X.then_ (X.l (S.q hf hs (.slice l6A l6.length l6C) rfl fun a hf => S.q hf hs (.slice y4A y4.length y4C) rfl fun a hf => ?_)))
         obtain ⟨h0x2, x2, hx2, h⟩ := h
         refine S.v hf hs (elemPtr y4A (0 * 1)) rfl (V.index rfl rfl rfl runUnderlying72 sizeOf3 (hs.ownSome 1 rfl (lt_of_get hx2)) h0x2 (lt_of_get hx2) rfl) fun a hf => S.v hf hs (iv x2) rfl (V.loadOwn (off := 0) 1 rfl hx2 rfl rfl rfl isAgg3 sizeOf3 rfl rfl) fun a hf => S.call hf rfl rfl rfl (call_fn (vs := [.slice l6A l6.length l6C, iv x2]) rfl rfl rfl call40) (R_index_int l6 x2 _ l6A l6C (hs.ownView 4 rfl) _ h) (fun v a w' hf hr => ?_)
         obtain ⟨y6, rfl, h2, hs2⟩ := hr
         replace h := h2; replace hs := hs.call hs2; clear h2 hs2
         refine S.q hf hs (iv y6) rfl fun a hf => X.n (H.start (S := Sat w0 none_ [hdeep 45 22 55 y3A y3C y3as y3, hown 3 y4A y4C y4, hbox g1 24 [iv g.W, iv g.H, iv g.Layers, .slice g_BlockedA g.Blocked.length g_BlockedC], hbox g2 26 [iv c.Step, iv c.Via, iv c.Turn, iv c.Against], hdeep 45 22 55 l7A l7C l7as l7, hown 3 l8A l8C l8]) mo ?_)
         replace hs := hs.drew
         refine H.val hf (hs.mask [true, true, true, true, false, true, true]) (v := .slice l6A l6.length l6C) (i := 0) rfl rfl rfl rfl (by kernel_rfl) (by kernel_rfl) (by kernel_rfl) (V.pure rfl) (fun a hf => H.val hf (hs.mask [true, true, true, true, false, true, true]) (v := iv y6) (i := 1) rfl rfl rfl rfl (by kernel_rfl) (by kernel_rfl) (by kernel_rfl) (V.pure rfl) (fun a hf => H.val hf (hs.mask [true, true, true, true, false, true, true]) (v := iv y6) (i := 2) rfl rfl rfl rfl (by kernel_rfl) (by kernel_rfl) (by kernel_rfl) (V.pure rfl) (fun a hf => H.val hf (hs.mask [true, true, true, true, false, true, true]) (v := iv (w64 (y6 + 1))) (i := 3) rfl rfl rfl rfl (by kernel_rfl) (by kernel_rfl) (by kernel_rfl) (V.pure rfl) (fun a hf => H.val hf (hs.mask [true, true, true, true, false, true, true]) (v := .slice y4A y4.length y4C) (i := 5) rfl rfl rfl rfl (by kernel_rfl) (by kernel_rfl) (by kernel_rfl) (V.pure rfl) (fun a hf => H.val hf (hs.mask [true, true, true, true, false, true, true]) (v := elemPtr y4A (0 * 1)) (i := 6) rfl rfl rfl rfl (by kernel_rfl) (by kernel_rfl) (by kernel_rfl) (V.index rfl rfl rfl runUnderlying72 sizeOf3 (hs.ownSome 1 rfl (lt_of_get hx2)) h0x2 (lt_of_get hx2) rfl) (fun a hf => H.val hf (hs.mask [true, true, true, true, false, true, true]) (v := iv x2) (i := 7) rfl rfl rfl rfl (by kernel_rfl) (by kernel_rfl) (by kernel_rfl) (V.loadOwn (off := 0) 1 rfl hx2 rfl rfl rfl isAgg3 sizeOf3 rfl rfl) (fun a hf => ?_)))))))
         refine H.each2 (i0 := 4) (i1 := 8) rfl rfl (by kernel_rfl) ?_ ?_
         ·replace hs := hs.front 4 rfl
          obtain ⟨F1, hsF, hback, hold, hrest⟩ := Sat.callOwns [hown 3 l6A l6C l6] (σ := [hdeep 45 22 55 y3A y3C y3as y3, hown 3 y4A y4C y4, hbox g1 24 [iv g.W, iv g.H, iv g.Layers, .slice g_BlockedA g.Blocked.length g_BlockedC], hbox g2 26 [iv c.Step, iv c.Via, iv c.Turn, iv c.Against], hdeep 45 22 55 l7A l7C l7as l7, hown 3 l8A l8C l8]) hs
          refine S.call hf rfl rfl rfl (call_fn (vs := [.slice l6A l6.length l6C, iv y6, iv (w64 (y6 + 1))]) rfl rfl rfl call42) (R_delete_int l6 y6 (w64 (y6 + 1)) _ _ l6A l6C hsF _ h) (fun v a w' hf hr => ?_)
          obtain ⟨y7, y7A, y7C, rfl, h2, hs2⟩ := hr
          replace h := h2; replace hs := hback _ _ hs2; clear h2 hs2 hback hold hrest hsF
          refine X.n (⟨(hs.mask [false, true, true, true, true, true, true]), (H.one (i := 8) rfl (by kernel_rfl) (S.build1 hf hs rfl rfl rfl (α := Int) x2 rfl rfl rfl runUnderlying72 sizeOf3 zeroValue3 rfl (by decide) (fun A3 a w hf hs => X.n (⟨(hs.mask [false, false, true, true, true, true, true, true]), (H.one (i := 9) rfl (by kernel_rfl) ?_)⟩))))⟩)
          replace hs := hs.front 1 rfl
          obtain ⟨F1, hsF, hback, hold, hrest⟩ := Sat.callOwns [hown 3 y7A y7C y7, hown 3 A3 1 [x2]] (σ := [hdeep 45 22 55 y3A y3C y3as y3, hown 3 y4A y4C y4, hbox g1 24 [iv g.W, iv g.H, iv g.Layers, .slice g_BlockedA g.Blocked.length g_BlockedC], hbox g2 26 [iv c.Step, iv c.Via, iv c.Turn, iv c.Against], hdeep 45 22 55 l7A l7C l7as l7, hown 3 l8A l8C l8]) hs
          refine S.call hf rfl rfl rfl (call_fn (vs := [.slice y7A y7.length y7C, iv 0, .slice A3 [x2].length 1]) rfl rfl rfl call41) (R_insert_int y7 0 [x2] _ _ y7A y7C A3 1 hsF _ h) (fun v a w' hf hr => ?_)
          obtain ⟨y8, y8A, y8C, z1, hl_z1, rfl, h2, hs2⟩ := hr
          replace h := h2; replace hs := hback _ _ hs2; clear h2 hs2 hback hold hrest hsF
          replace hf := hf.tell 88 (v := .slice A3 z1.length 1) ((hf.get 88 (.slice A3 [x2].length 1) rfl).trans (congrArg (fun n => Value.slice A3 n 1) hl_z1.symm))
          refine X.n (⟨(hs.mask [false, false, true, true, true, true, true, true]), (H.val hf (hs.mask [false, false, true, true, true, true, true, true]) (v := .slice y8A y8.length y8C) (i := 10) rfl rfl rfl rfl (by kernel_rfl) (by kernel_rfl) (by kernel_rfl) (V.pure rfl) (fun a hf => H.done (by kernel_rfl) (X.blk (X.then_ (R.list (S.q hf hs (iv n2) rfl fun a hf => S.q hf hs (iv (w64 (n2 + 1))) rfl fun a hf => S.q hf hs (iv (w64 (n2 + 1))) rfl fun a hf => X.n ?_))))))⟩)
          replace hs := hs.front 3 rfl
          replace hs := hs.front 3 rfl
          replace hs := hs.front 2 rfl
          replace hs := hs.front 5 rfl
          replace hs := hs.front 5 rfl
          replace hs := hs.take 5
          exact ⟨y8, y8A, y8C, y3, y3A, y3C, y3as, y4, y4A, y4C, (w64 (n2 + 1)), (by rw [hagain2] at h; exact h), ((((((((hf.nil.cons (hf.get 16 _ rfl)).cons (hf.get 15 _ rfl)).cons (hf.get 14 _ rfl)).cons (hf.get 12 _ rfl)).cons (hf.get 5 _ rfl)).cons (hf.get 4 _ rfl)).cons (hf.get 3 _ rfl)).cons (hf.get 2 _ rfl)), hs⟩
         ·refine S.build1 hf hs rfl rfl rfl (α := Int) x2 rfl rfl rfl runUnderlying72 sizeOf3 zeroValue3 rfl (by decide) (fun A3 a w hf hs => X.n (⟨(hs.mask [false, true, true, true, true, false, true, true]), (H.one (i := 4) rfl (by kernel_rfl) ?_)⟩))
          replace hs := hs.front 5 rfl
          obtain ⟨F1, hsF, hback, hold, hrest⟩ := Sat.callOwns [hown 3 l6A l6C l6] (σ := [hown 3 A3 1 [x2], hdeep 45 22 55 y3A y3C y3as y3, hown 3 y4A y4C y4, hbox g1 24 [iv g.W, iv g.H, iv g.Layers, .slice g_BlockedA g.Blocked.length g_BlockedC], hbox g2 26 [iv c.Step, iv c.Via, iv c.Turn, iv c.Against], hdeep 45 22 55 l7A l7C l7as l7, hown 3 l8A l8C l8]) hs
          refine S.call hf rfl rfl rfl (call_fn (vs := [.slice l6A l6.length l6C, iv y6, iv (w64 (y6 + 1))]) rfl rfl rfl call42) (R_delete_int l6 y6 (w64 (y6 + 1)) _ _ l6A l6C hsF _ h) (fun v a w' hf hr => ?_)
          obtain ⟨y7, y7A, y7C, rfl, h2, hs2⟩ := hr
          replace h := h2; replace hs := hback _ _ hs2; clear h2 hs2 hback hold hrest hsF
          refine X.n (⟨(hs.mask [false, false, true, true, true, true, true, true]), (H.one (i := 9) rfl (by kernel_rfl) ?_)⟩)
          replace hs := hs.front 1 rfl
          replace hs := hs.front 1 rfl
          obtain ⟨F1, hsF, hback, hold, hrest⟩ := Sat.callOwns [hown 3 y7A y7C y7, hown 3 A3 1 [x2]] (σ := [hdeep 45 22 55 y3A y3C y3as y3, hown 3 y4A y4C y4, hbox g1 24 [iv g.W, iv g.H, iv g.Layers, .slice g_BlockedA g.Blocked.length g_BlockedC], hbox g2 26 [iv c.Step, iv c.Via, iv c.Turn, iv c.Against], hdeep 45 22 55 l7A l7C l7as l7, hown 3 l8A l8C l8]) hs
          refine S.call hf rfl rfl rfl (call_fn (vs := [.slice y7A y7.length y7C, iv 0, .slice A3 [x2].length 1]) rfl rfl rfl call41) (R_insert_int y7 0 [x2] _ _ y7A y7C A3 1 hsF _ h) (fun v a w' hf hr => ?_)
          obtain ⟨y8, y8A, y8C, z1, hl_z1, rfl, h2, hs2⟩ := hr
          replace h := h2; replace hs := hback _ _ hs2; clear h2 hs2 hback hold hrest hsF
          replace hf := hf.tell 88 (v := .slice A3 z1.length 1) ((hf.get 88 (.slice A3 [x2].length 1) rfl).trans (congrArg (fun n => Value.slice A3 n 1) hl_z1.symm))
          refine X.n (⟨(hs.mask [false, false, true, true, true, true, true, true]), (H.val hf (hs.mask [false, false, true, true, true, true, true, true]) (v := .slice y8A y8.length y8C) (i := 10) rfl rfl rfl rfl (by kernel_rfl) (by kernel_rfl) (by kernel_rfl) (V.pure rfl) (fun a hf => H.done (by kernel_rfl) (X.blk (X.then_ (R.list (S.q hf hs (iv n2) rfl fun a hf => S.q hf hs (iv (w64 (n2 + 1))) rfl fun a hf => S.q hf hs (iv (w64 (n2 + 1))) rfl fun a hf => X.n ?_))))))⟩)
          replace hs := hs.front 3 rfl
          replace hs := hs.front 3 rfl
          replace hs := hs.front 2 rfl
          replace hs := hs.front 5 rfl
          replace hs := hs.front 5 rfl
          replace hs := hs.take 5
          exact ⟨y8, y8A, y8C, y3, y3A, y3C, y3as, y4, y4A, y4C, (w64 (n2 + 1)), (by rw [hagain2] at h; exact h), ((((((((hf.nil.cons (hf.get 16 _ rfl)).cons (hf.get 15 _ rfl)).cons (hf.get 14 _ rfl)).cons (hf.get 12 _ rfl)).cons (hf.get 5 _ rfl)).cons (hf.get 4 _ rfl)).cons (hf.get 3 _ rfl)).cons (hf.get 2 _ rfl)), hs⟩
       ·replace h := h.2 hc
        refine wp_skip (X.then_ (wp_seq (X.l (S.q hf hs (.slice y4A y4.length y4C) rfl fun a hf => S.v hf hs (iv (y4.length : Int)) rfl (V.len rfl rfl runUnderlying72) fun a hf => S.q hf hs (.bool ((y4.length : Int) == 0)) rfl fun a hf => X.n ?_))))
        refine C.cond hf (b := (y4.length : Int) == 0) rfl (fun hc => ?_) (fun hc => ?_)
        ·replace h := h.1 hc
         refine wp_exit (X.then_exit (X.blk_other rfl (X.then_exit (X.then_exit (X.blk_exit (X.then_ (X.l (S.q hf hs (.slice none 0 0) rfl fun a hf => X.n (wp_seq (X.l (S.q hf hs (.slice tA t.length tC) rfl fun a hf => S.v hf hs (iv (t.length : Int)) rfl (V.len rfl rfl runUnderlying27) fun a hf => S.q hf hs (iv 0) rfl fun a hf => X.n (wp_block ?_))))))))))))
         replace hs := hs.nilRowsD (α := Routed) 47 22 55
         replace hs := hs.fromRowsD 6 rfl
         have hlenk5 := hv_t.len64
         refine C.range (fun (ll : List Task) a w => ∃ (k5 : Nat) (l12 : List Routed) (l12A : Option Addr) (l12C : Nat) (l12as : List Dp), t.drop k5 = ll ∧ k5 + ll.length = t.length ∧ forIn' (fun k x (s : List Routed) next => M_route_Route_L4 l7 l8 k x s (fun l12 => next l12)) (fun (s : List Routed) => (fun (l12 : List Routed) => Q l12 0) s) ll k5 l12 ∧ FrOk 113 [(92, iv (k5 : Int)), (14, .slice l7A l7.length l7C), (15, .slice l8A l8.length l8C), (20, .slice l12A l12.length l12C), (90, .slice tA t.length tC), (91, iv (t.length : Int))] a ∧ Sat w0 none_ [hdeep 47 22 55 l12A l12C l12as l12, hdeep 45 22 55 y3A y3C y3as y3, hown 3 y4A y4C y4, hbox g1 24 [iv g.W, iv g.H, iv g.Layers, .slice g_BlockedA g.Blocked.length g_BlockedC], hbox g2 26 [iv c.Step, iv c.Via, iv c.Turn, iv c.Against], hown 3 l6A l6C l6, hdeepF 45 22 55 l7A l7C l7as l7 k5, hown 3 l8A l8C l8] w) t ⟨0, ([] : List Routed), none, 0, ([] : List Dp), rfl, Nat.zero_add _, h, ((((((hf.nil.cons (hf.get 91 _ rfl)).cons (hf.get 90 _ rfl)).cons (hf.get 20 _ rfl)).cons (hf.get 15 _ rfl)).cons (hf.get 14 _ rfl)).cons (hf.get 92 _ rfl)), hs⟩ ?_
         clear h hf hs
         rintro llk5 a w ⟨k5, l12, l12A, l12C, l12as, hlk5, hkk5, h, hf, hs⟩
         cases llk5 with
         | nil =>
          have hc := range_done hkk5
          replace h : (fun (l12 : List Routed) => Q l12 0) l12 := h
          refine X.l (S.v hf hs (.bool false) rfl (V.cmp false rfl rfl rfl rfl hc) fun a hf => X.n (wp_seq (C.no hf rfl (wp_exit (X.then_exit (X.then_exit (X.blk_exit (X.then_ (X.l (S.q hf hs (.slice l12A l12.length l12C) rfl fun a hf => S.q hf hs (.slice l12A l12.length l12C) rfl fun a hf => S.q hf hs (iv 0) rfl fun a hf => X.n (wp_ret ?_)))))))))))
          replace hs := hs.take 1
          exact L.ret hf (run_results2 results14 (ResIs.tmp hf rfl) (ResIs.tmp hf rfl)) ⟨l12, l12A, l12C, l12as, 0, rfl, h, hs⟩
         | cons xk5 llk5 =>
          have hltk5 := range_lt hkk5; have hc := range_go hkk5; have hxk5 := range_get hlk5
          obtain ⟨next4, hnext4⟩ : ∃ X : List Routed → Prop, X = (fun l12 => forIn' (fun k x (s : List Routed) next => M_route_Route_L4 l7 l8 k x s (fun l12 => next l12)) (fun (s : List Routed) => (fun (l12 : List Routed) => Q l12 0) s) llk5 (k5 + 1) l12) := ⟨_, rfl⟩
          replace h : M_route_Route_L4 l7 l8 k5 xk5 l12 next4 := by rw [hnext4]; exact h
          unfold M_route_Route_L4 at h
          refine X.l (S.v hf hs (.bool true) rfl (V.cmp true rfl rfl rfl rfl hc) fun a hf => X.n (wp_seq (C.yes hf rfl (wp_skip (X.then_ (wp_seq (wp_block (X.l (S.q hf hs (iv (k5 : Int)) rfl fun a hf => ?_)))))))))
          obtain ⟨cs2, he2, hr2⟩ := hv_t.at_ _ _ hxk5
          obtain ⟨u2A, u2C, rfl, hvu2⟩ := hr2
          refine S.v hf hs (elemPtr tA (k5 * 2)) rfl (V.index rfl rfl rfl runUnderlying27 sizeOf53 (hv_t.some_ (lt_of_get hxk5)) (Int.natCast_nonneg _) (lt_of_get hxk5) rfl) fun a hf => S.v hf hs (.agg #[.string (ba xk5.Net), .slice u2A xk5.Pins.length u2C]) rfl (V.loadEl (off := 0) (Ag.args _ _ _) he2 rfl rfl rfl isAgg53 sizeOf53 rfl rfl) fun a hf => S.alloc hf hs rfl rfl rfl [.string (ba []), .slice none 0 0] rfl zeroValue53 rfl (fun g4 a w hf hs => S.q hf hs (iv (k5 : Int)) rfl fun a hf => S.storeBox 0 hf hs rfl rfl [.string (ba xk5.Net), .slice u2A xk5.Pins.length u2C] [.string (ba xk5.Net), .slice u2A xk5.Pins.length u2C] rfl rfl rfl rfl rfl sizeOf53 rfl rfl rfl rfl (fun a w hf hs => X.n (X.l (S.q hf hs (.slice l8A l8.length l8C) rfl fun a hf => S.q hf hs (iv (k5 : Int)) rfl fun a hf => S.call hf rfl rfl rfl (call_fn (vs := [.slice l8A l8.length l8C, iv (k5 : Int)]) rfl rfl rfl call43) (R_contains_int l8 (k5 : Int) _ l8A l8C (hs.ownView 8 rfl) _ h) (fun v a w' hf hr => ?_)))))
          obtain ⟨y9, rfl, h2, hs2⟩ := hr
          replace h := h2; replace hs := hs.call hs2; clear h2 hs2
          refine S.q hf hs (.bool (!y9)) rfl fun a hf => X.n ?_
          refine C.cond hf (b := !y9) rfl (fun hc => ?_) (fun hc => ?_)
          ·replace h := h.1 hc
           refine H.start (S := Sat w0 none_ [hbox g4 53 [.string (ba xk5.Net), .slice u2A xk5.Pins.length u2C], hdeep 45 22 55 y3A y3C y3as y3, hown 3 y4A y4C y4, hbox g1 24 [iv g.W, iv g.H, iv g.Layers, .slice g_BlockedA g.Blocked.length g_BlockedC], hbox g2 26 [iv c.Step, iv c.Via, iv c.Turn, iv c.Against], hown 3 l6A l6C l6, hown 3 l8A l8C l8]) mo ?_
           replace hs := hs.drew
           refine H.val hf (hs.mask [true, false, true, true, true, true, true, false, true]) (v := .slice l12A l12.length l12C) (i := 0) rfl rfl rfl rfl (by kernel_rfl) (by kernel_rfl) (by kernel_rfl) (V.pure rfl) (fun a hf => H.val hf (hs.mask [true, false, true, true, true, true, true, false, true]) (v := (pn g4 0)) (i := 1) rfl rfl rfl rfl (by kernel_rfl) (by kernel_rfl) (by kernel_rfl) (V.fieldBox rfl rfl runUnderlying53 rfl sizeOf9 rfl rfl) (fun a hf => H.val hf (hs.mask [true, false, true, true, true, true, true, false, true]) (v := .string (ba xk5.Net)) (i := 2) rfl rfl rfl rfl (by kernel_rfl) (by kernel_rfl) (by kernel_rfl) (V.loadBox 0 rfl rfl rfl isAgg9 sizeOf9 rfl rfl) (fun a hf => H.val hf (hs.mask [true, false, true, true, true, true, true, false, true]) (v := .slice l7A l7.length l7C) (i := 3) rfl rfl rfl rfl (by kernel_rfl) (by kernel_rfl) (by kernel_rfl) (V.pure rfl) (fun a hf => H.val hf (hs.mask [true, false, true, true, true, true, true, false, true]) (v := iv (k5 : Int)) (i := 4) rfl rfl rfl rfl (by kernel_rfl) (by kernel_rfl) (by kernel_rfl) (V.pure rfl) (fun a hf => ?_)))))
           obtain ⟨h0x3, x3, hx3, h⟩ := h
           refine H.val hf (hs.mask [true, false, true, true, true, true, true, false, true]) (v := elemPtr l7A (k5 * 1)) (i := 5) rfl rfl rfl rfl (by kernel_rfl) (by kernel_rfl) (by kernel_rfl) (V.index rfl rfl rfl runUnderlying73 sizeOf45 (hs.rowsSomeD 7 rfl hx3) (Int.natCast_nonneg _) (lt_of_get hx3) rfl) (fun a hf => H.one (i := 6) rfl (by kernel_rfl) ?_)
           obtain ⟨B2, D2, B2s, hrB2⟩ := hs.rowAtD 7 rfl hx3
           refine S.v hf hs (.slice B2 x3.length D2) rfl (V.loadRowsD (off := 0) 7 rfl hx3 hrB2 rfl rfl rfl isAgg45 sizeOf45 rfl rfl) fun a hf => X.n (⟨(hs.mask [true, false, true, true, true, true, true, false, true]), (H.val hf (hs.mask [true, false, true, true, true, true, true, false, true]) (v := .agg #[.string (ba xk5.Net), .slice B2 x3.length D2]) (i := 7) rfl rfl rfl rfl (by kernel_rfl) (by kernel_rfl) (by kernel_rfl) (V.build (places := #[(0, 1), (1, 1)]) rfl zeroValue47 runUnderlying47 (by intro w; simp [sizeOf45, sizeOf9]) rfl rfl) (fun a hf => H.one (i := 8) rfl (by kernel_rfl) ?_))⟩)
           replace hs := hs.takeRowDF 7 rfl hx3 hrB2
           refine S.build1 hf hs rfl rfl rfl (α := RoutedSh) (⟨xk5.Net, ⟨B2, x3.length, D2⟩⟩ : RoutedSh) rfl rfl rfl runUnderlying28 sizeOf47 zeroValue47 rfl (by decide) (fun A4 a w hf hs => X.n (⟨(hs.mask [false, false, true, false, true, true, true, true, true, false, true]), (H.one (i := 9) rfl (by kernel_rfl) ?_)⟩))
           replace hs := hs.front 1 rfl
           obtain ⟨hroom, h⟩ := h
           refine S.appendRowD 2 hf hs rfl rfl rfl (⟨xk5.Net, x3⟩ : Routed) rfl rfl rfl rfl rfl underlying28 info47 rfl hroom ((hs.ownView 1 rfl).some_ (i := 0) (by simp)) (hs.ownView 1 rfl) (fun A5 C2 a w hf hs => ?_)
           replace hs := hs.drop
           refine X.n (⟨(hs.mask [true, false, true, true, true, true, true, false, true]), (H.val hf (hs.mask [true, false, true, true, true, true, true, false, true]) (v := .slice A5 (l12 ++ [(⟨xk5.Net, x3⟩ : Routed)]).length C2) (i := 10) rfl rfl rfl rfl (by kernel_rfl) (by kernel_rfl) (by kernel_rfl) (V.pure rfl) (fun a hf => H.done (by kernel_rfl) (X.blk (X.then_ (R.list (S.v hf hs (iv ((k5 + 1 : Nat) : Int)) rfl (V.incr rfl rfl rfl hltk5 hlenk5) fun a hf => S.q hf hs (iv ((k5 + 1 : Nat) : Int)) rfl fun a hf => X.n ?_))))))⟩)
           exact ⟨xk5, llk5, rfl, k5 + 1, (l12 ++ [(⟨xk5.Net, x3⟩ : Routed)]), A5, C2, (l12as ++ [(B2, D2, B2s)]), range_drop hlk5, range_len hkk5, (by rw [hnext4] at h; exact h), ((((((hf.nil.cons (hf.get 91 _ rfl)).cons (hf.get 90 _ rfl)).cons (hf.get 20 _ rfl)).cons (hf.get 15 _ rfl)).cons (hf.get 14 _ rfl)).cons (hf.get 92 _ rfl)), hs.drop⟩
          ·replace h := h.2 hc
           refine wp_skip (X.blk (X.then_ (R.list (S.v hf hs (iv ((k5 + 1 : Nat) : Int)) rfl (V.incr rfl rfl rfl hltk5 hlenk5) fun a hf => S.q hf hs (iv ((k5 + 1 : Nat) : Int)) rfl fun a hf => X.n ?_))))
           replace hs := hs.fromSkipD 7 rfl
           exact ⟨xk5, llk5, rfl, k5 + 1, l12, l12A, l12C, l12as, range_drop hlk5, range_len hkk5, (by rw [hnext4] at h; exact h), ((((((hf.nil.cons (hf.get 91 _ rfl)).cons (hf.get 90 _ rfl)).cons (hf.get 20 _ rfl)).cons (hf.get 15 _ rfl)).cons (hf.get 14 _ rfl)).cons (hf.get 92 _ rfl)), hs.drop⟩
        ·replace h := h.2 hc
         refine wp_skip (X.then_ (X.l (S.q hf hs (.slice l6A l6.length l6C) rfl fun a hf => S.q hf hs (.slice y4A y4.length y4C) rfl fun a hf => ?_)))
         obtain ⟨h0x4, x4, hx4, h⟩ := h
         refine S.v hf hs (elemPtr y4A (0 * 1)) rfl (V.index rfl rfl rfl runUnderlying72 sizeOf3 (hs.ownSome 1 rfl (lt_of_get hx4)) h0x4 (lt_of_get hx4) rfl) fun a hf => S.v hf hs (iv x4) rfl (V.loadOwn (off := 0) 1 rfl hx4 rfl rfl rfl isAgg3 sizeOf3 rfl rfl) fun a hf => S.call hf rfl rfl rfl (call_fn (vs := [.slice l6A l6.length l6C, iv x4]) rfl rfl rfl call40) (R_index_int l6 x4 _ l6A l6C (hs.ownView 4 rfl) _ h) (fun v a w' hf hr => ?_)
         obtain ⟨y10, rfl, h2, hs2⟩ := hr
         replace h := h2; replace hs := hs.call hs2; clear h2 hs2
         refine S.q hf hs (iv y10) rfl fun a hf => X.n (H.start (S := Sat w0 none_ [hdeep 45 22 55 y3A y3C y3as y3, hown 3 y4A y4C y4, hbox g1 24 [iv g.W, iv g.H, iv g.Layers, .slice g_BlockedA g.Blocked.length g_BlockedC], hbox g2 26 [iv c.Step, iv c.Via, iv c.Turn, iv c.Against], hdeep 45 22 55 l7A l7C l7as l7, hown 3 l8A l8C l8]) mo ?_)
         replace hs := hs.drew
         refine H.val hf (hs.mask [true, true, true, true, false, true, true]) (v := .slice l6A l6.length l6C) (i := 0) rfl rfl rfl rfl (by kernel_rfl) (by kernel_rfl) (by kernel_rfl) (V.pure rfl) (fun a hf => H.val hf (hs.mask [true, true, true, true, false, true, true]) (v := iv y10) (i := 1) rfl rfl rfl rfl (by kernel_rfl) (by kernel_rfl) (by kernel_rfl) (V.pure rfl) (fun a hf => H.val hf (hs.mask [true, true, true, true, false, true, true]) (v := iv y10) (i := 2) rfl rfl rfl rfl (by kernel_rfl) (by kernel_rfl) (by kernel_rfl) (V.pure rfl) (fun a hf => H.val hf (hs.mask [true, true, true, true, false, true, true]) (v := iv (w64 (y10 + 1))) (i := 3) rfl rfl rfl rfl (by kernel_rfl) (by kernel_rfl) (by kernel_rfl) (V.pure rfl) (fun a hf => H.val hf (hs.mask [true, true, true, true, false, true, true]) (v := .slice y4A y4.length y4C) (i := 5) rfl rfl rfl rfl (by kernel_rfl) (by kernel_rfl) (by kernel_rfl) (V.pure rfl) (fun a hf => H.val hf (hs.mask [true, true, true, true, false, true, true]) (v := elemPtr y4A (0 * 1)) (i := 6) rfl rfl rfl rfl (by kernel_rfl) (by kernel_rfl) (by kernel_rfl) (V.index rfl rfl rfl runUnderlying72 sizeOf3 (hs.ownSome 1 rfl (lt_of_get hx4)) h0x4 (lt_of_get hx4) rfl) (fun a hf => H.val hf (hs.mask [true, true, true, true, false, true, true]) (v := iv x4) (i := 7) rfl rfl rfl rfl (by kernel_rfl) (by kernel_rfl) (by kernel_rfl) (V.loadOwn (off := 0) 1 rfl hx4 rfl rfl rfl isAgg3 sizeOf3 rfl rfl) (fun a hf => ?_)))))))
         refine H.each2 (i0 := 4) (i1 := 8) rfl rfl (by kernel_rfl) ?_ ?_
         ·replace hs := hs.front 4 rfl
          obtain ⟨F1, hsF, hback, hold, hrest⟩ := Sat.callOwns [hown 3 l6A l6C l6] (σ := [hdeep 45 22 55 y3A y3C y3as y3, hown 3 y4A y4C y4, hbox g1 24 [iv g.W, iv g.H, iv g.Layers, .slice g_BlockedA g.Blocked.length g_BlockedC], hbox g2 26 [iv c.Step, iv c.Via, iv c.Turn, iv c.Against], hdeep 45 22 55 l7A l7C l7as l7, hown 3 l8A l8C l8]) hs
          refine S.call hf rfl rfl rfl (call_fn (vs := [.slice l6A l6.length l6C, iv y10, iv (w64 (y10 + 1))]) rfl rfl rfl call42) (R_delete_int l6 y10 (w64 (y10 + 1)) _ _ l6A l6C hsF _ h) (fun v a w' hf hr => ?_)
          obtain ⟨y11, y11A, y11C, rfl, h2, hs2⟩ := hr
          replace h := h2; replace hs := hback _ _ hs2; clear h2 hs2 hback hold hrest hsF
          refine X.n (⟨(hs.mask [false, true, true, true, true, true, true]), (H.one (i := 8) rfl (by kernel_rfl) (S.build1 hf hs rfl rfl rfl (α := Int) x4 rfl rfl rfl runUnderlying72 sizeOf3 zeroValue3 rfl (by decide) (fun A6 a w hf hs => X.n (⟨(hs.mask [false, false, true, true, true, true, true, true]), (H.one (i := 9) rfl (by kernel_rfl) ?_)⟩))))⟩)
          replace hs := hs.front 1 rfl
          obtain ⟨F1, hsF, hback, hold, hrest⟩ := Sat.callOwns [hown 3 y11A y11C y11, hown 3 A6 1 [x4]] (σ := [hdeep 45 22 55 y3A y3C y3as y3, hown 3 y4A y4C y4, hbox g1 24 [iv g.W, iv g.H, iv g.Layers, .slice g_BlockedA g.Blocked.length g_BlockedC], hbox g2 26 [iv c.Step, iv c.Via, iv c.Turn, iv c.Against], hdeep 45 22 55 l7A l7C l7as l7, hown 3 l8A l8C l8]) hs
          refine S.call hf rfl rfl rfl (call_fn (vs := [.slice y11A y11.length y11C, iv 0, .slice A6 [x4].length 1]) rfl rfl rfl call41) (R_insert_int y11 0 [x4] _ _ y11A y11C A6 1 hsF _ h) (fun v a w' hf hr => ?_)
          obtain ⟨y12, y12A, y12C, z2, hl_z2, rfl, h2, hs2⟩ := hr
          replace h := h2; replace hs := hback _ _ hs2; clear h2 hs2 hback hold hrest hsF
          replace hf := hf.tell 88 (v := .slice A6 z2.length 1) ((hf.get 88 (.slice A6 [x4].length 1) rfl).trans (congrArg (fun n => Value.slice A6 n 1) hl_z2.symm))
          refine X.n (⟨(hs.mask [false, false, true, true, true, true, true, true]), (H.val hf (hs.mask [false, false, true, true, true, true, true, true]) (v := .slice y12A y12.length y12C) (i := 10) rfl rfl rfl rfl (by kernel_rfl) (by kernel_rfl) (by kernel_rfl) (V.pure rfl) (fun a hf => H.done (by kernel_rfl) (X.blk (X.then_ (R.list (S.q hf hs (iv n2) rfl fun a hf => S.q hf hs (iv (w64 (n2 + 1))) rfl fun a hf => S.q hf hs (iv (w64 (n2 + 1))) rfl fun a hf => X.n ?_))))))⟩)
          replace hs := hs.front 7 rfl
          replace hs := hs.front 7 rfl
          replace hs := hs.front 2 rfl
          replace hs := hs.front 7 rfl
          replace hs := hs.front 7 rfl
          replace hs := hs.take 5
          exact ⟨y12, y12A, y12C, l7, l7A, l7C, l7as, l8, l8A, l8C, (w64 (n2 + 1)), (by rw [hagain2] at h; exact h), ((((((((hf.nil.cons (hf.get 16 _ rfl)).cons (hf.get 15 _ rfl)).cons (hf.get 14 _ rfl)).cons (hf.get 12 _ rfl)).cons (hf.get 5 _ rfl)).cons (hf.get 4 _ rfl)).cons (hf.get 3 _ rfl)).cons (hf.get 2 _ rfl)), hs⟩
         ·refine S.build1 hf hs rfl rfl rfl (α := Int) x4 rfl rfl rfl runUnderlying72 sizeOf3 zeroValue3 rfl (by decide) (fun A6 a w hf hs => X.n (⟨(hs.mask [false, true, true, true, true, false, true, true]), (H.one (i := 4) rfl (by kernel_rfl) ?_)⟩))
          replace hs := hs.front 5 rfl
          obtain ⟨F1, hsF, hback, hold, hrest⟩ := Sat.callOwns [hown 3 l6A l6C l6] (σ := [hown 3 A6 1 [x4], hdeep 45 22 55 y3A y3C y3as y3, hown 3 y4A y4C y4, hbox g1 24 [iv g.W, iv g.H, iv g.Layers, .slice g_BlockedA g.Blocked.length g_BlockedC], hbox g2 26 [iv c.Step, iv c.Via, iv c.Turn, iv c.Against], hdeep 45 22 55 l7A l7C l7as l7, hown 3 l8A l8C l8]) hs
          refine S.call hf rfl rfl rfl (call_fn (vs := [.slice l6A l6.length l6C, iv y10, iv (w64 (y10 + 1))]) rfl rfl rfl call42) (R_delete_int l6 y10 (w64 (y10 + 1)) _ _ l6A l6C hsF _ h) (fun v a w' hf hr => ?_)
          obtain ⟨y11, y11A, y11C, rfl, h2, hs2⟩ := hr
          replace h := h2; replace hs := hback _ _ hs2; clear h2 hs2 hback hold hrest hsF
          refine X.n (⟨(hs.mask [false, false, true, true, true, true, true, true]), (H.one (i := 9) rfl (by kernel_rfl) ?_)⟩)
          replace hs := hs.front 1 rfl
          replace hs := hs.front 1 rfl
          obtain ⟨F1, hsF, hback, hold, hrest⟩ := Sat.callOwns [hown 3 y11A y11C y11, hown 3 A6 1 [x4]] (σ := [hdeep 45 22 55 y3A y3C y3as y3, hown 3 y4A y4C y4, hbox g1 24 [iv g.W, iv g.H, iv g.Layers, .slice g_BlockedA g.Blocked.length g_BlockedC], hbox g2 26 [iv c.Step, iv c.Via, iv c.Turn, iv c.Against], hdeep 45 22 55 l7A l7C l7as l7, hown 3 l8A l8C l8]) hs
          refine S.call hf rfl rfl rfl (call_fn (vs := [.slice y11A y11.length y11C, iv 0, .slice A6 [x4].length 1]) rfl rfl rfl call41) (R_insert_int y11 0 [x4] _ _ y11A y11C A6 1 hsF _ h) (fun v a w' hf hr => ?_)
          obtain ⟨y12, y12A, y12C, z2, hl_z2, rfl, h2, hs2⟩ := hr
          replace h := h2; replace hs := hback _ _ hs2; clear h2 hs2 hback hold hrest hsF
          replace hf := hf.tell 88 (v := .slice A6 z2.length 1) ((hf.get 88 (.slice A6 [x4].length 1) rfl).trans (congrArg (fun n => Value.slice A6 n 1) hl_z2.symm))
          refine X.n (⟨(hs.mask [false, false, true, true, true, true, true, true]), (H.val hf (hs.mask [false, false, true, true, true, true, true, true]) (v := .slice y12A y12.length y12C) (i := 10) rfl rfl rfl rfl (by kernel_rfl) (by kernel_rfl) (by kernel_rfl) (V.pure rfl) (fun a hf => H.done (by kernel_rfl) (X.blk (X.then_ (R.list (S.q hf hs (iv n2) rfl fun a hf => S.q hf hs (iv (w64 (n2 + 1))) rfl fun a hf => S.q hf hs (iv (w64 (n2 + 1))) rfl fun a hf => X.n ?_))))))⟩)
          replace hs := hs.front 7 rfl
          replace hs := hs.front 7 rfl
          replace hs := hs.front 2 rfl
          replace hs := hs.front 7 rfl
          replace hs := hs.front 7 rfl
          replace hs := hs.take 5
          exact ⟨y12, y12A, y12C, l7, l7A, l7C, l7as, l8, l8A, l8C, (w64 (n2 + 1)), (by rw [hagain2] at h; exact h), ((((((((hf.nil.cons (hf.get 16 _ rfl)).cons (hf.get 15 _ rfl)).cons (hf.get 14 _ rfl)).cons (hf.get 12 _ rfl)).cons (hf.get 5 _ rfl)).cons (hf.get 4 _ rfl)).cons (hf.get 3 _ rfl)).cons (hf.get 2 _ rfl)), hs⟩
      ·skip
       refine R.list (S.q hf hs (iv n2) rfl fun a hf => S.q hf hs (.bool (n2 == 1)) rfl fun a hf => ?_)
       refine S.split hf hs (b := n2 == 1) rfl rfl rfl (V.pure rfl) (fun hc a hf => ?_) (fun hc a hf => ?_)
       ·replace h := h.1 hc
        refine S.k hf rfl fun a hf => S.k hf rfl fun a hf => S.k hf rfl fun a hf => S.k hf rfl fun a hf => S.k hf rfl fun a hf => S.q hf hs (.bool true) rfl fun a hf => X.n ?_
        exact ⟨true, h, (((((((((((hf.nil.cons (hf.get 69 _ rfl)).cons (hf.get 18 _ rfl)).cons (hf.get 17 _ rfl)).cons (hf.get 16 _ rfl)).cons (hf.get 15 _ rfl)).cons (hf.get 14 _ rfl)).cons (hf.get 12 _ rfl)).cons (hf.get 5 _ rfl)).cons (hf.get 4 _ rfl)).cons (hf.get 3 _ rfl)).cons (hf.get 2 _ rfl)), hs⟩
       ·replace h := h.2 hc
        refine S.q hf hs (.slice y4A y4.length y4C) rfl fun a hf => S.v hf hs (iv (y4.length : Int)) rfl (V.len rfl rfl runUnderlying72) fun a hf => S.q hf hs (.slice l8A l8.length l8C) rfl fun a hf => S.v hf hs (iv (l8.length : Int)) rfl (V.len rfl rfl runUnderlying72) fun a hf => S.q hf hs (.bool (decide ((y4.length : Int) < (l8.length : Int)))) rfl fun a hf => S.q hf hs (.bool (decide ((y4.length : Int) < (l8.length : Int)))) rfl fun a hf => X.n ?_
        exact ⟨(decide ((y4.length : Int) < (l8.length : Int))), h, (((((((((((hf.nil.cons (hf.get 69 _ rfl)).cons (hf.get 18 _ rfl)).cons (hf.get 17 _ rfl)).cons (hf.get 16 _ rfl)).cons (hf.get 15 _ rfl)).cons (hf.get 14 _ rfl)).cons (hf.get 12 _ rfl)).cons (hf.get 5 _ rfl)).cons (hf.get 4 _ rfl)).cons (hf.get 3 _ rfl)).cons (hf.get 2 _ rfl)), hs⟩
     ·replace h := h.2 hc
      refine wp_exit (X.then_exit (X.then_exit (X.blk_exit (X.then_ (X.l (S.q hf hs (.slice none 0 0) rfl fun a hf => X.n (wp_seq (X.l (S.q hf hs (.slice tA t.length tC) rfl fun a hf => S.v hf hs (iv (t.length : Int)) rfl (V.len rfl rfl runUnderlying27) fun a hf => S.q hf hs (iv 0) rfl fun a hf => X.n (wp_block ?_))))))))))
      replace hs := hs.nilRowsD (α := Routed) 47 22 55
      replace hs := hs.fromRowsD 4 rfl
      have hlenk6 := hv_t.len64
      refine C.range (fun (ll : List Task) a w => ∃ (k6 : Nat) (l14 : List Routed) (l14A : Option Addr) (l14C : Nat) (l14as : List Dp), t.drop k6 = ll ∧ k6 + ll.length = t.length ∧ forIn' (fun k x (s : List Routed) next => M_route_Route_L5 l7 l8 k x s (fun l14 => next l14)) (fun (s : List Routed) => (fun (l14 : List Routed) => Q l14 0) s) ll k6 l14 ∧ FrOk 113 [(92, iv (k6 : Int)), (14, .slice l7A l7.length l7C), (15, .slice l8A l8.length l8C), (20, .slice l14A l14.length l14C), (90, .slice tA t.length tC), (91, iv (t.length : Int))] a ∧ Sat w0 none_ [hdeep 47 22 55 l14A l14C l14as l14, hbox g1 24 [iv g.W, iv g.H, iv g.Layers, .slice g_BlockedA g.Blocked.length g_BlockedC], hbox g2 26 [iv c.Step, iv c.Via, iv c.Turn, iv c.Against], hown 3 l6A l6C l6, hdeepF 45 22 55 l7A l7C l7as l7 k6, hown 3 l8A l8C l8] w) t ⟨0, ([] : List Routed), none, 0, ([] : List Dp), rfl, Nat.zero_add _, h, ((((((hf.nil.cons (hf.get 91 _ rfl)).cons (hf.get 90 _ rfl)).cons (hf.get 20 _ rfl)).cons (hf.get 15 _ rfl)).cons (hf.get 14 _ rfl)).cons (hf.get 92 _ rfl)), hs⟩ ?_
      clear h hf hs
      rintro llk6 a w ⟨k6, l14, l14A, l14C, l14as, hlk6, hkk6, h, hf, hs⟩
      cases llk6 with
      | nil =>
       have hc := range_done hkk6
       replace h : (fun (l14 : List Routed) => Q l14 0) l14 := h
       refine X.l (S.v hf hs (.bool false) rfl (V.cmp false rfl rfl rfl rfl hc) fun a hf => X.n (wp_seq (C.no hf rfl (wp_exit (X.then_exit (X.then_exit (X.blk_exit (X.then_ (X.l (S.q hf hs (.slice l14A l14.length l14C) rfl fun a hf => S.q hf hs (.slice l14A l14.length l14C) rfl fun a hf => S.q hf hs (iv 0) rfl fun a hf => X.n (wp_ret ?_)))))))))))
       replace hs := hs.take 1
       exact L.ret hf (run_results2 results14 (ResIs.tmp hf rfl) (ResIs.tmp hf rfl)) ⟨l14, l14A, l14C, l14as, 0, rfl, h, hs⟩
      | cons xk6 llk6 =>
       have hltk6 := range_lt hkk6; have hc := range_go hkk6; have hxk6 := range_get hlk6
       obtain ⟨next5, hnext5⟩ : ∃ X : List Routed → Prop, X = (fun l14 => forIn' (fun k x (s : List Routed) next => M_route_Route_L5 l7 l8 k x s (fun l14 => next l14)) (fun (s : List Routed) => (fun (l14 : List Routed) => Q l14 0) s) llk6 (k6 + 1) l14) := ⟨_, rfl⟩
       replace h : M_route_Route_L5 l7 l8 k6 xk6 l14 next5 := by rw [hnext5]; exact h
       unfold M_route_Route_L5 at h
       refine X.l (S.v hf hs (.bool true) rfl (V.cmp true rfl rfl rfl rfl hc) fun a hf => X.n (wp_seq (C.yes hf rfl (wp_skip (X.then_ (wp_seq (wp_block (X.l (S.q hf hs (iv (k6 : Int)) rfl fun a hf => ?_)))))))))
       obtain ⟨cs3, he3, hr3⟩ := hv_t.at_ _ _ hxk6
       obtain ⟨u3A, u3C, rfl, hvu3⟩ := hr3
       refine S.v hf hs (elemPtr tA (k6 * 2)) rfl (V.index rfl rfl rfl runUnderlying27 sizeOf53 (hv_t.some_ (lt_of_get hxk6)) (Int.natCast_nonneg _) (lt_of_get hxk6) rfl) fun a hf => S.v hf hs (.agg #[.string (ba xk6.Net), .slice u3A xk6.Pins.length u3C]) rfl (V.loadEl (off := 0) (Ag.args _ _ _) he3 rfl rfl rfl isAgg53 sizeOf53 rfl rfl) fun a hf => S.alloc hf hs rfl rfl rfl [.string (ba []), .slice none 0 0] rfl zeroValue53 rfl (fun g5 a w hf hs => S.q hf hs (iv (k6 : Int)) rfl fun a hf => S.storeBox 0 hf hs rfl rfl [.string (ba xk6.Net), .slice u3A xk6.Pins.length u3C] [.string (ba xk6.Net), .slice u3A xk6.Pins.length u3C] rfl rfl rfl rfl rfl sizeOf53 rfl rfl rfl rfl (fun a w hf hs => X.n (X.l (S.q hf hs (.slice l8A l8.length l8C) rfl fun a hf => S.q hf hs (iv (k6 : Int)) rfl fun a hf => S.call hf rfl rfl rfl (call_fn (vs := [.slice l8A l8.length l8C, iv (k6 : Int)]) rfl rfl rfl call43) (R_contains_int l8 (k6 : Int) _ l8A l8C (hs.ownView 6 rfl) _ h) (fun v a w' hf hr => ?_)))))
       obtain ⟨y13, rfl, h2, hs2⟩ := hr
       replace h := h2; replace hs := hs.call hs2; clear h2 hs2
       refine S.q hf hs (.bool (!y13)) rfl fun a hf => X.n ?_
       refine C.cond hf (b := !y13) rfl (fun hc => ?_) (fun hc => ?_)
       ·replace h := h.1 hc
        refine H.start (S := Sat w0 none_ [hbox g5 53 [.string (ba xk6.Net), .slice u3A xk6.Pins.length u3C], hbox g1 24 [iv g.W, iv g.H, iv g.Layers, .slice g_BlockedA g.Blocked.length g_BlockedC], hbox g2 26 [iv c.Step, iv c.Via, iv c.Turn, iv c.Against], hown 3 l6A l6C l6, hown 3 l8A l8C l8]) mo ?_
        replace hs := hs.drew
        refine H.val hf (hs.mask [true, false, true, true, true, false, true]) (v := .slice l14A l14.length l14C) (i := 0) rfl rfl rfl rfl (by kernel_rfl) (by kernel_rfl) (by kernel_rfl) (V.pure rfl) (fun a hf => H.val hf (hs.mask [true, false, true, true, true, false, true]) (v := (pn g5 0)) (i := 1) rfl rfl rfl rfl (by kernel_rfl) (by kernel_rfl) (by kernel_rfl) (V.fieldBox rfl rfl runUnderlying53 rfl sizeOf9 rfl rfl) (fun a hf => H.val hf (hs.mask [true, false, true, true, true, false, true]) (v := .string (ba xk6.Net)) (i := 2) rfl rfl rfl rfl (by kernel_rfl) (by kernel_rfl) (by kernel_rfl) (V.loadBox 0 rfl rfl rfl isAgg9 sizeOf9 rfl rfl) (fun a hf => H.val hf (hs.mask [true, false, true, true, true, false, true]) (v := .slice l7A l7.length l7C) (i := 3) rfl rfl rfl rfl (by kernel_rfl) (by kernel_rfl) (by kernel_rfl) (V.pure rfl) (fun a hf => H.val hf (hs.mask [true, false, true, true, true, false, true]) (v := iv (k6 : Int)) (i := 4) rfl rfl rfl rfl (by kernel_rfl) (by kernel_rfl) (by kernel_rfl) (V.pure rfl) (fun a hf => ?_)))))
        obtain ⟨h0x5, x5, hx5, h⟩ := h
        refine H.val hf (hs.mask [true, false, true, true, true, false, true]) (v := elemPtr l7A (k6 * 1)) (i := 5) rfl rfl rfl rfl (by kernel_rfl) (by kernel_rfl) (by kernel_rfl) (V.index rfl rfl rfl runUnderlying73 sizeOf45 (hs.rowsSomeD 5 rfl hx5) (Int.natCast_nonneg _) (lt_of_get hx5) rfl) (fun a hf => H.one (i := 6) rfl (by kernel_rfl) ?_)
        obtain ⟨B3, D3, B3s, hrB3⟩ := hs.rowAtD 5 rfl hx5
        refine S.v hf hs (.slice B3 x5.length D3) rfl (V.loadRowsD (off := 0) 5 rfl hx5 hrB3 rfl rfl rfl isAgg45 sizeOf45 rfl rfl) fun a hf => X.n (⟨(hs.mask [true, false, true, true, true, false, true]), (H.val hf (hs.mask [true, false, true, true, true, false, true]) (v := .agg #[.string (ba xk6.Net), .slice B3 x5.length D3]) (i := 7) rfl rfl rfl rfl (by kernel_rfl) (by kernel_rfl) (by kernel_rfl) (V.build (places := #[(0, 1), (1, 1)]) rfl zeroValue47 runUnderlying47 (by intro w; simp [sizeOf45, sizeOf9]) rfl rfl) (fun a hf => H.one (i := 8) rfl (by kernel_rfl) ?_))⟩)
        replace hs := hs.takeRowDF 5 rfl hx5 hrB3
        refine S.build1 hf hs rfl rfl rfl (α := RoutedSh) (⟨xk6.Net, ⟨B3, x5.length, D3⟩⟩ : RoutedSh) rfl rfl rfl runUnderlying28 sizeOf47 zeroValue47 rfl (by decide) (fun A7 a w hf hs => X.n (⟨(hs.mask [false, false, true, false, true, true, true, false, true]), (H.one (i := 9) rfl (by kernel_rfl) ?_)⟩))
        replace hs := hs.front 1 rfl
        obtain ⟨hroom, h⟩ := h
        refine S.appendRowD 2 hf hs rfl rfl rfl (⟨xk6.Net, x5⟩ : Routed) rfl rfl rfl rfl rfl underlying28 info47 rfl hroom ((hs.ownView 1 rfl).some_ (i := 0) (by simp)) (hs.ownView 1 rfl) (fun A8 C3 a w hf hs => ?_)
        replace hs := hs.drop
        refine X.n (⟨(hs.mask [true, false, true, true, true, false, true]), (H.val hf (hs.mask [true, false, true, true, true, false, true]) (v := .slice A8 (l14 ++ [(⟨xk6.Net, x5⟩ : Routed)]).length C3) (i := 10) rfl rfl rfl rfl (by kernel_rfl) (by kernel_rfl) (by kernel_rfl) (V.pure rfl) (fun a hf => H.done (by kernel_rfl) (X.blk (X.then_ (R.list (S.v hf hs (iv ((k6 + 1 : Nat) : Int)) rfl (V.incr rfl rfl rfl hltk6 hlenk6) fun a hf => S.q hf hs (iv ((k6 + 1 : Nat) : Int)) rfl fun a hf => X.n ?_))))))⟩)
        exact ⟨xk6, llk6, rfl, k6 + 1, (l14 ++ [(⟨xk6.Net, x5⟩ : Routed)]), A8, C3, (l14as ++ [(B3, D3, B3s)]), range_drop hlk6, range_len hkk6, (by rw [hnext5] at h; exact h), ((((((hf.nil.cons (hf.get 91 _ rfl)).cons (hf.get 90 _ rfl)).cons (hf.get 20 _ rfl)).cons (hf.get 15 _ rfl)).cons (hf.get 14 _ rfl)).cons (hf.get 92 _ rfl)), hs.drop⟩
       ·replace h := h.2 hc
        refine wp_skip (X.blk (X.then_ (R.list (S.v hf hs (iv ((k6 + 1 : Nat) : Int)) rfl (V.incr rfl rfl rfl hltk6 hlenk6) fun a hf => S.q hf hs (iv ((k6 + 1 : Nat) : Int)) rfl fun a hf => X.n ?_))))
        replace hs := hs.fromSkipD 5 rfl
        exact ⟨xk6, llk6, rfl, k6 + 1, l14, l14A, l14C, l14as, range_drop hlk6, range_len hkk6, (by rw [hnext5] at h; exact h), ((((((hf.nil.cons (hf.get 91 _ rfl)).cons (hf.get 90 _ rfl)).cons (hf.get 20 _ rfl)).cons (hf.get 15 _ rfl)).cons (hf.get 14 _ rfl)).cons (hf.get 92 _ rfl)), hs.drop⟩
    | cons xk1 llk1 =>
     have hltk1 := range_lt hkk1; have hc := range_go hkk1; have hxk1 := range_get hlk1
     obtain ⟨next1, hnext1⟩ : ∃ X : List Int → Prop, X = (fun l2 => forIn' (fun k x (s : List Int) next => M_route_Route_L1 k x s (fun l2 => next l2)) (fun (s : List Int) => (fun (l2 : List Int) => lp (fun again (s : List Int × List (List (List Cell)) × List Int × Int) => M_route_Route_L2 g c t tries Q (fun l6 l7 l8 n2 => again (l6, l7, l8, n2)) s.1 s.2.1 s.2.2.1 s.2.2.2) (l2, ([] : List (List (List Cell))), (([] : List Int)), 1)) s) llk1 (k1 + 1) l2) := ⟨_, rfl⟩
     replace h : M_route_Route_L1 k1 xk1 l2 next1 := by rw [hnext1]; exact h
     unfold M_route_Route_L1 at h
     refine X.l (S.v hf hs (.bool true) rfl (V.cmp true rfl rfl rfl rfl hc) fun a hf => X.n (wp_seq (C.yes hf rfl (wp_skip (X.then_ (wp_seq (wp_block (X.l (S.q hf hs (iv (k1 : Int)) rfl fun a hf => S.q hf hs (iv (k1 : Int)) rfl fun a hf => X.n (R.list (S.q hf hs (.slice l2A l2.length l2C) rfl fun a hf => S.q hf hs (iv (k1 : Int)) rfl fun a hf => S.build1 hf hs rfl rfl rfl (α := Int) (k1 : Int) rfl rfl rfl runUnderlying72 sizeOf3 zeroValue3 rfl (by decide) (fun A9 a w hf hs => ?_))))))))))))
     obtain ⟨hroom, h⟩ := h
     refine S.appendCells 1 hf hs rfl rfl rfl rfl rfl rfl rfl underlying72 info3 rfl hroom ((hs.ownView 0 rfl).some_ (i := 0) (by simp)) (hs.ownView 0 rfl) (fun A10 C4 a w hf hs => ?_)
     replace hs := hs.drop
     refine S.q hf hs (.slice A10 (l2 ++ [(k1 : Int)]).length C4) rfl fun a hf => R.nil (X.blk (X.then_ (R.list (S.v hf hs (iv ((k1 + 1 : Nat) : Int)) rfl (V.incr rfl rfl rfl hltk1 hlenk1) fun a hf => S.q hf hs (iv ((k1 + 1 : Nat) : Int)) rfl fun a hf => X.n ?_))))
     exact ⟨xk1, llk1, rfl, k1 + 1, (l2 ++ [(k1 : Int)]), A10, C4, range_drop hlk1, range_len hkk1, (by rw [hnext1] at h; exact h), (((((((hf.nil.cons (hf.get 39 _ rfl)).cons (hf.get 12 _ rfl)).cons (hf.get 5 _ rfl)).cons (hf.get 4 _ rfl)).cons (hf.get 3 _ rfl)).cons (hf.get 2 _ rfl)).cons (hf.get 40 _ rfl)), hs⟩
end Go.Proofs.YtihjaehkdgdenaaGreatDoor
