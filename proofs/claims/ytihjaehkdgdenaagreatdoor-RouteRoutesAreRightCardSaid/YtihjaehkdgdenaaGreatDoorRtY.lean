/- Chapter texts of ours, as far as the claim needs them. -/
import Derived.Test.YtihjaehkdgdenaaGreatDoorRtW
import Derived.Test.YtihjaehkdgdenaaGreatDoorRtO2
import Derived.Test.YtihjaehkdgdenaaGreatDoorRtR1
import Derived.Test.YtihjaehkdgdenaaGreatDoorSortI
import Derived.Test.YtihjaehkdgdenaaGreatDoorShelf
namespace Go.Proofs.YtihjaehkdgdenaaGreatDoor
open Tryz Go Go.RowKit
set_option linter.unusedVariables false
set_option linter.unusedSectionVars false
set_option linter.unusedSimpArgs false
def M_sort_int (s_ : (List Int)) (Q : (List Int) → Prop) : Prop :=
  must (s_.length < 4611686018427387904) (Q (sortInts s_))
theorem R_sort_int (s_ : (List Int)) (w0 : World) (F0 : Nat → Prop) (s_A : Option Addr) (s_C : Nat) (hs0 : Sat w0 F0 [hown 3 s_A s_C s_] w0) (Q : (List Int) → Prop) (h : M_sort_int s_ Q) :
  Ret Tryz.prog 103 #[.slice s_A s_.length s_C] w0 fun v w' => ∃ (s_1 : (List Int)) (hl_s_1 : s_1.length = s_.length), v = .tuple #[] ∧ Q s_1 ∧ Sat w0 F0 [hown 3 s_A s_C s_1] w' := by
 obtain ⟨hlen, h⟩ := h
 refine Calls.mono (sortInt_run (P := Tryz.prog) Tryz.laysSlgm5_103 hs0 hlen) ?_
 rintro e w' ⟨v, rfl, rfl, hs⟩
 exact ⟨_, rfl, _, List.length_mergeSort _, rfl, h, hs⟩
def M_finder_tree_L4  (k4 : Nat) (xk4 : Int) (l9 : List Int) (l10 : List Bool) (next4 : List Int → List Bool → Prop) : Prop :=
  idx l10 xk4 fun x4 => cnd (!x4) (must (room (l9 ++ [xk4]).length 8) (next4 (l9 ++ [xk4]) (l10.set xk4.toNat true))) (next4 l9 l10)
def M_finder_tree_k5 (xk3 : Int) (n6 : Int) (next3 : Int → Prop) (c3 : Bool) : Prop :=
  cnd c3 (next3 xk3) (next3 n6)
def M_finder_tree_L3 (y3 : (List Int)) (k3 : Nat) (xk3 : Int) (n6 : Int) (next3 : Int → Prop) : Prop :=
  idx y3 (w64 (3 * xk3)) fun x5 => cnd (decide (x5 ≥ 0)) (cnd (decide (n6 < 0)) (M_finder_tree_k5 xk3 n6 next3 true) (idx y3 (w64 (3 * n6)) fun x6 => M_finder_tree_k5 xk3 n6 next3 (decide (x5 < x6)))) (M_finder_tree_k5 xk3 n6 next3 false)
def M_finder_tree_k6 (n3 : Int) (n4 : Int) (next2 : Int → Int → Bool → Prop) (y6 : Int) (y7 : Int) (c4 : Bool) : Prop :=
  cnd c4 (next2 y6 (w64 (y7.tdiv 1048576)) true) (next2 n3 n4 true)
def M_finder_tree_L2 (f : RouteFinder) (l4 : List Bool) (y2 : (List Int)) (k2 : Nat) (xk2 : Cell) (n3 : Int) (n4 : Int) (c2 : Bool) (next2 : Int → Int → Bool → Prop) : Prop :=
  M_route_number f.g xk2 fun y6 => idx l4 y6 fun x7 => cnd x7 (next2 n3 n4 c2) (M_keys_least y2 y6 fun y7 => cnd (decide (y7 ≥ 0)) (cnd (decide (n3 < 0)) (M_finder_tree_k6 n3 n4 next2 y6 y7 true) (M_finder_tree_k6 n3 n4 next2 y6 y7 (decide (w64 (y7.tdiv 1048576) < n4)))) (M_finder_tree_k6 n3 n4 next2 y6 y7 false))
def M_finder_tree_L1 (f : RouteFinder) (pins : (List Cell)) (Q : (List (List Cell)) → Bool → Prop) (again1 : List Bool → List Int → List (List Cell) → Prop) (l4 : List Bool) (l5 : List Int) (l6 : List (List Cell)) : Prop :=
  M_finder_from f l5 fun y2 => forIn' (fun k x (s : Int × Int × Bool) next => M_finder_tree_L2 f l4 y2 k x s.1 s.2.1 s.2.2 (fun n3 n4 c2 => next (n3, n4, c2))) (fun (s : Int × Int × Bool) => (fun (n3 : Int) (n4 : Int) (c2 : Bool) => cnd (!c2) (Q l6 true) (cnd (decide (n3 < 0)) (Q ([] : List (List Cell)) false) (M_finder_to f n3 fun y3 => M_sort_int l5 fun z1 => forIn' (fun k x (s : Int) next => M_finder_tree_L3 y3 k x s (fun n6 => next n6)) (fun (s : Int) => (fun (n6 : Int) => M_finder_way f n6 y3 fun y4 => forIn' (fun k x (s : List Int × List Bool) next => M_finder_tree_L4 k x s.1 s.2 (fun l9 l10 => next (l9, l10))) (fun (s : List Int × List Bool) => (fun (l9 : List Int) (l10 : List Bool) => M_finder_cells f y4 fun y5 => must (room (l6 ++ [y5]).length 24) (again1 l10 l9 (l6 ++ [y5]))) s.1 s.2) y4 0 (z1, l4)) s) z1 0 (-1)))) s.1 s.2.1 s.2.2) pins 0 ((-1), 0, false)
def M_finder_tree (f : RouteFinder) (pins : (List Cell)) (Q : (List (List Cell)) → Bool → Prop) : Prop :=
  must (0 ≤ (f.no.length : Int) ∧ (f.no.length : Int) * 1 ≤ 281474976710656) (idx pins 0 fun x1 => M_route_number f.g x1 fun y1 => idx [y1] 0 fun x2 => idx (List.replicate f.no.length false) x2 fun x3 => lp (fun again (s : List Bool × List Int × List (List Cell)) => M_finder_tree_L1 f pins Q (fun l4 l5 l6 => again (l4, l5, l6)) s.1 s.2.1 s.2.2) (((List.replicate f.no.length false).set x2.toNat true), [y1], ([] : List (List Cell))))
set_option maxHeartbeats 1000000 in
theorem R_finder_tree (f : RouteFinder) (pins : (List Cell)) (w0 : World) (f_g_BlockedA : Option Addr) (f_g_BlockedC : Nat) (hv_f_g_Blocked : View w0 (old w0 none_) f_g_BlockedA f_g_BlockedC f.g.Blocked) (f_noA : Option Addr) (f_noC : Nat) (hv_f_no : View w0 (old w0 none_) f_noA f_noC f.no) (fg : Nat) (hb_f : ElemAt w0 (old w0 none_) (some ⟨fg, 0, none⟩) 0 [iv f.g.W, iv f.g.H, iv f.g.Layers, .slice f_g_BlockedA f.g.Blocked.length f_g_BlockedC, iv f.c.Step, iv f.c.Via, iv f.c.Turn, iv f.c.Against, .slice f_noA f.no.length f_noC]) (pinsA : Option Addr) (pinsC : Nat) (hv_pins : View w0 (old w0 none_) pinsA pinsC pins) (Q : (List (List Cell)) → Bool → Prop) (h : M_finder_tree f pins Q) :
  Ret Tryz.prog 81 #[(pn fg 0), .slice pinsA pins.length pinsC] w0 fun v w' => ∃ (r0 : (List (List Cell))) (r0A : Option Addr) (r0C : Nat) (r0as : List (Option Addr × Nat)) (r1 : Bool), v = .tuple #[.slice r0A r0.length r0C, .bool r1] ∧ Q r0 r1 ∧ Sat w0 none_ [hrows 22 55 r0A r0C r0as r0] w' := by
 refine fn_enter func81 rfl ntmps81 rfl (fs := [(0, (pn fg 0)), (1, .slice pinsA pins.length pinsC)]) rfl (fun a hf => ?_)
 have hs := Sat.start w0 none_
 unfold M_finder_tree at h
 refine X.l (S.q hf hs (.slice none 0 0) rfl fun a hf => S.q hf hs (.bool false) rfl fun a hf => X.n (X.l (S.q hf hs ((pn fg 0)) rfl fun a hf => S.q hf hs ((pn fg 0)) rfl fun a hf => S.v hf hs ((pn fg 8)) rfl (V.fieldBox rfl rfl runUnderlying120 rfl sizeOf49 rfl rfl) fun a hf => S.v hf hs (.slice f_noA f.no.length f_noC) rfl (V.loadAt0 (off := 8) (Ag.args _ _ _) hb_f rfl rfl isAgg49 sizeOf49 rfl rfl) fun a hf => S.v hf hs (iv (f.no.length : Int)) rfl (V.len rfl rfl runUnderlying49) fun a hf => ?_)))
 obtain ⟨hmk, h⟩ := h
 refine S.make hf hs rfl rfl rfl (α := Bool) false (z := (f.no.length : Int)) (N := f.no.length) rfl rfl rfl underlying49 info4 hmk rfl (by have := hmk.2; omega) (fun A1 a w hf hs => S.q hf hs (.slice A1 (List.replicate f.no.length false).length f.no.length) rfl fun a hf => X.n (wp_seq (H.start (S := Sat w0 none_ [hown 4 A1 f.no.length (List.replicate f.no.length false)]) mo ?_)))
 replace hs := hs.drew
 refine H.v hf hs ((pn fg 0)) 0 rfl rfl (by kernel_rfl) (V.pure rfl) fun a hf => H.v hf hs ((pn fg 0)) 1 rfl rfl (by kernel_rfl) (V.pure rfl) fun a hf => H.v hf hs ((pn fg 0)) 2 rfl rfl (by kernel_rfl) (V.fieldBox rfl rfl runUnderlying120 rfl sizeOf24 rfl rfl) fun a hf => H.v hf hs (.agg #[iv f.g.W, iv f.g.H, iv f.g.Layers, .slice f_g_BlockedA f.g.Blocked.length f_g_BlockedC]) 3 rfl rfl (by kernel_rfl) (V.loadAt0 (off := 0) (Ag.args _ _ _) hb_f rfl rfl isAgg24 sizeOf24 rfl rfl) fun a hf => H.v hf hs (.slice pinsA pins.length pinsC) 4 rfl rfl (by kernel_rfl) (V.pure rfl) fun a hf => ?_
 obtain ⟨h0x1, x1, hx1, h⟩ := h
 refine H.v hf hs (elemPtr pinsA (0 * 3)) 5 rfl rfl (by kernel_rfl) (V.index rfl rfl rfl runUnderlying22 sizeOf55 (hv_pins.some_ (lt_of_get hx1)) h0x1 (lt_of_get hx1) rfl) fun a hf => H.v hf hs (.agg #[iv x1.X, iv x1.Y, iv x1.Layer]) 6 rfl rfl (by kernel_rfl) (V.loadEl (off := 0) (Ag.args _ _ _) (hv_pins.flat hx1) rfl rfl rfl isAgg55 sizeOf55 rfl rfl) fun a hf => H.one (i := 7) rfl (by kernel_rfl) (S.call hf rfl rfl rfl (call_fn (vs := [.agg #[iv f.g.W, iv f.g.H, iv f.g.Layers, .slice f_g_BlockedA f.g.Blocked.length f_g_BlockedC], .agg #[iv x1.X, iv x1.Y, iv x1.Layer]]) rfl rfl rfl call32) (R_route_number f.g x1 _ f_g_BlockedA f_g_BlockedC ((Ag.args _ _ _).view hv_f_g_Blocked hs) _ h) (fun v a w' hf hr => ?_))
 obtain ⟨y1, rfl, h2, hs2⟩ := hr
 replace h := h2; replace hs := hs.call hs2; clear h2 hs2
 refine X.n (⟨hs, (H.one (i := 8) rfl (by kernel_rfl) (S.build1 hf hs rfl rfl rfl (α := Int) y1 rfl rfl rfl runUnderlying72 sizeOf3 zeroValue3 rfl (by decide) (fun A2 a w hf hs => X.n (⟨(hs.mask [false, true]), (H.val hf (hs.mask [false, true]) (v := .slice A2 [y1].length 1) (i := 9) rfl rfl rfl rfl (by kernel_rfl) (by kernel_rfl) (by kernel_rfl) (V.pure rfl) (fun a hf => H.done (by kernel_rfl) (X.then_ (X.l (S.q hf hs (.slice A1 (List.replicate f.no.length false).length f.no.length) rfl fun a hf => S.q hf hs (.slice A2 [y1].length 1) rfl fun a hf => ?_)))))⟩))))⟩)
 obtain ⟨h0x2, x2, hx2, h⟩ := h
 refine S.v hf hs (elemPtr A2 (0 * 1)) rfl (V.index rfl rfl rfl runUnderlying72 sizeOf3 (hs.ownSome 0 rfl (lt_of_get hx2)) h0x2 (lt_of_get hx2) rfl) fun a hf => S.v hf hs (iv x2) rfl (V.loadOwn (off := 0) 0 rfl hx2 rfl rfl rfl isAgg3 sizeOf3 rfl rfl) fun a hf => ?_
 obtain ⟨h0x3, x3, hx3, h⟩ := h
 refine S.v hf hs (elemPtr A1 (x2.toNat * 1)) rfl (V.index rfl rfl rfl runUnderlying49 sizeOf4 (hs.ownSome 1 rfl (lt_of_get hx3)) h0x3 (lt_of_get hx3) rfl) fun a hf => S.storeOwn (off := 0) 1 hf hs rfl rfl true [.bool true] rfl hx3 rfl rfl rfl rfl rfl sizeOf4 rfl (by decide) rfl rfl (fun a w hf hs => ?_)
 replace hf := hf.tell 6 (v := .slice A1 ((List.replicate f.no.length false).set x2.toNat true).length f.no.length) ((hf.get 6 (.slice A1 (List.replicate f.no.length false).length f.no.length) rfl).trans (congrArg (fun n => Value.slice A1 n f.no.length) List.length_set.symm))
 replace hf := hf.tell 29 (v := .slice A1 ((List.replicate f.no.length false).set x2.toNat true).length f.no.length) ((hf.get 29 (.slice A1 (List.replicate f.no.length false).length f.no.length) rfl).trans (congrArg (fun n => Value.slice A1 n f.no.length) List.length_set.symm))
 replace hf := hf.tell 39 (v := .slice A1 ((List.replicate f.no.length false).set x2.toNat true).length f.no.length) ((hf.get 39 (.slice A1 (List.replicate f.no.length false).length f.no.length) rfl).trans (congrArg (fun n => Value.slice A1 n f.no.length) List.length_set.symm))
 refine X.n (X.l (S.q hf hs (.slice none 0 0) rfl fun a hf => X.n (wp_block ?_)))
 replace hs := hs.nilRows (α := (List Cell)) 22 55
 replace hs := hs.front 1 rfl
 replace hs := hs.front 2 rfl
 obtain ⟨kk, h⟩ := h
 refine C.loop (fun kk a w => ∃ (l4 : List Bool) (l4A : Option Addr) (l4C : Nat) (l5 : List Int) (l5A : Option Addr) (l5C : Nat) (l6 : List (List Cell)) (l6A : Option Addr) (l6C : Nat) (l6as : List (Option Addr × Nat)), iterF (fun again (s : List Bool × List Int × List (List Cell)) => M_finder_tree_L1 f pins Q (fun l4 l5 l6 => again (l4, l5, l6)) s.1 s.2.1 s.2.2) kk (l4, l5, l6) ∧ FrOk 149 [(0, (pn fg 0)), (1, .slice pinsA pins.length pinsC), (6, .slice l4A l4.length l4C), (7, .slice l5A l5.length l5C), (8, .slice l6A l6.length l6C)] a ∧ Sat w0 none_ [hown 4 l4A l4C l4, hown 3 l5A l5C l5, hrows 22 55 l6A l6C l6as l6] w) kk ⟨((List.replicate f.no.length false).set x2.toNat true), A1, f.no.length, [y1], A2, 1, ([] : List (List Cell)), none, 0, ([] : List (Option Addr × Nat)), h, (((((hf.nil.cons (hf.get 8 _ rfl)).cons (hf.get 7 _ rfl)).cons (hf.get 6 _ rfl)).cons (hf.get 1 _ rfl)).cons (hf.get 0 _ rfl)), hs⟩ (fun a w ⟨_, _, _, _, _, _, _, _, _, _, h, _, _⟩ => h) ?_
 clear h hf hs
 rintro kk a w ⟨l4, l4A, l4C, l5, l5A, l5C, l6, l6A, l6C, l6as, h, hf, hs⟩
 obtain ⟨again1, hagain1⟩ : ∃ X : List Bool → List Int → List (List Cell) → Prop, X = (fun l4 l5 l6 => iterF (fun again (s : List Bool × List Int × List (List Cell)) => M_finder_tree_L1 f pins Q (fun l4 l5 l6 => again (l4, l5, l6)) s.1 s.2.1 s.2.2) kk (l4, l5, l6)) := ⟨_, rfl⟩
 replace h : M_finder_tree_L1 f pins Q again1 l4 l5 l6 := by rw [hagain1]; exact h
 unfold M_finder_tree_L1 at h
 refine wp_block (X.l (S.q hf hs ((pn fg 0)) rfl fun a hf => S.q hf hs (.slice l5A l5.length l5C) rfl fun a hf => S.call hf rfl rfl rfl (call_fn (vs := [(pn fg 0), .slice l5A l5.length l5C]) rfl rfl rfl call101) (R_finder_from f l5 _ f_g_BlockedA f_g_BlockedC ((Ag.args _ _ _).view hv_f_g_Blocked hs) f_noA f_noC ((Ag.args _ _ _).view hv_f_no hs) fg ((Ag.args _ _ _).elem hb_f hs) l5A l5C (hs.ownView 1 rfl) _ h) (fun v a w' hf hr => ?_)))
 obtain ⟨y2, y2A, y2C, rfl, h2, hs2⟩ := hr
 replace h := h2; replace hs := hs.call hs2; clear h2 hs2
 refine S.q hf hs (.slice y2A y2.length y2C) rfl fun a hf => X.n (X.l (S.q hf hs (iv (-1)) rfl fun a hf => S.q hf hs (iv 0) rfl fun a hf => S.q hf hs (.bool false) rfl fun a hf => X.n (wp_seq (X.l (S.q hf hs (.slice pinsA pins.length pinsC) rfl fun a hf => S.v hf hs (iv (pins.length : Int)) rfl (V.len rfl rfl runUnderlying22) fun a hf => S.q hf hs (iv 0) rfl fun a hf => X.n (wp_block ?_))))))
 have hlenk2 := hv_pins.len64
 refine C.range (fun (ll : List Cell) a w => ∃ (k2 : Nat) (n3 : Int) (n4 : Int) (c2 : Bool), pins.drop k2 = ll ∧ k2 + ll.length = pins.length ∧ forIn' (fun k x (s : Int × Int × Bool) next => M_finder_tree_L2 f l4 y2 k x s.1 s.2.1 s.2.2 (fun n3 n4 c2 => next (n3, n4, c2))) (fun (s : Int × Int × Bool) => (fun (n3 : Int) (n4 : Int) (c2 : Bool) => cnd (!c2) (Q l6 true) (cnd (decide (n3 < 0)) (Q ([] : List (List Cell)) false) (M_finder_to f n3 fun y3 => M_sort_int l5 fun z1 => forIn' (fun k x (s : Int) next => M_finder_tree_L3 y3 k x s (fun n6 => next n6)) (fun (s : Int) => (fun (n6 : Int) => M_finder_way f n6 y3 fun y4 => forIn' (fun k x (s : List Int × List Bool) next => M_finder_tree_L4 k x s.1 s.2 (fun l9 l10 => next (l9, l10))) (fun (s : List Int × List Bool) => (fun (l9 : List Int) (l10 : List Bool) => M_finder_cells f y4 fun y5 => must (room (l6 ++ [y5]).length 24) (again1 l10 l9 (l6 ++ [y5]))) s.1 s.2) y4 0 (z1, l4)) s) z1 0 (-1)))) s.1 s.2.1 s.2.2) ll k2 (n3, n4, c2) ∧ FrOk 149 [(49, iv (k2 : Int)), (0, (pn fg 0)), (1, .slice pinsA pins.length pinsC), (6, .slice l4A l4.length l4C), (7, .slice l5A l5.length l5C), (8, .slice l6A l6.length l6C), (9, .slice y2A y2.length y2C), (10, iv n3), (11, iv n4), (12, .bool c2), (47, .slice pinsA pins.length pinsC), (48, iv (pins.length : Int))] a ∧ Sat w0 none_ [hown 3 y2A y2C y2, hown 4 l4A l4C l4, hown 3 l5A l5C l5, hrows 22 55 l6A l6C l6as l6] w) pins ⟨0, (-1), 0, false, rfl, Nat.zero_add _, h, ((((((((((((hf.nil.cons (hf.get 48 _ rfl)).cons (hf.get 47 _ rfl)).cons (hf.get 12 _ rfl)).cons (hf.get 11 _ rfl)).cons (hf.get 10 _ rfl)).cons (hf.get 9 _ rfl)).cons (hf.get 8 _ rfl)).cons (hf.get 7 _ rfl)).cons (hf.get 6 _ rfl)).cons (hf.get 1 _ rfl)).cons (hf.get 0 _ rfl)).cons (hf.get 49 _ rfl)), hs⟩ ?_
 clear h hf hs
 rintro llk2 a w ⟨k2, n3, n4, c2, hlk2, hkk2, h, hf, hs⟩
 cases llk2 with
 | nil =>
  have hc := range_done hkk2
  replace h : (fun (n3 : Int) (n4 : Int) (c2 : Bool) => cnd (!c2) (Q l6 true) (cnd (decide (n3 < 0)) (Q ([] : List (List Cell)) false) (M_finder_to f n3 fun y3 => M_sort_int l5 fun z1 => forIn' (fun k x (s : Int) next => M_finder_tree_L3 y3 k x s (fun n6 => next n6)) (fun (s : Int) => (fun (n6 : Int) => M_finder_way f n6 y3 fun y4 => forIn' (fun k x (s : List Int × List Bool) next => M_finder_tree_L4 k x s.1 s.2 (fun l9 l10 => next (l9, l10))) (fun (s : List Int × List Bool) => (fun (l9 : List Int) (l10 : List Bool) => M_finder_cells f y4 fun y5 => must (room (l6 ++ [y5]).length 24) (again1 l10 l9 (l6 ++ [y5]))) s.1 s.2) y4 0 (z1, l4)) s) z1 0 (-1)))) n3 n4 c2 := h
  refine X.l (S.v hf hs (.bool false) rfl (V.cmp false rfl rfl rfl rfl hc) fun a hf => X.n (wp_seq (C.no hf rfl (wp_exit (X.then_exit (X.then_exit (X.blk_exit (X.then_ (wp_seq (X.l (S.q hf hs (.bool c2) rfl fun a hf => S.q hf hs (.bool (!c2)) rfl fun a hf => X.n ?_)))))))))))
  refine C.cond hf (b := !c2) rfl (fun hc => ?_) (fun hc => ?_)
  ·replace h := h.1 hc
   refine X.l (S.q hf hs (.slice l6A l6.length l6C) rfl fun a hf => S.q hf hs (.slice l6A l6.length l6C) rfl fun a hf => S.q hf hs (.bool true) rfl fun a hf => X.n (wp_ret (X.then_ret (X.blk_ret (X.then_ret (X.blk_ret ?_))))))
   replace hs := hs.front 3 rfl
   replace hs := hs.take 1
   exact L.ret hf (run_results2 results81 (ResIs.tmp hf rfl) (ResIs.tmp hf rfl)) ⟨l6, l6A, l6C, l6as, true, rfl, h, hs⟩
  ·replace h := h.2 hc
   refine wp_skip (X.then_ (wp_seq (X.l (S.q hf hs (iv n3) rfl fun a hf => S.q hf hs (.bool (decide (n3 < 0))) rfl fun a hf => X.n ?_))))
   refine C.cond hf (b := decide (n3 < 0)) rfl (fun hc => ?_) (fun hc => ?_)
   ·replace h := h.1 hc
    refine X.l (S.q hf hs (.slice none 0 0) rfl fun a hf => S.q hf hs (.bool false) rfl fun a hf => X.n (wp_ret (X.then_ret (X.blk_ret (X.then_ret (X.blk_ret ?_))))))
    replace hs := hs.nilRows (α := (List Cell)) 22 55
    replace hs := hs.take 1
    exact L.ret hf (run_results2 results81 (ResIs.tmp hf rfl) (ResIs.tmp hf rfl)) ⟨([] : List (List Cell)), none, 0, [], false, rfl, h, hs⟩
   ·replace h := h.2 hc
    refine wp_skip (X.then_ (X.l (S.q hf hs ((pn fg 0)) rfl fun a hf => S.q hf hs (iv n3) rfl fun a hf => S.call hf rfl rfl rfl (call_fn (vs := [(pn fg 0), iv n3]) rfl rfl rfl call79) (R_finder_to f n3 _ f_g_BlockedA f_g_BlockedC ((Ag.args _ _ _).view hv_f_g_Blocked hs) f_noA f_noC ((Ag.args _ _ _).view hv_f_no hs) fg ((Ag.args _ _ _).elem hb_f hs) _ h) (fun v a w' hf hr => ?_))))
    obtain ⟨y3, y3A, y3C, rfl, h2, hs2⟩ := hr
    replace h := h2; replace hs := hs.call hs2; clear h2 hs2
    refine S.q hf hs (.slice y3A y3.length y3C) rfl fun a hf => X.n (X.l (S.q hf hs (.slice l5A l5.length l5C) rfl fun a hf => ?_))
    replace hs := hs.front 3 rfl
    obtain ⟨F1, hsF, hback, hold, hrest⟩ := Sat.callOwns [hown 3 l5A l5C l5] (σ := [hown 3 y3A y3C y3, hown 3 y2A y2C y2, hown 4 l4A l4C l4, hrows 22 55 l6A l6C l6as l6]) hs
    refine S.call hf rfl rfl rfl (call_fn (vs := [.slice l5A l5.length l5C]) rfl rfl rfl call103) (R_sort_int l5 _ _ l5A l5C hsF _ h) (fun v a w' hf hr => ?_)
    obtain ⟨z1, hl_z1, rfl, h2, hs2⟩ := hr
    replace h := h2; replace hs := hback _ _ hs2; clear h2 hs2 hback hold hrest hsF
    replace hf := hf.tell 7 (v := .slice l5A z1.length l5C) ((hf.get 7 (.slice l5A l5.length l5C) rfl).trans (congrArg (fun n => Value.slice l5A n l5C) hl_z1.symm))
    replace hf := hf.tell 90 (v := .slice l5A z1.length l5C) ((hf.get 90 (.slice l5A l5.length l5C) rfl).trans (congrArg (fun n => Value.slice l5A n l5C) hl_z1.symm))
    refine X.n (X.l (S.q hf hs (iv (-1)) rfl fun a hf => X.n (wp_seq (X.l (S.q hf hs (.slice l5A z1.length l5C) rfl fun a hf => S.v hf hs (iv (z1.length : Int)) rfl (V.len rfl rfl runUnderlying72) fun a hf => S.q hf hs (iv 0) rfl fun a hf => X.n (wp_block ?_))))))
    have hlenk3 := (hs.ownView 0 rfl).len64
    refine C.range (fun (ll : List Int) a w => ∃ (k3 : Nat) (n6 : Int), z1.drop k3 = ll ∧ k3 + ll.length = z1.length ∧ forIn' (fun k x (s : Int) next => M_finder_tree_L3 y3 k x s (fun n6 => next n6)) (fun (s : Int) => (fun (n6 : Int) => M_finder_way f n6 y3 fun y4 => forIn' (fun k x (s : List Int × List Bool) next => M_finder_tree_L4 k x s.1 s.2 (fun l9 l10 => next (l9, l10))) (fun (s : List Int × List Bool) => (fun (l9 : List Int) (l10 : List Bool) => M_finder_cells f y4 fun y5 => must (room (l6 ++ [y5]).length 24) (again1 l10 l9 (l6 ++ [y5]))) s.1 s.2) y4 0 (z1, l4)) s) ll k3 n6 ∧ FrOk 149 [(94, iv (k3 : Int)), (0, (pn fg 0)), (1, .slice pinsA pins.length pinsC), (6, .slice l4A l4.length l4C), (7, .slice l5A z1.length l5C), (8, .slice l6A l6.length l6C), (9, .slice y3A y3.length y3C), (17, iv n6), (92, .slice l5A z1.length l5C), (93, iv (z1.length : Int))] a ∧ Sat w0 none_ [hown 3 l5A l5C z1, hown 3 y3A y3C y3, hown 3 y2A y2C y2, hown 4 l4A l4C l4, hrows 22 55 l6A l6C l6as l6] w) z1 ⟨0, (-1), rfl, Nat.zero_add _, h, ((((((((((hf.nil.cons (hf.get 93 _ rfl)).cons (hf.get 92 _ rfl)).cons (hf.get 17 _ rfl)).cons (hf.get 9 _ rfl)).cons (hf.get 8 _ rfl)).cons (hf.get 7 _ rfl)).cons (hf.get 6 _ rfl)).cons (hf.get 1 _ rfl)).cons (hf.get 0 _ rfl)).cons (hf.get 94 _ rfl)), hs⟩ ?_
    clear h hf hs
    rintro llk3 a w ⟨k3, n6, hlk3, hkk3, h, hf, hs⟩
    cases llk3 with
    | nil =>
     have hc := range_done hkk3
     replace h : (fun (n6 : Int) => M_finder_way f n6 y3 fun y4 => forIn' (fun k x (s : List Int × List Bool) next => M_finder_tree_L4 k x s.1 s.2 (fun l9 l10 => next (l9, l10))) (fun (s : List Int × List Bool) => (fun (l9 : List Int) (l10 : List Bool) => M_finder_cells f y4 fun y5 => must (room (l6 ++ [y5]).length 24) (again1 l10 l9 (l6 ++ [y5]))) s.1 s.2) y4 0 (z1, l4)) n6 := h
     refine X.l (S.v hf hs (.bool false) rfl (V.cmp false rfl rfl rfl rfl hc) fun a hf => X.n (wp_seq (C.no hf rfl (wp_exit (X.then_exit (X.then_exit (X.blk_exit (X.then_ (X.l (S.q hf hs ((pn fg 0)) rfl fun a hf => S.q hf hs (iv n6) rfl fun a hf => S.q hf hs (.slice y3A y3.length y3C) rfl fun a hf => S.call hf rfl rfl rfl (call_fn (vs := [(pn fg 0), iv n6, .slice y3A y3.length y3C]) rfl rfl rfl call104) (R_finder_way f n6 y3 _ f_g_BlockedA f_g_BlockedC ((Ag.args _ _ _).view hv_f_g_Blocked hs) f_noA f_noC ((Ag.args _ _ _).view hv_f_no hs) fg ((Ag.args _ _ _).elem hb_f hs) y3A y3C (hs.ownView 1 rfl) _ h) (fun v a w' hf hr => ?_)))))))))))
     obtain ⟨y4, y4A, y4C, rfl, h2, hs2⟩ := hr
     replace h := h2; replace hs := hs.call hs2; clear h2 hs2
     refine S.q hf hs (.slice y4A y4.length y4C) rfl fun a hf => X.n (wp_seq (X.l (S.q hf hs (.slice y4A y4.length y4C) rfl fun a hf => S.v hf hs (iv (y4.length : Int)) rfl (V.len rfl rfl runUnderlying72) fun a hf => S.q hf hs (iv 0) rfl fun a hf => X.n (wp_block ?_))))
     have hlenk4 := (hs.ownView 0 rfl).len64
     refine C.range (fun (ll : List Int) a w => ∃ (k4 : Nat) (l9 : List Int) (l9A : Option Addr) (l9C : Nat) (l10 : List Bool) (l10A : Option Addr) (l10C : Nat), y4.drop k4 = ll ∧ k4 + ll.length = y4.length ∧ forIn' (fun k x (s : List Int × List Bool) next => M_finder_tree_L4 k x s.1 s.2 (fun l9 l10 => next (l9, l10))) (fun (s : List Int × List Bool) => (fun (l9 : List Int) (l10 : List Bool) => M_finder_cells f y4 fun y5 => must (room (l6 ++ [y5]).length 24) (again1 l10 l9 (l6 ++ [y5]))) s.1 s.2) ll k4 (l9, l10) ∧ FrOk 149 [(126, iv (k4 : Int)), (0, (pn fg 0)), (1, .slice pinsA pins.length pinsC), (6, .slice l10A l10.length l10C), (7, .slice l9A l9.length l9C), (8, .slice l6A l6.length l6C), (21, .slice y4A y4.length y4C), (124, .slice y4A y4.length y4C), (125, iv (y4.length : Int))] a ∧ Sat w0 none_ [hown 3 y4A y4C y4, hown 3 l9A l9C l9, hown 3 y3A y3C y3, hown 3 y2A y2C y2, hown 4 l10A l10C l10, hrows 22 55 l6A l6C l6as l6] w) y4 ⟨0, z1, l5A, l5C, l4, l4A, l4C, rfl, Nat.zero_add _, h, (((((((((hf.nil.cons (hf.get 125 _ rfl)).cons (hf.get 124 _ rfl)).cons (hf.get 21 _ rfl)).cons (hf.get 8 _ rfl)).cons (hf.get 7 _ rfl)).cons (hf.get 6 _ rfl)).cons (hf.get 1 _ rfl)).cons (hf.get 0 _ rfl)).cons (hf.get 126 _ rfl)), hs⟩ ?_
     clear h hf hs
     rintro llk4 a w ⟨k4, l9, l9A, l9C, l10, l10A, l10C, hlk4, hkk4, h, hf, hs⟩
     cases llk4 with
     | nil =>
      have hc := range_done hkk4
      replace h : (fun (l9 : List Int) (l10 : List Bool) => M_finder_cells f y4 fun y5 => must (room (l6 ++ [y5]).length 24) (again1 l10 l9 (l6 ++ [y5]))) l9 l10 := h
      refine X.l (S.v hf hs (.bool false) rfl (V.cmp false rfl rfl rfl rfl hc) fun a hf => X.n (wp_seq (C.no hf rfl (wp_exit (X.then_exit (X.then_exit (X.blk_exit (X.then_ (R.list (S.q hf hs (.slice l6A l6.length l6C) rfl fun a hf => S.q hf hs ((pn fg 0)) rfl fun a hf => S.q hf hs (.slice y4A y4.length y4C) rfl fun a hf => S.call hf rfl rfl rfl (call_fn (vs := [(pn fg 0), .slice y4A y4.length y4C]) rfl rfl rfl call105) (R_finder_cells f y4 _ f_g_BlockedA f_g_BlockedC ((Ag.args _ _ _).view hv_f_g_Blocked hs) f_noA f_noC ((Ag.args _ _ _).view hv_f_no hs) fg ((Ag.args _ _ _).elem hb_f hs) y4A y4C (hs.ownView 0 rfl) _ h) (fun v a w' hf hr => ?_)))))))))))
      obtain ⟨y5, y5A, y5C, rfl, h2, hs2⟩ := hr
      replace h := h2; replace hs := hs.call hs2; clear h2 hs2
      refine S.build1 hf hs rfl rfl rfl (α := Sl) (⟨y5A, y5.length, y5C⟩ : Sl) rfl rfl rfl runUnderlying45 sizeOf22 zeroValue22 rfl (by decide) (fun A3 a w hf hs => ?_)
      replace hs := hs.front 1 rfl
      obtain ⟨hroom, h⟩ := h
      refine S.appendRow 6 hf hs rfl rfl rfl y5 rfl rfl rfl rfl rfl underlying45 info22 rfl hroom ((hs.ownView 1 rfl).some_ (i := 0) (by simp)) (hs.ownView 1 rfl) (fun A4 C1 a w hf hs => ?_)
      replace hs := hs.drop
      have hx1 : (l6 ++ [y5])[l6.length]? = some y5 := List.getElem?_concat_length
      have hr1 : (l6as ++ [(y5A, y5C)])[l6.length]? = some (y5A, y5C) := rows_last (hs.rowsLen 5 rfl)
      refine S.q hf hs (.slice A4 (l6 ++ [y5]).length C1) rfl fun a hf => R.nil (X.blk (X.then_ ?_))
      replace hs := hs.front 5 rfl
      replace hs := hs.front 2 rfl
      replace hs := hs.front 5 rfl
      replace hs := hs.take 3
      exact ⟨l10, l10A, l10C, l9, l9A, l9C, (l6 ++ [y5]), A4, C1, (l6as ++ [(y5A, y5C)]), (by rw [hagain1] at h; exact h), (((((hf.nil.cons (hf.get 8 _ rfl)).cons (hf.get 7 _ rfl)).cons (hf.get 6 _ rfl)).cons (hf.get 1 _ rfl)).cons (hf.get 0 _ rfl)), hs⟩
     | cons xk4 llk4 =>
      have hltk4 := range_lt hkk4; have hc := range_go hkk4; have hxk4 := range_get hlk4
      obtain ⟨next4, hnext4⟩ : ∃ X : List Int → List Bool → Prop, X = (fun l9 l10 => forIn' (fun k x (s : List Int × List Bool) next => M_finder_tree_L4 k x s.1 s.2 (fun l9 l10 => next (l9, l10))) (fun (s : List Int × List Bool) => (fun (l9 : List Int) (l10 : List Bool) => M_finder_cells f y4 fun y5 => must (room (l6 ++ [y5]).length 24) (again1 l10 l9 (l6 ++ [y5]))) s.1 s.2) llk4 (k4 + 1) (l9, l10)) := ⟨_, rfl⟩
      replace h : M_finder_tree_L4 k4 xk4 l9 l10 next4 := by rw [hnext4]; exact h
      unfold M_finder_tree_L4 at h
      refine X.l (S.v hf hs (.bool true) rfl (V.cmp true rfl rfl rfl rfl hc) fun a hf => X.n (wp_seq (C.yes hf rfl (wp_skip (X.then_ (wp_seq (wp_block (X.l (S.v hf hs (elemPtr y4A (k4 * 1)) rfl (V.index rfl rfl rfl runUnderlying72 sizeOf3 (hs.ownSome 0 rfl (lt_of_get hxk4)) (Int.natCast_nonneg _) (lt_of_get hxk4) rfl) fun a hf => S.v hf hs (iv xk4) rfl (V.loadOwn (off := 0) 0 rfl hxk4 rfl rfl rfl isAgg3 sizeOf3 rfl rfl) fun a hf => S.q hf hs (iv xk4) rfl fun a hf => X.n (X.l (S.q hf hs (.slice l10A l10.length l10C) rfl fun a hf => S.q hf hs (iv xk4) rfl fun a hf => ?_)))))))))))
      obtain ⟨h0x4, x4, hx4, h⟩ := h
      refine S.v hf hs (elemPtr l10A (xk4.toNat * 1)) rfl (V.index rfl rfl rfl runUnderlying49 sizeOf4 (hs.ownSome 4 rfl (lt_of_get hx4)) h0x4 (lt_of_get hx4) rfl) fun a hf => S.v hf hs (.bool x4) rfl (V.loadOwn (off := 0) 4 rfl hx4 rfl rfl rfl isAgg4 sizeOf4 rfl rfl) fun a hf => S.q hf hs (.bool (!x4)) rfl fun a hf => X.n ?_
      refine C.cond hf (b := !x4) rfl (fun hc => ?_) (fun hc => ?_)
      ·replace h := h.1 hc
       refine X.l (S.q hf hs (.slice l10A l10.length l10C) rfl fun a hf => S.q hf hs (iv xk4) rfl fun a hf => S.v hf hs (elemPtr l10A (xk4.toNat * 1)) rfl (V.index rfl rfl rfl runUnderlying49 sizeOf4 (hs.ownSome 4 rfl (lt_of_get hx4)) h0x4 (lt_of_get hx4) rfl) fun a hf => S.storeOwn (off := 0) 4 hf hs rfl rfl true [.bool true] rfl hx4 rfl rfl rfl rfl rfl sizeOf4 rfl (by decide) rfl rfl (fun a w hf hs => ?_))
       replace hf := hf.tell 6 (v := .slice l10A (l10.set xk4.toNat true).length l10C) ((hf.get 6 (.slice l10A l10.length l10C) rfl).trans (congrArg (fun n => Value.slice l10A n l10C) List.length_set.symm))
       replace hf := hf.tell 130 (v := .slice l10A (l10.set xk4.toNat true).length l10C) ((hf.get 130 (.slice l10A l10.length l10C) rfl).trans (congrArg (fun n => Value.slice l10A n l10C) List.length_set.symm))
       replace hf := hf.tell 135 (v := .slice l10A (l10.set xk4.toNat true).length l10C) ((hf.get 135 (.slice l10A l10.length l10C) rfl).trans (congrArg (fun n => Value.slice l10A n l10C) List.length_set.symm))
       refine X.n (R.list (S.q hf hs (.slice l9A l9.length l9C) rfl fun a hf => S.q hf hs (iv xk4) rfl fun a hf => S.build1 hf hs rfl rfl rfl (α := Int) xk4 rfl rfl rfl runUnderlying72 sizeOf3 zeroValue3 rfl (by decide) (fun A5 a w hf hs => ?_)))
       obtain ⟨hroom, h⟩ := h
       refine S.appendCells 2 hf hs rfl rfl rfl rfl rfl rfl rfl underlying72 info3 rfl hroom ((hs.ownView 0 rfl).some_ (i := 0) (by simp)) (hs.ownView 0 rfl) (fun A6 C2 a w hf hs => ?_)
       replace hs := hs.drop
       refine S.q hf hs (.slice A6 (l9 ++ [xk4]).length C2) rfl fun a hf => R.nil (X.blk (X.then_ (R.list (S.v hf hs (iv ((k4 + 1 : Nat) : Int)) rfl (V.incr rfl rfl rfl hltk4 hlenk4) fun a hf => S.q hf hs (iv ((k4 + 1 : Nat) : Int)) rfl fun a hf => X.n ?_))))
       exact ⟨xk4, llk4, rfl, k4 + 1, (l9 ++ [xk4]), A6, C2, (l10.set xk4.toNat true), l10A, l10C, range_drop hlk4, range_len hkk4, (by rw [hnext4] at h; exact h), (((((((((hf.nil.cons (hf.get 125 _ rfl)).cons (hf.get 124 _ rfl)).cons (hf.get 21 _ rfl)).cons (hf.get 8 _ rfl)).cons (hf.get 7 _ rfl)).cons (hf.get 6 _ rfl)).cons (hf.get 1 _ rfl)).cons (hf.get 0 _ rfl)).cons (hf.get 126 _ rfl)), hs⟩
      ·replace h := h.2 hc
       refine wp_skip (X.blk (X.then_ (R.list (S.v hf hs (iv ((k4 + 1 : Nat) : Int)) rfl (V.incr rfl rfl rfl hltk4 hlenk4) fun a hf => S.q hf hs (iv ((k4 + 1 : Nat) : Int)) rfl fun a hf => X.n ?_))))
       exact ⟨xk4, llk4, rfl, k4 + 1, l9, l9A, l9C, l10, l10A, l10C, range_drop hlk4, range_len hkk4, (by rw [hnext4] at h; exact h), (((((((((hf.nil.cons (hf.get 125 _ rfl)).cons (hf.get 124 _ rfl)).cons (hf.get 21 _ rfl)).cons (hf.get 8 _ rfl)).cons (hf.get 7 _ rfl)).cons (hf.get 6 _ rfl)).cons (hf.get 1 _ rfl)).cons (hf.get 0 _ rfl)).cons (hf.get 126 _ rfl)), hs⟩
    | cons xk3 llk3 =>
     have hltk3 := range_lt hkk3; have hc := range_go hkk3; have hxk3 := range_get hlk3
     obtain ⟨next3, hnext3⟩ : ∃ X : Int → Prop, X = (fun n6 => forIn' (fun k x (s : Int) next => M_finder_tree_L3 y3 k x s (fun n6 => next n6)) (fun (s : Int) => (fun (n6 : Int) => M_finder_way f n6 y3 fun y4 => forIn' (fun k x (s : List Int × List Bool) next => M_finder_tree_L4 k x s.1 s.2 (fun l9 l10 => next (l9, l10))) (fun (s : List Int × List Bool) => (fun (l9 : List Int) (l10 : List Bool) => M_finder_cells f y4 fun y5 => must (room (l6 ++ [y5]).length 24) (again1 l10 l9 (l6 ++ [y5]))) s.1 s.2) y4 0 (z1, l4)) s) llk3 (k3 + 1) n6) := ⟨_, rfl⟩
     replace h : M_finder_tree_L3 y3 k3 xk3 n6 next3 := by rw [hnext3]; exact h
     unfold M_finder_tree_L3 at h
     refine X.l (S.v hf hs (.bool true) rfl (V.cmp true rfl rfl rfl rfl hc) fun a hf => X.n (wp_seq (C.yes hf rfl (wp_skip (X.then_ (wp_seq (wp_block (X.l (S.v hf hs (elemPtr l5A (k3 * 1)) rfl (V.index rfl rfl rfl runUnderlying72 sizeOf3 (hs.ownSome 0 rfl (lt_of_get hxk3)) (Int.natCast_nonneg _) (lt_of_get hxk3) rfl) fun a hf => S.v hf hs (iv xk3) rfl (V.loadOwn (off := 0) 0 rfl hxk3 rfl rfl rfl isAgg3 sizeOf3 rfl rfl) fun a hf => S.q hf hs (iv xk3) rfl fun a hf => X.n (X.l (S.q hf hs (.slice y3A y3.length y3C) rfl fun a hf => S.q hf hs (iv xk3) rfl fun a hf => S.q hf hs (iv (w64 (3 * xk3))) rfl fun a hf => ?_)))))))))))
     obtain ⟨h0x5, x5, hx5, h⟩ := h
     refine S.v hf hs (elemPtr y3A ((w64 (3 * xk3)).toNat * 1)) rfl (V.index rfl rfl rfl runUnderlying72 sizeOf3 (hs.ownSome 1 rfl (lt_of_get hx5)) h0x5 (lt_of_get hx5) rfl) fun a hf => S.v hf hs (iv x5) rfl (V.loadOwn (off := 0) 1 rfl hx5 rfl rfl rfl isAgg3 sizeOf3 rfl rfl) fun a hf => S.q hf hs (iv x5) rfl fun a hf => X.n (wp_seq ?_)
     refine C.cut (J := fun a w => ∃ (c3 : Bool), M_finder_tree_k5 xk3 n6 next3 c3 ∧ FrOk 149 [(0, (pn fg 0)), (1, .slice pinsA pins.length pinsC), (6, .slice l4A l4.length l4C), (7, .slice l5A z1.length l5C), (8, .slice l6A l6.length l6C), (9, .slice y3A y3.length y3C), (17, iv n6), (19, iv xk3), (92, .slice l5A z1.length l5C), (93, iv (z1.length : Int)), (94, iv (k3 : Int)), (117, .bool c3)] a ∧ Sat w0 none_ [hown 3 l5A l5C z1, hown 3 y3A y3C y3, hown 3 y2A y2C y2, hown 4 l4A l4C l4, hrows 22 55 l6A l6C l6as l6] w) ?_ ?_
     ·rintro a w ⟨c3, h, hf, hs⟩
      unfold M_finder_tree_k5 at h
      refine C.cond hf (b := c3) rfl (fun hc => ?_) (fun hc => ?_)
      ·replace h := h.1 hc
       refine R.list (S.q hf hs (iv xk3) rfl fun a hf => S.q hf hs (iv xk3) rfl fun a hf => R.nil (X.blk (X.then_ (R.list (S.v hf hs (iv ((k3 + 1 : Nat) : Int)) rfl (V.incr rfl rfl rfl hltk3 hlenk3) fun a hf => S.q hf hs (iv ((k3 + 1 : Nat) : Int)) rfl fun a hf => X.n ?_)))))
       exact ⟨xk3, llk3, rfl, k3 + 1, xk3, range_drop hlk3, range_len hkk3, (by rw [hnext3] at h; exact h), ((((((((((hf.nil.cons (hf.get 93 _ rfl)).cons (hf.get 92 _ rfl)).cons (hf.get 17 _ rfl)).cons (hf.get 9 _ rfl)).cons (hf.get 8 _ rfl)).cons (hf.get 7 _ rfl)).cons (hf.get 6 _ rfl)).cons (hf.get 1 _ rfl)).cons (hf.get 0 _ rfl)).cons (hf.get 94 _ rfl)), hs⟩
      ·replace h := h.2 hc
       refine wp_skip (X.blk (X.then_ (R.list (S.v hf hs (iv ((k3 + 1 : Nat) : Int)) rfl (V.incr rfl rfl rfl hltk3 hlenk3) fun a hf => S.q hf hs (iv ((k3 + 1 : Nat) : Int)) rfl fun a hf => X.n ?_))))
       exact ⟨xk3, llk3, rfl, k3 + 1, n6, range_drop hlk3, range_len hkk3, (by rw [hnext3] at h; exact h), ((((((((((hf.nil.cons (hf.get 93 _ rfl)).cons (hf.get 92 _ rfl)).cons (hf.get 17 _ rfl)).cons (hf.get 9 _ rfl)).cons (hf.get 8 _ rfl)).cons (hf.get 7 _ rfl)).cons (hf.get 6 _ rfl)).cons (hf.get 1 _ rfl)).cons (hf.get 0 _ rfl)).cons (hf.get 94 _ rfl)), hs⟩
     ·skip
      refine R.list (S.q hf hs (iv x5) rfl fun a hf => S.q hf hs (.bool (decide (x5 ≥ 0))) rfl fun a hf => ?_)
      refine S.split hf hs (b := decide (x5 ≥ 0)) rfl rfl rfl (V.pure rfl) (fun hc a hf => ?_) (fun hc a hf => ?_)
      ·replace h := h.1 hc
       refine S.q hf hs (iv n6) rfl fun a hf => S.q hf hs (.bool (decide (n6 < 0))) rfl fun a hf => ?_
       refine S.split hf hs (b := decide (n6 < 0)) rfl rfl rfl (V.pure rfl) (fun hc a hf => ?_) (fun hc a hf => ?_)
       ·replace h := h.1 hc
        refine S.k hf rfl fun a hf => S.k hf rfl fun a hf => S.k hf rfl fun a hf => S.k hf rfl fun a hf => S.k hf rfl fun a hf => S.k hf rfl fun a hf => S.k hf rfl fun a hf => S.q hf hs (.bool true) rfl fun a hf => S.q hf hs (.bool true) rfl fun a hf => X.n ?_
        exact ⟨true, h, ((((((((((((hf.nil.cons (hf.get 117 _ rfl)).cons (hf.get 94 _ rfl)).cons (hf.get 93 _ rfl)).cons (hf.get 92 _ rfl)).cons (hf.get 19 _ rfl)).cons (hf.get 17 _ rfl)).cons (hf.get 9 _ rfl)).cons (hf.get 8 _ rfl)).cons (hf.get 7 _ rfl)).cons (hf.get 6 _ rfl)).cons (hf.get 1 _ rfl)).cons (hf.get 0 _ rfl)), hs⟩
       ·replace h := h.2 hc
        refine S.q hf hs (iv x5) rfl fun a hf => S.q hf hs (.slice y3A y3.length y3C) rfl fun a hf => S.q hf hs (iv n6) rfl fun a hf => S.q hf hs (iv (w64 (3 * n6))) rfl fun a hf => ?_
        obtain ⟨h0x6, x6, hx6, h⟩ := h
        refine S.v hf hs (elemPtr y3A ((w64 (3 * n6)).toNat * 1)) rfl (V.index rfl rfl rfl runUnderlying72 sizeOf3 (hs.ownSome 1 rfl (lt_of_get hx6)) h0x6 (lt_of_get hx6) rfl) fun a hf => S.v hf hs (iv x6) rfl (V.loadOwn (off := 0) 1 rfl hx6 rfl rfl rfl isAgg3 sizeOf3 rfl rfl) fun a hf => S.q hf hs (.bool (decide (x5 < x6))) rfl fun a hf => S.q hf hs (.bool (decide (x5 < x6))) rfl fun a hf => S.q hf hs (.bool (decide (x5 < x6))) rfl fun a hf => X.n ?_
        exact ⟨(decide (x5 < x6)), h, ((((((((((((hf.nil.cons (hf.get 117 _ rfl)).cons (hf.get 94 _ rfl)).cons (hf.get 93 _ rfl)).cons (hf.get 92 _ rfl)).cons (hf.get 19 _ rfl)).cons (hf.get 17 _ rfl)).cons (hf.get 9 _ rfl)).cons (hf.get 8 _ rfl)).cons (hf.get 7 _ rfl)).cons (hf.get 6 _ rfl)).cons (hf.get 1 _ rfl)).cons (hf.get 0 _ rfl)), hs⟩
      ·replace h := h.2 hc
       refine S.k hf rfl fun a hf => S.k hf rfl fun a hf => S.k hf rfl fun a hf => S.k hf rfl fun a hf => S.k hf rfl fun a hf => S.k hf rfl fun a hf => S.k hf rfl fun a hf => S.k hf rfl fun a hf => S.k hf rfl fun a hf => S.k hf rfl fun a hf => S.k hf rfl fun a hf => S.q hf hs (.bool false) rfl fun a hf => ?_
       refine X.n ?_
       exact ⟨false, h, ((((((((((((hf.nil.cons (hf.get 117 _ rfl)).cons (hf.get 94 _ rfl)).cons (hf.get 93 _ rfl)).cons (hf.get 92 _ rfl)).cons (hf.get 19 _ rfl)).cons (hf.get 17 _ rfl)).cons (hf.get 9 _ rfl)).cons (hf.get 8 _ rfl)).cons (hf.get 7 _ rfl)).cons (hf.get 6 _ rfl)).cons (hf.get 1 _ rfl)).cons (hf.get 0 _ rfl)), hs⟩
 | cons xk2 llk2 =>
  have hltk2 := range_lt hkk2; have hc := range_go hkk2; have hxk2 := range_get hlk2
  obtain ⟨next2, hnext2⟩ : ∃ X : Int → Int → Bool → Prop, X = (fun n3 n4 c2 => forIn' (fun k x (s : Int × Int × Bool) next => M_finder_tree_L2 f l4 y2 k x s.1 s.2.1 s.2.2 (fun n3 n4 c2 => next (n3, n4, c2))) (fun (s : Int × Int × Bool) => (fun (n3 : Int) (n4 : Int) (c2 : Bool) => cnd (!c2) (Q l6 true) (cnd (decide (n3 < 0)) (Q ([] : List (List Cell)) false) (M_finder_to f n3 fun y3 => M_sort_int l5 fun z1 => forIn' (fun k x (s : Int) next => M_finder_tree_L3 y3 k x s (fun n6 => next n6)) (fun (s : Int) => (fun (n6 : Int) => M_finder_way f n6 y3 fun y4 => forIn' (fun k x (s : List Int × List Bool) next => M_finder_tree_L4 k x s.1 s.2 (fun l9 l10 => next (l9, l10))) (fun (s : List Int × List Bool) => (fun (l9 : List Int) (l10 : List Bool) => M_finder_cells f y4 fun y5 => must (room (l6 ++ [y5]).length 24) (again1 l10 l9 (l6 ++ [y5]))) s.1 s.2) y4 0 (z1, l4)) s) z1 0 (-1)))) s.1 s.2.1 s.2.2) llk2 (k2 + 1) (n3, n4, c2)) := ⟨_, rfl⟩
  replace h : M_finder_tree_L2 f l4 y2 k2 xk2 n3 n4 c2 next2 := by rw [hnext2]; exact h
  unfold M_finder_tree_L2 at h
  refine X.l (S.v hf hs (.bool true) rfl (V.cmp true rfl rfl rfl rfl hc) fun a hf => X.n (wp_seq (C.yes hf rfl (wp_skip (X.then_ (wp_seq (wp_block (X.l (S.v hf hs (elemPtr pinsA (k2 * 3)) rfl (V.index rfl rfl rfl runUnderlying22 sizeOf55 (hv_pins.some_ (lt_of_get hxk2)) (Int.natCast_nonneg _) (lt_of_get hxk2) rfl) fun a hf => S.v hf hs (.agg #[iv xk2.X, iv xk2.Y, iv xk2.Layer]) rfl (V.loadEl (off := 0) (Ag.args _ _ _) (hv_pins.flat hxk2) rfl rfl rfl isAgg55 sizeOf55 rfl rfl) fun a hf => S.alloc hf hs rfl rfl rfl [iv 0, iv 0, iv 0] rfl zeroValue55 rfl (fun g1 a w hf hs => S.storeBox 0 hf hs rfl rfl [iv xk2.X, iv xk2.Y, iv xk2.Layer] [iv xk2.X, iv xk2.Y, iv xk2.Layer] rfl rfl rfl rfl rfl sizeOf55 rfl rfl rfl rfl (fun a w hf hs => X.n (wp_seq (H.start (S := Sat w0 none_ [hbox g1 55 [iv xk2.X, iv xk2.Y, iv xk2.Layer], hown 3 y2A y2C y2, hown 4 l4A l4C l4, hown 3 l5A l5C l5, hrows 22 55 l6A l6C l6as l6]) mo ?_)))))))))))))
  replace hs := hs.drew
  refine H.v hf hs ((pn fg 0)) 0 rfl rfl (by kernel_rfl) (V.pure rfl) fun a hf => H.v hf hs ((pn fg 0)) 1 rfl rfl (by kernel_rfl) (V.pure rfl) fun a hf => H.v hf hs ((pn fg 0)) 2 rfl rfl (by kernel_rfl) (V.fieldBox rfl rfl runUnderlying120 rfl sizeOf24 rfl rfl) fun a hf => H.v hf hs (.agg #[iv f.g.W, iv f.g.H, iv f.g.Layers, .slice f_g_BlockedA f.g.Blocked.length f_g_BlockedC]) 3 rfl rfl (by kernel_rfl) (V.loadAt0 (off := 0) (Ag.args _ _ _) hb_f rfl rfl isAgg24 sizeOf24 rfl rfl) fun a hf => H.v hf hs (.agg #[iv xk2.X, iv xk2.Y, iv xk2.Layer]) 4 rfl rfl (by kernel_rfl) (V.loadBox 0 rfl rfl rfl isAgg55 sizeOf55 rfl rfl) fun a hf => H.one (i := 5) rfl (by kernel_rfl) (S.call hf rfl rfl rfl (call_fn (vs := [.agg #[iv f.g.W, iv f.g.H, iv f.g.Layers, .slice f_g_BlockedA f.g.Blocked.length f_g_BlockedC], .agg #[iv xk2.X, iv xk2.Y, iv xk2.Layer]]) rfl rfl rfl call32) (R_route_number f.g xk2 _ f_g_BlockedA f_g_BlockedC ((Ag.args _ _ _).view hv_f_g_Blocked hs) _ h) (fun v a w' hf hr => ?_))
  obtain ⟨y6, rfl, h2, hs2⟩ := hr
  replace h := h2; replace hs := hs.call hs2; clear h2 hs2
  refine X.n (⟨hs, (H.v hf hs (iv y6) 6 rfl rfl (by kernel_rfl) (V.pure rfl) fun a hf => H.done (by kernel_rfl) (X.then_ (wp_seq (X.l (S.q hf hs (.slice l4A l4.length l4C) rfl fun a hf => S.q hf hs (iv y6) rfl fun a hf => ?_)))))⟩)
  obtain ⟨h0x7, x7, hx7, h⟩ := h
  refine S.v hf hs (elemPtr l4A (y6.toNat * 1)) rfl (V.index rfl rfl rfl runUnderlying49 sizeOf4 (hs.ownSome 2 rfl (lt_of_get hx7)) h0x7 (lt_of_get hx7) rfl) fun a hf => S.v hf hs (.bool x7) rfl (V.loadOwn (off := 0) 2 rfl hx7 rfl rfl rfl isAgg4 sizeOf4 rfl rfl) fun a hf => X.n ?_
  refine C.cond hf (b := x7) rfl (fun hc => ?_) (fun hc => ?_)
  ·replace h := h.1 hc
   refine wp_exit (X.then_exit (X.blk_exit (X.then_ (R.list (S.v hf hs (iv ((k2 + 1 : Nat) : Int)) rfl (V.incr rfl rfl rfl hltk2 hlenk2) fun a hf => S.q hf hs (iv ((k2 + 1 : Nat) : Int)) rfl fun a hf => X.n ?_)))))
   exact ⟨xk2, llk2, rfl, k2 + 1, n3, n4, c2, range_drop hlk2, range_len hkk2, (by rw [hnext2] at h; exact h), ((((((((((((hf.nil.cons (hf.get 48 _ rfl)).cons (hf.get 47 _ rfl)).cons (hf.get 12 _ rfl)).cons (hf.get 11 _ rfl)).cons (hf.get 10 _ rfl)).cons (hf.get 9 _ rfl)).cons (hf.get 8 _ rfl)).cons (hf.get 7 _ rfl)).cons (hf.get 6 _ rfl)).cons (hf.get 1 _ rfl)).cons (hf.get 0 _ rfl)).cons (hf.get 49 _ rfl)), hs.drop⟩
  ·replace h := h.2 hc
   refine wp_skip (X.then_ (X.l (S.q hf hs (.bool true) rfl fun a hf => X.n (X.l (S.q hf hs (.slice y2A y2.length y2C) rfl fun a hf => S.q hf hs (iv y6) rfl fun a hf => S.call hf rfl rfl rfl (call_fn (vs := [.slice y2A y2.length y2C, iv y6]) rfl rfl rfl call102) (R_keys_least y2 y6 _ y2A y2C (hs.ownView 1 rfl) _ h) (fun v a w' hf hr => ?_))))))
   obtain ⟨y7, rfl, h2, hs2⟩ := hr
   replace h := h2; replace hs := hs.call hs2; clear h2 hs2
   refine S.q hf hs (iv y7) rfl fun a hf => X.n (wp_seq ?_)
   refine C.cut (J := fun a w => ∃ (c4 : Bool), M_finder_tree_k6 n3 n4 next2 y6 y7 c4 ∧ FrOk 149 [(0, (pn fg 0)), (1, .slice pinsA pins.length pinsC), (6, .slice l4A l4.length l4C), (7, .slice l5A l5.length l5C), (8, .slice l6A l6.length l6C), (9, .slice y2A y2.length y2C), (10, iv n3), (11, iv n4), (12, .bool true), (15, iv y6), (16, iv y7), (47, .slice pinsA pins.length pinsC), (48, iv (pins.length : Int)), (49, iv (k2 : Int)), (77, .bool c4)] a ∧ Sat w0 none_ [hbox g1 55 [iv xk2.X, iv xk2.Y, iv xk2.Layer], hown 3 y2A y2C y2, hown 4 l4A l4C l4, hown 3 l5A l5C l5, hrows 22 55 l6A l6C l6as l6] w) ?_ ?_
   ·rintro a w ⟨c4, h, hf, hs⟩
    unfold M_finder_tree_k6 at h
    refine C.cond hf (b := c4) rfl (fun hc => ?_) (fun hc => ?_)
    ·replace h := h.1 hc
     refine R.list (S.q hf hs (iv y6) rfl fun a hf => S.q hf hs (iv y7) rfl fun a hf => S.v hf hs (iv (w64 (y7.tdiv 1048576))) rfl (V.quo rfl rfl rfl (by decide)) fun a hf => S.q hf hs (iv y6) rfl fun a hf => S.q hf hs (iv (w64 (y7.tdiv 1048576))) rfl fun a hf => R.nil (X.blk (X.then_ (R.list (S.v hf hs (iv ((k2 + 1 : Nat) : Int)) rfl (V.incr rfl rfl rfl hltk2 hlenk2) fun a hf => S.q hf hs (iv ((k2 + 1 : Nat) : Int)) rfl fun a hf => X.n ?_)))))
     exact ⟨xk2, llk2, rfl, k2 + 1, y6, (w64 (y7.tdiv 1048576)), true, range_drop hlk2, range_len hkk2, (by rw [hnext2] at h; exact h), ((((((((((((hf.nil.cons (hf.get 48 _ rfl)).cons (hf.get 47 _ rfl)).cons (hf.get 12 _ rfl)).cons (hf.get 11 _ rfl)).cons (hf.get 10 _ rfl)).cons (hf.get 9 _ rfl)).cons (hf.get 8 _ rfl)).cons (hf.get 7 _ rfl)).cons (hf.get 6 _ rfl)).cons (hf.get 1 _ rfl)).cons (hf.get 0 _ rfl)).cons (hf.get 49 _ rfl)), hs.drop⟩
    ·replace h := h.2 hc
     refine wp_skip (X.blk (X.then_ (R.list (S.v hf hs (iv ((k2 + 1 : Nat) : Int)) rfl (V.incr rfl rfl rfl hltk2 hlenk2) fun a hf => S.q hf hs (iv ((k2 + 1 : Nat) : Int)) rfl fun a hf => X.n ?_))))
     exact ⟨xk2, llk2, rfl, k2 + 1, n3, n4, true, range_drop hlk2, range_len hkk2, (by rw [hnext2] at h; exact h), ((((((((((((hf.nil.cons (hf.get 48 _ rfl)).cons (hf.get 47 _ rfl)).cons (hf.get 12 _ rfl)).cons (hf.get 11 _ rfl)).cons (hf.get 10 _ rfl)).cons (hf.get 9 _ rfl)).cons (hf.get 8 _ rfl)).cons (hf.get 7 _ rfl)).cons (hf.get 6 _ rfl)).cons (hf.get 1 _ rfl)).cons (hf.get 0 _ rfl)).cons (hf.get 49 _ rfl)), hs.drop⟩
   ·skip
    refine R.list (S.q hf hs (iv y7) rfl fun a hf => S.q hf hs (.bool (decide (y7 ≥ 0))) rfl fun a hf => ?_)
    refine S.split hf hs (b := decide (y7 ≥ 0)) rfl rfl rfl (V.pure rfl) (fun hc a hf => ?_) (fun hc a hf => ?_)
    ·replace h := h.1 hc
     refine S.q hf hs (iv n3) rfl fun a hf => S.q hf hs (.bool (decide (n3 < 0))) rfl fun a hf => ?_
     refine S.split hf hs (b := decide (n3 < 0)) rfl rfl rfl (V.pure rfl) (fun hc a hf => ?_) (fun hc a hf => ?_)
     ·replace h := h.1 hc
      refine S.k hf rfl fun a hf => S.k hf rfl fun a hf => S.k hf rfl fun a hf => S.k hf rfl fun a hf => S.q hf hs (.bool true) rfl fun a hf => S.q hf hs (.bool true) rfl fun a hf => X.n ?_
      exact ⟨true, h, (((((((((((((((hf.nil.cons (hf.get 77 _ rfl)).cons (hf.get 49 _ rfl)).cons (hf.get 48 _ rfl)).cons (hf.get 47 _ rfl)).cons (hf.get 16 _ rfl)).cons (hf.get 15 _ rfl)).cons (hf.get 12 _ rfl)).cons (hf.get 11 _ rfl)).cons (hf.get 10 _ rfl)).cons (hf.get 9 _ rfl)).cons (hf.get 8 _ rfl)).cons (hf.get 7 _ rfl)).cons (hf.get 6 _ rfl)).cons (hf.get 1 _ rfl)).cons (hf.get 0 _ rfl)), hs⟩
     ·replace h := h.2 hc
      refine S.q hf hs (iv y7) rfl fun a hf => S.v hf hs (iv (w64 (y7.tdiv 1048576))) rfl (V.quo rfl rfl rfl (by decide)) fun a hf => S.q hf hs (iv n4) rfl fun a hf => S.q hf hs (.bool (decide (w64 (y7.tdiv 1048576) < n4))) rfl fun a hf => S.q hf hs (.bool (decide (w64 (y7.tdiv 1048576) < n4))) rfl fun a hf => S.q hf hs (.bool (decide (w64 (y7.tdiv 1048576) < n4))) rfl fun a hf => X.n ?_
      exact ⟨(decide (w64 (y7.tdiv 1048576) < n4)), h, (((((((((((((((hf.nil.cons (hf.get 77 _ rfl)).cons (hf.get 49 _ rfl)).cons (hf.get 48 _ rfl)).cons (hf.get 47 _ rfl)).cons (hf.get 16 _ rfl)).cons (hf.get 15 _ rfl)).cons (hf.get 12 _ rfl)).cons (hf.get 11 _ rfl)).cons (hf.get 10 _ rfl)).cons (hf.get 9 _ rfl)).cons (hf.get 8 _ rfl)).cons (hf.get 7 _ rfl)).cons (hf.get 6 _ rfl)).cons (hf.get 1 _ rfl)).cons (hf.get 0 _ rfl)), hs⟩
    ·replace h := h.2 hc
     refine S.k hf rfl fun a hf => S.k hf rfl fun a hf => S.k hf rfl fun a hf => S.k hf rfl fun a hf => S.k hf rfl fun a hf => S.k hf rfl fun a hf => S.k hf rfl fun a hf => S.k hf rfl fun a hf => S.q hf hs (.bool false) rfl fun a hf => X.n ?_
     exact ⟨false, h, (((((((((((((((hf.nil.cons (hf.get 77 _ rfl)).cons (hf.get 49 _ rfl)).cons (hf.get 48 _ rfl)).cons (hf.get 47 _ rfl)).cons (hf.get 16 _ rfl)).cons (hf.get 15 _ rfl)).cons (hf.get 12 _ rfl)).cons (hf.get 11 _ rfl)).cons (hf.get 10 _ rfl)).cons (hf.get 9 _ rfl)).cons (hf.get 8 _ rfl)).cons (hf.get 7 _ rfl)).cons (hf.get 6 _ rfl)).cons (hf.get 1 _ rfl)).cons (hf.get 0 _ rfl)), hs⟩

-- no etchhouse/route.Tree
end Go.Proofs.YtihjaehkdgdenaaGreatDoor
