/- Chapter texts of ours, as far as the claim needs them. -/
import Derived.Test.YtcmlcgjjkccaeaaDoorDoorA
namespace Go.Proofs.YtcmlcgjjkccaeaaDoor
open Go Go.RowKit
set_option linter.unusedVariables false
set_option linter.unusedSimpArgs false
set_option linter.unusedVariables false
def M_clone_bool (s_ : (List Bool)) (Q : (List Bool) → Prop) : Prop :=
  nilq s_ fun b1 => cnd b1 (Q ([] : List Bool)) (must (room (([] : List Bool) ++ s_).length 1) (Q (([] : List Bool) ++ s_)))
set_option maxHeartbeats 1000000 in
theorem R_clone_bool (s_ : (List Bool)) (w0 : World) (s_A : Option Addr) (s_C : Nat) (hv_s_ : View w0 (old w0 none_) s_A s_C s_) (Q : (List Bool) → Prop) (h : M_clone_bool s_ Q) :
  Ret Tryd.prog 80 #[.slice s_A s_.length s_C] w0 fun v w' => ∃ (r0 : (List Bool)) (r0A : Option Addr) (r0C : Nat), v = .slice r0A r0.length r0C ∧ Q r0 ∧ Sat w0 none_ [hown 4 r0A r0C r0] w' := by
 refine fn_enter Tryd.func80 rfl Tryd.ntmps80 rfl (fs := [(0, .slice s_A s_.length s_C)]) rfl (fun a hf => ?_)
 have hs := Sat.start w0 none_
 unfold M_clone_bool at h
 refine wp_seq (R.list ?_)
 refine S.p hf hs (.slice none 0 0) rfl rfl fun a hf => ?_
 refine R.nil (X.then_ (wp_seq (wp_seq (R.list ?_))))
 refine S.p hf hs (.slice s_A s_.length s_C) rfl rfl fun a hf => ?_
 obtain ⟨b1, hb1⟩ : ∃ b : Bool, b = Option.isNone s_A := ⟨_, rfl⟩
 replace h := h b1 (fun e => ((Ag.args _ _ _).view hv_s_ hs).nil_of (hb1.symm.trans e))
 refine S.v hf hs (.bool b1) rfl (V.eqNil b1 rfl rfl rfl Tryd.underlying102 (by kernel_rfl) hb1) fun a hf => ?_
 refine R.nil (X.then_ ?_)
 refine C.cond hf (b := b1) rfl (fun hc => ?_) (fun hc => ?_)
 ·replace h := h.1 hc
  refine wp_seq (R.list ?_)
  refine S.p hf hs (.slice none 0 0) rfl rfl fun a hf => ?_
  refine R.nil (X.then_ (wp_ret (X.then_ret ?_)))
  replace hs := hs.nilOwn (α := Bool) 4
  replace hs := hs.take 1
  exact L.ret hf (run_results1 Tryd.results80 (ResIs.tmp hf rfl)) ⟨([] : List Bool), none, 0, rfl, h, hs⟩
 ·replace h := h.2 hc
  refine wp_skip (X.then_ (wp_seq (R.list ?_)))
  refine S.buildEmpty (α := Bool) hf hs rfl rfl rfl rfl Tryd.runUnderlying102 Tryd.sizeOf4 (fun A1 a w hf hs => ?_)
  refine S.p hf hs (.slice s_A s_.length s_C) rfl rfl fun a hf => ?_
  obtain ⟨hroom, h⟩ := h
  refine S.appendAny 0 hf hs rfl rfl rfl rfl rfl rfl rfl Tryd.underlying102 info4 rfl hroom ((Ag.args _ _ _).view hv_s_ hs) (fun A2 C1 a w hf hs => ?_)
  refine S.p hf hs (.slice A2 (([] : List Bool) ++ s_).length C1) rfl rfl fun a hf => ?_
  refine R.nil (X.then_ (wp_ret ?_))
  replace hs := hs.take 1
  exact L.ret hf (run_results1 Tryd.results80 (ResIs.tmp hf rfl)) ⟨(([] : List Bool) ++ s_), A2, C1, rfl, h, hs⟩
set_option linter.unusedVariables false
def M_Balanced1_k2 (Q : Bool → Prop) (next1 : Prop) (c1 : Bool) : Prop :=
  cnd c1 (Q true) (next1)
def M_Balanced1_L1 (sum : Int) (can : (List (List Bool))) (i : Int) (Q : Bool → Prop) (k1 : Nat) (xk1 : Int)  (next1 : Prop) : Prop :=
  cnd (decide (xk1 ≥ sum)) (idx can (w64 (i + 1)) fun x1 => idx x1 (w64 (xk1 - sum)) fun x2 => M_Balanced1_k2 Q next1 x2) (M_Balanced1_k2 Q next1 false)
def M_Balanced1 (sum : Int) (best : Int) (all : Int) (can : (List (List Bool))) (i : Int) (Q : Bool → Prop) : Prop :=
  forIn' (fun k x (s : Unit) next => M_Balanced1_L1 sum can i Q k x (next ())) (fun (s : Unit) => Q false) ([best, w64 (all - best)] : List Int) 0 ()
set_option maxHeartbeats 1000000 in
theorem R_Balanced1 (sum : Int) (best : Int) (all : Int) (can : (List (List Bool))) (i : Int) (w0 : World) (bestg : Nat) (hb_best : ElemAt w0 (old w0 none_) (some ⟨bestg, 0, none⟩) 0 [iv best]) (allg : Nat) (hb_all : ElemAt w0 (old w0 none_) (some ⟨allg, 0, none⟩) 0 [iv all]) (canA : Option Addr) (canC : Nat) (hv_can : View w0 (old w0 none_) canA canC can) (cang : Nat) (hb_can : ElemAt w0 (old w0 none_) (some ⟨cang, 0, none⟩) 0 [.slice canA can.length canC]) (ig : Nat) (hb_i : ElemAt w0 (old w0 none_) (some ⟨ig, 0, none⟩) 0 [iv i]) (Q : Bool → Prop) (h : M_Balanced1 sum best all can i Q) :
  Ret Tryd.prog 81 #[iv sum, (pn bestg 0), (pn allg 0), (pn cang 0), (pn ig 0)] w0 fun v w' => ∃ (r0 : Bool), v = .bool r0 ∧ Q r0 ∧ Sat w0 none_ [] w' := by
 refine fn_enter Tryd.func81 rfl Tryd.ntmps81 rfl (fs := [(0, iv sum), (1, (pn bestg 0)), (2, (pn allg 0)), (3, (pn cang 0)), (4, (pn ig 0))]) rfl (fun a hf => ?_)
 have hs := Sat.start w0 none_
 unfold M_Balanced1 at h
 refine wp_seq (R.list ?_)
 refine S.p hf hs (.bool false) rfl rfl fun a hf => ?_
 refine R.nil (X.then_ (wp_seq (wp_seq (R.list ?_))))
 refine S.v hf hs (iv best) rfl (V.loadAt0 (off := 0) (Ag.args _ _ _) hb_best rfl rfl Tryd.isAgg3 Tryd.sizeOf3 rfl rfl) fun a hf => ?_
 refine S.v hf hs (iv all) rfl (V.loadAt0 (off := 0) (Ag.args _ _ _) hb_all rfl rfl Tryd.isAgg3 Tryd.sizeOf3 rfl rfl) fun a hf => ?_
 refine S.v hf hs (iv best) rfl (V.loadAt0 (off := 0) (Ag.args _ _ _) hb_best rfl rfl Tryd.isAgg3 Tryd.sizeOf3 rfl rfl) fun a hf => ?_
 refine S.p hf hs (iv (w64 (all - best))) rfl rfl fun a hf => ?_
 refine S.buildSlice hf hs rfl rfl rfl (α := Int) [best, w64 (all - best)] rfl rfl Tryd.runUnderlying48 Tryd.sizeOf3 Tryd.zeroValue3 (by kernel_rfl) rfl (by decide) (by decide) (fun A1 a w hf hs => ?_)
 refine S.v hf hs (iv (([best, w64 (all - best)] : List Int).length : Int)) rfl (V.len rfl rfl Tryd.runUnderlying48) fun a hf => ?_
 refine S.p hf hs (iv 0) rfl rfl fun a hf => ?_
 refine R.nil (X.then_ (wp_block ?_))
 have hlenk1 := (hs.ownView 0 rfl).len64
 refine C.range (fun (ll : List Int) a w => ∃ (k1 : Nat) , ([best, w64 (all - best)] : List Int).drop k1 = ll ∧ k1 + ll.length = ([best, w64 (all - best)] : List Int).length ∧ forIn' (fun k x (s : Unit) next => M_Balanced1_L1 sum can i Q k x (next ())) (fun (s : Unit) => Q false) ll k1 () ∧ FrOk 35 [(15, iv (k1 : Int)), (0, iv sum), (3, (pn cang 0)), (4, (pn ig 0)), (13, .slice A1 ([best, w64 (all - best)] : List Int).length 2), (14, iv (([best, w64 (all - best)] : List Int).length : Int))] a ∧ Sat w0 none_ [hown 3 A1 2 ([best, w64 (all - best)] : List Int)] w) ([best, w64 (all - best)] : List Int) ⟨0, rfl, Nat.zero_add _, h, ((((((hf.nil.cons (hf.get 14 _ rfl)).cons (hf.get 13 _ rfl)).cons (hf.get 4 _ rfl)).cons (hf.get 3 _ rfl)).cons (hf.get 0 _ rfl)).cons (hf.get 15 _ rfl)), hs⟩ ?_
 clear h hf hs
 rintro llk1 a w ⟨k1, hlk1, hkk1, h, hf, hs⟩
 cases llk1 with
 | nil =>
  have hc := range_done hkk1
  replace h : Q false := h
  refine wp_seq (R.list ?_)
  refine S.v hf hs (.bool false) rfl (V.cmp false rfl rfl rfl rfl hc) fun a hf => ?_
  refine R.nil (X.then_ (wp_seq ?_))
  refine C.no hf rfl ?_
  refine wp_exit (X.then_exit (X.then_exit (X.blk_exit (X.then_ (wp_seq (R.list ?_))))))
  refine S.p hf hs (.bool false) rfl rfl fun a hf => ?_
  refine R.nil (X.then_ (wp_ret ?_))
  exact L.ret hf (run_results1 Tryd.results81 (ResIs.tmp hf rfl)) ⟨false, rfl, h, hs.nil⟩
 | cons xk1 llk1 =>
  have hltk1 := range_lt hkk1; have hc := range_go hkk1; have hxk1 := range_get hlk1
  obtain ⟨next1, hnext1⟩ : ∃ X : Prop, X = (forIn' (fun k x (s : Unit) next => M_Balanced1_L1 sum can i Q k x (next ())) (fun (s : Unit) => Q false) llk1 (k1 + 1) ()) := ⟨_, rfl⟩
  replace h : M_Balanced1_L1 sum can i Q k1 xk1  next1 := by rw [hnext1]; exact h
  unfold M_Balanced1_L1 at h
  refine wp_seq (R.list ?_)
  refine S.v hf hs (.bool true) rfl (V.cmp true rfl rfl rfl rfl hc) fun a hf => ?_
  refine R.nil (X.then_ (wp_seq ?_))
  refine C.yes hf rfl ?_
  refine wp_skip (X.then_ (wp_seq (wp_block (wp_seq (R.list ?_)))))
  refine S.v hf hs (elemPtr A1 (k1 * 1)) rfl (V.index rfl rfl rfl Tryd.runUnderlying48 Tryd.sizeOf3 (hs.ownSome 0 rfl (lt_of_get hxk1)) (Int.natCast_nonneg _) (lt_of_get hxk1) rfl) fun a hf => ?_
  refine S.v hf hs (iv xk1) rfl (V.loadOwn (off := 0) 0 rfl hxk1 rfl rfl rfl Tryd.isAgg3 Tryd.sizeOf3 rfl rfl) fun a hf => ?_
  refine S.p hf hs (iv xk1) rfl rfl fun a hf => ?_
  refine R.nil (X.then_ (wp_seq ?_))
  refine C.cut (J := fun a w => ∃ (c1 : Bool), M_Balanced1_k2 Q next1 c1 ∧ FrOk 35 [(0, iv sum), (3, (pn cang 0)), (4, (pn ig 0)), (13, .slice A1 ([best, w64 (all - best)] : List Int).length 2), (14, iv (([best, w64 (all - best)] : List Int).length : Int)), (15, iv (k1 : Int)), (33, .bool c1)] a ∧ Sat w0 none_ [hown 3 A1 2 ([best, w64 (all - best)] : List Int)] w) ?_ ?_
  ·rintro a w ⟨c1, h, hf, hs⟩
   unfold M_Balanced1_k2 at h
   refine C.cond hf (b := c1) rfl (fun hc => ?_) (fun hc => ?_)
   ·replace h := h.1 hc
    refine wp_seq (R.list ?_)
    refine S.p hf hs (.bool true) rfl rfl fun a hf => ?_
    refine R.nil (X.then_ (wp_ret (X.blk_ret (X.then_ret (X.then_ret (X.blk_ret (X.then_ret ?_)))))))
    exact L.ret hf (run_results1 Tryd.results81 (ResIs.tmp hf rfl)) ⟨true, rfl, h, hs.nil⟩
   ·replace h := h.2 hc
    refine wp_skip (X.blk (X.then_ (R.list ?_)))
    refine S.v hf hs (iv ((k1 + 1 : Nat) : Int)) rfl (V.incr rfl rfl rfl hltk1 hlenk1) fun a hf => ?_
    refine S.p hf hs (iv ((k1 + 1 : Nat) : Int)) rfl rfl fun a hf => ?_
    refine R.nil (X.then_ ?_)
    exact ⟨xk1, llk1, rfl, k1 + 1, range_drop hlk1, range_len hkk1, (by rw [hnext1] at h; exact h), ((((((hf.nil.cons (hf.get 14 _ rfl)).cons (hf.get 13 _ rfl)).cons (hf.get 4 _ rfl)).cons (hf.get 3 _ rfl)).cons (hf.get 0 _ rfl)).cons (hf.get 15 _ rfl)), hs⟩
  ·skip
   refine R.list ?_
   refine S.p hf hs (iv xk1) rfl rfl fun a hf => ?_
   refine S.p hf hs (iv sum) rfl rfl fun a hf => ?_
   refine S.p hf hs (.bool (decide (xk1 ≥ sum))) rfl rfl fun a hf => ?_
   refine S.split hf hs (b := decide (xk1 ≥ sum)) rfl rfl rfl (V.pure rfl) (fun hc a hf => ?_) (fun hc a hf => ?_)
   ·replace h := h.1 hc
    refine S.v hf hs (.slice canA can.length canC) rfl (V.loadAt0 (off := 0) (Ag.args _ _ _) hb_can rfl rfl Tryd.isAgg117 Tryd.sizeOf117 rfl rfl) fun a hf => ?_
    refine S.v hf hs (iv i) rfl (V.loadAt0 (off := 0) (Ag.args _ _ _) hb_i rfl rfl Tryd.isAgg3 Tryd.sizeOf3 rfl rfl) fun a hf => ?_
    refine S.p hf hs (iv (w64 (i + 1))) rfl rfl fun a hf => ?_
    obtain ⟨h0x1, x1, hx1, h⟩ := h
    obtain ⟨cs1, he1, hr1⟩ := hv_can.at_ _ _ hx1
    obtain ⟨u1A, u1C, rfl, hvu1⟩ := hr1
    refine S.v hf hs (elemPtr canA ((w64 (i + 1)).toNat * 1)) rfl (V.index rfl rfl rfl Tryd.runUnderlying117 Tryd.sizeOf102 (hv_can.some_ (lt_of_get hx1)) h0x1 (lt_of_get hx1) rfl) fun a hf => ?_
    refine S.v hf hs (.slice u1A x1.length u1C) rfl (V.loadEl (off := 0) (Ag.args _ _ _) he1 rfl rfl rfl Tryd.isAgg102 Tryd.sizeOf102 rfl rfl) fun a hf => ?_
    refine S.p hf hs (iv xk1) rfl rfl fun a hf => ?_
    refine S.p hf hs (iv sum) rfl rfl fun a hf => ?_
    refine S.p hf hs (iv (w64 (xk1 - sum))) rfl rfl fun a hf => ?_
    obtain ⟨h0x2, x2, hx2, h⟩ := h
    refine S.v hf hs (elemPtr u1A ((w64 (xk1 - sum)).toNat * 1)) rfl (V.index rfl rfl rfl Tryd.runUnderlying102 Tryd.sizeOf4 (hvu1.some_ (lt_of_get hx2)) h0x2 (lt_of_get hx2) rfl) fun a hf => ?_
    refine S.v hf hs (.bool x2) rfl (V.loadEl (off := 0) (Ag.args _ _ _) (hvu1.flat hx2) rfl rfl rfl Tryd.isAgg4 Tryd.sizeOf4 rfl rfl) fun a hf => ?_
    refine S.p hf hs (.bool x2) rfl rfl fun a hf => ?_
    refine R.nil (X.then_ ?_)
    exact ⟨x2, h, (((((((hf.nil.cons (hf.get 33 _ rfl)).cons (hf.get 15 _ rfl)).cons (hf.get 14 _ rfl)).cons (hf.get 13 _ rfl)).cons (hf.get 4 _ rfl)).cons (hf.get 3 _ rfl)).cons (hf.get 0 _ rfl)), hs⟩
   ·replace h := h.2 hc
    refine S.k hf rfl fun a hf => ?_
    refine S.k hf rfl fun a hf => ?_
    refine S.k hf rfl fun a hf => ?_
    refine S.k hf rfl fun a hf => ?_
    refine S.k hf rfl fun a hf => ?_
    refine S.k hf rfl fun a hf => ?_
    refine S.k hf rfl fun a hf => ?_
    refine S.k hf rfl fun a hf => ?_
    refine S.k hf rfl fun a hf => ?_
    refine S.k hf rfl fun a hf => ?_
    refine S.p hf hs (.bool false) rfl rfl fun a hf => ?_
    refine R.nil (X.then_ ?_)
    exact ⟨false, h, (((((((hf.nil.cons (hf.get 33 _ rfl)).cons (hf.get 15 _ rfl)).cons (hf.get 14 _ rfl)).cons (hf.get 13 _ rfl)).cons (hf.get 4 _ rfl)).cons (hf.get 3 _ rfl)).cons (hf.get 0 _ rfl)), hs⟩
set_option linter.unusedVariables false
def M_mount_Balanced_L3 (b2 : Int) (n2 : Int) (again2 : List (List Bool) → Int → Prop) (x5 : Int) (again3 : List (List Bool) → Int → Prop) (l4 : List (List Bool)) (n4 : Int) : Prop :=
  cnd (decide (n4 ≤ b2)) (idx l4 n2 fun x6 => idx x6 n4 fun x7 => cnd x7 (again3 (l4.set n2.toNat (x6.set n4.toNat true)) (w64 (n4 + 1))) (idx l4 (w64 (n2 + 1)) fun x8 => idx x8 (w64 (n4 - x5)) fun x9 => again3 (l4.set n2.toNat (x6.set n4.toNat x9)) (w64 (n4 + 1)))) (again2 l4 (w64 (n2 - 1)))
def M_mount_Balanced_k6 (b6 : Int) (again5 : List Int → Int → Int → Prop) (l7 : List Int) (n9 : Int) : Prop :=
  again5 l7 (w64 (b6 + 1)) n9
def M_mount_Balanced_L5 (loads : (List Int)) (Q : (List Int) → Int → Int → Prop) (b2 : Int) (l2 : List (List Bool)) (b4 : Int) (again5 : List Int → Int → Int → Prop) (l6 : List Int) (b6 : Int) (n8 : Int) : Prop :=
  cnd ((max n8 (w64 (b2 - n8))) != b4) (idx loads b6 fun x13 => M_Balanced1 (w64 (n8 + x13)) b4 b2 l2 b6 fun y2 => cnd y2 (must (room (l6 ++ [b6]).length 8) (M_mount_Balanced_k6 b6 again5 (l6 ++ [b6]) (w64 (n8 + x13)))) (M_mount_Balanced_k6 b6 again5 l6 n8)) (Q l6 b4 0)
def M_mount_Balanced_L4 (loads : (List Int)) (Q : (List Int) → Int → Int → Prop) (b2 : Int) (l2 : List (List Bool)) (x10 : Int) (again4 : Int → Int → Prop) (b4 : Int) (n6 : Int) : Prop :=
  cnd (decide (n6 ≤ b2)) (idx l2 1 fun x11 => idx x11 (w64 (n6 - x10)) fun x12 => cnd x12 (again4 (min b4 (max n6 (w64 (b2 - n6)))) (w64 (n6 + 1))) (again4 b4 (w64 (n6 + 1)))) (lp (fun again (s : List Int × Int × Int) => M_mount_Balanced_L5 loads Q b2 l2 b4 (fun l6 b6 n8 => again (l6, b6, n8)) s.1 s.2.1 s.2.2) ([0], 1, x10))
def M_mount_Balanced_L2 (loads : (List Int)) (Q : (List Int) → Int → Int → Prop) (b2 : Int) (again2 : List (List Bool) → Int → Prop) (l2 : List (List Bool)) (n2 : Int) : Prop :=
  cnd (decide (n2 ≥ 0)) (idx l2 (w64 (n2 + 1)) fun x3 => M_clone_bool x3 fun y1 => idx l2 n2 fun x4 => idx loads n2 fun x5 => lp (fun again (s : List (List Bool) × Int) => M_mount_Balanced_L3 b2 n2 again2 x5 (fun l4 n4 => again (l4, n4)) s.1 s.2) ((l2.set n2.toNat y1), x5)) (idx loads 0 fun x10 => lp (fun again (s : Int × Int) => M_mount_Balanced_L4 loads Q b2 l2 x10 (fun b4 n6 => again (b4, n6)) s.1 s.2) (b2, x10))
def M_mount_Balanced_L1 (Q : (List Int) → Int → Int → Prop) (k1 : Nat) (xk1 : Int) (b2 : Int) (next1 : Int → Prop) : Prop :=
  cnd (!(within xk1 0 1000)) (Q ([] : List Int) 0 1) (next1 (w64 (b2 + xk1)))
def M_mount_Balanced (loads : (List Int)) (Q : (List Int) → Int → Int → Prop) : Prop :=
  cnd (decide ((loads.length : Int) > 30)) (Q ([] : List Int) 0 2) (forIn' (fun k x (s : Int) next => M_mount_Balanced_L1 Q k x s (fun b2 => next b2)) (fun (s : Int) => (fun (b2 : Int) => cnd ((loads.length : Int) == 0) (Q ([] : List Int) 0 0) (must (0 ≤ w64 ((loads.length : Int) + 1) ∧ w64 ((loads.length : Int) + 1) * 24 ≤ 281474976710656) (must (0 ≤ w64 (b2 + 1) ∧ w64 (b2 + 1) * 1 ≤ 281474976710656) (idx (List.replicate ((w64 ((loads.length : Int) + 1)).toNat) ([] : (List Bool))) (loads.length : Int) fun x1 => idx (List.replicate ((w64 (b2 + 1)).toNat) false) 0 fun x2 => lp (fun again (s : List (List Bool) × Int) => M_mount_Balanced_L2 loads Q b2 (fun l2 n2 => again (l2, n2)) s.1 s.2) ((((List.replicate ((w64 ((loads.length : Int) + 1)).toNat) ([] : (List Bool))).set loads.length (List.replicate ((w64 (b2 + 1)).toNat) false)).set loads.length ((List.replicate ((w64 (b2 + 1)).toNat) false).set 0 true)), w64 ((loads.length : Int) - 1)))))) s) loads 0 0)
set_option maxHeartbeats 1000000 in
theorem R_mount_Balanced (loads : (List Int)) (w0 : World) (loadsA : Option Addr) (loadsC : Nat) (hv_loads : View w0 (old w0 none_) loadsA loadsC loads) (Q : (List Int) → Int → Int → Prop) (h : M_mount_Balanced loads Q) :
  Ret Tryd.prog 46 #[.slice loadsA loads.length loadsC] w0 fun v w' => ∃ (r0 : (List Int)) (r0A : Option Addr) (r0C : Nat) (r1 : Int) (r2 : Int), v = .tuple #[.slice r0A r0.length r0C, iv r1, iv r2] ∧ Q r0 r1 r2 ∧ Sat w0 none_ [hown 3 r0A r0C r0] w' := by
 refine fn_enter Tryd.func46 rfl Tryd.ntmps46 rfl (fs := [(0, .slice loadsA loads.length loadsC)]) rfl (fun a hf => ?_)
 have hs := Sat.start w0 none_
 unfold M_mount_Balanced at h
 refine wp_seq (R.list ?_)
 refine S.p hf hs (.slice none 0 0) rfl rfl fun a hf => ?_
 refine S.p hf hs (iv 0) rfl rfl fun a hf => ?_
 refine S.p hf hs (iv 0) rfl rfl fun a hf => ?_
 refine R.nil (X.then_ (wp_seq (wp_seq (R.list ?_))))
 refine S.p hf hs (.slice loadsA loads.length loadsC) rfl rfl fun a hf => ?_
 refine S.v hf hs (iv (loads.length : Int)) rfl (V.len rfl rfl Tryd.runUnderlying48) fun a hf => ?_
 refine S.p hf hs (.bool (decide ((loads.length : Int) > 30))) rfl rfl fun a hf => ?_
 refine R.nil (X.then_ ?_)
 refine C.cond hf (b := decide ((loads.length : Int) > 30)) rfl (fun hc => ?_) (fun hc => ?_)
 ·replace h := h.1 hc
  refine wp_seq (R.list ?_)
  refine S.p hf hs (.slice none 0 0) rfl rfl fun a hf => ?_
  refine S.p hf hs (iv 0) rfl rfl fun a hf => ?_
  refine S.p hf hs (iv 2) rfl rfl fun a hf => ?_
  refine R.nil (X.then_ (wp_ret (X.then_ret ?_)))
  replace hs := hs.nilOwn (α := Int) 3
  replace hs := hs.take 1
  exact L.ret hf (run_results3 Tryd.results46 (ResIs.tmp hf rfl) (ResIs.tmp hf rfl) (ResIs.tmp hf rfl)) ⟨([] : List Int), none, 0, 0, 2, rfl, h, hs⟩
 ·replace h := h.2 hc
  refine wp_skip (X.then_ (wp_seq (R.list ?_)))
  refine S.alloc hf hs rfl rfl rfl [iv 0] rfl Tryd.zeroValue3 rfl (fun g1 a w hf hs => ?_)
  refine S.storeBox 0 hf hs rfl rfl [iv 0] [iv 0] rfl rfl rfl rfl rfl Tryd.sizeOf3 rfl rfl rfl rfl (fun a w hf hs => ?_)
  refine R.nil (X.then_ (wp_seq (wp_seq (R.list ?_))))
  refine S.p hf hs (.slice loadsA loads.length loadsC) rfl rfl fun a hf => ?_
  refine S.v hf hs (iv (loads.length : Int)) rfl (V.len rfl rfl Tryd.runUnderlying48) fun a hf => ?_
  refine S.p hf hs (iv 0) rfl rfl fun a hf => ?_
  refine R.nil (X.then_ (wp_block ?_))
  have hlenk1 := hv_loads.len64
  refine C.range (fun (ll : List Int) a w => ∃ (k1 : Nat) (b2 : Int), loads.drop k1 = ll ∧ k1 + ll.length = loads.length ∧ forIn' (fun k x (s : Int) next => M_mount_Balanced_L1 Q k x s (fun b2 => next b2)) (fun (s : Int) => (fun (b2 : Int) => cnd ((loads.length : Int) == 0) (Q ([] : List Int) 0 0) (must (0 ≤ w64 ((loads.length : Int) + 1) ∧ w64 ((loads.length : Int) + 1) * 24 ≤ 281474976710656) (must (0 ≤ w64 (b2 + 1) ∧ w64 (b2 + 1) * 1 ≤ 281474976710656) (idx (List.replicate ((w64 ((loads.length : Int) + 1)).toNat) ([] : (List Bool))) (loads.length : Int) fun x1 => idx (List.replicate ((w64 (b2 + 1)).toNat) false) 0 fun x2 => lp (fun again (s : List (List Bool) × Int) => M_mount_Balanced_L2 loads Q b2 (fun l2 n2 => again (l2, n2)) s.1 s.2) ((((List.replicate ((w64 ((loads.length : Int) + 1)).toNat) ([] : (List Bool))).set loads.length (List.replicate ((w64 (b2 + 1)).toNat) false)).set loads.length ((List.replicate ((w64 (b2 + 1)).toNat) false).set 0 true)), w64 ((loads.length : Int) - 1)))))) s) ll k1 b2 ∧ FrOk 167 [(22, iv (k1 : Int)), (0, .slice loadsA loads.length loadsC), (5, (pn g1 0)), (20, .slice loadsA loads.length loadsC), (21, iv (loads.length : Int))] a ∧ Sat w0 none_ [hbox g1 3 [iv b2]] w) loads ⟨0, 0, rfl, Nat.zero_add _, h, (((((hf.nil.cons (hf.get 21 _ rfl)).cons (hf.get 20 _ rfl)).cons (hf.get 5 _ rfl)).cons (hf.get 0 _ rfl)).cons (hf.get 22 _ rfl)), hs⟩ ?_
  clear h hf hs
  rintro llk1 a w ⟨k1, b2, hlk1, hkk1, h, hf, hs⟩
  cases llk1 with
  | nil =>
   have hc := range_done hkk1
   replace h : (fun (b2 : Int) => cnd ((loads.length : Int) == 0) (Q ([] : List Int) 0 0) (must (0 ≤ w64 ((loads.length : Int) + 1) ∧ w64 ((loads.length : Int) + 1) * 24 ≤ 281474976710656) (must (0 ≤ w64 (b2 + 1) ∧ w64 (b2 + 1) * 1 ≤ 281474976710656) (idx (List.replicate ((w64 ((loads.length : Int) + 1)).toNat) ([] : (List Bool))) (loads.length : Int) fun x1 => idx (List.replicate ((w64 (b2 + 1)).toNat) false) 0 fun x2 => lp (fun again (s : List (List Bool) × Int) => M_mount_Balanced_L2 loads Q b2 (fun l2 n2 => again (l2, n2)) s.1 s.2) ((((List.replicate ((w64 ((loads.length : Int) + 1)).toNat) ([] : (List Bool))).set loads.length (List.replicate ((w64 (b2 + 1)).toNat) false)).set loads.length ((List.replicate ((w64 (b2 + 1)).toNat) false).set 0 true)), w64 ((loads.length : Int) - 1)))))) b2 := h
   refine wp_seq (R.list ?_)
   refine S.v hf hs (.bool false) rfl (V.cmp false rfl rfl rfl rfl hc) fun a hf => ?_
   refine R.nil (X.then_ (wp_seq ?_))
   refine C.no hf rfl ?_
   refine wp_exit (X.then_exit (X.then_exit (X.blk_exit (X.then_ (wp_seq (wp_seq (R.list ?_)))))))
   refine S.p hf hs (.slice loadsA loads.length loadsC) rfl rfl fun a hf => ?_
   refine S.v hf hs (iv (loads.length : Int)) rfl (V.len rfl rfl Tryd.runUnderlying48) fun a hf => ?_
   refine S.p hf hs (.bool ((loads.length : Int) == 0)) rfl rfl fun a hf => ?_
   refine R.nil (X.then_ ?_)
   refine C.cond hf (b := (loads.length : Int) == 0) rfl (fun hc => ?_) (fun hc => ?_)
   ·replace h := h.1 hc
    refine wp_seq (R.list ?_)
    refine S.p hf hs (.slice none 0 0) rfl rfl fun a hf => ?_
    refine S.p hf hs (iv 0) rfl rfl fun a hf => ?_
    refine S.p hf hs (iv 0) rfl rfl fun a hf => ?_
    refine R.nil (X.then_ (wp_ret (X.then_ret ?_)))
    replace hs := hs.nilOwn (α := Int) 3
    replace hs := hs.take 1
    exact L.ret hf (run_results3 Tryd.results46 (ResIs.tmp hf rfl) (ResIs.tmp hf rfl) (ResIs.tmp hf rfl)) ⟨([] : List Int), none, 0, 0, 0, rfl, h, hs⟩
   ·replace h := h.2 hc
    refine wp_skip (X.then_ (wp_seq (R.list ?_)))
    refine S.p hf hs (.slice loadsA loads.length loadsC) rfl rfl fun a hf => ?_
    refine S.v hf hs (iv (loads.length : Int)) rfl (V.len rfl rfl Tryd.runUnderlying48) fun a hf => ?_
    refine S.p hf hs (iv (w64 ((loads.length : Int) + 1))) rfl rfl fun a hf => ?_
    obtain ⟨hmk, h⟩ := h
    refine S.makeRows hf hs rfl rfl rfl ([] : (List Bool)) (z := (w64 ((loads.length : Int) + 1))) (N := (w64 ((loads.length : Int) + 1)).toNat) 4 rfl rfl rfl rfl Tryd.underlying117 info102 hmk rfl (by have := hmk.2; omega) (fun A1 a w hf hs => ?_)
    refine S.alloc hf hs rfl rfl rfl [.slice none 0 0] rfl Tryd.zeroValue117 rfl (fun g2 a w hf hs => ?_)
    refine S.storeBox 0 hf hs rfl rfl [.slice A1 (List.replicate ((w64 ((loads.length : Int) + 1)).toNat) ([] : (List Bool))).length ((w64 ((loads.length : Int) + 1)).toNat)] [.slice A1 (List.replicate ((w64 ((loads.length : Int) + 1)).toNat) ([] : (List Bool))).length ((w64 ((loads.length : Int) + 1)).toNat)] rfl rfl rfl rfl rfl Tryd.sizeOf117 rfl rfl rfl rfl (fun a w hf hs => ?_)
    refine R.nil (X.then_ (wp_seq ?_))
    refine M.start 7 (Sat w0 none_ [hbox g2 117 [.slice A1 (List.replicate ((w64 ((loads.length : Int) + 1)).toNat) ([] : (List Bool))).length ((w64 ((loads.length : Int) + 1)).toNat)], hrows 102 4 A1 ((w64 ((loads.length : Int) + 1)).toNat) (List.replicate ((w64 ((loads.length : Int) + 1)).toNat) ((none : Option Addr), 0)) (List.replicate ((w64 ((loads.length : Int) + 1)).toNat) ([] : (List Bool))), hbox g1 3 [iv b2]]) mo ?_
    replace hs := hs.drew
    refine M.v hf hs (.slice A1 (List.replicate ((w64 ((loads.length : Int) + 1)).toNat) ([] : (List Bool))).length ((w64 ((loads.length : Int) + 1)).toNat)) 0 rfl rfl (by kernel_rfl) (V.loadBox 0 rfl rfl rfl Tryd.isAgg117 Tryd.sizeOf117 rfl rfl) fun a hf => ?_
    refine M.v hf hs (.slice loadsA loads.length loadsC) 1 rfl rfl (by kernel_rfl) (V.pure rfl) fun a hf => ?_
    refine M.v hf hs (iv (loads.length : Int)) 2 rfl rfl (by kernel_rfl) (V.len rfl rfl Tryd.runUnderlying48) fun a hf => ?_
    refine M.v hf hs (iv b2) 3 rfl rfl (by kernel_rfl) (V.loadBox 2 rfl rfl rfl Tryd.isAgg3 Tryd.sizeOf3 rfl rfl) fun a hf => ?_
    refine M.v hf hs (iv (w64 (b2 + 1))) 4 rfl rfl (by kernel_rfl) (V.pure rfl) fun a hf => ?_
    refine M.one (i := 5) rfl (by kernel_rfl) ?_
    obtain ⟨hmk, h⟩ := h
    refine S.make hf hs rfl rfl rfl (α := Bool) false (z := (w64 (b2 + 1))) (N := (w64 (b2 + 1)).toNat) rfl rfl rfl Tryd.underlying102 info4 hmk rfl (by have := hmk.2; omega) (fun A2 a w hf hs => ?_)
    refine R.nil (X.then_ ?_)
    refine ⟨(hs.mask [false, true, true, true]), ?_⟩
    obtain ⟨h0x1, x1, hx1, h⟩ := h
    refine M.val hf (hs.mask [false, true, true, true]) (v := elemPtr A1 (loads.length * 1)) (i := 6) rfl rfl rfl rfl (by kernel_rfl) (by kernel_rfl) (by kernel_rfl) (by kernel_rfl) (by kernel_rfl) rfl (V.index rfl rfl rfl Tryd.runUnderlying117 Tryd.sizeOf102 (hs.rowsSome 2 rfl hx1) (Int.natCast_nonneg _) (lt_of_get hx1) rfl) (fun a hf => ?_)
    refine M.last (i := 7) rfl (by kernel_rfl) (by kernel_rfl) ?_
    obtain ⟨B1, D1, hrB1⟩ := hs.rowAt 2 rfl hx1
    refine S.putRow (off := 0) 1 hf hs rfl rfl (List.replicate ((w64 (b2 + 1)).toNat) false) [.slice A2 (List.replicate ((w64 (b2 + 1)).toNat) false).length ((w64 (b2 + 1)).toNat)] rfl hx1 hrB1 rfl rfl rfl rfl rfl rfl Tryd.sizeOf102 rfl (by decide) rfl rfl (fun a w hf hs => ?_)
    replace hs := hs.rebox 0 (vs' := [.slice A1 ((List.replicate ((w64 ((loads.length : Int) + 1)).toNat) ([] : (List Bool))).set loads.length (List.replicate ((w64 (b2 + 1)).toNat) false)).length ((w64 ((loads.length : Int) + 1)).toNat)]) rfl (congrArg (fun n => [Value.slice A1 n ((w64 ((loads.length : Int) + 1)).toNat)]) List.length_set.symm)
    replace hf := hf.tell 39 (v := .slice A1 ((List.replicate ((w64 ((loads.length : Int) + 1)).toNat) ([] : (List Bool))).set loads.length (List.replicate ((w64 (b2 + 1)).toNat) false)).length ((w64 ((loads.length : Int) + 1)).toNat)) ((hf.get 39 (.slice A1 (List.replicate ((w64 ((loads.length : Int) + 1)).toNat) ([] : (List Bool))).length ((w64 ((loads.length : Int) + 1)).toNat)) rfl).trans (congrArg (fun n => Value.slice A1 n ((w64 ((loads.length : Int) + 1)).toNat)) List.length_set.symm))
    replace hf := hf.tell 40 (v := .slice A1 ((List.replicate ((w64 ((loads.length : Int) + 1)).toNat) ([] : (List Bool))).set loads.length (List.replicate ((w64 (b2 + 1)).toNat) false)).length ((w64 ((loads.length : Int) + 1)).toNat)) ((hf.get 40 (.slice A1 (List.replicate ((w64 ((loads.length : Int) + 1)).toNat) ([] : (List Bool))).length ((w64 ((loads.length : Int) + 1)).toNat)) rfl).trans (congrArg (fun n => Value.slice A1 n ((w64 ((loads.length : Int) + 1)).toNat)) List.length_set.symm))
    have hx1 : ((List.replicate ((w64 ((loads.length : Int) + 1)).toNat) ([] : (List Bool))).set loads.length (List.replicate ((w64 (b2 + 1)).toNat) false))[loads.length]? = some (List.replicate ((w64 (b2 + 1)).toNat) false) := List.getElem?_set_self (lt_of_get hx1)
    have hr1 : ((List.replicate ((w64 ((loads.length : Int) + 1)).toNat) ((none : Option Addr), 0)).set loads.length (A2, (w64 (b2 + 1)).toNat))[loads.length]? = some (A2, (w64 (b2 + 1)).toNat) := List.getElem?_set_self (lt_of_get hrB1)
    refine R.nil (X.then_ ?_)
    refine M.done (by kernel_rfl) ?_
    refine X.then_ (wp_seq (R.list ?_))
    refine S.v hf hs (.slice A1 ((List.replicate ((w64 ((loads.length : Int) + 1)).toNat) ([] : (List Bool))).set loads.length (List.replicate ((w64 (b2 + 1)).toNat) false)).length ((w64 ((loads.length : Int) + 1)).toNat)) rfl (V.loadBox 0 rfl rfl rfl Tryd.isAgg117 Tryd.sizeOf117 rfl rfl) fun a hf => ?_
    refine S.p hf hs (.slice loadsA loads.length loadsC) rfl rfl fun a hf => ?_
    refine S.v hf hs (iv (loads.length : Int)) rfl (V.len rfl rfl Tryd.runUnderlying48) fun a hf => ?_
    refine S.v hf hs (elemPtr A1 (loads.length * 1)) rfl (V.index rfl rfl rfl Tryd.runUnderlying117 Tryd.sizeOf102 (hs.rowsSome 1 rfl hx1) (Int.natCast_nonneg _) (lt_of_get hx1) rfl) fun a hf => ?_
    refine S.v hf hs (.slice A2 (List.replicate ((w64 (b2 + 1)).toNat) false).length ((w64 (b2 + 1)).toNat)) rfl (V.loadRows (off := 0) 1 rfl hx1 hr1 rfl rfl rfl Tryd.isAgg102 Tryd.sizeOf102 rfl rfl) fun a hf => ?_
    obtain ⟨h0x2, x2, hx2, h⟩ := h
    refine S.v hf hs (elemPtr A2 (0 * 1)) rfl (V.index rfl rfl rfl Tryd.runUnderlying102 Tryd.sizeOf4 ((hs.rowView 1 rfl hx1 hr1).some_ (lt_of_get hx2)) h0x2 (lt_of_get hx2) rfl) fun a hf => ?_
    refine S.storeRowEl (off := 0) 1 hf hs rfl rfl ((List.replicate ((w64 (b2 + 1)).toNat) false).set 0 true) true [.bool true] rfl hx1 hr1 hx2 rfl (row_same _ _ List.length_set _ _) rfl rfl rfl rfl rfl Tryd.sizeOf4 rfl (by decide) rfl rfl (fun a w hf hs => ?_)
    replace hs := hs.rebox 0 (vs' := [.slice A1 (((List.replicate ((w64 ((loads.length : Int) + 1)).toNat) ([] : (List Bool))).set loads.length (List.replicate ((w64 (b2 + 1)).toNat) false)).set loads.length ((List.replicate ((w64 (b2 + 1)).toNat) false).set 0 true)).length ((w64 ((loads.length : Int) + 1)).toNat)]) rfl (congrArg (fun n => [Value.slice A1 n ((w64 ((loads.length : Int) + 1)).toNat)]) List.length_set.symm)
    replace hf := hf.tell 39 (v := .slice A1 (((List.replicate ((w64 ((loads.length : Int) + 1)).toNat) ([] : (List Bool))).set loads.length (List.replicate ((w64 (b2 + 1)).toNat) false)).set loads.length ((List.replicate ((w64 (b2 + 1)).toNat) false).set 0 true)).length ((w64 ((loads.length : Int) + 1)).toNat)) ((hf.get 39 (.slice A1 ((List.replicate ((w64 ((loads.length : Int) + 1)).toNat) ([] : (List Bool))).set loads.length (List.replicate ((w64 (b2 + 1)).toNat) false)).length ((w64 ((loads.length : Int) + 1)).toNat)) rfl).trans (congrArg (fun n => Value.slice A1 n ((w64 ((loads.length : Int) + 1)).toNat)) List.length_set.symm))
    replace hf := hf.tell 40 (v := .slice A1 (((List.replicate ((w64 ((loads.length : Int) + 1)).toNat) ([] : (List Bool))).set loads.length (List.replicate ((w64 (b2 + 1)).toNat) false)).set loads.length ((List.replicate ((w64 (b2 + 1)).toNat) false).set 0 true)).length ((w64 ((loads.length : Int) + 1)).toNat)) ((hf.get 40 (.slice A1 ((List.replicate ((w64 ((loads.length : Int) + 1)).toNat) ([] : (List Bool))).set loads.length (List.replicate ((w64 (b2 + 1)).toNat) false)).length ((w64 ((loads.length : Int) + 1)).toNat)) rfl).trans (congrArg (fun n => Value.slice A1 n ((w64 ((loads.length : Int) + 1)).toNat)) List.length_set.symm))
    replace hf := hf.tell 47 (v := .slice A1 (((List.replicate ((w64 ((loads.length : Int) + 1)).toNat) ([] : (List Bool))).set loads.length (List.replicate ((w64 (b2 + 1)).toNat) false)).set loads.length ((List.replicate ((w64 (b2 + 1)).toNat) false).set 0 true)).length ((w64 ((loads.length : Int) + 1)).toNat)) ((hf.get 47 (.slice A1 ((List.replicate ((w64 ((loads.length : Int) + 1)).toNat) ([] : (List Bool))).set loads.length (List.replicate ((w64 (b2 + 1)).toNat) false)).length ((w64 ((loads.length : Int) + 1)).toNat)) rfl).trans (congrArg (fun n => Value.slice A1 n ((w64 ((loads.length : Int) + 1)).toNat)) List.length_set.symm))
    have hx2 : (((List.replicate ((w64 ((loads.length : Int) + 1)).toNat) ([] : (List Bool))).set loads.length (List.replicate ((w64 (b2 + 1)).toNat) false)).set loads.length ((List.replicate ((w64 (b2 + 1)).toNat) false).set 0 true))[loads.length]? = some ((List.replicate ((w64 (b2 + 1)).toNat) false).set 0 true) := List.getElem?_set_self (lt_of_get hx1)
    replace hf := hf.tell 45 (v := .slice A2 ((List.replicate ((w64 (b2 + 1)).toNat) false).set 0 true).length ((w64 (b2 + 1)).toNat)) ((hf.get 45 (.slice A2 (List.replicate ((w64 (b2 + 1)).toNat) false).length ((w64 (b2 + 1)).toNat)) rfl).trans (congrArg (fun n => Value.slice A2 n ((w64 (b2 + 1)).toNat)) List.length_set.symm))
    replace hf := hf.tell 51 (v := .slice A2 ((List.replicate ((w64 (b2 + 1)).toNat) false).set 0 true).length ((w64 (b2 + 1)).toNat)) ((hf.get 51 (.slice A2 (List.replicate ((w64 (b2 + 1)).toNat) false).length ((w64 (b2 + 1)).toNat)) rfl).trans (congrArg (fun n => Value.slice A2 n ((w64 (b2 + 1)).toNat)) List.length_set.symm))
    refine R.nil (X.then_ (wp_seq (wp_seq (R.list ?_))))
    refine S.p hf hs (.slice loadsA loads.length loadsC) rfl rfl fun a hf => ?_
    refine S.v hf hs (iv (loads.length : Int)) rfl (V.len rfl rfl Tryd.runUnderlying48) fun a hf => ?_
    refine S.p hf hs (iv (w64 ((loads.length : Int) - 1))) rfl rfl fun a hf => ?_
    refine S.p hf hs (iv (w64 ((loads.length : Int) - 1))) rfl rfl fun a hf => ?_
    refine R.nil (X.then_ (wp_block ?_))
    obtain ⟨kk, h⟩ := h
    refine C.loop (fun kk a w => ∃ (l2 : List (List Bool)) (l2A : Option Addr) (l2C : Nat) (l2as : List (Option Addr × Nat)) (n2 : Int), iterF (fun again (s : List (List Bool) × Int) => M_mount_Balanced_L2 loads Q b2 (fun l2 n2 => again (l2, n2)) s.1 s.2) kk (l2, n2) ∧ FrOk 167 [(0, .slice loadsA loads.length loadsC), (5, (pn g1 0)), (8, (pn g2 0)), (9, iv n2)] a ∧ Sat w0 none_ [hbox g2 117 [.slice l2A l2.length l2C], hrows 102 4 l2A l2C l2as l2, hbox g1 3 [iv b2]] w) kk ⟨(((List.replicate ((w64 ((loads.length : Int) + 1)).toNat) ([] : (List Bool))).set loads.length (List.replicate ((w64 (b2 + 1)).toNat) false)).set loads.length ((List.replicate ((w64 (b2 + 1)).toNat) false).set 0 true)), A1, ((w64 ((loads.length : Int) + 1)).toNat), ((List.replicate ((w64 ((loads.length : Int) + 1)).toNat) ((none : Option Addr), 0)).set loads.length (A2, (w64 (b2 + 1)).toNat)), (w64 ((loads.length : Int) - 1)), h, ((((hf.nil.cons (hf.get 9 _ rfl)).cons (hf.get 8 _ rfl)).cons (hf.get 5 _ rfl)).cons (hf.get 0 _ rfl)), hs⟩ (fun a w ⟨_, _, _, _, _, h, _, _⟩ => h) ?_
    clear h hf hs
    rintro kk a w ⟨l2, l2A, l2C, l2as, n2, h, hf, hs⟩
    obtain ⟨again2, hagain2⟩ : ∃ X : List (List Bool) → Int → Prop, X = (fun l2 n2 => iterF (fun again (s : List (List Bool) × Int) => M_mount_Balanced_L2 loads Q b2 (fun l2 n2 => again (l2, n2)) s.1 s.2) kk (l2, n2)) := ⟨_, rfl⟩
    replace h : M_mount_Balanced_L2 loads Q b2 again2 l2 n2 := by rw [hagain2]; exact h
    unfold M_mount_Balanced_L2 at h
    refine wp_seq (wp_seq (R.list ?_))
    refine S.p hf hs (iv n2) rfl rfl fun a hf => ?_
    refine S.p hf hs (.bool (decide (n2 ≥ 0))) rfl rfl fun a hf => ?_
    refine R.nil (X.then_ ?_)
    refine C.cond hf (b := decide (n2 ≥ 0)) rfl (fun hc => ?_) (fun hc => ?_)
    ·replace h := h.1 hc
     refine wp_skip (X.then_ (wp_seq (wp_block (wp_seq ?_))))
     refine M.start 9 (Sat w0 none_ [hbox g2 117 [.slice l2A l2.length l2C], hrows 102 4 l2A l2C l2as l2, hbox g1 3 [iv b2]]) mo ?_
     replace hs := hs.drew
     refine M.v hf hs (.slice l2A l2.length l2C) 0 rfl rfl (by kernel_rfl) (V.loadBox 0 rfl rfl rfl Tryd.isAgg117 Tryd.sizeOf117 rfl rfl) fun a hf => ?_
     refine M.v hf hs (iv n2) 1 rfl rfl (by kernel_rfl) (V.pure rfl) fun a hf => ?_
     refine M.v hf hs (.slice l2A l2.length l2C) 2 rfl rfl (by kernel_rfl) (V.loadBox 0 rfl rfl rfl Tryd.isAgg117 Tryd.sizeOf117 rfl rfl) fun a hf => ?_
     refine M.v hf hs (iv n2) 3 rfl rfl (by kernel_rfl) (V.pure rfl) fun a hf => ?_
     refine M.v hf hs (iv (w64 (n2 + 1))) 4 rfl rfl (by kernel_rfl) (V.pure rfl) fun a hf => ?_
     obtain ⟨h0x3, x3, hx3, h⟩ := h
     refine M.v hf hs (elemPtr l2A ((w64 (n2 + 1)).toNat * 1)) 5 rfl rfl (by kernel_rfl) (V.index rfl rfl rfl Tryd.runUnderlying117 Tryd.sizeOf102 (hs.rowsSome 1 rfl hx3) h0x3 (lt_of_get hx3) rfl) fun a hf => ?_
     obtain ⟨B2, D2, hrB2⟩ := hs.rowAt 1 rfl hx3
     refine M.v hf hs (.slice B2 x3.length D2) 6 rfl rfl (by kernel_rfl) (V.loadRows (off := 0) 1 rfl hx3 hrB2 rfl rfl rfl Tryd.isAgg102 Tryd.sizeOf102 rfl rfl) fun a hf => ?_
     refine M.one (i := 7) rfl (by kernel_rfl) ?_
     refine S.call hf rfl rfl rfl (call_fn (vs := [.slice B2 x3.length D2]) rfl rfl rfl Tryd.call80) (R_clone_bool x3 _ B2 D2 (hs.rowView 1 rfl hx3 hrB2) _ h) (fun v a w' hf hr => ?_)
     obtain ⟨y1, y1A, y1C, rfl, h2, hs2⟩ := hr
     replace h := h2; replace hs := hs.call hs2; clear h2 hs2
     refine R.nil (X.then_ ?_)
     refine ⟨(hs.mask [false, true, true, true]), ?_⟩
     obtain ⟨h0x4, x4, hx4, h⟩ := h
     refine M.val hf (hs.mask [false, true, true, true]) (v := elemPtr l2A (n2.toNat * 1)) (i := 8) rfl rfl rfl rfl (by kernel_rfl) (by kernel_rfl) (by kernel_rfl) (by kernel_rfl) (by kernel_rfl) rfl (V.index rfl rfl rfl Tryd.runUnderlying117 Tryd.sizeOf102 (hs.rowsSome 2 rfl hx4) h0x4 (lt_of_get hx4) rfl) (fun a hf => ?_)
     refine M.last (i := 9) rfl (by kernel_rfl) (by kernel_rfl) ?_
     obtain ⟨B3, D3, hrB3⟩ := hs.rowAt 2 rfl hx4
     refine S.putRow (off := 0) 1 hf hs rfl rfl y1 [.slice y1A y1.length y1C] rfl hx4 hrB3 rfl rfl rfl rfl rfl rfl Tryd.sizeOf102 rfl (by decide) rfl rfl (fun a w hf hs => ?_)
     replace hs := hs.rebox 0 (vs' := [.slice l2A (l2.set n2.toNat y1).length l2C]) rfl (congrArg (fun n => [Value.slice l2A n l2C]) List.length_set.symm)
     replace hf := hf.tell 60 (v := .slice l2A (l2.set n2.toNat y1).length l2C) ((hf.get 60 (.slice l2A l2.length l2C) rfl).trans (congrArg (fun n => Value.slice l2A n l2C) List.length_set.symm))
     replace hf := hf.tell 62 (v := .slice l2A (l2.set n2.toNat y1).length l2C) ((hf.get 62 (.slice l2A l2.length l2C) rfl).trans (congrArg (fun n => Value.slice l2A n l2C) List.length_set.symm))
     have hx3 : (l2.set n2.toNat y1)[n2.toNat]? = some y1 := List.getElem?_set_self (lt_of_get hx4)
     have hr2 : (l2as.set n2.toNat (y1A, y1C))[n2.toNat]? = some (y1A, y1C) := List.getElem?_set_self (lt_of_get hrB3)
     refine R.nil (X.then_ ?_)
     refine M.done (by kernel_rfl) ?_
     refine X.then_ (wp_seq (R.list ?_))
     refine S.p hf hs (.slice loadsA loads.length loadsC) rfl rfl fun a hf => ?_
     refine S.p hf hs (iv n2) rfl rfl fun a hf => ?_
     obtain ⟨h0x5, x5, hx5, h⟩ := h
     refine S.v hf hs (elemPtr loadsA (n2.toNat * 1)) rfl (V.index rfl rfl rfl Tryd.runUnderlying48 Tryd.sizeOf3 (hv_loads.some_ (lt_of_get hx5)) h0x5 (lt_of_get hx5) rfl) fun a hf => ?_
     refine S.v hf hs (iv x5) rfl (V.loadEl (off := 0) (Ag.args _ _ _) (hv_loads.flat hx5) rfl rfl rfl Tryd.isAgg3 Tryd.sizeOf3 rfl rfl) fun a hf => ?_
     refine S.p hf hs (iv x5) rfl rfl fun a hf => ?_
     refine R.nil (X.then_ (wp_block ?_))
     obtain ⟨kk, h⟩ := h
     refine C.loop (fun kk a w => ∃ (l4 : List (List Bool)) (l4A : Option Addr) (l4C : Nat) (l4as : List (Option Addr × Nat)) (n4 : Int), iterF (fun again (s : List (List Bool) × Int) => M_mount_Balanced_L3 b2 n2 again2 x5 (fun l4 n4 => again (l4, n4)) s.1 s.2) kk (l4, n4) ∧ FrOk 167 [(0, .slice loadsA loads.length loadsC), (5, (pn g1 0)), (8, (pn g2 0)), (9, iv n2), (10, iv n4)] a ∧ Sat w0 none_ [hbox g2 117 [.slice l4A l4.length l4C], hrows 102 4 l4A l4C l4as l4, hbox g1 3 [iv b2]] w) kk ⟨(l2.set n2.toNat y1), l2A, l2C, (l2as.set n2.toNat (y1A, y1C)), x5, h, (((((hf.nil.cons (hf.get 10 _ rfl)).cons (hf.get 9 _ rfl)).cons (hf.get 8 _ rfl)).cons (hf.get 5 _ rfl)).cons (hf.get 0 _ rfl)), hs⟩ (fun a w ⟨_, _, _, _, _, h, _, _⟩ => h) ?_
     clear h hf hs
     rintro kk a w ⟨l4, l4A, l4C, l4as, n4, h, hf, hs⟩
     obtain ⟨again3, hagain3⟩ : ∃ X : List (List Bool) → Int → Prop, X = (fun l4 n4 => iterF (fun again (s : List (List Bool) × Int) => M_mount_Balanced_L3 b2 n2 again2 x5 (fun l4 n4 => again (l4, n4)) s.1 s.2) kk (l4, n4)) := ⟨_, rfl⟩
     replace h : M_mount_Balanced_L3 b2 n2 again2 x5 again3 l4 n4 := by rw [hagain3]; exact h
     unfold M_mount_Balanced_L3 at h
     refine wp_seq (wp_seq (R.list ?_))
     refine S.p hf hs (iv n4) rfl rfl fun a hf => ?_
     refine S.v hf hs (iv b2) rfl (V.loadBox 2 rfl rfl rfl Tryd.isAgg3 Tryd.sizeOf3 rfl rfl) fun a hf => ?_
     refine S.p hf hs (.bool (decide (n4 ≤ b2))) rfl rfl fun a hf => ?_
     refine R.nil (X.then_ ?_)
     refine C.cond hf (b := decide (n4 ≤ b2)) rfl (fun hc => ?_) (fun hc => ?_)
     ·replace h := h.1 hc
      refine wp_skip (X.then_ (wp_seq (wp_block ?_)))
      refine M.start 28 (Sat w0 none_ [hbox g2 117 [.slice l4A l4.length l4C], hrows 102 4 l4A l4C l4as l4, hbox g1 3 [iv b2]]) mo ?_
      replace hs := hs.drew
      refine M.v hf hs (.slice l4A l4.length l4C) 0 rfl rfl (by kernel_rfl) (V.loadBox 0 rfl rfl rfl Tryd.isAgg117 Tryd.sizeOf117 rfl rfl) fun a hf => ?_
      refine M.v hf hs (iv n2) 1 rfl rfl (by kernel_rfl) (V.pure rfl) fun a hf => ?_
      obtain ⟨h0x6, x6, hx6, h⟩ := h
      refine M.v hf hs (elemPtr l4A (n2.toNat * 1)) 2 rfl rfl (by kernel_rfl) (V.index rfl rfl rfl Tryd.runUnderlying117 Tryd.sizeOf102 (hs.rowsSome 1 rfl hx6) h0x6 (lt_of_get hx6) rfl) fun a hf => ?_
      obtain ⟨B4, D4, hrB4⟩ := hs.rowAt 1 rfl hx6
      refine M.v hf hs (.slice B4 x6.length D4) 3 rfl rfl (by kernel_rfl) (V.loadRows (off := 0) 1 rfl hx6 hrB4 rfl rfl rfl Tryd.isAgg102 Tryd.sizeOf102 rfl rfl) fun a hf => ?_
      refine M.v hf hs (iv n4) 4 rfl rfl (by kernel_rfl) (V.pure rfl) fun a hf => ?_
      refine M.v hf hs (.slice l4A l4.length l4C) 5 rfl rfl (by kernel_rfl) (V.loadBox 0 rfl rfl rfl Tryd.isAgg117 Tryd.sizeOf117 rfl rfl) fun a hf => ?_
      refine M.v hf hs (iv n2) 6 rfl rfl (by kernel_rfl) (V.pure rfl) fun a hf => ?_
      refine M.v hf hs (elemPtr l4A (n2.toNat * 1)) 7 rfl rfl (by kernel_rfl) (V.index rfl rfl rfl Tryd.runUnderlying117 Tryd.sizeOf102 (hs.rowsSome 1 rfl hx6) h0x6 (lt_of_get hx6) rfl) fun a hf => ?_
      refine M.v hf hs (.slice B4 x6.length D4) 8 rfl rfl (by kernel_rfl) (V.loadRows (off := 0) 1 rfl hx6 hrB4 rfl rfl rfl Tryd.isAgg102 Tryd.sizeOf102 rfl rfl) fun a hf => ?_
      refine M.v hf hs (iv n4) 9 rfl rfl (by kernel_rfl) (V.pure rfl) fun a hf => ?_
      obtain ⟨h0x7, x7, hx7, h⟩ := h
      refine M.v hf hs (elemPtr B4 (n4.toNat * 1)) 10 rfl rfl (by kernel_rfl) (V.index rfl rfl rfl Tryd.runUnderlying102 Tryd.sizeOf4 ((hs.rowView 1 rfl hx6 hrB4).some_ (lt_of_get hx7)) h0x7 (lt_of_get hx7) rfl) fun a hf => ?_
      refine M.v hf hs (.bool x7) 11 rfl rfl (by kernel_rfl) (V.loadRowEl (off := 0) 1 rfl hx6 hrB4 hx7 rfl rfl rfl Tryd.isAgg4 Tryd.sizeOf4 rfl rfl) fun a hf => ?_
      refine M.split hf hs (b := x7) (i := 12) rfl rfl rfl rfl (by kernel_rfl) (by kernel_rfl) (by kernel_rfl) (by kernel_rfl) (by kernel_rfl) rfl (V.pure rfl) (fun hc a hf => ?_) (fun hc a hf => ?_)
      ·replace h := h.1 hc
       refine M.k hf hs 13 rfl rfl (by kernel_rfl) fun a hf => ?_
       refine M.k hf hs 14 rfl rfl (by kernel_rfl) fun a hf => ?_
       refine M.k hf hs 15 rfl rfl (by kernel_rfl) fun a hf => ?_
       refine M.k hf hs 16 rfl rfl (by kernel_rfl) fun a hf => ?_
       refine M.k hf hs 17 rfl rfl (by kernel_rfl) fun a hf => ?_
       refine M.k hf hs 18 rfl rfl (by kernel_rfl) fun a hf => ?_
       refine M.k hf hs 19 rfl rfl (by kernel_rfl) fun a hf => ?_
       refine M.k hf hs 20 rfl rfl (by kernel_rfl) fun a hf => ?_
       refine M.k hf hs 21 rfl rfl (by kernel_rfl) fun a hf => ?_
       refine M.k hf hs 22 rfl rfl (by kernel_rfl) fun a hf => ?_
       refine M.k hf hs 23 rfl rfl (by kernel_rfl) fun a hf => ?_
       refine M.k hf hs 24 rfl rfl (by kernel_rfl) fun a hf => ?_
       refine M.k hf hs 25 rfl rfl (by kernel_rfl) fun a hf => ?_
       refine M.v hf hs (.bool true) 26 rfl rfl (by kernel_rfl) (V.pure rfl) fun a hf => ?_
       refine M.v hf hs (elemPtr B4 (n4.toNat * 1)) 27 rfl rfl (by kernel_rfl) (V.index rfl rfl rfl Tryd.runUnderlying102 Tryd.sizeOf4 ((hs.rowView 1 rfl hx6 hrB4).some_ (lt_of_get hx7)) h0x7 (lt_of_get hx7) rfl) fun a hf => ?_
       refine M.last (i := 28) rfl (by kernel_rfl) (by kernel_rfl) ?_
       refine S.storeRowEl (off := 0) 1 hf hs rfl rfl (x6.set n4.toNat true) true [.bool true] rfl hx6 hrB4 hx7 rfl (row_same _ _ List.length_set _ _) rfl rfl rfl rfl rfl Tryd.sizeOf4 rfl (by decide) rfl rfl (fun a w hf hs => ?_)
       replace hs := hs.rebox 0 (vs' := [.slice l4A (l4.set n2.toNat (x6.set n4.toNat true)).length l4C]) rfl (congrArg (fun n => [Value.slice l4A n l4C]) List.length_set.symm)
       replace hf := hf.tell 78 (v := .slice l4A (l4.set n2.toNat (x6.set n4.toNat true)).length l4C) ((hf.get 78 (.slice l4A l4.length l4C) rfl).trans (congrArg (fun n => Value.slice l4A n l4C) List.length_set.symm))
       replace hf := hf.tell 83 (v := .slice l4A (l4.set n2.toNat (x6.set n4.toNat true)).length l4C) ((hf.get 83 (.slice l4A l4.length l4C) rfl).trans (congrArg (fun n => Value.slice l4A n l4C) List.length_set.symm))
       have hx4 : (l4.set n2.toNat (x6.set n4.toNat true))[n2.toNat]? = some (x6.set n4.toNat true) := List.getElem?_set_self (lt_of_get hx6)
       replace hf := hf.tell 81 (v := .slice B4 (x6.set n4.toNat true).length D4) ((hf.get 81 (.slice B4 x6.length D4) rfl).trans (congrArg (fun n => Value.slice B4 n D4) List.length_set.symm))
       replace hf := hf.tell 86 (v := .slice B4 (x6.set n4.toNat true).length D4) ((hf.get 86 (.slice B4 x6.length D4) rfl).trans (congrArg (fun n => Value.slice B4 n D4) List.length_set.symm))
       refine R.nil (X.then_ ?_)
       refine M.done (by kernel_rfl) ?_
       refine X.blk (X.then_ (R.list ?_))
       refine S.p hf hs (iv n4) rfl rfl fun a hf => ?_
       refine S.p hf hs (iv (w64 (n4 + 1))) rfl rfl fun a hf => ?_
       refine S.p hf hs (iv (w64 (n4 + 1))) rfl rfl fun a hf => ?_
       refine R.nil (X.then_ ?_)
       exact ⟨(l4.set n2.toNat (x6.set n4.toNat true)), l4A, l4C, l4as, (w64 (n4 + 1)), (by rw [hagain3] at h; exact h), (((((hf.nil.cons (hf.get 10 _ rfl)).cons (hf.get 9 _ rfl)).cons (hf.get 8 _ rfl)).cons (hf.get 5 _ rfl)).cons (hf.get 0 _ rfl)), hs⟩
      ·replace h := h.2 hc
       refine M.v hf hs (.slice l4A l4.length l4C) 13 rfl rfl (by kernel_rfl) (V.loadBox 0 rfl rfl rfl Tryd.isAgg117 Tryd.sizeOf117 rfl rfl) fun a hf => ?_
       refine M.v hf hs (iv n2) 14 rfl rfl (by kernel_rfl) (V.pure rfl) fun a hf => ?_
       refine M.v hf hs (iv (w64 (n2 + 1))) 15 rfl rfl (by kernel_rfl) (V.pure rfl) fun a hf => ?_
       obtain ⟨h0x8, x8, hx8, h⟩ := h
       refine M.v hf hs (elemPtr l4A ((w64 (n2 + 1)).toNat * 1)) 16 rfl rfl (by kernel_rfl) (V.index rfl rfl rfl Tryd.runUnderlying117 Tryd.sizeOf102 (hs.rowsSome 1 rfl hx8) h0x8 (lt_of_get hx8) rfl) fun a hf => ?_
       obtain ⟨B5, D5, hrB5⟩ := hs.rowAt 1 rfl hx8
       refine M.v hf hs (.slice B5 x8.length D5) 17 rfl rfl (by kernel_rfl) (V.loadRows (off := 0) 1 rfl hx8 hrB5 rfl rfl rfl Tryd.isAgg102 Tryd.sizeOf102 rfl rfl) fun a hf => ?_
       refine M.v hf hs (iv n4) 18 rfl rfl (by kernel_rfl) (V.pure rfl) fun a hf => ?_
       refine M.v hf hs (.slice loadsA loads.length loadsC) 19 rfl rfl (by kernel_rfl) (V.pure rfl) fun a hf => ?_
       refine M.v hf hs (iv n2) 20 rfl rfl (by kernel_rfl) (V.pure rfl) fun a hf => ?_
       refine M.v hf hs (elemPtr loadsA (n2.toNat * 1)) 21 rfl rfl (by kernel_rfl) (V.index rfl rfl rfl Tryd.runUnderlying48 Tryd.sizeOf3 (hv_loads.some_ (lt_of_get hx5)) h0x5 (lt_of_get hx5) rfl) fun a hf => ?_
       refine M.v hf hs (iv x5) 22 rfl rfl (by kernel_rfl) (V.loadEl (off := 0) (Ag.args _ _ _) (hv_loads.flat hx5) rfl rfl rfl Tryd.isAgg3 Tryd.sizeOf3 rfl rfl) fun a hf => ?_
       refine M.v hf hs (iv (w64 (n4 - x5))) 23 rfl rfl (by kernel_rfl) (V.pure rfl) fun a hf => ?_
       obtain ⟨h0x9, x9, hx9, h⟩ := h
       refine M.v hf hs (elemPtr B5 ((w64 (n4 - x5)).toNat * 1)) 24 rfl rfl (by kernel_rfl) (V.index rfl rfl rfl Tryd.runUnderlying102 Tryd.sizeOf4 ((hs.rowView 1 rfl hx8 hrB5).some_ (lt_of_get hx9)) h0x9 (lt_of_get hx9) rfl) fun a hf => ?_
       refine M.v hf hs (.bool x9) 25 rfl rfl (by kernel_rfl) (V.loadRowEl (off := 0) 1 rfl hx8 hrB5 hx9 rfl rfl rfl Tryd.isAgg4 Tryd.sizeOf4 rfl rfl) fun a hf => ?_
       refine M.v hf hs (.bool x9) 26 rfl rfl (by kernel_rfl) (V.pure rfl) fun a hf => ?_
       refine M.v hf hs (elemPtr B4 (n4.toNat * 1)) 27 rfl rfl (by kernel_rfl) (V.index rfl rfl rfl Tryd.runUnderlying102 Tryd.sizeOf4 ((hs.rowView 1 rfl hx6 hrB4).some_ (lt_of_get hx7)) h0x7 (lt_of_get hx7) rfl) fun a hf => ?_
       refine M.last (i := 28) rfl (by kernel_rfl) (by kernel_rfl) ?_
       refine S.storeRowEl (off := 0) 1 hf hs rfl rfl (x6.set n4.toNat x9) x9 [.bool x9] rfl hx6 hrB4 hx7 rfl (row_same _ _ List.length_set _ _) rfl rfl rfl rfl rfl Tryd.sizeOf4 rfl (by decide) rfl rfl (fun a w hf hs => ?_)
       replace hs := hs.rebox 0 (vs' := [.slice l4A (l4.set n2.toNat (x6.set n4.toNat x9)).length l4C]) rfl (congrArg (fun n => [Value.slice l4A n l4C]) List.length_set.symm)
       replace hf := hf.tell 78 (v := .slice l4A (l4.set n2.toNat (x6.set n4.toNat x9)).length l4C) ((hf.get 78 (.slice l4A l4.length l4C) rfl).trans (congrArg (fun n => Value.slice l4A n l4C) List.length_set.symm))
       replace hf := hf.tell 83 (v := .slice l4A (l4.set n2.toNat (x6.set n4.toNat x9)).length l4C) ((hf.get 83 (.slice l4A l4.length l4C) rfl).trans (congrArg (fun n => Value.slice l4A n l4C) List.length_set.symm))
       replace hf := hf.tell 91 (v := .slice l4A (l4.set n2.toNat (x6.set n4.toNat x9)).length l4C) ((hf.get 91 (.slice l4A l4.length l4C) rfl).trans (congrArg (fun n => Value.slice l4A n l4C) List.length_set.symm))
       have hx5 : (l4.set n2.toNat (x6.set n4.toNat x9))[n2.toNat]? = some (x6.set n4.toNat x9) := List.getElem?_set_self (lt_of_get hx6)
       replace hf := hf.tell 81 (v := .slice B4 (x6.set n4.toNat x9).length D4) ((hf.get 81 (.slice B4 x6.length D4) rfl).trans (congrArg (fun n => Value.slice B4 n D4) List.length_set.symm))
       replace hf := hf.tell 86 (v := .slice B4 (x6.set n4.toNat x9).length D4) ((hf.get 86 (.slice B4 x6.length D4) rfl).trans (congrArg (fun n => Value.slice B4 n D4) List.length_set.symm))
       refine R.nil (X.then_ ?_)
       refine M.done (by kernel_rfl) ?_
       refine X.blk (X.then_ (R.list ?_))
       refine S.p hf hs (iv n4) rfl rfl fun a hf => ?_
       refine S.p hf hs (iv (w64 (n4 + 1))) rfl rfl fun a hf => ?_
       refine S.p hf hs (iv (w64 (n4 + 1))) rfl rfl fun a hf => ?_
       refine R.nil (X.then_ ?_)
       exact ⟨(l4.set n2.toNat (x6.set n4.toNat x9)), l4A, l4C, l4as, (w64 (n4 + 1)), (by rw [hagain3] at h; exact h), (((((hf.nil.cons (hf.get 10 _ rfl)).cons (hf.get 9 _ rfl)).cons (hf.get 8 _ rfl)).cons (hf.get 5 _ rfl)).cons (hf.get 0 _ rfl)), hs⟩
     ·replace h := h.2 hc
      refine wp_exit (X.then_exit (X.then_exit (X.blk_exit (X.blk (X.then_ (R.list ?_))))))
      refine S.p hf hs (iv n2) rfl rfl fun a hf => ?_
      refine S.p hf hs (iv (w64 (n2 - 1))) rfl rfl fun a hf => ?_
      refine S.p hf hs (iv (w64 (n2 - 1))) rfl rfl fun a hf => ?_
      refine R.nil (X.then_ ?_)
      exact ⟨l4, l4A, l4C, l4as, (w64 (n2 - 1)), (by rw [hagain2] at h; exact h), ((((hf.nil.cons (hf.get 9 _ rfl)).cons (hf.get 8 _ rfl)).cons (hf.get 5 _ rfl)).cons (hf.get 0 _ rfl)), hs⟩
    ·replace h := h.2 hc
     refine wp_exit (X.then_exit (X.then_exit (X.blk_exit (X.then_ (wp_seq (R.list ?_))))))
     refine S.v hf hs (iv b2) rfl (V.loadBox 2 rfl rfl rfl Tryd.isAgg3 Tryd.sizeOf3 rfl rfl) fun a hf => ?_
     refine S.alloc hf hs rfl rfl rfl [iv 0] rfl Tryd.zeroValue3 rfl (fun g3 a w hf hs => ?_)
     refine S.storeBox 0 hf hs rfl rfl [iv b2] [iv b2] rfl rfl rfl rfl rfl Tryd.sizeOf3 rfl rfl rfl rfl (fun a w hf hs => ?_)
     refine R.nil (X.then_ (wp_seq (wp_seq (R.list ?_))))
     refine S.p hf hs (.slice loadsA loads.length loadsC) rfl rfl fun a hf => ?_
     obtain ⟨h0x10, x10, hx10, h⟩ := h
     refine S.v hf hs (elemPtr loadsA (0 * 1)) rfl (V.index rfl rfl rfl Tryd.runUnderlying48 Tryd.sizeOf3 (hv_loads.some_ (lt_of_get hx10)) h0x10 (lt_of_get hx10) rfl) fun a hf => ?_
     refine S.v hf hs (iv x10) rfl (V.loadEl (off := 0) (Ag.args _ _ _) (hv_loads.flat hx10) rfl rfl rfl Tryd.isAgg3 Tryd.sizeOf3 rfl rfl) fun a hf => ?_
     refine S.p hf hs (iv x10) rfl rfl fun a hf => ?_
     refine R.nil (X.then_ (wp_block ?_))
     obtain ⟨kk, h⟩ := h
     refine C.loop (fun kk a w => ∃ (b4 : Int) (n6 : Int), iterF (fun again (s : Int × Int) => M_mount_Balanced_L4 loads Q b2 l2 x10 (fun b4 n6 => again (b4, n6)) s.1 s.2) kk (b4, n6) ∧ FrOk 167 [(0, .slice loadsA loads.length loadsC), (5, (pn g1 0)), (8, (pn g2 0)), (11, (pn g3 0)), (12, iv n6)] a ∧ Sat w0 none_ [hbox g3 3 [iv b4], hbox g2 117 [.slice l2A l2.length l2C], hrows 102 4 l2A l2C l2as l2, hbox g1 3 [iv b2]] w) kk ⟨b2, x10, h, (((((hf.nil.cons (hf.get 12 _ rfl)).cons (hf.get 11 _ rfl)).cons (hf.get 8 _ rfl)).cons (hf.get 5 _ rfl)).cons (hf.get 0 _ rfl)), hs⟩ (fun a w ⟨_, _, h, _, _⟩ => h) ?_
     clear h hf hs
     rintro kk a w ⟨b4, n6, h, hf, hs⟩
     obtain ⟨again4, hagain4⟩ : ∃ X : Int → Int → Prop, X = (fun b4 n6 => iterF (fun again (s : Int × Int) => M_mount_Balanced_L4 loads Q b2 l2 x10 (fun b4 n6 => again (b4, n6)) s.1 s.2) kk (b4, n6)) := ⟨_, rfl⟩
     replace h : M_mount_Balanced_L4 loads Q b2 l2 x10 again4 b4 n6 := by rw [hagain4]; exact h
     unfold M_mount_Balanced_L4 at h
     refine wp_seq (wp_seq (R.list ?_))
     refine S.p hf hs (iv n6) rfl rfl fun a hf => ?_
     refine S.v hf hs (iv b2) rfl (V.loadBox 3 rfl rfl rfl Tryd.isAgg3 Tryd.sizeOf3 rfl rfl) fun a hf => ?_
     refine S.p hf hs (.bool (decide (n6 ≤ b2))) rfl rfl fun a hf => ?_
     refine R.nil (X.then_ ?_)
     refine C.cond hf (b := decide (n6 ≤ b2)) rfl (fun hc => ?_) (fun hc => ?_)
     ·replace h := h.1 hc
      refine wp_skip (X.then_ (wp_seq (wp_block (wp_seq ?_))))
      refine R.draw mo (by kernel_rfl) hs ?_
      refine D.v hf (.slice l2A l2.length l2C) rfl (V.loadBox 1 rfl rfl rfl Tryd.isAgg117 Tryd.sizeOf117 rfl rfl) fun a hf => ?_
      obtain ⟨h0x11, x11, hx11, h⟩ := h
      refine D.v hf (elemPtr l2A (1 * 1)) rfl (V.index rfl rfl rfl Tryd.runUnderlying117 Tryd.sizeOf102 (hs.rowsSome 2 rfl hx11) h0x11 (lt_of_get hx11) rfl) fun a hf => ?_
      obtain ⟨B6, D6, hrB6⟩ := hs.rowAt 2 rfl hx11
      refine D.v hf (.slice B6 x11.length D6) rfl (V.loadRows (off := 0) 2 rfl hx11 hrB6 rfl rfl rfl Tryd.isAgg102 Tryd.sizeOf102 rfl rfl) fun a hf => ?_
      refine D.p hf (iv n6) rfl rfl fun a hf => ?_
      refine D.p hf (.slice loadsA loads.length loadsC) rfl rfl fun a hf => ?_
      refine D.v hf (elemPtr loadsA (0 * 1)) rfl (V.index rfl rfl rfl Tryd.runUnderlying48 Tryd.sizeOf3 (hv_loads.some_ (lt_of_get hx10)) h0x10 (lt_of_get hx10) rfl) fun a hf => ?_
      refine D.v hf (iv x10) rfl (V.loadEl (off := 0) (Ag.args _ _ _) (hv_loads.flat hx10) rfl rfl rfl Tryd.isAgg3 Tryd.sizeOf3 rfl rfl) fun a hf => ?_
      refine D.p hf (iv (w64 (n6 - x10))) rfl rfl fun a hf => ?_
      obtain ⟨h0x12, x12, hx12, h⟩ := h
      refine D.v hf (elemPtr B6 ((w64 (n6 - x10)).toNat * 1)) rfl (V.index rfl rfl rfl Tryd.runUnderlying102 Tryd.sizeOf4 ((hs.rowView 2 rfl hx11 hrB6).some_ (lt_of_get hx12)) h0x12 (lt_of_get hx12) rfl) fun a hf => ?_
      refine D.v hf (.bool x12) rfl (V.loadRowEl (off := 0) 2 rfl hx11 hrB6 hx12 rfl rfl rfl Tryd.isAgg4 Tryd.sizeOf4 rfl rfl) fun a hf => ?_
      refine D.done (fun w hs => ?_)
      refine X.then_ ?_
      refine C.cond hf (b := x12) rfl (fun hc => ?_) (fun hc => ?_)
      ·replace h := h.1 hc
       refine R.list ?_
       refine S.v hf hs (iv b4) rfl (V.loadBox 0 rfl rfl rfl Tryd.isAgg3 Tryd.sizeOf3 rfl rfl) fun a hf => ?_
       refine S.p hf hs (iv n6) rfl rfl fun a hf => ?_
       refine S.v hf hs (iv b2) rfl (V.loadBox 3 rfl rfl rfl Tryd.isAgg3 Tryd.sizeOf3 rfl rfl) fun a hf => ?_
       refine S.p hf hs (iv n6) rfl rfl fun a hf => ?_
       refine S.p hf hs (iv (w64 (b2 - n6))) rfl rfl fun a hf => ?_
       refine S.v hf hs (iv (max n6 (w64 (b2 - n6)))) rfl (V.max2 rfl rfl rfl) fun a hf => ?_
       refine S.v hf hs (iv (min b4 (max n6 (w64 (b2 - n6))))) rfl (V.min2 rfl rfl rfl) fun a hf => ?_
       refine S.storeBox 0 hf hs rfl rfl [iv (min b4 (max n6 (w64 (b2 - n6))))] [iv (min b4 (max n6 (w64 (b2 - n6))))] rfl rfl rfl rfl rfl Tryd.sizeOf3 rfl rfl rfl rfl (fun a w hf hs => ?_)
       refine R.nil (X.blk (X.then_ (R.list ?_)))
       refine S.p hf hs (iv n6) rfl rfl fun a hf => ?_
       refine S.p hf hs (iv (w64 (n6 + 1))) rfl rfl fun a hf => ?_
       refine S.p hf hs (iv (w64 (n6 + 1))) rfl rfl fun a hf => ?_
       refine R.nil (X.then_ ?_)
       exact ⟨(min b4 (max n6 (w64 (b2 - n6)))), (w64 (n6 + 1)), (by rw [hagain4] at h; exact h), (((((hf.nil.cons (hf.get 12 _ rfl)).cons (hf.get 11 _ rfl)).cons (hf.get 8 _ rfl)).cons (hf.get 5 _ rfl)).cons (hf.get 0 _ rfl)), hs⟩
      ·replace h := h.2 hc
       refine wp_skip (X.blk (X.then_ (R.list ?_)))
       refine S.p hf hs (iv n6) rfl rfl fun a hf => ?_
       refine S.p hf hs (iv (w64 (n6 + 1))) rfl rfl fun a hf => ?_
       refine S.p hf hs (iv (w64 (n6 + 1))) rfl rfl fun a hf => ?_
       refine R.nil (X.then_ ?_)
       exact ⟨b4, (w64 (n6 + 1)), (by rw [hagain4] at h; exact h), (((((hf.nil.cons (hf.get 12 _ rfl)).cons (hf.get 11 _ rfl)).cons (hf.get 8 _ rfl)).cons (hf.get 5 _ rfl)).cons (hf.get 0 _ rfl)), hs⟩
     ·replace h := h.2 hc
      refine wp_exit (X.then_exit (X.then_exit (X.blk_exit (X.then_ (wp_seq ?_)))))
      refine H.start (S := Sat w0 none_ [hbox g3 3 [iv b4], hbox g2 117 [.slice l2A l2.length l2C], hrows 102 4 l2A l2C l2as l2, hbox g1 3 [iv b2]]) mo ?_
      replace hs := hs.drew
      refine H.v hf hs (.slice loadsA loads.length loadsC) 1 rfl rfl (by kernel_rfl) (V.pure rfl) fun a hf => ?_
      refine H.v hf hs (elemPtr loadsA (0 * 1)) 2 rfl rfl (by kernel_rfl) (V.index rfl rfl rfl Tryd.runUnderlying48 Tryd.sizeOf3 (hv_loads.some_ (lt_of_get hx10)) h0x10 (lt_of_get hx10) rfl) fun a hf => ?_
      refine H.v hf hs (iv x10) 3 rfl rfl (by kernel_rfl) (V.loadEl (off := 0) (Ag.args _ _ _) (hv_loads.flat hx10) rfl rfl rfl Tryd.isAgg3 Tryd.sizeOf3 rfl rfl) fun a hf => ?_
      refine H.one (i := 0) rfl (by kernel_rfl) ?_
      refine S.build1 hf hs rfl rfl rfl (α := Int) 0 rfl rfl rfl Tryd.runUnderlying48 Tryd.sizeOf3 Tryd.zeroValue3 rfl (by decide) (fun A3 a w hf hs => ?_)
      refine R.nil (X.then_ ?_)
      refine ⟨(hs.mask [false, true, true, true, true]), ?_⟩
      refine H.val hf (hs.mask [false, true, true, true, true]) (v := .slice A3 [0].length 1) (i := 4) rfl rfl rfl rfl (by kernel_rfl) (by kernel_rfl) (by kernel_rfl) (V.pure rfl) (fun a hf => ?_)
      refine H.val hf (hs.mask [false, true, true, true, true]) (v := iv x10) (i := 5) rfl rfl rfl rfl (by kernel_rfl) (by kernel_rfl) (by kernel_rfl) (V.pure rfl) (fun a hf => ?_)
      refine H.done (by kernel_rfl) ?_
      refine X.then_ (wp_seq (wp_seq (R.list ?_)))
      refine S.alloc hf hs rfl rfl rfl [iv 0] rfl Tryd.zeroValue3 rfl (fun g4 a w hf hs => ?_)
      refine S.storeBox 0 hf hs rfl rfl [iv 1] [iv 1] rfl rfl rfl rfl rfl Tryd.sizeOf3 rfl rfl rfl rfl (fun a w hf hs => ?_)
      refine R.nil (X.then_ (wp_block ?_))
      replace hs := hs.front 1 rfl
      replace hs := hs.front 2 rfl
      replace hs := hs.front 4 rfl
      replace hs := hs.front 4 rfl
      replace hs := hs.front 5 rfl
      obtain ⟨kk, h⟩ := h
      refine C.loop (fun kk a w => ∃ (l6 : List Int) (l6A : Option Addr) (l6C : Nat) (gj2 : Nat) (b6 : Int) (n8 : Int), iterF (fun again (s : List Int × Int × Int) => M_mount_Balanced_L5 loads Q b2 l2 b4 (fun l6 b6 n8 => again (l6, b6, n8)) s.1 s.2.1 s.2.2) kk (l6, b6, n8) ∧ FrOk 167 [(0, .slice loadsA loads.length loadsC), (5, (pn g1 0)), (8, (pn g2 0)), (11, (pn g3 0)), (13, .slice l6A l6.length l6C), (14, iv n8), (15, (pn gj2 0))] a ∧ Sat w0 none_ [hbox g1 3 [iv b2], hbox g2 117 [.slice l2A l2.length l2C], hrows 102 4 l2A l2C l2as l2, hbox g3 3 [iv b4], hown 3 l6A l6C l6, hbox gj2 3 [iv b6]] w) kk ⟨[0], A3, 1, g4, 1, x10, h, (((((((hf.nil.cons (hf.get 15 _ rfl)).cons (hf.get 14 _ rfl)).cons (hf.get 13 _ rfl)).cons (hf.get 11 _ rfl)).cons (hf.get 8 _ rfl)).cons (hf.get 5 _ rfl)).cons (hf.get 0 _ rfl)), hs⟩ (fun a w ⟨_, _, _, _, _, _, h, _, _⟩ => h) ?_
      clear h hf hs
      rintro kk a w ⟨l6, l6A, l6C, gj2, b6, n8, h, hf, hs⟩
      obtain ⟨again5, hagain5⟩ : ∃ X : List Int → Int → Int → Prop, X = (fun l6 b6 n8 => iterF (fun again (s : List Int × Int × Int) => M_mount_Balanced_L5 loads Q b2 l2 b4 (fun l6 b6 n8 => again (l6, b6, n8)) s.1 s.2.1 s.2.2) kk (l6, b6, n8)) := ⟨_, rfl⟩
      replace h : M_mount_Balanced_L5 loads Q b2 l2 b4 again5 l6 b6 n8 := by rw [hagain5]; exact h
      unfold M_mount_Balanced_L5 at h
      refine wp_seq (wp_seq (R.list ?_))
      refine S.p hf hs (iv n8) rfl rfl fun a hf => ?_
      refine S.v hf hs (iv b2) rfl (V.loadBox 0 rfl rfl rfl Tryd.isAgg3 Tryd.sizeOf3 rfl rfl) fun a hf => ?_
      refine S.p hf hs (iv n8) rfl rfl fun a hf => ?_
      refine S.p hf hs (iv (w64 (b2 - n8))) rfl rfl fun a hf => ?_
      refine S.v hf hs (iv (max n8 (w64 (b2 - n8)))) rfl (V.max2 rfl rfl rfl) fun a hf => ?_
      refine S.v hf hs (iv b4) rfl (V.loadBox 3 rfl rfl rfl Tryd.isAgg3 Tryd.sizeOf3 rfl rfl) fun a hf => ?_
      refine S.p hf hs (.bool ((max n8 (w64 (b2 - n8))) != b4)) rfl rfl fun a hf => ?_
      refine R.nil (X.then_ ?_)
      refine C.cond hf (b := (max n8 (w64 (b2 - n8))) != b4) rfl (fun hc => ?_) (fun hc => ?_)
      ·replace h := h.1 hc
       refine wp_skip (X.then_ (wp_seq ?_))
       refine C.cut (J := fun a w => ∃ (l7 : List Int) (l7A : Option Addr) (l7C : Nat) (n9 : Int), M_mount_Balanced_k6 b6 again5 l7 n9 ∧ FrOk 167 [(0, .slice loadsA loads.length loadsC), (5, (pn g1 0)), (8, (pn g2 0)), (11, (pn g3 0)), (13, .slice l7A l7.length l7C), (14, iv n9), (15, (pn gj2 0))] a ∧ Sat w0 none_ [hbox g1 3 [iv b2], hbox g2 117 [.slice l2A l2.length l2C], hrows 102 4 l2A l2C l2as l2, hbox g3 3 [iv b4], hown 3 l7A l7C l7, hbox gj2 3 [iv b6]] w) ?_ ?_
       ·rintro a w ⟨l7, l7A, l7C, n9, h, hf, hs⟩
        unfold M_mount_Balanced_k6 at h
        refine wp_seq (wp_seq (R.list ?_))
        refine S.v hf hs (iv b6) rfl (V.loadBox 5 rfl rfl rfl Tryd.isAgg3 Tryd.sizeOf3 rfl rfl) fun a hf => ?_
        refine R.nil (X.then_ (R.list ?_))
        refine S.alloc hf hs rfl rfl rfl [iv 0] rfl Tryd.zeroValue3 rfl (fun g5 a w hf hs => ?_)
        refine S.storeBox 0 hf hs rfl rfl [iv b6] [iv b6] rfl rfl rfl rfl rfl Tryd.sizeOf3 rfl rfl rfl rfl (fun a w hf hs => ?_)
        refine R.nil (X.then_ (R.list ?_))
        refine S.v hf hs (iv b6) rfl (V.loadBox 0 rfl rfl rfl Tryd.isAgg3 Tryd.sizeOf3 rfl rfl) fun a hf => ?_
        refine S.p hf hs (iv (w64 (b6 + 1))) rfl rfl fun a hf => ?_
        refine S.storeBox 0 hf hs rfl rfl [iv (w64 (b6 + 1))] [iv (w64 (b6 + 1))] rfl rfl rfl rfl rfl Tryd.sizeOf3 rfl rfl rfl rfl (fun a w hf hs => ?_)
        refine R.nil (X.then_ ?_)
        replace hs := hs.front 5 rfl
        replace hs := hs.front 5 rfl
        replace hs := hs.front 5 rfl
        replace hs := hs.front 5 rfl
        replace hs := hs.front 5 rfl
        replace hs := hs.take 6
        exact ⟨l7, l7A, l7C, g5, (w64 (b6 + 1)), n9, (by rw [hagain5] at h; exact h), (((((((hf.nil.cons (hf.get 15 _ rfl)).cons (hf.get 14 _ rfl)).cons (hf.get 13 _ rfl)).cons (hf.get 11 _ rfl)).cons (hf.get 8 _ rfl)).cons (hf.get 5 _ rfl)).cons (hf.get 0 _ rfl)), hs⟩
       ·skip
        refine wp_block (wp_seq (R.list ?_))
        refine S.p hf hs (.func (.func 81) #[] #[(pn g3 0), (pn g1 0), (pn g2 0), (pn gj2 0)]) rfl rfl fun a hf => ?_
        refine S.p hf hs (.func (.func 81) #[] #[(pn g3 0), (pn g1 0), (pn g2 0), (pn gj2 0)]) rfl rfl fun a hf => ?_
        refine R.nil (X.then_ (wp_seq (R.list ?_)))
        refine S.p hf hs (.func (.func 81) #[] #[(pn g3 0), (pn g1 0), (pn g2 0), (pn gj2 0)]) rfl rfl fun a hf => ?_
        refine S.p hf hs (iv n8) rfl rfl fun a hf => ?_
        refine S.p hf hs (.slice loadsA loads.length loadsC) rfl rfl fun a hf => ?_
        refine S.v hf hs (iv b6) rfl (V.loadBox 5 rfl rfl rfl Tryd.isAgg3 Tryd.sizeOf3 rfl rfl) fun a hf => ?_
        obtain ⟨h0x13, x13, hx13, h⟩ := h
        refine S.v hf hs (elemPtr loadsA (b6.toNat * 1)) rfl (V.index rfl rfl rfl Tryd.runUnderlying48 Tryd.sizeOf3 (hv_loads.some_ (lt_of_get hx13)) h0x13 (lt_of_get hx13) rfl) fun a hf => ?_
        refine S.v hf hs (iv x13) rfl (V.loadEl (off := 0) (Ag.args _ _ _) (hv_loads.flat hx13) rfl rfl rfl Tryd.isAgg3 Tryd.sizeOf3 rfl rfl) fun a hf => ?_
        refine S.p hf hs (iv (w64 (n8 + x13))) rfl rfl fun a hf => ?_
        refine S.call hf rfl rfl rfl (call_run (args := #[iv (w64 (n8 + x13)), (pn g3 0), (pn g1 0), (pn g2 0), (pn gj2 0)]) rfl rfl rfl Tryd.call81 (by simp)) (R_Balanced1 (w64 (n8 + x13)) b4 b2 l2 b6 _ g3 (hs.boxAt 3 rfl) g1 (hs.boxAt 0 rfl) l2A l2C (hs.rowsView 2 rfl) g2 (hs.boxAt 1 rfl) gj2 (hs.boxAt 5 rfl) _ h) (fun v a w' hf hr => ?_)
        obtain ⟨y2, rfl, h2, hs2⟩ := hr
        replace h := h2; replace hs := hs.call hs2; clear h2 hs2
        refine R.nil (X.then_ ?_)
        refine C.cond hf (b := y2) rfl (fun hc => ?_) (fun hc => ?_)
        ·replace h := h.1 hc
         refine H.start (S := Sat w0 none_ [hbox g1 3 [iv b2], hbox g2 117 [.slice l2A l2.length l2C], hrows 102 4 l2A l2C l2as l2, hbox g3 3 [iv b4], hbox gj2 3 [iv b6]]) mo ?_
         replace hs := hs.drew
         refine H.val hf (hs.mask [true, true, true, true, false, true]) (v := .slice l6A l6.length l6C) (i := 0) rfl rfl rfl rfl (by kernel_rfl) (by kernel_rfl) (by kernel_rfl) (V.pure rfl) (fun a hf => ?_)
         refine H.val hf (hs.mask [true, true, true, true, false, true]) (v := iv b6) (i := 1) rfl rfl rfl rfl (by kernel_rfl) (by kernel_rfl) (by kernel_rfl) (V.loadBox 4 rfl rfl rfl Tryd.isAgg3 Tryd.sizeOf3 rfl rfl) (fun a hf => ?_)
         refine H.val hf (hs.mask [true, true, true, true, false, true]) (v := iv n8) (i := 4) rfl rfl rfl rfl (by kernel_rfl) (by kernel_rfl) (by kernel_rfl) (V.pure rfl) (fun a hf => ?_)
         refine H.val hf (hs.mask [true, true, true, true, false, true]) (v := .slice loadsA loads.length loadsC) (i := 5) rfl rfl rfl rfl (by kernel_rfl) (by kernel_rfl) (by kernel_rfl) (V.pure rfl) (fun a hf => ?_)
         refine H.val hf (hs.mask [true, true, true, true, false, true]) (v := iv b6) (i := 6) rfl rfl rfl rfl (by kernel_rfl) (by kernel_rfl) (by kernel_rfl) (V.loadBox 4 rfl rfl rfl Tryd.isAgg3 Tryd.sizeOf3 rfl rfl) (fun a hf => ?_)
         refine H.val hf (hs.mask [true, true, true, true, false, true]) (v := elemPtr loadsA (b6.toNat * 1)) (i := 7) rfl rfl rfl rfl (by kernel_rfl) (by kernel_rfl) (by kernel_rfl) (V.index rfl rfl rfl Tryd.runUnderlying48 Tryd.sizeOf3 (hv_loads.some_ (lt_of_get hx13)) h0x13 (lt_of_get hx13) rfl) (fun a hf => ?_)
         refine H.val hf (hs.mask [true, true, true, true, false, true]) (v := iv x13) (i := 8) rfl rfl rfl rfl (by kernel_rfl) (by kernel_rfl) (by kernel_rfl) (V.loadEl (off := 0) (Ag.args _ _ _) (hv_loads.flat hx13) rfl rfl rfl Tryd.isAgg3 Tryd.sizeOf3 rfl rfl) (fun a hf => ?_)
         refine H.val hf (hs.mask [true, true, true, true, false, true]) (v := iv (w64 (n8 + x13))) (i := 9) rfl rfl rfl rfl (by kernel_rfl) (by kernel_rfl) (by kernel_rfl) (V.pure rfl) (fun a hf => ?_)
         refine H.one (i := 2) rfl (by kernel_rfl) ?_
         refine S.build1 hf hs rfl rfl rfl (α := Int) b6 rfl rfl rfl Tryd.runUnderlying48 Tryd.sizeOf3 Tryd.zeroValue3 rfl (by decide) (fun A4 a w hf hs => ?_)
         refine R.nil (X.then_ ?_)
         refine ⟨(hs.mask [false, true, true, true, true, false, true]), ?_⟩
         refine H.one (i := 3) rfl (by kernel_rfl) ?_
         obtain ⟨hroom, h⟩ := h
         refine S.appendCells 5 hf hs rfl rfl rfl rfl rfl rfl rfl Tryd.underlying48 info3 rfl hroom ((hs.ownView 0 rfl).some_ (i := 0) (by simp)) (hs.ownView 0 rfl) (fun A5 C1 a w hf hs => ?_)
         replace hs := hs.drop
         refine R.nil (X.then_ ?_)
         refine ⟨(hs.mask [true, true, true, true, false, true]), ?_⟩
         refine H.val hf (hs.mask [true, true, true, true, false, true]) (v := .slice A5 (l6 ++ [b6]).length C1) (i := 10) rfl rfl rfl rfl (by kernel_rfl) (by kernel_rfl) (by kernel_rfl) (V.pure rfl) (fun a hf => ?_)
         refine H.val hf (hs.mask [true, true, true, true, false, true]) (v := iv (w64 (n8 + x13))) (i := 11) rfl rfl rfl rfl (by kernel_rfl) (by kernel_rfl) (by kernel_rfl) (V.pure rfl) (fun a hf => ?_)
         refine H.done (by kernel_rfl) ?_
         refine X.blk (X.then_ ?_)
         exact ⟨(l6 ++ [b6]), A5, C1, (w64 (n8 + x13)), h, (((((((hf.nil.cons (hf.get 15 _ rfl)).cons (hf.get 14 _ rfl)).cons (hf.get 13 _ rfl)).cons (hf.get 11 _ rfl)).cons (hf.get 8 _ rfl)).cons (hf.get 5 _ rfl)).cons (hf.get 0 _ rfl)), hs⟩
        ·replace h := h.2 hc
         refine wp_skip (X.blk (X.then_ ?_))
         exact ⟨l6, l6A, l6C, n8, h, (((((((hf.nil.cons (hf.get 15 _ rfl)).cons (hf.get 14 _ rfl)).cons (hf.get 13 _ rfl)).cons (hf.get 11 _ rfl)).cons (hf.get 8 _ rfl)).cons (hf.get 5 _ rfl)).cons (hf.get 0 _ rfl)), hs⟩
      ·replace h := h.2 hc
       refine wp_exit (X.then_exit (X.then_exit (X.blk_exit (X.then_ (wp_seq ?_)))))
       refine R.draw mo (by kernel_rfl) hs ?_
       refine D.p hf (.slice l6A l6.length l6C) rfl rfl fun a hf => ?_
       refine D.v hf (iv b4) rfl (V.loadBox 3 rfl rfl rfl Tryd.isAgg3 Tryd.sizeOf3 rfl rfl) fun a hf => ?_
       refine D.p hf (.slice l6A l6.length l6C) rfl rfl fun a hf => ?_
       refine D.p hf (iv b4) rfl rfl fun a hf => ?_
       refine D.p hf (iv 0) rfl rfl fun a hf => ?_
       refine D.done (fun w hs => ?_)
       refine X.then_ (wp_ret ?_)
       replace hs := hs.front 4 rfl
       replace hs := hs.take 1
       exact L.ret hf (run_results3 Tryd.results46 (ResIs.tmp hf rfl) (ResIs.tmp hf rfl) (ResIs.tmp hf rfl)) ⟨l6, l6A, l6C, b4, 0, rfl, h, hs⟩
  | cons xk1 llk1 =>
   have hltk1 := range_lt hkk1; have hc := range_go hkk1; have hxk1 := range_get hlk1
   obtain ⟨next1, hnext1⟩ : ∃ X : Int → Prop, X = (fun b2 => forIn' (fun k x (s : Int) next => M_mount_Balanced_L1 Q k x s (fun b2 => next b2)) (fun (s : Int) => (fun (b2 : Int) => cnd ((loads.length : Int) == 0) (Q ([] : List Int) 0 0) (must (0 ≤ w64 ((loads.length : Int) + 1) ∧ w64 ((loads.length : Int) + 1) * 24 ≤ 281474976710656) (must (0 ≤ w64 (b2 + 1) ∧ w64 (b2 + 1) * 1 ≤ 281474976710656) (idx (List.replicate ((w64 ((loads.length : Int) + 1)).toNat) ([] : (List Bool))) (loads.length : Int) fun x1 => idx (List.replicate ((w64 (b2 + 1)).toNat) false) 0 fun x2 => lp (fun again (s : List (List Bool) × Int) => M_mount_Balanced_L2 loads Q b2 (fun l2 n2 => again (l2, n2)) s.1 s.2) ((((List.replicate ((w64 ((loads.length : Int) + 1)).toNat) ([] : (List Bool))).set loads.length (List.replicate ((w64 (b2 + 1)).toNat) false)).set loads.length ((List.replicate ((w64 (b2 + 1)).toNat) false).set 0 true)), w64 ((loads.length : Int) - 1)))))) s) llk1 (k1 + 1) b2) := ⟨_, rfl⟩
   replace h : M_mount_Balanced_L1 Q k1 xk1 b2 next1 := by rw [hnext1]; exact h
   unfold M_mount_Balanced_L1 at h
   refine wp_seq (R.list ?_)
   refine S.v hf hs (.bool true) rfl (V.cmp true rfl rfl rfl rfl hc) fun a hf => ?_
   refine R.nil (X.then_ (wp_seq ?_))
   refine C.yes hf rfl ?_
   refine wp_skip (X.then_ (wp_seq (wp_block (wp_seq (R.list ?_)))))
   refine S.v hf hs (elemPtr loadsA (k1 * 1)) rfl (V.index rfl rfl rfl Tryd.runUnderlying48 Tryd.sizeOf3 (hv_loads.some_ (lt_of_get hxk1)) (Int.natCast_nonneg _) (lt_of_get hxk1) rfl) fun a hf => ?_
   refine S.v hf hs (iv xk1) rfl (V.loadEl (off := 0) (Ag.args _ _ _) (hv_loads.flat hxk1) rfl rfl rfl Tryd.isAgg3 Tryd.sizeOf3 rfl rfl) fun a hf => ?_
   refine S.p hf hs (iv xk1) rfl rfl fun a hf => ?_
   refine R.nil (X.then_ (wp_seq (wp_seq (R.list ?_))))
   refine S.p hf hs (iv xk1) rfl rfl fun a hf => ?_
   refine S.callv hf rfl rfl rfl (call_fn (vs := [iv xk1, iv 0, iv 1000]) rfl rfl rfl Tryd.call47) (C_mount_within xk1 0 1000 _ ) (fun a w hf hs' => ?_)
   replace hs := hs.call hs'; clear hs'
   refine S.p hf hs (.bool (!(within xk1 0 1000))) rfl rfl fun a hf => ?_
   refine R.nil (X.then_ ?_)
   refine C.cond hf (b := !(within xk1 0 1000)) rfl (fun hc => ?_) (fun hc => ?_)
   ·replace h := h.1 hc
    refine wp_seq (R.list ?_)
    refine S.p hf hs (.slice none 0 0) rfl rfl fun a hf => ?_
    refine S.p hf hs (iv 0) rfl rfl fun a hf => ?_
    refine S.p hf hs (iv 1) rfl rfl fun a hf => ?_
    refine R.nil (X.then_ (wp_ret (X.then_ret (X.blk_ret (X.then_ret (X.then_ret (X.blk_ret (X.then_ret ?_))))))))
    replace hs := hs.nilOwn (α := Int) 3
    replace hs := hs.take 1
    exact L.ret hf (run_results3 Tryd.results46 (ResIs.tmp hf rfl) (ResIs.tmp hf rfl) (ResIs.tmp hf rfl)) ⟨([] : List Int), none, 0, 0, 1, rfl, h, hs⟩
   ·replace h := h.2 hc
    refine wp_skip (X.then_ (R.list ?_))
    refine S.v hf hs (iv b2) rfl (V.loadBox 0 rfl rfl rfl Tryd.isAgg3 Tryd.sizeOf3 rfl rfl) fun a hf => ?_
    refine S.p hf hs (iv xk1) rfl rfl fun a hf => ?_
    refine S.p hf hs (iv (w64 (b2 + xk1))) rfl rfl fun a hf => ?_
    refine S.storeBox 0 hf hs rfl rfl [iv (w64 (b2 + xk1))] [iv (w64 (b2 + xk1))] rfl rfl rfl rfl rfl Tryd.sizeOf3 rfl rfl rfl rfl (fun a w hf hs => ?_)
    refine R.nil (X.blk (X.then_ (R.list ?_)))
    refine S.v hf hs (iv ((k1 + 1 : Nat) : Int)) rfl (V.incr rfl rfl rfl hltk1 hlenk1) fun a hf => ?_
    refine S.p hf hs (iv ((k1 + 1 : Nat) : Int)) rfl rfl fun a hf => ?_
    refine R.nil (X.then_ ?_)
    exact ⟨xk1, llk1, rfl, k1 + 1, (w64 (b2 + xk1)), range_drop hlk1, range_len hkk1, (by rw [hnext1] at h; exact h), (((((hf.nil.cons (hf.get 21 _ rfl)).cons (hf.get 20 _ rfl)).cons (hf.get 5 _ rfl)).cons (hf.get 0 _ rfl)).cons (hf.get 22 _ rfl)), hs⟩
set_option linter.unusedVariables false
def M_awake  (Q : Bool → Prop) : Prop :=
  M_mount_Balanced ([5, 4, 3, 2] : List Int) fun y1 y2 y3 => cnd (y3 == 0) (cnd (y2 == 7) (cnd ((y1.length : Int) == 2) (idx y1 1 fun x1 => Q (x1 == 3)) (Q false)) (Q false)) (Q false)
set_option maxHeartbeats 1000000 in
theorem R_awake  (w0 : World)  (Q : Bool → Prop) (h : M_awake  Q) :
  Ret Tryd.prog 13 #[] w0 fun v w' => ∃ (r0 : Bool), v = .bool r0 ∧ Q r0 ∧ Sat w0 none_ [] w' := by
 refine fn_enter Tryd.func13 rfl Tryd.ntmps13 rfl (fs := []) rfl (fun a hf => ?_)
 have hs := Sat.start w0 none_
 unfold M_awake at h
 refine wp_seq (R.list ?_)
 refine S.p hf hs (.bool false) rfl rfl fun a hf => ?_
 refine R.nil (X.then_ (wp_seq (R.list ?_)))
 refine S.buildSlice hf hs rfl rfl rfl (α := Int) [5, 4, 3, 2] rfl rfl Tryd.runUnderlying48 Tryd.sizeOf3 Tryd.zeroValue3 (by kernel_rfl) rfl (by decide) (by decide) (fun A1 a w hf hs => ?_)
 refine S.call hf rfl rfl rfl (call_fn (vs := [.slice A1 ([5, 4, 3, 2] : List Int).length 4]) rfl rfl rfl Tryd.call46) (R_mount_Balanced ([5, 4, 3, 2] : List Int) _ A1 4 (hs.ownView 0 rfl) _ h) (fun v a w' hf hr => ?_)
 obtain ⟨y1, y1A, y1C, y2, y3, rfl, h2, hs2⟩ := hr
 replace h := h2; replace hs := hs.call hs2; clear h2 hs2
 refine S.p hf hs (.tuple #[.slice y1A y1.length y1C, iv y2, iv y3]) rfl rfl fun a hf => ?_
 refine S.p hf hs (.slice y1A y1.length y1C) rfl rfl fun a hf => ?_
 refine S.p hf hs (iv y2) rfl rfl fun a hf => ?_
 refine S.p hf hs (iv y3) rfl rfl fun a hf => ?_
 refine S.p hf hs (.slice y1A y1.length y1C) rfl rfl fun a hf => ?_
 refine S.p hf hs (iv y2) rfl rfl fun a hf => ?_
 refine S.p hf hs (iv y3) rfl rfl fun a hf => ?_
 refine R.nil (X.then_ (wp_seq (R.list ?_)))
 refine S.p hf hs (iv y3) rfl rfl fun a hf => ?_
 refine S.p hf hs (.bool (y3 == 0)) rfl rfl fun a hf => ?_
 refine S.split hf hs (b := y3 == 0) rfl rfl rfl (V.pure rfl) (fun hc a hf => ?_) (fun hc a hf => ?_)
 ·replace h := h.1 hc
  refine S.p hf hs (iv y2) rfl rfl fun a hf => ?_
  refine S.p hf hs (.bool (y2 == 7)) rfl rfl fun a hf => ?_
  refine S.p hf hs (.bool (y2 == 7)) rfl rfl fun a hf => ?_
  refine S.split hf hs (b := y2 == 7) rfl rfl rfl (V.pure rfl) (fun hc a hf => ?_) (fun hc a hf => ?_)
  ·replace h := h.1 hc
   refine S.p hf hs (.slice y1A y1.length y1C) rfl rfl fun a hf => ?_
   refine S.v hf hs (iv (y1.length : Int)) rfl (V.len rfl rfl Tryd.runUnderlying48) fun a hf => ?_
   refine S.p hf hs (.bool ((y1.length : Int) == 2)) rfl rfl fun a hf => ?_
   refine S.p hf hs (.bool ((y1.length : Int) == 2)) rfl rfl fun a hf => ?_
   refine S.split hf hs (b := (y1.length : Int) == 2) rfl rfl rfl (V.pure rfl) (fun hc a hf => ?_) (fun hc a hf => ?_)
   ·replace h := h.1 hc
    refine S.p hf hs (.slice y1A y1.length y1C) rfl rfl fun a hf => ?_
    obtain ⟨h0x1, x1, hx1, h⟩ := h
    refine S.v hf hs (elemPtr y1A (1 * 1)) rfl (V.index rfl rfl rfl Tryd.runUnderlying48 Tryd.sizeOf3 (hs.ownSome 0 rfl (lt_of_get hx1)) h0x1 (lt_of_get hx1) rfl) fun a hf => ?_
    refine S.v hf hs (iv x1) rfl (V.loadOwn (off := 0) 0 rfl hx1 rfl rfl rfl Tryd.isAgg3 Tryd.sizeOf3 rfl rfl) fun a hf => ?_
    refine S.p hf hs (.bool (x1 == 3)) rfl rfl fun a hf => ?_
    refine S.p hf hs (.bool (x1 == 3)) rfl rfl fun a hf => ?_
    refine S.p hf hs (.bool (x1 == 3)) rfl rfl fun a hf => ?_
    refine R.nil (X.then_ (wp_ret ?_))
    exact L.ret hf (run_results1 Tryd.results13 (ResIs.tmp hf rfl)) ⟨(x1 == 3), rfl, h, hs.nil⟩
   ·replace h := h.2 hc
    refine S.k hf rfl fun a hf => ?_
    refine S.k hf rfl fun a hf => ?_
    refine S.k hf rfl fun a hf => ?_
    refine S.k hf rfl fun a hf => ?_
    refine S.p hf hs (.bool false) rfl rfl fun a hf => ?_
    refine S.p hf hs (.bool false) rfl rfl fun a hf => ?_
    refine R.nil (X.then_ (wp_ret ?_))
    exact L.ret hf (run_results1 Tryd.results13 (ResIs.tmp hf rfl)) ⟨false, rfl, h, hs.nil⟩
  ·replace h := h.2 hc
   refine S.k hf rfl fun a hf => ?_
   refine S.k hf rfl fun a hf => ?_
   refine S.k hf rfl fun a hf => ?_
   refine S.p hf hs (.bool false) rfl rfl fun a hf => ?_
   refine S.p hf hs (.bool false) rfl rfl fun a hf => ?_
   refine S.k hf rfl fun a hf => ?_
   refine S.k hf rfl fun a hf => ?_
   refine S.k hf rfl fun a hf => ?_
   refine S.k hf rfl fun a hf => ?_
   refine S.p hf hs (.bool false) rfl rfl fun a hf => ?_
   refine S.p hf hs (.bool false) rfl rfl fun a hf => ?_
   refine R.nil (X.then_ (wp_ret ?_))
   exact L.ret hf (run_results1 Tryd.results13 (ResIs.tmp hf rfl)) ⟨false, rfl, h, hs.nil⟩
 ·replace h := h.2 hc
  refine S.k hf rfl fun a hf => ?_
  refine S.k hf rfl fun a hf => ?_
  refine S.p hf hs (.bool false) rfl rfl fun a hf => ?_
  refine S.p hf hs (.bool false) rfl rfl fun a hf => ?_
  refine S.k hf rfl fun a hf => ?_
  refine S.k hf rfl fun a hf => ?_
  refine S.k hf rfl fun a hf => ?_
  refine S.p hf hs (.bool false) rfl rfl fun a hf => ?_
  refine S.p hf hs (.bool false) rfl rfl fun a hf => ?_
  refine S.k hf rfl fun a hf => ?_
  refine S.k hf rfl fun a hf => ?_
  refine S.k hf rfl fun a hf => ?_
  refine S.k hf rfl fun a hf => ?_
  refine S.p hf hs (.bool false) rfl rfl fun a hf => ?_
  refine S.p hf hs (.bool false) rfl rfl fun a hf => ?_
  refine R.nil (X.then_ (wp_ret ?_))
  exact L.ret hf (run_results1 Tryd.results13 (ResIs.tmp hf rfl)) ⟨false, rfl, h, hs.nil⟩
set_option linter.unusedVariables false
set_option linter.unusedVariables false
set_option linter.unusedVariables false
set_option linter.unusedVariables false
end Go.Proofs.YtcmlcgjjkccaeaaDoor
