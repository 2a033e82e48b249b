/- Chapter texts of ours, as far as the claim needs them. -/
import Derived.Test.YtcmlcgjjkccaeaaDoorDoorL
namespace Go.Proofs.YtcmlcgjjkccaeaaDoor
open Go Go.RowKit
set_option linter.unusedVariables false
set_option linter.unusedSimpArgs false
set_option linter.unusedVariables false
def M_mount_isOrder_k2 (Q : Bool → Prop) (xk1 : Int) (l2 : List Bool) (next1 : List Bool → Prop) (c1 : Bool) : Prop :=
  cnd c1 (Q false) (idx l2 xk1 fun x1 => next1 (l2.set xk1.toNat true))
def M_mount_isOrder_L1 (n : Int) (Q : Bool → Prop) (k1 : Nat) (xk1 : Int) (l2 : List Bool) (next1 : List Bool → Prop) : Prop :=
  cnd (!(within xk1 0 (w64 (n - 1)))) (M_mount_isOrder_k2 Q xk1 l2 next1 true) (idx l2 xk1 fun x2 => M_mount_isOrder_k2 Q xk1 l2 next1 x2)
def M_mount_isOrder (l : (List Int)) (n : Int) (Q : Bool → Prop) : Prop :=
  must (0 ≤ n ∧ n * 1 ≤ 281474976710656) (forIn' (fun k x (s : List Bool) next => M_mount_isOrder_L1 n Q k x s (fun l2 => next l2)) (fun (s : List Bool) => (fun (l2 : List Bool) => Q ((l.length : Int) == n)) s) l 0 (List.replicate n.toNat false))
set_option maxHeartbeats 1000000 in
theorem R_mount_isOrder (l : (List Int)) (n : Int) (w0 : World) (lA : Option Addr) (lC : Nat) (hv_l : View w0 (old w0 none_) lA lC l) (Q : Bool → Prop) (h : M_mount_isOrder l n Q) :
  Ret Tryd.prog 67 #[.slice lA l.length lC, iv n] w0 fun v w' => ∃ (r0 : Bool), v = .bool r0 ∧ Q r0 ∧ Sat w0 none_ [] w' := by
 refine fn_enter Tryd.func67 rfl Tryd.ntmps67 rfl (fs := [(0, .slice lA l.length lC), (1, iv n)]) rfl (fun a hf => ?_)
 have hs := Sat.start w0 none_
 unfold M_mount_isOrder at h
 refine wp_seq (R.list ?_)
 refine S.p hf hs (.bool false) rfl rfl fun a hf => ?_
 refine R.nil (X.then_ (wp_seq (R.list ?_)))
 refine S.p hf hs (iv n) rfl rfl fun a hf => ?_
 obtain ⟨hmk, h⟩ := h
 refine S.make hf hs rfl rfl rfl (α := Bool) false (z := n) (N := n.toNat) rfl rfl rfl Tryd.underlying102 info4 hmk rfl (by have := hmk.2; omega) (fun A1 a w hf hs => ?_)
 refine S.p hf hs (.slice A1 (List.replicate n.toNat false).length n.toNat) rfl rfl fun a hf => ?_
 refine R.nil (X.then_ (wp_seq (wp_seq (R.list ?_))))
 refine S.p hf hs (.slice lA l.length lC) rfl rfl fun a hf => ?_
 refine S.v hf hs (iv (l.length : Int)) rfl (V.len rfl rfl Tryd.runUnderlying48) fun a hf => ?_
 refine S.p hf hs (iv 0) rfl rfl fun a hf => ?_
 refine R.nil (X.then_ (wp_block ?_))
 have hlenk1 := hv_l.len64
 refine C.range (fun (ll : List Int) a w => ∃ (k1 : Nat) (l2 : List Bool) (l2A : Option Addr) (l2C : Nat), l.drop k1 = ll ∧ k1 + ll.length = l.length ∧ forIn' (fun k x (s : List Bool) next => M_mount_isOrder_L1 n Q k x s (fun l2 => next l2)) (fun (s : List Bool) => (fun (l2 : List Bool) => Q ((l.length : Int) == n)) s) ll k1 l2 ∧ FrOk 35 [(12, iv (k1 : Int)), (0, .slice lA l.length lC), (1, iv n), (5, .slice l2A l2.length l2C), (10, .slice lA l.length lC), (11, iv (l.length : Int))] a ∧ Sat w0 none_ [hown 4 l2A l2C l2] w) l ⟨0, (List.replicate n.toNat false), A1, n.toNat, rfl, Nat.zero_add _, h, ((((((hf.nil.cons (hf.get 11 _ rfl)).cons (hf.get 10 _ rfl)).cons (hf.get 5 _ rfl)).cons (hf.get 1 _ rfl)).cons (hf.get 0 _ rfl)).cons (hf.get 12 _ rfl)), hs⟩ ?_
 clear h hf hs
 rintro llk1 a w ⟨k1, l2, l2A, l2C, hlk1, hkk1, h, hf, hs⟩
 cases llk1 with
 | nil =>
  have hc := range_done hkk1
  replace h : (fun (l2 : List Bool) => Q ((l.length : Int) == n)) l2 := h
  refine wp_seq (R.list ?_)
  refine S.v hf hs (.bool false) rfl (V.cmp false rfl rfl rfl rfl hc) fun a hf => ?_
  refine R.nil (X.then_ (wp_seq ?_))
  refine C.no hf rfl ?_
  refine wp_exit (X.then_exit (X.then_exit (X.blk_exit (X.then_ (wp_seq (R.list ?_))))))
  refine S.p hf hs (.slice lA l.length lC) rfl rfl fun a hf => ?_
  refine S.v hf hs (iv (l.length : Int)) rfl (V.len rfl rfl Tryd.runUnderlying48) fun a hf => ?_
  refine S.p hf hs (iv n) rfl rfl fun a hf => ?_
  refine S.p hf hs (.bool ((l.length : Int) == n)) rfl rfl fun a hf => ?_
  refine S.p hf hs (.bool ((l.length : Int) == n)) rfl rfl fun a hf => ?_
  refine R.nil (X.then_ (wp_ret ?_))
  exact L.ret hf (run_results1 Tryd.results67 (ResIs.tmp hf rfl)) ⟨((l.length : Int) == n), rfl, h, hs.nil⟩
 | cons xk1 llk1 =>
  have hltk1 := range_lt hkk1; have hc := range_go hkk1; have hxk1 := range_get hlk1
  obtain ⟨next1, hnext1⟩ : ∃ X : List Bool → Prop, X = (fun l2 => forIn' (fun k x (s : List Bool) next => M_mount_isOrder_L1 n Q k x s (fun l2 => next l2)) (fun (s : List Bool) => (fun (l2 : List Bool) => Q ((l.length : Int) == n)) s) llk1 (k1 + 1) l2) := ⟨_, rfl⟩
  replace h : M_mount_isOrder_L1 n Q k1 xk1 l2 next1 := by rw [hnext1]; exact h
  unfold M_mount_isOrder_L1 at h
  refine wp_seq (R.list ?_)
  refine S.v hf hs (.bool true) rfl (V.cmp true rfl rfl rfl rfl hc) fun a hf => ?_
  refine R.nil (X.then_ (wp_seq ?_))
  refine C.yes hf rfl ?_
  refine wp_skip (X.then_ (wp_seq (wp_block (wp_seq (R.list ?_)))))
  refine S.v hf hs (elemPtr lA (k1 * 1)) rfl (V.index rfl rfl rfl Tryd.runUnderlying48 Tryd.sizeOf3 (hv_l.some_ (lt_of_get hxk1)) (Int.natCast_nonneg _) (lt_of_get hxk1) rfl) fun a hf => ?_
  refine S.v hf hs (iv xk1) rfl (V.loadEl (off := 0) (Ag.args _ _ _) (hv_l.flat hxk1) rfl rfl rfl Tryd.isAgg3 Tryd.sizeOf3 rfl rfl) fun a hf => ?_
  refine S.p hf hs (iv xk1) rfl rfl fun a hf => ?_
  refine R.nil (X.then_ (wp_seq (wp_seq ?_)))
  refine C.cut (J := fun a w => ∃ (c1 : Bool), M_mount_isOrder_k2 Q xk1 l2 next1 c1 ∧ FrOk 35 [(0, .slice lA l.length lC), (1, iv n), (5, .slice l2A l2.length l2C), (7, iv xk1), (10, .slice lA l.length lC), (11, iv (l.length : Int)), (12, iv (k1 : Int)), (26, .bool c1)] a ∧ Sat w0 none_ [hown 4 l2A l2C l2] w) ?_ ?_
  ·rintro a w ⟨c1, h, hf, hs⟩
   unfold M_mount_isOrder_k2 at h
   refine C.cond hf (b := c1) rfl (fun hc => ?_) (fun hc => ?_)
   ·replace h := h.1 hc
    refine wp_seq (R.list ?_)
    refine S.p hf hs (.bool false) rfl rfl fun a hf => ?_
    refine R.nil (X.then_ (wp_ret (X.then_ret (X.blk_ret (X.then_ret (X.then_ret (X.blk_ret (X.then_ret ?_))))))))
    exact L.ret hf (run_results1 Tryd.results67 (ResIs.tmp hf rfl)) ⟨false, rfl, h, hs.nil⟩
   ·replace h := h.2 hc
    refine wp_skip (X.then_ (R.list ?_))
    refine S.p hf hs (.slice l2A l2.length l2C) rfl rfl fun a hf => ?_
    refine S.p hf hs (iv xk1) rfl rfl fun a hf => ?_
    obtain ⟨h0x1, x1, hx1, h⟩ := h
    refine S.v hf hs (elemPtr l2A (xk1.toNat * 1)) rfl (V.index rfl rfl rfl Tryd.runUnderlying102 Tryd.sizeOf4 (hs.ownSome 0 rfl (lt_of_get hx1)) h0x1 (lt_of_get hx1) rfl) fun a hf => ?_
    refine S.storeOwn (off := 0) 0 hf hs rfl rfl true [.bool true] rfl hx1 rfl rfl rfl rfl rfl Tryd.sizeOf4 rfl (by decide) rfl rfl (fun a w hf hs => ?_)
    replace hf := hf.tell 5 (v := .slice l2A (l2.set xk1.toNat true).length l2C) ((hf.get 5 (.slice l2A l2.length l2C) rfl).trans (congrArg (fun n => Value.slice l2A n l2C) List.length_set.symm))
    replace hf := hf.tell 27 (v := .slice l2A (l2.set xk1.toNat true).length l2C) ((hf.get 27 (.slice l2A l2.length l2C) rfl).trans (congrArg (fun n => Value.slice l2A n l2C) List.length_set.symm))
    refine R.nil (X.blk (X.then_ (R.list ?_)))
    refine S.v hf hs (iv ((k1 + 1 : Nat) : Int)) rfl (V.incr rfl rfl rfl hltk1 hlenk1) fun a hf => ?_
    refine S.p hf hs (iv ((k1 + 1 : Nat) : Int)) rfl rfl fun a hf => ?_
    refine R.nil (X.then_ ?_)
    exact ⟨xk1, llk1, rfl, k1 + 1, (l2.set xk1.toNat true), l2A, l2C, range_drop hlk1, range_len hkk1, (by rw [hnext1] at h; exact h), ((((((hf.nil.cons (hf.get 11 _ rfl)).cons (hf.get 10 _ rfl)).cons (hf.get 5 _ rfl)).cons (hf.get 1 _ rfl)).cons (hf.get 0 _ rfl)).cons (hf.get 12 _ rfl)), hs⟩
  ·skip
   refine R.list ?_
   refine S.p hf hs (iv xk1) rfl rfl fun a hf => ?_
   refine S.p hf hs (iv n) rfl rfl fun a hf => ?_
   refine S.p hf hs (iv (w64 (n - 1))) rfl rfl fun a hf => ?_
   refine S.callv hf rfl rfl rfl (call_fn (vs := [iv xk1, iv 0, iv (w64 (n - 1))]) rfl rfl rfl Tryd.call47) (C_mount_within xk1 0 (w64 (n - 1)) _ ) (fun a w hf hs' => ?_)
   replace hs := hs.call hs'; clear hs'
   refine S.p hf hs (.bool (!(within xk1 0 (w64 (n - 1))))) rfl rfl fun a hf => ?_
   refine S.split hf hs (b := !(within xk1 0 (w64 (n - 1)))) rfl rfl rfl (V.pure rfl) (fun hc a hf => ?_) (fun hc a hf => ?_)
   ·replace h := h.1 hc
    refine S.k hf rfl fun a hf => ?_
    refine S.k hf rfl fun a hf => ?_
    refine S.k hf rfl fun a hf => ?_
    refine S.k hf rfl fun a hf => ?_
    refine S.p hf hs (.bool true) rfl rfl fun a hf => ?_
    refine R.nil (X.then_ ?_)
    exact ⟨true, h, ((((((((hf.nil.cons (hf.get 26 _ rfl)).cons (hf.get 12 _ rfl)).cons (hf.get 11 _ rfl)).cons (hf.get 10 _ rfl)).cons (hf.get 7 _ rfl)).cons (hf.get 5 _ rfl)).cons (hf.get 1 _ rfl)).cons (hf.get 0 _ rfl)), hs⟩
   ·replace h := h.2 hc
    refine S.p hf hs (.slice l2A l2.length l2C) rfl rfl fun a hf => ?_
    refine S.p hf hs (iv xk1) rfl rfl fun a hf => ?_
    obtain ⟨h0x2, x2, hx2, h⟩ := h
    refine S.v hf hs (elemPtr l2A (xk1.toNat * 1)) rfl (V.index rfl rfl rfl Tryd.runUnderlying102 Tryd.sizeOf4 (hs.ownSome 0 rfl (lt_of_get hx2)) h0x2 (lt_of_get hx2) rfl) fun a hf => ?_
    refine S.v hf hs (.bool x2) rfl (V.loadOwn (off := 0) 0 rfl hx2 rfl rfl rfl Tryd.isAgg4 Tryd.sizeOf4 rfl rfl) fun a hf => ?_
    refine S.p hf hs (.bool x2) rfl rfl fun a hf => ?_
    refine R.nil (X.then_ ?_)
    exact ⟨x2, h, ((((((((hf.nil.cons (hf.get 26 _ rfl)).cons (hf.get 12 _ rfl)).cons (hf.get 11 _ rfl)).cons (hf.get 10 _ rfl)).cons (hf.get 7 _ rfl)).cons (hf.get 5 _ rfl)).cons (hf.get 1 _ rfl)).cons (hf.get 0 _ rfl)), hs⟩
set_option linter.unusedVariables false
def M_mount_Rounds_k2 (xk1 : Int) (next1 : List (List Int) → Int → Prop) (y3 : Body) (l3 : List (List Int)) (n3 : Int) (n4 : Int) : Prop :=
  idx l3 n4 fun x2 => must (room (x2 ++ [xk1]).length 8) (next1 (l3.set n4.toNat (x2 ++ [xk1])) (max n3 y3.Tall))
def M_mount_Rounds_k3 (xk1 : Int) (l2 : List (List Int)) (n2 : Int) (next1 : List (List Int) → Int → Prop) (y3 : Body) (c1 : Bool) : Prop :=
  cnd c1 (must (room (l2 ++ [([] : List Int)]).length 24) (M_mount_Rounds_k2 xk1 next1 y3 (l2 ++ [([] : List Int)]) 0 (w64 ((w64 ((l2.length : Int) - 1)) + 1)))) (M_mount_Rounds_k2 xk1 next1 y3 l2 n2 (w64 ((l2.length : Int) - 1)))
def M_mount_Rounds_L1 (b : (List Body)) (l : (List Place)) (order : (List Int)) (heads : Int) (k1 : Nat) (xk1 : Int) (l2 : List (List Int)) (n2 : Int) (next1 : List (List Int) → Int → Prop) : Prop :=
  idx l xk1 fun x1 => M_mount_bodyOf b x1.Typ fun y3 y4 => cnd ((k1 : Int) == 0) (M_mount_Rounds_k3 xk1 l2 n2 next1 y3 true) (idx l2 (w64 ((l2.length : Int) - 1)) fun x3 => cnd ((x3.length : Int) == heads) (M_mount_Rounds_k3 xk1 l2 n2 next1 y3 true) (idx order (w64 ((k1 : Int) - 1)) fun x4 => idx l x4 fun x5 => M_mount_side x1 fun y5 => M_mount_side x5 fun y6 => cnd (y5 != y6) (M_mount_Rounds_k3 xk1 l2 n2 next1 y3 true) (M_mount_Rounds_k3 xk1 l2 n2 next1 y3 (decide (y3.Tall < n2)))))
def M_mount_Rounds (b : (List Body)) (l : (List Place)) (order : (List Int)) (heads : Int) (Q : (List (List Int)) → Int → Prop) : Prop :=
  M_mount_CheckPlaces b l fun y1 => cnd (y1 != 0) (Q ([] : List (List Int)) y1) (M_mount_isOrder order (l.length : Int) fun y2 => cnd (!y2) (Q ([] : List (List Int)) 3) (cnd (!(within heads 1 20)) (Q ([] : List (List Int)) 1) (forIn' (fun k x (s : List (List Int) × Int) next => M_mount_Rounds_L1 b l order heads k x s.1 s.2 (fun l2 n2 => next (l2, n2))) (fun (s : List (List Int) × Int) => (fun (l2 : List (List Int)) (n2 : Int) => Q l2 0) s.1 s.2) order 0 (([] : List (List Int)), 0))))
set_option maxHeartbeats 1000000 in
theorem R_mount_Rounds (b : (List Body)) (l : (List Place)) (order : (List Int)) (heads : Int) (w0 : World) (bA : Option Addr) (bC : Nat) (hv_b : View w0 (old w0 none_) bA bC b) (lA : Option Addr) (lC : Nat) (hv_l : View w0 (old w0 none_) lA lC l) (orderA : Option Addr) (orderC : Nat) (hv_order : View w0 (old w0 none_) orderA orderC order) (Q : (List (List Int)) → Int → Prop) (h : M_mount_Rounds b l order heads Q) :
  Ret Tryd.prog 27 #[.slice bA b.length bC, .slice lA l.length lC, .slice orderA order.length orderC, iv heads] w0 fun v w' => ∃ (r0 : (List (List Int))) (r0A : Option Addr) (r0C : Nat) (r0as : List (Option Addr × Nat)) (r1 : Int), v = .tuple #[.slice r0A r0.length r0C, iv r1] ∧ Q r0 r1 ∧ Sat w0 none_ [hrows 48 3 r0A r0C r0as r0] w' := by
 refine fn_enter Tryd.func27 rfl Tryd.ntmps27 rfl (fs := [(0, .slice bA b.length bC), (1, .slice lA l.length lC), (2, .slice orderA order.length orderC), (3, iv heads)]) rfl (fun a hf => ?_)
 have hs := Sat.start w0 none_
 unfold M_mount_Rounds at h
 refine wp_seq (R.list ?_)
 refine S.p hf hs (.slice none 0 0) rfl rfl fun a hf => ?_
 refine S.p hf hs (iv 0) rfl rfl fun a hf => ?_
 refine R.nil (X.then_ (wp_seq (wp_seq (R.list ?_))))
 refine S.p hf hs (.slice bA b.length bC) rfl rfl fun a hf => ?_
 refine S.p hf hs (.slice lA l.length lC) rfl rfl fun a hf => ?_
 refine S.call hf rfl rfl rfl (call_fn (vs := [.slice bA b.length bC, .slice lA l.length lC]) rfl rfl rfl Tryd.call35) (R_mount_CheckPlaces b l _ bA bC ((Ag.args _ _ _).view hv_b hs) lA lC ((Ag.args _ _ _).view hv_l hs) _ h) (fun v a w' hf hr => ?_)
 obtain ⟨y1, rfl, h2, hs2⟩ := hr
 replace h := h2; replace hs := hs.call hs2; clear h2 hs2
 refine S.p hf hs (iv y1) rfl rfl fun a hf => ?_
 refine R.nil (X.then_ (wp_seq (R.list ?_)))
 refine S.p hf hs (iv y1) rfl rfl fun a hf => ?_
 refine S.p hf hs (.bool (y1 != 0)) rfl rfl fun a hf => ?_
 refine R.nil (X.then_ ?_)
 refine C.cond hf (b := y1 != 0) rfl (fun hc => ?_) (fun hc => ?_)
 ·replace h := h.1 hc
  refine wp_seq (R.list ?_)
  refine S.p hf hs (iv y1) rfl rfl fun a hf => ?_
  refine S.p hf hs (.slice none 0 0) rfl rfl fun a hf => ?_
  refine S.p hf hs (iv y1) rfl rfl fun a hf => ?_
  refine R.nil (X.then_ (wp_ret (X.then_ret ?_)))
  replace hs := hs.nilRows (α := (List Int)) 48 3
  replace hs := hs.take 1
  exact L.ret hf (run_results2 Tryd.results27 (ResIs.tmp hf rfl) (ResIs.tmp hf rfl)) ⟨([] : List (List Int)), none, 0, [], y1, rfl, h, hs⟩
 ·replace h := h.2 hc
  refine wp_skip (X.then_ (wp_seq (wp_seq (R.list ?_))))
  refine S.p hf hs (.slice orderA order.length orderC) rfl rfl fun a hf => ?_
  refine S.p hf hs (.slice lA l.length lC) rfl rfl fun a hf => ?_
  refine S.v hf hs (iv (l.length : Int)) rfl (V.len rfl rfl Tryd.runUnderlying23) fun a hf => ?_
  refine S.call hf rfl rfl rfl (call_fn (vs := [.slice orderA order.length orderC, iv (l.length : Int)]) rfl rfl rfl Tryd.call67) (R_mount_isOrder order (l.length : Int) _ orderA orderC ((Ag.args _ _ _).view hv_order hs) _ h) (fun v a w' hf hr => ?_)
  obtain ⟨y2, rfl, h2, hs2⟩ := hr
  replace h := h2; replace hs := hs.call hs2; clear h2 hs2
  refine S.p hf hs (.bool (!y2)) rfl rfl fun a hf => ?_
  refine R.nil (X.then_ ?_)
  refine C.cond hf (b := !y2) rfl (fun hc => ?_) (fun hc => ?_)
  ·replace h := h.1 hc
   refine wp_seq (R.list ?_)
   refine S.p hf hs (.slice none 0 0) rfl rfl fun a hf => ?_
   refine S.p hf hs (iv 3) rfl rfl fun a hf => ?_
   refine R.nil (X.then_ (wp_ret (X.then_ret ?_)))
   replace hs := hs.nilRows (α := (List Int)) 48 3
   replace hs := hs.take 1
   exact L.ret hf (run_results2 Tryd.results27 (ResIs.tmp hf rfl) (ResIs.tmp hf rfl)) ⟨([] : List (List Int)), none, 0, [], 3, rfl, h, hs⟩
  ·replace h := h.2 hc
   refine wp_skip (X.then_ (wp_seq (wp_seq (R.list ?_))))
   refine S.p hf hs (iv heads) rfl rfl fun a hf => ?_
   refine S.callv hf rfl rfl rfl (call_fn (vs := [iv heads, iv 1, iv 20]) rfl rfl rfl Tryd.call47) (C_mount_within heads 1 20 _ ) (fun a w hf hs' => ?_)
   replace hs := hs.call hs'; clear hs'
   refine S.p hf hs (.bool (!(within heads 1 20))) rfl rfl fun a hf => ?_
   refine R.nil (X.then_ ?_)
   refine C.cond hf (b := !(within heads 1 20)) rfl (fun hc => ?_) (fun hc => ?_)
   ·replace h := h.1 hc
    refine wp_seq (R.list ?_)
    refine S.p hf hs (.slice none 0 0) rfl rfl fun a hf => ?_
    refine S.p hf hs (iv 1) rfl rfl fun a hf => ?_
    refine R.nil (X.then_ (wp_ret (X.then_ret ?_)))
    replace hs := hs.nilRows (α := (List Int)) 48 3
    replace hs := hs.take 1
    exact L.ret hf (run_results2 Tryd.results27 (ResIs.tmp hf rfl) (ResIs.tmp hf rfl)) ⟨([] : List (List Int)), none, 0, [], 1, rfl, h, hs⟩
   ·replace h := h.2 hc
    refine wp_skip (X.then_ (wp_seq (R.list ?_)))
    refine S.p hf hs (.slice none 0 0) rfl rfl fun a hf => ?_
    refine R.nil (X.then_ (wp_seq (R.list ?_)))
    refine S.p hf hs (iv 0) rfl rfl fun a hf => ?_
    refine R.nil (X.then_ (wp_seq (wp_seq (R.list ?_))))
    refine S.p hf hs (.slice orderA order.length orderC) rfl rfl fun a hf => ?_
    refine S.v hf hs (iv (order.length : Int)) rfl (V.len rfl rfl Tryd.runUnderlying48) fun a hf => ?_
    refine S.p hf hs (iv 0) rfl rfl fun a hf => ?_
    refine R.nil (X.then_ (wp_block ?_))
    replace hs := hs.nilRows (α := (List Int)) 48 3
    have hlenk1 := hv_order.len64
    refine C.range (fun (ll : List Int) a w => ∃ (k1 : Nat) (l2 : List (List Int)) (l2A : Option Addr) (l2C : Nat) (l2as : List (Option Addr × Nat)) (n2 : Int), order.drop k1 = ll ∧ k1 + ll.length = order.length ∧ forIn' (fun k x (s : List (List Int) × Int) next => M_mount_Rounds_L1 b l order heads k x s.1 s.2 (fun l2 n2 => next (l2, n2))) (fun (s : List (List Int) × Int) => (fun (l2 : List (List Int)) (n2 : Int) => Q l2 0) s.1 s.2) ll k1 (l2, n2) ∧ FrOk 107 [(34, iv (k1 : Int)), (0, .slice bA b.length bC), (1, .slice lA l.length lC), (2, .slice orderA order.length orderC), (3, iv heads), (11, .slice l2A l2.length l2C), (12, iv n2), (32, .slice orderA order.length orderC), (33, iv (order.length : Int))] a ∧ Sat w0 none_ [hrows 48 3 l2A l2C l2as l2] w) order ⟨0, ([] : List (List Int)), none, 0, ([] : List (Option Addr × Nat)), 0, rfl, Nat.zero_add _, h, (((((((((hf.nil.cons (hf.get 33 _ rfl)).cons (hf.get 32 _ rfl)).cons (hf.get 12 _ rfl)).cons (hf.get 11 _ rfl)).cons (hf.get 3 _ rfl)).cons (hf.get 2 _ rfl)).cons (hf.get 1 _ rfl)).cons (hf.get 0 _ rfl)).cons (hf.get 34 _ rfl)), hs⟩ ?_
    clear h hf hs
    rintro llk1 a w ⟨k1, l2, l2A, l2C, l2as, n2, hlk1, hkk1, h, hf, hs⟩
    cases llk1 with
    | nil =>
     have hc := range_done hkk1
     replace h : (fun (l2 : List (List Int)) (n2 : Int) => Q l2 0) l2 n2 := h
     refine wp_seq (R.list ?_)
     refine S.v hf hs (.bool false) rfl (V.cmp false rfl rfl rfl rfl hc) fun a hf => ?_
     refine R.nil (X.then_ (wp_seq ?_))
     refine C.no hf rfl ?_
     refine wp_exit (X.then_exit (X.then_exit (X.blk_exit (X.then_ (wp_seq (R.list ?_))))))
     refine S.p hf hs (.slice l2A l2.length l2C) rfl rfl fun a hf => ?_
     refine S.p hf hs (.slice l2A l2.length l2C) rfl rfl fun a hf => ?_
     refine S.p hf hs (iv 0) rfl rfl fun a hf => ?_
     refine R.nil (X.then_ (wp_ret ?_))
     replace hs := hs.take 1
     exact L.ret hf (run_results2 Tryd.results27 (ResIs.tmp hf rfl) (ResIs.tmp hf rfl)) ⟨l2, l2A, l2C, l2as, 0, rfl, h, hs⟩
    | cons xk1 llk1 =>
     have hltk1 := range_lt hkk1; have hc := range_go hkk1; have hxk1 := range_get hlk1
     obtain ⟨next1, hnext1⟩ : ∃ X : List (List Int) → Int → Prop, X = (fun l2 n2 => forIn' (fun k x (s : List (List Int) × Int) next => M_mount_Rounds_L1 b l order heads k x s.1 s.2 (fun l2 n2 => next (l2, n2))) (fun (s : List (List Int) × Int) => (fun (l2 : List (List Int)) (n2 : Int) => Q l2 0) s.1 s.2) llk1 (k1 + 1) (l2, n2)) := ⟨_, rfl⟩
     replace h : M_mount_Rounds_L1 b l order heads k1 xk1 l2 n2 next1 := by rw [hnext1]; exact h
     unfold M_mount_Rounds_L1 at h
     refine wp_seq (R.list ?_)
     refine S.v hf hs (.bool true) rfl (V.cmp true rfl rfl rfl rfl hc) fun a hf => ?_
     refine R.nil (X.then_ (wp_seq ?_))
     refine C.yes hf rfl ?_
     refine wp_skip (X.then_ (wp_seq (wp_block (wp_seq (R.list ?_)))))
     refine S.p hf hs (iv (k1 : Int)) rfl rfl fun a hf => ?_
     refine S.v hf hs (elemPtr orderA (k1 * 1)) rfl (V.index rfl rfl rfl Tryd.runUnderlying48 Tryd.sizeOf3 (hv_order.some_ (lt_of_get hxk1)) (Int.natCast_nonneg _) (lt_of_get hxk1) rfl) fun a hf => ?_
     refine S.v hf hs (iv xk1) rfl (V.loadEl (off := 0) (Ag.args _ _ _) (hv_order.flat hxk1) rfl rfl rfl Tryd.isAgg3 Tryd.sizeOf3 rfl rfl) fun a hf => ?_
     refine S.p hf hs (iv (k1 : Int)) rfl rfl fun a hf => ?_
     refine S.p hf hs (iv xk1) rfl rfl fun a hf => ?_
     refine R.nil (X.then_ (wp_seq (R.list ?_)))
     refine S.p hf hs (.slice bA b.length bC) rfl rfl fun a hf => ?_
     refine S.p hf hs (.slice lA l.length lC) rfl rfl fun a hf => ?_
     refine S.p hf hs (iv xk1) rfl rfl fun a hf => ?_
     obtain ⟨h0x1, x1, hx1, h⟩ := h
     refine S.v hf hs (elemPtr lA (xk1.toNat * 6)) rfl (V.index rfl rfl rfl Tryd.runUnderlying23 Tryd.sizeOf28 (hv_l.some_ (lt_of_get hx1)) h0x1 (lt_of_get hx1) rfl) fun a hf => ?_
     refine S.v hf hs (elemPtr lA (xk1.toNat * 6 + 1)) rfl (V.fieldEl rfl rfl (hv_l.some_ (lt_of_get hx1)) Tryd.runUnderlying28 rfl Tryd.sizeOf9 rfl rfl) fun a hf => ?_
     refine S.v hf hs (.string (ba x1.Typ)) rfl (V.loadEl (off := 1) (Ag.args _ _ _) (hv_l.flat hx1) rfl rfl rfl Tryd.isAgg9 Tryd.sizeOf9 rfl rfl) fun a hf => ?_
     refine S.call hf rfl rfl rfl (call_fn (vs := [.slice bA b.length bC, .string (ba x1.Typ)]) rfl rfl rfl Tryd.call61) (R_mount_bodyOf b x1.Typ _ bA bC ((Ag.args _ _ _).view hv_b hs) _ h) (fun v a w' hf hr => ?_)
     obtain ⟨y3, y4, rfl, h2, hs2⟩ := hr
     replace h := h2; replace hs := hs.call hs2; clear h2 hs2
     refine S.p hf hs (.tuple #[.agg #[.string (ba y3.Typ), iv y3.W, iv y3.H, iv y3.Tall, .string (ba y3.Nozzle)], .bool y4]) rfl rfl fun a hf => ?_
     refine S.p hf hs (.agg #[.string (ba y3.Typ), iv y3.W, iv y3.H, iv y3.Tall, .string (ba y3.Nozzle)]) rfl rfl fun a hf => ?_
     refine S.p hf hs (.bool y4) rfl rfl fun a hf => ?_
     refine S.alloc hf hs rfl rfl rfl [.string (ba []), iv 0, iv 0, iv 0, .string (ba [])] rfl Tryd.zeroValue95 rfl (fun g1 a w hf hs => ?_)
     refine S.storeBox 0 hf hs rfl rfl [.string (ba y3.Typ), iv y3.W, iv y3.H, iv y3.Tall, .string (ba y3.Nozzle)] [.string (ba y3.Typ), iv y3.W, iv y3.H, iv y3.Tall, .string (ba y3.Nozzle)] rfl rfl rfl rfl rfl Tryd.sizeOf95 rfl rfl rfl rfl (fun a w hf hs => ?_)
     refine S.p hf hs (.bool y4) rfl rfl fun a hf => ?_
     refine R.nil (X.then_ (wp_seq (R.list ?_)))
     refine S.p hf hs (.slice l2A l2.length l2C) rfl rfl fun a hf => ?_
     refine S.v hf hs (iv (l2.length : Int)) rfl (V.len rfl rfl Tryd.runUnderlying61) fun a hf => ?_
     refine S.p hf hs (iv (w64 ((l2.length : Int) - 1))) rfl rfl fun a hf => ?_
     refine S.p hf hs (iv (w64 ((l2.length : Int) - 1))) rfl rfl fun a hf => ?_
     refine R.nil (X.then_ (wp_seq ?_))
     refine C.cut (J := fun a w => ∃ (l3 : List (List Int)) (l3A : Option Addr) (l3C : Nat) (l3as : List (Option Addr × Nat)) (n3 : Int) (n4 : Int), M_mount_Rounds_k2 xk1 next1 y3 l3 n3 n4 ∧ FrOk 107 [(0, .slice bA b.length bC), (1, .slice lA l.length lC), (2, .slice orderA order.length orderC), (3, iv heads), (11, .slice l3A l3.length l3C), (12, iv n3), (14, iv xk1), (15, (pn g1 0)), (17, iv n4), (32, .slice orderA order.length orderC), (33, iv (order.length : Int)), (34, iv (k1 : Int))] a ∧ Sat w0 none_ [hbox g1 95 [.string (ba y3.Typ), iv y3.W, iv y3.H, iv y3.Tall, .string (ba y3.Nozzle)], hrows 48 3 l3A l3C l3as l3] w) ?_ ?_
     ·rintro a w ⟨l3, l3A, l3C, l3as, n3, n4, h, hf, hs⟩
      unfold M_mount_Rounds_k2 at h
      refine H.start (S := Sat w0 none_ [hbox g1 95 [.string (ba y3.Typ), iv y3.W, iv y3.H, iv y3.Tall, .string (ba y3.Nozzle)]]) mo ?_
      replace hs := hs.drew
      refine H.val hf (hs.mask [true, false]) (v := .slice l3A l3.length l3C) (i := 0) rfl rfl rfl rfl (by kernel_rfl) (by kernel_rfl) (by kernel_rfl) (V.pure rfl) (fun a hf => ?_)
      refine H.val hf (hs.mask [true, false]) (v := iv n4) (i := 1) rfl rfl rfl rfl (by kernel_rfl) (by kernel_rfl) (by kernel_rfl) (V.pure rfl) (fun a hf => ?_)
      refine H.val hf (hs.mask [true, false]) (v := .slice l3A l3.length l3C) (i := 2) rfl rfl rfl rfl (by kernel_rfl) (by kernel_rfl) (by kernel_rfl) (V.pure rfl) (fun a hf => ?_)
      refine H.val hf (hs.mask [true, false]) (v := iv n4) (i := 3) rfl rfl rfl rfl (by kernel_rfl) (by kernel_rfl) (by kernel_rfl) (V.pure rfl) (fun a hf => ?_)
      obtain ⟨h0x2, x2, hx2, h⟩ := h
      refine H.val hf (hs.mask [true, false]) (v := elemPtr l3A (n4.toNat * 1)) (i := 4) rfl rfl rfl rfl (by kernel_rfl) (by kernel_rfl) (by kernel_rfl) (V.index rfl rfl rfl Tryd.runUnderlying61 Tryd.sizeOf48 (hs.rowsSome 1 rfl hx2) h0x2 (lt_of_get hx2) rfl) (fun a hf => ?_)
      refine H.val hf (hs.mask [true, false]) (v := iv xk1) (i := 6) rfl rfl rfl rfl (by kernel_rfl) (by kernel_rfl) (by kernel_rfl) (V.pure rfl) (fun a hf => ?_)
      refine H.val hf (hs.mask [true, false]) (v := iv n3) (i := 9) rfl rfl rfl rfl (by kernel_rfl) (by kernel_rfl) (by kernel_rfl) (V.pure rfl) (fun a hf => ?_)
      refine H.val hf (hs.mask [true, false]) (v := (pn g1 3)) (i := 10) rfl rfl rfl rfl (by kernel_rfl) (by kernel_rfl) (by kernel_rfl) (V.fieldBox rfl rfl Tryd.runUnderlying95 rfl Tryd.sizeOf3 rfl rfl) (fun a hf => ?_)
      refine H.val hf (hs.mask [true, false]) (v := iv y3.Tall) (i := 11) rfl rfl rfl rfl (by kernel_rfl) (by kernel_rfl) (by kernel_rfl) (V.loadBox 0 rfl rfl rfl Tryd.isAgg3 Tryd.sizeOf3 rfl rfl) (fun a hf => ?_)
      refine H.val hf (hs.mask [true, false]) (v := iv (max n3 y3.Tall)) (i := 12) rfl rfl rfl rfl (by kernel_rfl) (by kernel_rfl) (by kernel_rfl) (V.max2 rfl rfl rfl) (fun a hf => ?_)
      refine H.each2 (i0 := 5) (i1 := 7) rfl rfl (by kernel_rfl) ?_ ?_
      ·obtain ⟨B1, D1, hrB1⟩ := hs.rowAt 1 rfl hx2
       refine S.v hf hs (.slice B1 x2.length D1) rfl (V.loadRows (off := 0) 1 rfl hx2 hrB1 rfl rfl rfl Tryd.isAgg48 Tryd.sizeOf48 rfl rfl) fun a hf => ?_
       refine R.nil (X.then_ ?_)
       refine ⟨(hs.mask [true, false]), ?_⟩
       refine H.one (i := 7) rfl (by kernel_rfl) ?_
       refine S.build1 hf hs rfl rfl rfl (α := Int) xk1 rfl rfl rfl Tryd.runUnderlying48 Tryd.sizeOf3 Tryd.zeroValue3 rfl (by decide) (fun A1 a w hf hs => ?_)
       refine R.nil (X.then_ ?_)
       refine ⟨(hs.mask [false, true, false]), ?_⟩
       refine H.one (i := 8) rfl (by kernel_rfl) ?_
       replace hs := hs.takeRow 2 rfl hx2 hrB1
       obtain ⟨hroom, h⟩ := h
       refine S.appendCells 0 hf hs rfl rfl rfl rfl rfl rfl rfl Tryd.underlying48 info3 rfl hroom ((hs.ownView 1 rfl).some_ (i := 0) (by simp)) (hs.ownView 1 rfl) (fun A2 C1 a w hf hs => ?_)
       refine R.nil (X.then_ ?_)
       refine ⟨(hs.mask [false, false, true, false]), ?_⟩
       refine H.val hf (hs.mask [false, false, true, false]) (v := elemPtr l3A (n4.toNat * 1)) (i := 13) rfl rfl rfl rfl (by kernel_rfl) (by kernel_rfl) (by kernel_rfl) (V.index rfl rfl rfl Tryd.runUnderlying61 Tryd.sizeOf48 (hs.rowsSomeX 3 rfl hx2) h0x2 (lt_of_get hx2) rfl) (fun a hf => ?_)
       refine H.one (i := 14) rfl (by kernel_rfl) ?_
       refine S.putBack (off := 0) 2 hf hs rfl rfl (x2 ++ [xk1]) [.slice A2 (x2 ++ [xk1]).length C1] rfl hx2 hrB1 rfl rfl rfl rfl rfl rfl Tryd.sizeOf48 rfl (by decide) rfl rfl (fun a w hf hs => ?_)
       replace hf := hf.tell 11 (v := .slice l3A (l3.set n4.toNat (x2 ++ [xk1])).length l3C) ((hf.get 11 (.slice l3A l3.length l3C) rfl).trans (congrArg (fun n => Value.slice l3A n l3C) List.length_set.symm))
       replace hf := hf.tell 91 (v := .slice l3A (l3.set n4.toNat (x2 ++ [xk1])).length l3C) ((hf.get 91 (.slice l3A l3.length l3C) rfl).trans (congrArg (fun n => Value.slice l3A n l3C) List.length_set.symm))
       replace hf := hf.tell 93 (v := .slice l3A (l3.set n4.toNat (x2 ++ [xk1])).length l3C) ((hf.get 93 (.slice l3A l3.length l3C) rfl).trans (congrArg (fun n => Value.slice l3A n l3C) List.length_set.symm))
       have hx1 : (l3.set n4.toNat (x2 ++ [xk1]))[n4.toNat]? = some (x2 ++ [xk1]) := List.getElem?_set_self (lt_of_get hx2)
       have hr1 : (l3as.set n4.toNat (A2, C1))[n4.toNat]? = some (A2, C1) := List.getElem?_set_self (lt_of_get hrB1)
       refine R.nil (X.then_ ?_)
       refine ⟨(hs.mask [false, true, false]), ?_⟩
       refine H.val hf (hs.mask [false, true, false]) (v := iv (max n3 y3.Tall)) (i := 15) rfl rfl rfl rfl (by kernel_rfl) (by kernel_rfl) (by kernel_rfl) (V.pure rfl) (fun a hf => ?_)
       refine H.done (by kernel_rfl) ?_
       refine X.blk (X.then_ (R.list ?_))
       refine S.v hf hs (iv ((k1 + 1 : Nat) : Int)) rfl (V.incr rfl rfl rfl hltk1 hlenk1) fun a hf => ?_
       refine S.p hf hs (iv ((k1 + 1 : Nat) : Int)) rfl rfl fun a hf => ?_
       refine R.nil (X.then_ ?_)
       exact ⟨xk1, llk1, rfl, k1 + 1, (l3.set n4.toNat (x2 ++ [xk1])), l3A, l3C, (l3as.set n4.toNat (A2, C1)), (max n3 y3.Tall), range_drop hlk1, range_len hkk1, (by rw [hnext1] at h; exact h), (((((((((hf.nil.cons (hf.get 33 _ rfl)).cons (hf.get 32 _ rfl)).cons (hf.get 12 _ rfl)).cons (hf.get 11 _ rfl)).cons (hf.get 3 _ rfl)).cons (hf.get 2 _ rfl)).cons (hf.get 1 _ rfl)).cons (hf.get 0 _ rfl)).cons (hf.get 34 _ rfl)), hs.drop.drop⟩
      ·refine S.build1 hf hs rfl rfl rfl (α := Int) xk1 rfl rfl rfl Tryd.runUnderlying48 Tryd.sizeOf3 Tryd.zeroValue3 rfl (by decide) (fun A1 a w hf hs => ?_)
       refine R.nil (X.then_ ?_)
       refine ⟨(hs.mask [false, true, false]), ?_⟩
       refine H.one (i := 5) rfl (by kernel_rfl) ?_
       obtain ⟨B1, D1, hrB1⟩ := hs.rowAt 2 rfl hx2
       refine S.v hf hs (.slice B1 x2.length D1) rfl (V.loadRows (off := 0) 2 rfl hx2 hrB1 rfl rfl rfl Tryd.isAgg48 Tryd.sizeOf48 rfl rfl) fun a hf => ?_
       refine R.nil (X.then_ ?_)
       refine ⟨(hs.mask [false, true, false]), ?_⟩
       refine H.one (i := 8) rfl (by kernel_rfl) ?_
       replace hs := hs.takeRow 2 rfl hx2 hrB1
       obtain ⟨hroom, h⟩ := h
       refine S.appendCells 0 hf hs rfl rfl rfl rfl rfl rfl rfl Tryd.underlying48 info3 rfl hroom ((hs.ownView 1 rfl).some_ (i := 0) (by simp)) (hs.ownView 1 rfl) (fun A2 C1 a w hf hs => ?_)
       refine R.nil (X.then_ ?_)
       refine ⟨(hs.mask [false, false, true, false]), ?_⟩
       refine H.val hf (hs.mask [false, false, true, false]) (v := elemPtr l3A (n4.toNat * 1)) (i := 13) rfl rfl rfl rfl (by kernel_rfl) (by kernel_rfl) (by kernel_rfl) (V.index rfl rfl rfl Tryd.runUnderlying61 Tryd.sizeOf48 (hs.rowsSomeX 3 rfl hx2) h0x2 (lt_of_get hx2) rfl) (fun a hf => ?_)
       refine H.one (i := 14) rfl (by kernel_rfl) ?_
       refine S.putBack (off := 0) 2 hf hs rfl rfl (x2 ++ [xk1]) [.slice A2 (x2 ++ [xk1]).length C1] rfl hx2 hrB1 rfl rfl rfl rfl rfl rfl Tryd.sizeOf48 rfl (by decide) rfl rfl (fun a w hf hs => ?_)
       replace hf := hf.tell 11 (v := .slice l3A (l3.set n4.toNat (x2 ++ [xk1])).length l3C) ((hf.get 11 (.slice l3A l3.length l3C) rfl).trans (congrArg (fun n => Value.slice l3A n l3C) List.length_set.symm))
       replace hf := hf.tell 91 (v := .slice l3A (l3.set n4.toNat (x2 ++ [xk1])).length l3C) ((hf.get 91 (.slice l3A l3.length l3C) rfl).trans (congrArg (fun n => Value.slice l3A n l3C) List.length_set.symm))
       replace hf := hf.tell 93 (v := .slice l3A (l3.set n4.toNat (x2 ++ [xk1])).length l3C) ((hf.get 93 (.slice l3A l3.length l3C) rfl).trans (congrArg (fun n => Value.slice l3A n l3C) List.length_set.symm))
       have hx1 : (l3.set n4.toNat (x2 ++ [xk1]))[n4.toNat]? = some (x2 ++ [xk1]) := List.getElem?_set_self (lt_of_get hx2)
       have hr1 : (l3as.set n4.toNat (A2, C1))[n4.toNat]? = some (A2, C1) := List.getElem?_set_self (lt_of_get hrB1)
       refine R.nil (X.then_ ?_)
       refine ⟨(hs.mask [false, true, false]), ?_⟩
       refine H.val hf (hs.mask [false, true, false]) (v := iv (max n3 y3.Tall)) (i := 15) rfl rfl rfl rfl (by kernel_rfl) (by kernel_rfl) (by kernel_rfl) (V.pure rfl) (fun a hf => ?_)
       refine H.done (by kernel_rfl) ?_
       refine X.blk (X.then_ (R.list ?_))
       refine S.v hf hs (iv ((k1 + 1 : Nat) : Int)) rfl (V.incr rfl rfl rfl hltk1 hlenk1) fun a hf => ?_
       refine S.p hf hs (iv ((k1 + 1 : Nat) : Int)) rfl rfl fun a hf => ?_
       refine R.nil (X.then_ ?_)
       exact ⟨xk1, llk1, rfl, k1 + 1, (l3.set n4.toNat (x2 ++ [xk1])), l3A, l3C, (l3as.set n4.toNat (A2, C1)), (max n3 y3.Tall), range_drop hlk1, range_len hkk1, (by rw [hnext1] at h; exact h), (((((((((hf.nil.cons (hf.get 33 _ rfl)).cons (hf.get 32 _ rfl)).cons (hf.get 12 _ rfl)).cons (hf.get 11 _ rfl)).cons (hf.get 3 _ rfl)).cons (hf.get 2 _ rfl)).cons (hf.get 1 _ rfl)).cons (hf.get 0 _ rfl)).cons (hf.get 34 _ rfl)), hs.drop.drop⟩
     ·skip
      refine wp_seq ?_
      refine C.cut (J := fun a w => ∃ (c1 : Bool), M_mount_Rounds_k3 xk1 l2 n2 next1 y3 c1 ∧ FrOk 107 [(0, .slice bA b.length bC), (1, .slice lA l.length lC), (2, .slice orderA order.length orderC), (3, iv heads), (11, .slice l2A l2.length l2C), (12, iv n2), (14, iv xk1), (15, (pn g1 0)), (17, iv (w64 ((l2.length : Int) - 1))), (32, .slice orderA order.length orderC), (33, iv (order.length : Int)), (34, iv (k1 : Int)), (85, .bool c1)] a ∧ Sat w0 none_ [hbox g1 95 [.string (ba y3.Typ), iv y3.W, iv y3.H, iv y3.Tall, .string (ba y3.Nozzle)], hrows 48 3 l2A l2C l2as l2] w) ?_ ?_
      ·rintro a w ⟨c1, h, hf, hs⟩
       unfold M_mount_Rounds_k3 at h
       refine C.cond hf (b := c1) rfl (fun hc => ?_) (fun hc => ?_)
       ·replace h := h.1 hc
        refine R.list ?_
        refine S.p hf hs (.slice l2A l2.length l2C) rfl rfl fun a hf => ?_
        replace hs := hs.nilOwn (α := Int) 3
        refine S.build1 hf hs rfl rfl rfl (α := Sl) (⟨none, ([] : List Int).length, 0⟩ : Sl) rfl rfl rfl Tryd.runUnderlying61 Tryd.sizeOf48 Tryd.zeroValue48 rfl (by decide) (fun A3 a w hf hs => ?_)
        replace hs := hs.front 1 rfl
        obtain ⟨hroom, h⟩ := h
        refine S.appendRow 2 hf hs rfl rfl rfl ([] : List Int) rfl rfl rfl rfl rfl Tryd.underlying61 info48 rfl hroom ((hs.ownView 1 rfl).some_ (i := 0) (by simp)) (hs.ownView 1 rfl) (fun A4 C2 a w hf hs => ?_)
        replace hs := hs.drop
        refine S.p hf hs (iv (w64 ((l2.length : Int) - 1))) rfl rfl fun a hf => ?_
        refine S.p hf hs (iv (w64 ((w64 ((l2.length : Int) - 1)) + 1))) rfl rfl fun a hf => ?_
        refine S.p hf hs (.slice A4 (l2 ++ [([] : List Int)]).length C2) rfl rfl fun a hf => ?_
        refine S.p hf hs (iv 0) rfl rfl fun a hf => ?_
        refine S.p hf hs (iv (w64 ((w64 ((l2.length : Int) - 1)) + 1))) rfl rfl fun a hf => ?_
        refine R.nil (X.then_ ?_)
        exact ⟨(l2 ++ [([] : List Int)]), A4, C2, (l2as ++ [(none, 0)]), 0, (w64 ((w64 ((l2.length : Int) - 1)) + 1)), h, ((((((((((((hf.nil.cons (hf.get 34 _ rfl)).cons (hf.get 33 _ rfl)).cons (hf.get 32 _ rfl)).cons (hf.get 17 _ rfl)).cons (hf.get 15 _ rfl)).cons (hf.get 14 _ rfl)).cons (hf.get 12 _ rfl)).cons (hf.get 11 _ rfl)).cons (hf.get 3 _ rfl)).cons (hf.get 2 _ rfl)).cons (hf.get 1 _ rfl)).cons (hf.get 0 _ rfl)), hs⟩
       ·replace h := h.2 hc
        refine wp_skip (X.then_ ?_)
        exact ⟨l2, l2A, l2C, l2as, n2, (w64 ((l2.length : Int) - 1)), h, ((((((((((((hf.nil.cons (hf.get 34 _ rfl)).cons (hf.get 33 _ rfl)).cons (hf.get 32 _ rfl)).cons (hf.get 17 _ rfl)).cons (hf.get 15 _ rfl)).cons (hf.get 14 _ rfl)).cons (hf.get 12 _ rfl)).cons (hf.get 11 _ rfl)).cons (hf.get 3 _ rfl)).cons (hf.get 2 _ rfl)).cons (hf.get 1 _ rfl)).cons (hf.get 0 _ rfl)), hs⟩
      ·skip
       refine H.start (S := Sat w0 none_ [hbox g1 95 [.string (ba y3.Typ), iv y3.W, iv y3.H, iv y3.Tall, .string (ba y3.Nozzle)], hrows 48 3 l2A l2C l2as l2]) mo ?_
       replace hs := hs.drew
       refine H.v hf hs (iv (k1 : Int)) 0 rfl rfl (by kernel_rfl) (V.pure rfl) fun a hf => ?_
       refine H.v hf hs (.bool ((k1 : Int) == 0)) 1 rfl rfl (by kernel_rfl) (V.pure rfl) fun a hf => ?_
       refine H.split hf hs (b := (k1 : Int) == 0) (i := 2) rfl rfl rfl rfl (by kernel_rfl) (by kernel_rfl) (by kernel_rfl) (V.pure rfl) (fun hc a hf => ?_) (fun hc a hf => ?_)
       ·replace h := h.1 hc
        refine H.k hf hs 3 rfl rfl (by kernel_rfl) fun a hf => ?_
        refine H.k hf hs 4 rfl rfl (by kernel_rfl) fun a hf => ?_
        refine H.k hf hs 5 rfl rfl (by kernel_rfl) fun a hf => ?_
        refine H.k hf hs 6 rfl rfl (by kernel_rfl) fun a hf => ?_
        refine H.k hf hs 7 rfl rfl (by kernel_rfl) fun a hf => ?_
        refine H.k hf hs 8 rfl rfl (by kernel_rfl) fun a hf => ?_
        refine H.k hf hs 9 rfl rfl (by kernel_rfl) fun a hf => ?_
        refine H.v hf hs (.bool true) 10 rfl rfl (by kernel_rfl) (V.pure rfl) fun a hf => ?_
        refine H.v hf hs (.bool true) 11 rfl rfl (by kernel_rfl) (V.pure rfl) fun a hf => ?_
        refine H.k hf hs 12 rfl rfl (by kernel_rfl) fun a hf => ?_
        refine H.k hf hs 13 rfl rfl (by kernel_rfl) fun a hf => ?_
        refine H.k hf hs 14 rfl rfl (by kernel_rfl) fun a hf => ?_
        refine H.k hf hs 15 rfl rfl (by kernel_rfl) fun a hf => ?_
        refine H.k hf hs 17 rfl rfl (by kernel_rfl) fun a hf => ?_
        refine H.k hf hs 18 rfl rfl (by kernel_rfl) fun a hf => ?_
        refine H.k hf hs 19 rfl rfl (by kernel_rfl) fun a hf => ?_
        refine H.k hf hs 20 rfl rfl (by kernel_rfl) fun a hf => ?_
        refine H.k hf hs 21 rfl rfl (by kernel_rfl) fun a hf => ?_
        refine H.k hf hs 22 rfl rfl (by kernel_rfl) fun a hf => ?_
        refine H.k hf hs 23 rfl rfl (by kernel_rfl) fun a hf => ?_
        refine H.k hf hs 24 rfl rfl (by kernel_rfl) fun a hf => ?_
        refine H.one (i := 16) rfl (by kernel_rfl) ?_
        refine S.k hf rfl fun a hf => ?_
        refine R.nil (X.then_ ?_)
        refine ⟨hs, ?_⟩
        refine H.one (i := 25) rfl (by kernel_rfl) ?_
        refine S.k hf rfl fun a hf => ?_
        refine R.nil (X.then_ ?_)
        refine ⟨hs, ?_⟩
        refine H.k hf hs 26 rfl rfl (by kernel_rfl) fun a hf => ?_
        refine H.v hf hs (.bool true) 27 rfl rfl (by kernel_rfl) (V.pure rfl) fun a hf => ?_
        refine H.v hf hs (.bool true) 28 rfl rfl (by kernel_rfl) (V.pure rfl) fun a hf => ?_
        refine H.k hf hs 29 rfl rfl (by kernel_rfl) fun a hf => ?_
        refine H.k hf hs 30 rfl rfl (by kernel_rfl) fun a hf => ?_
        refine H.k hf hs 31 rfl rfl (by kernel_rfl) fun a hf => ?_
        refine H.k hf hs 32 rfl rfl (by kernel_rfl) fun a hf => ?_
        refine H.v hf hs (.bool true) 33 rfl rfl (by kernel_rfl) (V.pure rfl) fun a hf => ?_
        refine H.done (by kernel_rfl) ?_
        refine X.then_ ?_
        exact ⟨true, h, (((((((((((((hf.nil.cons (hf.get 85 _ rfl)).cons (hf.get 34 _ rfl)).cons (hf.get 33 _ rfl)).cons (hf.get 32 _ rfl)).cons (hf.get 17 _ rfl)).cons (hf.get 15 _ rfl)).cons (hf.get 14 _ rfl)).cons (hf.get 12 _ rfl)).cons (hf.get 11 _ rfl)).cons (hf.get 3 _ rfl)).cons (hf.get 2 _ rfl)).cons (hf.get 1 _ rfl)).cons (hf.get 0 _ rfl)), hs⟩
       ·replace h := h.2 hc
        refine H.v hf hs (.slice l2A l2.length l2C) 3 rfl rfl (by kernel_rfl) (V.pure rfl) fun a hf => ?_
        refine H.v hf hs (iv (w64 ((l2.length : Int) - 1))) 4 rfl rfl (by kernel_rfl) (V.pure rfl) fun a hf => ?_
        obtain ⟨h0x3, x3, hx3, h⟩ := h
        refine H.v hf hs (elemPtr l2A ((w64 ((l2.length : Int) - 1)).toNat * 1)) 5 rfl rfl (by kernel_rfl) (V.index rfl rfl rfl Tryd.runUnderlying61 Tryd.sizeOf48 (hs.rowsSome 1 rfl hx3) h0x3 (lt_of_get hx3) rfl) fun a hf => ?_
        obtain ⟨B2, D2, hrB2⟩ := hs.rowAt 1 rfl hx3
        refine H.v hf hs (.slice B2 x3.length D2) 6 rfl rfl (by kernel_rfl) (V.loadRows (off := 0) 1 rfl hx3 hrB2 rfl rfl rfl Tryd.isAgg48 Tryd.sizeOf48 rfl rfl) fun a hf => ?_
        refine H.v hf hs (iv (x3.length : Int)) 7 rfl rfl (by kernel_rfl) (V.len rfl rfl Tryd.runUnderlying48) fun a hf => ?_
        refine H.v hf hs (iv heads) 8 rfl rfl (by kernel_rfl) (V.pure rfl) fun a hf => ?_
        refine H.v hf hs (.bool ((x3.length : Int) == heads)) 9 rfl rfl (by kernel_rfl) (V.pure rfl) fun a hf => ?_
        refine H.v hf hs (.bool ((x3.length : Int) == heads)) 10 rfl rfl (by kernel_rfl) (V.pure rfl) fun a hf => ?_
        refine H.split hf hs (b := (x3.length : Int) == heads) (i := 11) rfl rfl rfl rfl (by kernel_rfl) (by kernel_rfl) (by kernel_rfl) (V.pure rfl) (fun hc a hf => ?_) (fun hc a hf => ?_)
        ·replace h := h.1 hc
         refine H.k hf hs 12 rfl rfl (by kernel_rfl) fun a hf => ?_
         refine H.k hf hs 13 rfl rfl (by kernel_rfl) fun a hf => ?_
         refine H.k hf hs 14 rfl rfl (by kernel_rfl) fun a hf => ?_
         refine H.k hf hs 15 rfl rfl (by kernel_rfl) fun a hf => ?_
         refine H.k hf hs 17 rfl rfl (by kernel_rfl) fun a hf => ?_
         refine H.k hf hs 18 rfl rfl (by kernel_rfl) fun a hf => ?_
         refine H.k hf hs 19 rfl rfl (by kernel_rfl) fun a hf => ?_
         refine H.k hf hs 20 rfl rfl (by kernel_rfl) fun a hf => ?_
         refine H.k hf hs 21 rfl rfl (by kernel_rfl) fun a hf => ?_
         refine H.k hf hs 22 rfl rfl (by kernel_rfl) fun a hf => ?_
         refine H.k hf hs 23 rfl rfl (by kernel_rfl) fun a hf => ?_
         refine H.k hf hs 24 rfl rfl (by kernel_rfl) fun a hf => ?_
         refine H.one (i := 16) rfl (by kernel_rfl) ?_
         refine S.k hf rfl fun a hf => ?_
         refine R.nil (X.then_ ?_)
         refine ⟨hs, ?_⟩
         refine H.one (i := 25) rfl (by kernel_rfl) ?_
         refine S.k hf rfl fun a hf => ?_
         refine R.nil (X.then_ ?_)
         refine ⟨hs, ?_⟩
         refine H.k hf hs 26 rfl rfl (by kernel_rfl) fun a hf => ?_
         refine H.v hf hs (.bool true) 27 rfl rfl (by kernel_rfl) (V.pure rfl) fun a hf => ?_
         refine H.v hf hs (.bool true) 28 rfl rfl (by kernel_rfl) (V.pure rfl) fun a hf => ?_
         refine H.k hf hs 29 rfl rfl (by kernel_rfl) fun a hf => ?_
         refine H.k hf hs 30 rfl rfl (by kernel_rfl) fun a hf => ?_
         refine H.k hf hs 31 rfl rfl (by kernel_rfl) fun a hf => ?_
         refine H.k hf hs 32 rfl rfl (by kernel_rfl) fun a hf => ?_
         refine H.v hf hs (.bool true) 33 rfl rfl (by kernel_rfl) (V.pure rfl) fun a hf => ?_
         refine H.done (by kernel_rfl) ?_
         refine X.then_ ?_
         exact ⟨true, h, (((((((((((((hf.nil.cons (hf.get 85 _ rfl)).cons (hf.get 34 _ rfl)).cons (hf.get 33 _ rfl)).cons (hf.get 32 _ rfl)).cons (hf.get 17 _ rfl)).cons (hf.get 15 _ rfl)).cons (hf.get 14 _ rfl)).cons (hf.get 12 _ rfl)).cons (hf.get 11 _ rfl)).cons (hf.get 3 _ rfl)).cons (hf.get 2 _ rfl)).cons (hf.get 1 _ rfl)).cons (hf.get 0 _ rfl)), hs⟩
        ·replace h := h.2 hc
         refine H.v hf hs (.slice lA l.length lC) 12 rfl rfl (by kernel_rfl) (V.pure rfl) fun a hf => ?_
         refine H.v hf hs (iv xk1) 13 rfl rfl (by kernel_rfl) (V.pure rfl) fun a hf => ?_
         refine H.v hf hs (elemPtr lA (xk1.toNat * 6)) 14 rfl rfl (by kernel_rfl) (V.index rfl rfl rfl Tryd.runUnderlying23 Tryd.sizeOf28 (hv_l.some_ (lt_of_get hx1)) h0x1 (lt_of_get hx1) rfl) fun a hf => ?_
         refine H.v hf hs (.agg #[.string (ba x1.Part), .string (ba x1.Typ), iv x1.At.X, iv x1.At.Y, iv x1.Quarters, .bool x1.Below]) 15 rfl rfl (by kernel_rfl) (V.loadEl (off := 0) (Ag.args _ _ _) (hv_l.flat hx1) rfl rfl rfl Tryd.isAgg28 Tryd.sizeOf28 rfl rfl) fun a hf => ?_
         refine H.v hf hs (.slice lA l.length lC) 17 rfl rfl (by kernel_rfl) (V.pure rfl) fun a hf => ?_
         refine H.v hf hs (.slice orderA order.length orderC) 18 rfl rfl (by kernel_rfl) (V.pure rfl) fun a hf => ?_
         refine H.v hf hs (iv (k1 : Int)) 19 rfl rfl (by kernel_rfl) (V.pure rfl) fun a hf => ?_
         refine H.v hf hs (iv (w64 ((k1 : Int) - 1))) 20 rfl rfl (by kernel_rfl) (V.pure rfl) fun a hf => ?_
         obtain ⟨h0x4, x4, hx4, h⟩ := h
         refine H.v hf hs (elemPtr orderA ((w64 ((k1 : Int) - 1)).toNat * 1)) 21 rfl rfl (by kernel_rfl) (V.index rfl rfl rfl Tryd.runUnderlying48 Tryd.sizeOf3 (hv_order.some_ (lt_of_get hx4)) h0x4 (lt_of_get hx4) rfl) fun a hf => ?_
         refine H.v hf hs (iv x4) 22 rfl rfl (by kernel_rfl) (V.loadEl (off := 0) (Ag.args _ _ _) (hv_order.flat hx4) rfl rfl rfl Tryd.isAgg3 Tryd.sizeOf3 rfl rfl) fun a hf => ?_
         obtain ⟨h0x5, x5, hx5, h⟩ := h
         refine H.v hf hs (elemPtr lA (x4.toNat * 6)) 23 rfl rfl (by kernel_rfl) (V.index rfl rfl rfl Tryd.runUnderlying23 Tryd.sizeOf28 (hv_l.some_ (lt_of_get hx5)) h0x5 (lt_of_get hx5) rfl) fun a hf => ?_
         refine H.v hf hs (.agg #[.string (ba x5.Part), .string (ba x5.Typ), iv x5.At.X, iv x5.At.Y, iv x5.Quarters, .bool x5.Below]) 24 rfl rfl (by kernel_rfl) (V.loadEl (off := 0) (Ag.args _ _ _) (hv_l.flat hx5) rfl rfl rfl Tryd.isAgg28 Tryd.sizeOf28 rfl rfl) fun a hf => ?_
         refine H.one (i := 16) rfl (by kernel_rfl) ?_
         refine S.call hf rfl rfl rfl (call_fn (vs := [.agg #[.string (ba x1.Part), .string (ba x1.Typ), iv x1.At.X, iv x1.At.Y, iv x1.Quarters, .bool x1.Below]]) rfl rfl rfl Tryd.call64) (R_mount_side x1 _  _ h) (fun v a w' hf hr => ?_)
         obtain ⟨y5, rfl, h2, hs2⟩ := hr
         replace h := h2; replace hs := hs.call hs2; clear h2 hs2
         refine R.nil (X.then_ ?_)
         refine ⟨hs, ?_⟩
         refine H.one (i := 25) rfl (by kernel_rfl) ?_
         refine S.call hf rfl rfl rfl (call_fn (vs := [.agg #[.string (ba x5.Part), .string (ba x5.Typ), iv x5.At.X, iv x5.At.Y, iv x5.Quarters, .bool x5.Below]]) rfl rfl rfl Tryd.call64) (R_mount_side x5 _  _ h) (fun v a w' hf hr => ?_)
         obtain ⟨y6, rfl, h2, hs2⟩ := hr
         replace h := h2; replace hs := hs.call hs2; clear h2 hs2
         refine R.nil (X.then_ ?_)
         refine ⟨hs, ?_⟩
         refine H.v hf hs (.bool (y5 != y6)) 26 rfl rfl (by kernel_rfl) (V.pure rfl) fun a hf => ?_
         refine H.v hf hs (.bool (y5 != y6)) 27 rfl rfl (by kernel_rfl) (V.pure rfl) fun a hf => ?_
         refine H.split hf hs (b := y5 != y6) (i := 28) rfl rfl rfl rfl (by kernel_rfl) (by kernel_rfl) (by kernel_rfl) (V.pure rfl) (fun hc a hf => ?_) (fun hc a hf => ?_)
         ·replace h := h.1 hc
          refine H.k hf hs 29 rfl rfl (by kernel_rfl) fun a hf => ?_
          refine H.k hf hs 30 rfl rfl (by kernel_rfl) fun a hf => ?_
          refine H.k hf hs 31 rfl rfl (by kernel_rfl) fun a hf => ?_
          refine H.k hf hs 32 rfl rfl (by kernel_rfl) fun a hf => ?_
          refine H.v hf hs (.bool true) 33 rfl rfl (by kernel_rfl) (V.pure rfl) fun a hf => ?_
          refine H.done (by kernel_rfl) ?_
          refine X.then_ ?_
          exact ⟨true, h, (((((((((((((hf.nil.cons (hf.get 85 _ rfl)).cons (hf.get 34 _ rfl)).cons (hf.get 33 _ rfl)).cons (hf.get 32 _ rfl)).cons (hf.get 17 _ rfl)).cons (hf.get 15 _ rfl)).cons (hf.get 14 _ rfl)).cons (hf.get 12 _ rfl)).cons (hf.get 11 _ rfl)).cons (hf.get 3 _ rfl)).cons (hf.get 2 _ rfl)).cons (hf.get 1 _ rfl)).cons (hf.get 0 _ rfl)), hs⟩
         ·replace h := h.2 hc
          refine H.v hf hs ((pn g1 3)) 29 rfl rfl (by kernel_rfl) (V.fieldBox rfl rfl Tryd.runUnderlying95 rfl Tryd.sizeOf3 rfl rfl) fun a hf => ?_
          refine H.v hf hs (iv y3.Tall) 30 rfl rfl (by kernel_rfl) (V.loadBox 0 rfl rfl rfl Tryd.isAgg3 Tryd.sizeOf3 rfl rfl) fun a hf => ?_
          refine H.v hf hs (iv n2) 31 rfl rfl (by kernel_rfl) (V.pure rfl) fun a hf => ?_
          refine H.v hf hs (.bool (decide (y3.Tall < n2))) 32 rfl rfl (by kernel_rfl) (V.pure rfl) fun a hf => ?_
          refine H.v hf hs (.bool (decide (y3.Tall < n2))) 33 rfl rfl (by kernel_rfl) (V.pure rfl) fun a hf => ?_
          refine H.done (by kernel_rfl) ?_
          refine X.then_ ?_
          exact ⟨(decide (y3.Tall < n2)), h, (((((((((((((hf.nil.cons (hf.get 85 _ rfl)).cons (hf.get 34 _ rfl)).cons (hf.get 33 _ rfl)).cons (hf.get 32 _ rfl)).cons (hf.get 17 _ rfl)).cons (hf.get 15 _ rfl)).cons (hf.get 14 _ rfl)).cons (hf.get 12 _ rfl)).cons (hf.get 11 _ rfl)).cons (hf.get 3 _ rfl)).cons (hf.get 2 _ rfl)).cons (hf.get 1 _ rfl)).cons (hf.get 0 _ rfl)), hs⟩
set_option linter.unusedVariables false
def M_Nozzles1 (r : (List Int)) (Q : Bool → Prop) : Prop :=
  Q (!(within (r.length : Int) 1 20))
set_option maxHeartbeats 1000000 in
theorem R_Nozzles1 (r : (List Int)) (w0 : World) (rA : Option Addr) (rC : Nat) (hv_r : View w0 (old w0 none_) rA rC r) (Q : Bool → Prop) (h : M_Nozzles1 r Q) :
  Ret Tryd.prog 69 #[.slice rA r.length rC] w0 fun v w' => ∃ (r0 : Bool), v = .bool r0 ∧ Q r0 ∧ Sat w0 none_ [] w' := by
 refine fn_enter Tryd.func69 rfl Tryd.ntmps69 rfl (fs := [(0, .slice rA r.length rC)]) rfl (fun a hf => ?_)
 have hs := Sat.start w0 none_
 unfold M_Nozzles1 at h
 refine wp_seq (R.list ?_)
 refine S.p hf hs (.bool false) rfl rfl fun a hf => ?_
 refine R.nil (X.then_ (wp_seq (R.list ?_)))
 refine S.p hf hs (.slice rA r.length rC) rfl rfl fun a hf => ?_
 refine S.v hf hs (iv (r.length : Int)) rfl (V.len rfl rfl Tryd.runUnderlying48) fun a hf => ?_
 refine S.callv hf rfl rfl rfl (call_fn (vs := [iv (r.length : Int), iv 1, iv 20]) rfl rfl rfl Tryd.call47) (C_mount_within (r.length : Int) 1 20 _ ) (fun a w hf hs' => ?_)
 replace hs := hs.call hs'; clear hs'
 refine S.p hf hs (.bool (!(within (r.length : Int) 1 20))) rfl rfl fun a hf => ?_
 refine S.p hf hs (.bool (!(within (r.length : Int) 1 20))) rfl rfl fun a hf => ?_
 refine R.nil (X.then_ (wp_ret ?_))
 exact L.ret hf (run_results1 Tryd.results69 (ResIs.tmp hf rfl)) ⟨(!(within (r.length : Int) 1 20)), rfl, h, hs.nil⟩
set_option linter.unusedVariables false
def M_indexfunc_row_L1 (Q : Int → Prop) (k1 : Nat) (xk1 : (List Int))  (next1 : Prop) : Prop :=
  M_Nozzles1 xk1 fun y1 => cnd y1 (Q (k1 : Int)) (next1)
def M_indexfunc_row (s_ : (List (List Int))) (Q : Int → Prop) : Prop :=
  forIn' (fun k x (s : Unit) next => M_indexfunc_row_L1 Q k x (next ())) (fun (s : Unit) => Q (-1)) s_ 0 ()
set_option maxHeartbeats 1000000 in
theorem R_indexfunc_row (s_ : (List (List Int))) (w0 : World) (s_A : Option Addr) (s_C : Nat) (hv_s_ : View w0 (old w0 none_) s_A s_C s_) (Q : Int → Prop) (h : M_indexfunc_row s_ Q) :
  Ret Tryd.prog 95 #[.slice s_A s_.length s_C, .func (.func 69) #[] #[]] w0 fun v w' => ∃ (r0 : Int), v = iv r0 ∧ Q r0 ∧ Sat w0 none_ [] w' := by
 refine fn_enter Tryd.func95 rfl Tryd.ntmps95 rfl (fs := [(0, .slice s_A s_.length s_C), (1, .func (.func 69) #[] #[])]) rfl (fun a hf => ?_)
 have hs := Sat.start w0 none_
 unfold M_indexfunc_row at h
 refine wp_seq (R.list ?_)
 refine S.p hf hs (iv 0) rfl rfl fun a hf => ?_
 refine R.nil (X.then_ (wp_seq (wp_seq (R.list ?_))))
 refine S.p hf hs (.slice s_A s_.length s_C) rfl rfl fun a hf => ?_
 refine S.v hf hs (iv (s_.length : Int)) rfl (V.len rfl rfl Tryd.runUnderlying61) fun a hf => ?_
 refine S.p hf hs (iv 0) rfl rfl fun a hf => ?_
 refine R.nil (X.then_ (wp_block ?_))
 have hlenk1 := hv_s_.len64
 refine C.range (fun (ll : List (List Int)) a w => ∃ (k1 : Nat) , s_.drop k1 = ll ∧ k1 + ll.length = s_.length ∧ forIn' (fun k x (s : Unit) next => M_indexfunc_row_L1 Q k x (next ())) (fun (s : Unit) => Q (-1)) ll k1 () ∧ FrOk 19 [(8, iv (k1 : Int)), (0, .slice s_A s_.length s_C), (1, .func (.func 69) #[] #[]), (7, iv (s_.length : Int))] a ∧ Sat w0 none_ [] w) s_ ⟨0, rfl, Nat.zero_add _, h, ((((hf.nil.cons (hf.get 7 _ rfl)).cons (hf.get 1 _ rfl)).cons (hf.get 0 _ rfl)).cons (hf.get 8 _ rfl)), hs⟩ ?_
 clear h hf hs
 rintro llk1 a w ⟨k1, hlk1, hkk1, h, hf, hs⟩
 cases llk1 with
 | nil =>
  have hc := range_done hkk1
  replace h : Q (-1) := h
  refine wp_seq (R.list ?_)
  refine S.v hf hs (.bool false) rfl (V.cmp false rfl rfl rfl rfl hc) fun a hf => ?_
  refine R.nil (X.then_ (wp_seq ?_))
  refine C.no hf rfl ?_
  refine wp_exit (X.then_exit (X.then_exit (X.blk_exit (X.then_ (wp_seq (R.list ?_))))))
  refine S.p hf hs (iv (-1)) rfl rfl fun a hf => ?_
  refine R.nil (X.then_ (wp_ret ?_))
  exact L.ret hf (run_results1 Tryd.results95 (ResIs.tmp hf rfl)) ⟨(-1), rfl, h, hs.nil⟩
 | cons xk1 llk1 =>
  have hltk1 := range_lt hkk1; have hc := range_go hkk1; have hxk1 := range_get hlk1
  obtain ⟨next1, hnext1⟩ : ∃ X : Prop, X = (forIn' (fun k x (s : Unit) next => M_indexfunc_row_L1 Q k x (next ())) (fun (s : Unit) => Q (-1)) llk1 (k1 + 1) ()) := ⟨_, rfl⟩
  replace h : M_indexfunc_row_L1 Q k1 xk1  next1 := by rw [hnext1]; exact h
  unfold M_indexfunc_row_L1 at h
  refine wp_seq (R.list ?_)
  refine S.v hf hs (.bool true) rfl (V.cmp true rfl rfl rfl rfl hc) fun a hf => ?_
  refine R.nil (X.then_ (wp_seq ?_))
  refine C.yes hf rfl ?_
  refine wp_skip (X.then_ (wp_seq (wp_block (wp_seq (R.list ?_)))))
  refine S.p hf hs (iv (k1 : Int)) rfl rfl fun a hf => ?_
  refine S.p hf hs (iv (k1 : Int)) rfl rfl fun a hf => ?_
  refine R.nil (X.then_ (wp_seq (R.list ?_)))
  refine S.p hf hs (.func (.func 69) #[] #[]) rfl rfl fun a hf => ?_
  refine S.p hf hs (.slice s_A s_.length s_C) rfl rfl fun a hf => ?_
  refine S.p hf hs (iv (k1 : Int)) rfl rfl fun a hf => ?_
  obtain ⟨cs1, he1, hr1⟩ := hv_s_.at_ _ _ hxk1
  obtain ⟨u1A, u1C, rfl, hvu1⟩ := hr1
  refine S.v hf hs (elemPtr s_A (k1 * 1)) rfl (V.index rfl rfl rfl Tryd.runUnderlying61 Tryd.sizeOf48 (hv_s_.some_ (lt_of_get hxk1)) (Int.natCast_nonneg _) (lt_of_get hxk1) rfl) fun a hf => ?_
  refine S.v hf hs (.slice u1A xk1.length u1C) rfl (V.loadEl (off := 0) (Ag.args _ _ _) he1 rfl rfl rfl Tryd.isAgg48 Tryd.sizeOf48 rfl rfl) fun a hf => ?_
  refine S.call hf rfl rfl rfl (call_fn (vs := [.slice u1A xk1.length u1C]) rfl rfl rfl Tryd.call69) (R_Nozzles1 xk1 _ u1A u1C ((Ag.args _ _ _).view hvu1 hs) _ h) (fun v a w' hf hr => ?_)
  obtain ⟨y1, rfl, h2, hs2⟩ := hr
  replace h := h2; replace hs := hs.call hs2; clear h2 hs2
  refine R.nil (X.then_ ?_)
  refine C.cond hf (b := y1) rfl (fun hc => ?_) (fun hc => ?_)
  ·replace h := h.1 hc
   refine wp_seq (R.list ?_)
   refine S.p hf hs (iv (k1 : Int)) rfl rfl fun a hf => ?_
   refine S.p hf hs (iv (k1 : Int)) rfl rfl fun a hf => ?_
   refine R.nil (X.then_ (wp_ret (X.blk_ret (X.then_ret (X.then_ret (X.blk_ret (X.then_ret ?_)))))))
   exact L.ret hf (run_results1 Tryd.results95 (ResIs.tmp hf rfl)) ⟨(k1 : Int), rfl, h, hs.nil⟩
  ·replace h := h.2 hc
   refine wp_skip (X.blk (X.then_ (R.list ?_)))
   refine S.v hf hs (iv ((k1 + 1 : Nat) : Int)) rfl (V.incr rfl rfl rfl hltk1 hlenk1) fun a hf => ?_
   refine S.p hf hs (iv ((k1 + 1 : Nat) : Int)) rfl rfl fun a hf => ?_
   refine R.nil (X.then_ ?_)
   exact ⟨xk1, llk1, rfl, k1 + 1, range_drop hlk1, range_len hkk1, (by rw [hnext1] at h; exact h), ((((hf.nil.cons (hf.get 7 _ rfl)).cons (hf.get 1 _ rfl)).cons (hf.get 0 _ rfl)).cons (hf.get 8 _ rfl)), hs⟩
set_option linter.unusedVariables false
def M_containsfunc_row (s_ : (List (List Int))) (Q : Bool → Prop) : Prop :=
  M_indexfunc_row s_ fun y1 => Q (decide (y1 ≥ 0))
set_option maxHeartbeats 1000000 in
theorem R_containsfunc_row (s_ : (List (List Int))) (w0 : World) (s_A : Option Addr) (s_C : Nat) (hv_s_ : View w0 (old w0 none_) s_A s_C s_) (Q : Bool → Prop) (h : M_containsfunc_row s_ Q) :
  Ret Tryd.prog 68 #[.slice s_A s_.length s_C, .func (.func 69) #[] #[]] w0 fun v w' => ∃ (r0 : Bool), v = .bool r0 ∧ Q r0 ∧ Sat w0 none_ [] w' := by
 refine fn_enter Tryd.func68 rfl Tryd.ntmps68 rfl (fs := [(0, .slice s_A s_.length s_C), (1, .func (.func 69) #[] #[])]) rfl (fun a hf => ?_)
 have hs := Sat.start w0 none_
 unfold M_containsfunc_row at h
 refine wp_seq (R.list ?_)
 refine S.p hf hs (.bool false) rfl rfl fun a hf => ?_
 refine R.nil (X.then_ (wp_seq (R.list ?_)))
 refine S.p hf hs (.slice s_A s_.length s_C) rfl rfl fun a hf => ?_
 refine S.p hf hs (.func (.func 69) #[] #[]) rfl rfl fun a hf => ?_
 refine S.call hf rfl rfl rfl (call_fn (vs := [.slice s_A s_.length s_C, .func (.func 69) #[] #[]]) rfl rfl rfl Tryd.call95) (R_indexfunc_row s_ _ s_A s_C ((Ag.args _ _ _).view hv_s_ hs) _ h) (fun v a w' hf hr => ?_)
 obtain ⟨y1, rfl, h2, hs2⟩ := hr
 replace h := h2; replace hs := hs.call hs2; clear h2 hs2
 refine S.p hf hs (.bool (decide (y1 ≥ 0))) rfl rfl fun a hf => ?_
 refine S.p hf hs (.bool (decide (y1 ≥ 0))) rfl rfl fun a hf => ?_
 refine R.nil (X.then_ (wp_ret ?_))
 exact L.ret hf (run_results1 Tryd.results68 (ResIs.tmp hf rfl)) ⟨(decide (y1 ≥ 0)), rfl, h, hs.nil⟩
def M_grow_int (k : Int) (Q : (List Int) → Prop) : Prop := must (0 ≤ k ∧ room k.toNat 8) (Q ([] : List Int))
theorem R_grow_int (i : Int) (w0 : World) (Q : (List Int) → Prop) (h : M_grow_int i Q) :
  Ret Tryd.prog 70 #[.slice none 0 0, .int .i64 i] w0 fun v w' => ∃ (r0 : (List Int)) (r0A : Option Addr) (r0C : Nat), v = .slice r0A r0.length r0C ∧ Q r0 ∧ Sat w0 none_ [hown 3 r0A r0C r0] w' := by
 obtain ⟨⟨h0, hroom⟩, hq⟩ := h
 obtain ⟨k, rfl⟩ : ∃ k : Nat, i = (k : Int) := ⟨i.toNat, by omega⟩
 rw [Int.toNat_natCast] at hroom
 have hbig : k ≤ 9223372036854775807 := hroom.1
 refine fn_enter Tryd.func70 rfl Tryd.ntmps70 rfl (fs := [(0, .slice none 0 0), (1, .int .i64 (k : Int))]) rfl (fun a hf => ?_)
 have hs := (Sat.start w0 none_).nilOwn (α := Int) 3
 refine wp_seq (R.list ?_)
 refine S.val hf hs (v := .slice none 0 0) rfl rfl rfl (V.pure rfl) (fun a hf => ?_)
 refine R.nil (X.then_ (wp_seq (wp_seq (R.list ?_))))
 refine S.val hf hs (v := .int .i64 (k : Int)) rfl rfl rfl (V.pure rfl) (fun a hf => ?_)
 refine S.val hf hs (v := .bool (decide ((k : Int) < 0))) rfl rfl rfl (V.pure rfl) (fun a hf => ?_)
 refine R.nil (X.then_ ?_)
 refine C.cond hf (b := decide ((k : Int) < 0)) rfl (fun hc => ?_) (fun hc => ?_)
 ·exfalso; simp at hc; omega
 refine wp_skip (X.then_ (wp_seq (wp_seq (R.list ?_))))
 refine S.val hf hs (v := .int .i64 (k : Int)) rfl rfl rfl (V.pure rfl) (fun a hf => ?_)
 refine S.val hf hs (v := .slice none 0 0) rfl rfl rfl (V.pure rfl) (fun a hf => ?_)
 refine S.val hf hs (v := .int .i64 ((0 : Nat) : Int)) rfl rfl rfl (V.cap rfl rfl Tryd.runUnderlying48) (fun a hf => ?_)
 refine S.val hf hs (v := .slice none 0 0) rfl rfl rfl (V.pure rfl) (fun a hf => ?_)
 refine S.val hf hs (v := .int .i64 ((0 : Nat) : Int)) rfl rfl rfl (V.len rfl rfl Tryd.runUnderlying48) (fun a hf => ?_)
 refine S.val hf hs (v := .int .i64 ((0 : Nat) : Int)) rfl rfl rfl (V.subNat rfl rfl rfl rfl (by omega)) (fun a hf => ?_)
 refine S.val hf hs (v := .int .i64 (k : Int)) rfl rfl rfl (V.subNat rfl rfl rfl (Nat.zero_add k) hbig) (fun a hf => ?_)
 refine S.val hf hs (v := .int .i64 (k : Int)) rfl rfl rfl (V.pure rfl) (fun a hf => ?_)
 refine R.nil (X.then_ (wp_seq (R.list ?_)))
 refine S.val hf hs (v := .int .i64 (k : Int)) rfl rfl rfl (V.pure rfl) (fun a hf => ?_)
 refine S.val hf hs (v := .bool (decide ((k : Int) > 0))) rfl rfl rfl (V.pure rfl) (fun a hf => ?_)
 refine R.nil (X.then_ ?_)
 refine C.cond hf (b := decide ((k : Int) > 0)) rfl (fun hc2 => ?_) (fun hc2 => ?_)
 ·have hk0 : 0 < k := by simp at hc2; omega
  refine R.list ?_
  refine S.val hf hs (v := .slice none 0 0) rfl rfl rfl (V.pure rfl) (fun a hf => ?_)
  refine S.val hf hs (v := .slice none 0 0) rfl rfl rfl (V.pure rfl) (fun a hf => ?_)
  refine S.val hf hs (v := .int .i64 ((0 : Nat) : Int)) rfl rfl rfl (V.cap rfl rfl Tryd.runUnderlying48) (fun a hf => ?_)
  refine S.val hf hs (v := .slice none 0 0) rfl rfl rfl (V.sliceCap rfl rfl rfl Tryd.runUnderlying48 Tryd.sizeOf3 (Nat.le_refl _)) (fun a hf => ?_)
  refine S.val hf hs (v := .int .i64 (k : Int)) rfl rfl rfl (V.pure rfl) (fun a hf => ?_)
  refine S.growRaw 0 (α := Int) hf hs rfl rfl rfl rfl rfl (Nat.le_refl _) rfl rfl Tryd.underlying48 Tryd.underlying3 info3 rfl (by omega) hk0 (by rw [List.length_nil, Nat.zero_add]; exact hroom) (fun g cs C' a w hf i1 i2 i3 i4 hs => ?_)
  refine S.val hf hs (v := .slice none 0 0) rfl rfl rfl (V.pure rfl) (fun a hf => ?_)
  refine S.val hf hs (v := .int .i64 ((0 : Nat) : Int)) rfl rfl rfl (V.len rfl rfl Tryd.runUnderlying48) (fun a hf => ?_)
  refine S.val hf hs (v := .slice (some ⟨g, 0, none⟩) 0 C') rfl rfl rfl (V.sliceCap rfl rfl rfl Tryd.runUnderlying48 Tryd.sizeOf3 (Nat.zero_le _)) (fun a hf => ?_)
  refine S.val hf hs (v := .slice (some ⟨g, 0, none⟩) 0 C') rfl rfl rfl (V.pure rfl) (fun a hf => ?_)
  refine R.nil (X.then_ (wp_seq (R.list ?_)))
  refine S.val hf hs (v := .slice (some ⟨g, 0, none⟩) 0 C') rfl rfl rfl (V.pure rfl) (fun a hf => ?_)
  refine S.val hf hs (v := .slice (some ⟨g, 0, none⟩) 0 C') rfl rfl rfl (V.pure rfl) (fun a hf => ?_)
  refine R.nil (X.then_ (wp_ret ?_))
  have hs2 := hs.ofRaw 0 rfl (C := C') ([] : List Int) i1 (Nat.zero_le _) i3 (by simp)
  exact L.ret hf (run_results1 Tryd.results70 (ResIs.tmp hf rfl)) ⟨[], some ⟨g, 0, none⟩, C', rfl, hq, hs2.take 1⟩
 refine wp_skip (X.then_ (wp_seq (R.list ?_)))
 refine S.val hf hs (v := .slice none 0 0) rfl rfl rfl (V.pure rfl) (fun a hf => ?_)
 refine S.val hf hs (v := .slice none 0 0) rfl rfl rfl (V.pure rfl) (fun a hf => ?_)
 refine R.nil (X.then_ (wp_ret ?_))
 exact L.ret hf (run_results1 Tryd.results70 (ResIs.tmp hf rfl)) ⟨[], none, 0, rfl, hq, hs⟩
set_option linter.unusedVariables false
def M_concat_int_L2  (k2 : Nat) (xk2 : (List Int)) (l2 : List Int) (next2 : List Int → Prop) : Prop :=
  must (room (l2 ++ xk2).length 8) (next2 (l2 ++ xk2))
def M_concat_int_L1  (k1 : Nat) (xk1 : (List Int)) (n2 : Int) (next1 : Int → Prop) : Prop :=
  cnd (decide (w64 (n2 + (xk1.length : Int)) < 0)) (False) (next1 (w64 (n2 + (xk1.length : Int))))
def M_concat_int (s_ : (List (List Int))) (Q : (List Int) → Prop) : Prop :=
  forIn' (fun k x (s : Int) next => M_concat_int_L1 k x s (fun n2 => next n2)) (fun (s : Int) => (fun (n2 : Int) => M_grow_int n2 fun y1 => forIn' (fun k x (s : List Int) next => M_concat_int_L2 k x s (fun l2 => next l2)) (fun (s : List Int) => (fun (l2 : List Int) => Q l2) s) s_ 0 y1) s) s_ 0 0
set_option maxHeartbeats 1000000 in
theorem R_concat_int (s_ : (List (List Int))) (w0 : World) (s_A : Option Addr) (s_C : Nat) (hv_s_ : View w0 (old w0 none_) s_A s_C s_) (Q : (List Int) → Prop) (h : M_concat_int s_ Q) :
  Ret Tryd.prog 30 #[.slice s_A s_.length s_C] w0 fun v w' => ∃ (r0 : (List Int)) (r0A : Option Addr) (r0C : Nat), v = .slice r0A r0.length r0C ∧ Q r0 ∧ Sat w0 none_ [hown 3 r0A r0C r0] w' := by
 refine fn_enter Tryd.func30 rfl Tryd.ntmps30 rfl (fs := [(0, .slice s_A s_.length s_C)]) rfl (fun a hf => ?_)
 have hs := Sat.start w0 none_
 unfold M_concat_int at h
 refine wp_seq (R.list ?_)
 refine S.p hf hs (.slice none 0 0) rfl rfl fun a hf => ?_
 refine R.nil (X.then_ (wp_seq (R.list ?_)))
 refine S.p hf hs (iv 0) rfl rfl fun a hf => ?_
 refine R.nil (X.then_ (wp_seq (wp_seq (R.list ?_))))
 refine S.p hf hs (.slice s_A s_.length s_C) rfl rfl fun a hf => ?_
 refine S.v hf hs (iv (s_.length : Int)) rfl (V.len rfl rfl Tryd.runUnderlying61) fun a hf => ?_
 refine S.p hf hs (iv 0) rfl rfl fun a hf => ?_
 refine R.nil (X.then_ (wp_block ?_))
 have hlenk1 := hv_s_.len64
 refine C.range (fun (ll : List (List Int)) a w => ∃ (k1 : Nat) (n2 : Int), s_.drop k1 = ll ∧ k1 + ll.length = s_.length ∧ forIn' (fun k x (s : Int) next => M_concat_int_L1 k x s (fun n2 => next n2)) (fun (s : Int) => (fun (n2 : Int) => M_grow_int n2 fun y1 => forIn' (fun k x (s : List Int) next => M_concat_int_L2 k x s (fun l2 => next l2)) (fun (s : List Int) => (fun (l2 : List Int) => Q l2) s) s_ 0 y1) s) ll k1 n2 ∧ FrOk 36 [(11, iv (k1 : Int)), (0, .slice s_A s_.length s_C), (3, iv n2), (9, .slice s_A s_.length s_C), (10, iv (s_.length : Int))] a ∧ Sat w0 none_ [] w) s_ ⟨0, 0, rfl, Nat.zero_add _, h, (((((hf.nil.cons (hf.get 10 _ rfl)).cons (hf.get 9 _ rfl)).cons (hf.get 3 _ rfl)).cons (hf.get 0 _ rfl)).cons (hf.get 11 _ rfl)), hs⟩ ?_
 clear h hf hs
 rintro llk1 a w ⟨k1, n2, hlk1, hkk1, h, hf, hs⟩
 cases llk1 with
 | nil =>
  have hc := range_done hkk1
  replace h : (fun (n2 : Int) => M_grow_int n2 fun y1 => forIn' (fun k x (s : List Int) next => M_concat_int_L2 k x s (fun l2 => next l2)) (fun (s : List Int) => (fun (l2 : List Int) => Q l2) s) s_ 0 y1) n2 := h
  refine wp_seq (R.list ?_)
  refine S.v hf hs (.bool false) rfl (V.cmp false rfl rfl rfl rfl hc) fun a hf => ?_
  refine R.nil (X.then_ (wp_seq ?_))
  refine C.no hf rfl ?_
  refine wp_exit (X.then_exit (X.then_exit (X.blk_exit (X.then_ (wp_seq (R.list ?_))))))
  refine S.p hf hs (iv n2) rfl rfl fun a hf => ?_
  refine S.call hf rfl rfl rfl (call_fn (vs := [.slice none 0 0, iv n2]) rfl rfl rfl Tryd.call70) (R_grow_int n2 _  _ h) (fun v a w' hf hr => ?_)
  obtain ⟨y1, y1A, y1C, rfl, h2, hs2⟩ := hr
  replace h := h2; replace hs := hs.call hs2; clear h2 hs2
  refine S.p hf hs (.slice y1A y1.length y1C) rfl rfl fun a hf => ?_
  refine R.nil (X.then_ (wp_seq (wp_seq (R.list ?_))))
  refine S.p hf hs (.slice s_A s_.length s_C) rfl rfl fun a hf => ?_
  refine S.v hf hs (iv (s_.length : Int)) rfl (V.len rfl rfl Tryd.runUnderlying61) fun a hf => ?_
  refine S.p hf hs (iv 0) rfl rfl fun a hf => ?_
  refine R.nil (X.then_ (wp_block ?_))
  have hlenk2 := hv_s_.len64
  refine C.range (fun (ll : List (List Int)) a w => ∃ (k2 : Nat) (l2 : List Int) (l2A : Option Addr) (l2C : Nat), s_.drop k2 = ll ∧ k2 + ll.length = s_.length ∧ forIn' (fun k x (s : List Int) next => M_concat_int_L2 k x s (fun l2 => next l2)) (fun (s : List Int) => (fun (l2 : List Int) => Q l2) s) ll k2 l2 ∧ FrOk 36 [(27, iv (k2 : Int)), (6, .slice l2A l2.length l2C), (25, .slice s_A s_.length s_C), (26, iv (s_.length : Int))] a ∧ Sat w0 none_ [hown 3 l2A l2C l2] w) s_ ⟨0, y1, y1A, y1C, rfl, Nat.zero_add _, h, ((((hf.nil.cons (hf.get 26 _ rfl)).cons (hf.get 25 _ rfl)).cons (hf.get 6 _ rfl)).cons (hf.get 27 _ rfl)), hs⟩ ?_
  clear h hf hs
  rintro llk2 a w ⟨k2, l2, l2A, l2C, hlk2, hkk2, h, hf, hs⟩
  cases llk2 with
  | nil =>
   have hc := range_done hkk2
   replace h : (fun (l2 : List Int) => Q l2) l2 := h
   refine wp_seq (R.list ?_)
   refine S.v hf hs (.bool false) rfl (V.cmp false rfl rfl rfl rfl hc) fun a hf => ?_
   refine R.nil (X.then_ (wp_seq ?_))
   refine C.no hf rfl ?_
   refine wp_exit (X.then_exit (X.then_exit (X.blk_exit (X.then_ (wp_seq (R.list ?_))))))
   refine S.p hf hs (.slice l2A l2.length l2C) rfl rfl fun a hf => ?_
   refine S.p hf hs (.slice l2A l2.length l2C) rfl rfl fun a hf => ?_
   refine R.nil (X.then_ (wp_ret ?_))
   replace hs := hs.take 1
   exact L.ret hf (run_results1 Tryd.results30 (ResIs.tmp hf rfl)) ⟨l2, l2A, l2C, rfl, h, hs⟩
  | cons xk2 llk2 =>
   have hltk2 := range_lt hkk2; have hc := range_go hkk2; have hxk2 := range_get hlk2
   obtain ⟨next2, hnext2⟩ : ∃ X : List Int → Prop, X = (fun l2 => forIn' (fun k x (s : List Int) next => M_concat_int_L2 k x s (fun l2 => next l2)) (fun (s : List Int) => (fun (l2 : List Int) => Q l2) s) llk2 (k2 + 1) l2) := ⟨_, rfl⟩
   replace h : M_concat_int_L2 k2 xk2 l2 next2 := by rw [hnext2]; exact h
   unfold M_concat_int_L2 at h
   refine wp_seq (R.list ?_)
   refine S.v hf hs (.bool true) rfl (V.cmp true rfl rfl rfl rfl hc) fun a hf => ?_
   refine R.nil (X.then_ (wp_seq ?_))
   refine C.yes hf rfl ?_
   refine wp_skip (X.then_ (wp_seq (wp_block (wp_seq (R.list ?_)))))
   obtain ⟨cs1, he1, hr1⟩ := hv_s_.at_ _ _ hxk2
   obtain ⟨u1A, u1C, rfl, hvu1⟩ := hr1
   refine S.v hf hs (elemPtr s_A (k2 * 1)) rfl (V.index rfl rfl rfl Tryd.runUnderlying61 Tryd.sizeOf48 (hv_s_.some_ (lt_of_get hxk2)) (Int.natCast_nonneg _) (lt_of_get hxk2) rfl) fun a hf => ?_
   refine S.v hf hs (.slice u1A xk2.length u1C) rfl (V.loadEl (off := 0) (Ag.args _ _ _) he1 rfl rfl rfl Tryd.isAgg48 Tryd.sizeOf48 rfl rfl) fun a hf => ?_
   refine S.p hf hs (.slice u1A xk2.length u1C) rfl rfl fun a hf => ?_
   refine R.nil (X.then_ (R.list ?_))
   refine S.p hf hs (.slice l2A l2.length l2C) rfl rfl fun a hf => ?_
   refine S.p hf hs (.slice u1A xk2.length u1C) rfl rfl fun a hf => ?_
   obtain ⟨hroom, h⟩ := h
   refine S.appendAny 0 hf hs rfl rfl rfl rfl rfl rfl rfl Tryd.underlying48 info3 rfl hroom ((Ag.args _ _ _).view hvu1 hs) (fun A1 C1 a w hf hs => ?_)
   refine S.p hf hs (.slice A1 (l2 ++ xk2).length C1) rfl rfl fun a hf => ?_
   refine R.nil (X.blk (X.then_ (R.list ?_)))
   refine S.v hf hs (iv ((k2 + 1 : Nat) : Int)) rfl (V.incr rfl rfl rfl hltk2 hlenk2) fun a hf => ?_
   refine S.p hf hs (iv ((k2 + 1 : Nat) : Int)) rfl rfl fun a hf => ?_
   refine R.nil (X.then_ ?_)
   exact ⟨xk2, llk2, rfl, k2 + 1, (l2 ++ xk2), A1, C1, range_drop hlk2, range_len hkk2, (by rw [hnext2] at h; exact h), ((((hf.nil.cons (hf.get 26 _ rfl)).cons (hf.get 25 _ rfl)).cons (hf.get 6 _ rfl)).cons (hf.get 27 _ rfl)), hs⟩
 | cons xk1 llk1 =>
  have hltk1 := range_lt hkk1; have hc := range_go hkk1; have hxk1 := range_get hlk1
  obtain ⟨next1, hnext1⟩ : ∃ X : Int → Prop, X = (fun n2 => forIn' (fun k x (s : Int) next => M_concat_int_L1 k x s (fun n2 => next n2)) (fun (s : Int) => (fun (n2 : Int) => M_grow_int n2 fun y1 => forIn' (fun k x (s : List Int) next => M_concat_int_L2 k x s (fun l2 => next l2)) (fun (s : List Int) => (fun (l2 : List Int) => Q l2) s) s_ 0 y1) s) llk1 (k1 + 1) n2) := ⟨_, rfl⟩
  replace h : M_concat_int_L1 k1 xk1 n2 next1 := by rw [hnext1]; exact h
  unfold M_concat_int_L1 at h
  refine wp_seq (R.list ?_)
  refine S.v hf hs (.bool true) rfl (V.cmp true rfl rfl rfl rfl hc) fun a hf => ?_
  refine R.nil (X.then_ (wp_seq ?_))
  refine C.yes hf rfl ?_
  refine wp_skip (X.then_ (wp_seq (wp_block (wp_seq (R.list ?_)))))
  obtain ⟨cs2, he2, hr2⟩ := hv_s_.at_ _ _ hxk1
  obtain ⟨u2A, u2C, rfl, hvu2⟩ := hr2
  refine S.v hf hs (elemPtr s_A (k1 * 1)) rfl (V.index rfl rfl rfl Tryd.runUnderlying61 Tryd.sizeOf48 (hv_s_.some_ (lt_of_get hxk1)) (Int.natCast_nonneg _) (lt_of_get hxk1) rfl) fun a hf => ?_
  refine S.v hf hs (.slice u2A xk1.length u2C) rfl (V.loadEl (off := 0) (Ag.args _ _ _) he2 rfl rfl rfl Tryd.isAgg48 Tryd.sizeOf48 rfl rfl) fun a hf => ?_
  refine S.p hf hs (.slice u2A xk1.length u2C) rfl rfl fun a hf => ?_
  refine R.nil (X.then_ (wp_seq (R.list ?_)))
  refine S.p hf hs (iv n2) rfl rfl fun a hf => ?_
  refine S.p hf hs (.slice u2A xk1.length u2C) rfl rfl fun a hf => ?_
  refine S.v hf hs (iv (xk1.length : Int)) rfl (V.len rfl rfl Tryd.runUnderlying48) fun a hf => ?_
  refine S.p hf hs (iv (w64 (n2 + (xk1.length : Int)))) rfl rfl fun a hf => ?_
  refine S.p hf hs (iv (w64 (n2 + (xk1.length : Int)))) rfl rfl fun a hf => ?_
  refine R.nil (X.then_ (wp_seq (R.list ?_)))
  refine S.p hf hs (iv (w64 (n2 + (xk1.length : Int)))) rfl rfl fun a hf => ?_
  refine S.p hf hs (.bool (decide (w64 (n2 + (xk1.length : Int)) < 0))) rfl rfl fun a hf => ?_
  refine R.nil (X.then_ ?_)
  refine C.cond hf (b := decide (w64 (n2 + (xk1.length : Int)) < 0)) rfl (fun hc => ?_) (fun hc => ?_)
  ·replace h := h.1 hc
   exact h.elim
  ·replace h := h.2 hc
   refine wp_skip (X.blk (X.then_ (R.list ?_)))
   refine S.v hf hs (iv ((k1 + 1 : Nat) : Int)) rfl (V.incr rfl rfl rfl hltk1 hlenk1) fun a hf => ?_
   refine S.p hf hs (iv ((k1 + 1 : Nat) : Int)) rfl rfl fun a hf => ?_
   refine R.nil (X.then_ ?_)
   exact ⟨xk1, llk1, rfl, k1 + 1, (w64 (n2 + (xk1.length : Int))), range_drop hlk1, range_len hkk1, (by rw [hnext1] at h; exact h), (((((hf.nil.cons (hf.get 10 _ rfl)).cons (hf.get 9 _ rfl)).cons (hf.get 3 _ rfl)).cons (hf.get 0 _ rfl)).cons (hf.get 11 _ rfl)), hs⟩
set_option linter.unusedVariables false
def M_mount_Nozzles_k4 (k3 : Nat) (l4 : List Str) (next2 : List Str → Int → Prop) (y2 : Body) (n5 : Int) : Prop :=
  idx l4 (k3 : Int) fun x2 => next2 (l4.set (k3 : Int).toNat y2.Nozzle) n5
def M_mount_Nozzles_k5 (k3 : Nat) (l4 : List Str) (n4 : Int) (next2 : List Str → Int → Prop) (y2 : Body) (c2 : Bool) : Prop :=
  cnd c2 (M_mount_Nozzles_k4 k3 l4 next2 y2 (w64 (n4 + 1))) (M_mount_Nozzles_k4 k3 l4 next2 y2 n4)
def M_mount_Nozzles_L2 (b : (List Body)) (l : (List Place)) (k3 : Nat) (xk3 : Int) (l4 : List Str) (n4 : Int) (next2 : List Str → Int → Prop) : Prop :=
  idx l xk3 fun x1 => M_mount_bodyOf b x1.Typ fun y2 y3 => idx l4 (k3 : Int) fun x3 => cnd (!(x3 == [])) (idx l4 (k3 : Int) fun x4 => M_mount_Nozzles_k5 k3 l4 n4 next2 y2 (!(x4 == y2.Nozzle))) (M_mount_Nozzles_k5 k3 l4 n4 next2 y2 false)
def M_mount_Nozzles_L1 (b : (List Body)) (l : (List Place)) (k2 : Nat) (xk2 : (List Int)) (l2 : List Str) (n2 : Int) (next1 : List Str → Int → Prop) : Prop :=
  forIn' (fun k x (s : List Str × Int) next => M_mount_Nozzles_L2 b l k x s.1 s.2 (fun l4 n4 => next (l4, n4))) (fun (s : List Str × Int) => (fun (l4 : List Str) (n4 : Int) => next1 l4 n4) s.1 s.2) xk2 0 (l2, n2)
def M_mount_Nozzles_k1 (b : (List Body)) (l : (List Place)) (rounds : (List (List Int))) (Q : Int → Int → Prop) (c1 : Bool) : Prop :=
  cnd c1 (Q 0 3) (forIn' (fun k x (s : List Str × Int) next => M_mount_Nozzles_L1 b l k x s.1 s.2 (fun l2 n2 => next (l2, n2))) (fun (s : List Str × Int) => (fun (l2 : List Str) (n2 : Int) => Q n2 0) s.1 s.2) rounds 0 (([[], [], [], [], [], [], [], [], [], [], [], [], [], [], [], [], [], [], [], []] : List Str), 0))
def M_mount_Nozzles (b : (List Body)) (l : (List Place)) (rounds : (List (List Int))) (Q : Int → Int → Prop) : Prop :=
  M_mount_CheckPlaces b l fun y1 => cnd (y1 != 0) (Q 0 y1) (M_concat_int rounds fun y4 => M_mount_isOrder y4 (l.length : Int) fun y5 => cnd (!y5) (M_mount_Nozzles_k1 b l rounds Q true) (M_containsfunc_row rounds fun y6 => M_mount_Nozzles_k1 b l rounds Q y6))
set_option maxHeartbeats 1000000 in
theorem R_mount_Nozzles (b : (List Body)) (l : (List Place)) (rounds : (List (List Int))) (w0 : World) (bA : Option Addr) (bC : Nat) (hv_b : View w0 (old w0 none_) bA bC b) (lA : Option Addr) (lC : Nat) (hv_l : View w0 (old w0 none_) lA lC l) (roundsA : Option Addr) (roundsC : Nat) (hv_rounds : View w0 (old w0 none_) roundsA roundsC rounds) (Q : Int → Int → Prop) (h : M_mount_Nozzles b l rounds Q) :
  Ret Tryd.prog 28 #[.slice bA b.length bC, .slice lA l.length lC, .slice roundsA rounds.length roundsC] w0 fun v w' => ∃ (r0 : Int) (r1 : Int), v = .tuple #[iv r0, iv r1] ∧ Q r0 r1 ∧ Sat w0 none_ [] w' := by
 refine fn_enter Tryd.func28 rfl Tryd.ntmps28 rfl (fs := [(0, .slice bA b.length bC), (1, .slice lA l.length lC), (2, .slice roundsA rounds.length roundsC)]) rfl (fun a hf => ?_)
 have hs := Sat.start w0 none_
 unfold M_mount_Nozzles at h
 refine wp_seq (R.list ?_)
 refine S.p hf hs (iv 0) rfl rfl fun a hf => ?_
 refine S.p hf hs (iv 0) rfl rfl fun a hf => ?_
 refine R.nil (X.then_ (wp_seq (wp_seq (R.list ?_))))
 refine S.p hf hs (.slice bA b.length bC) rfl rfl fun a hf => ?_
 refine S.p hf hs (.slice lA l.length lC) rfl rfl fun a hf => ?_
 refine S.call hf rfl rfl rfl (call_fn (vs := [.slice bA b.length bC, .slice lA l.length lC]) rfl rfl rfl Tryd.call35) (R_mount_CheckPlaces b l _ bA bC ((Ag.args _ _ _).view hv_b hs) lA lC ((Ag.args _ _ _).view hv_l hs) _ h) (fun v a w' hf hr => ?_)
 obtain ⟨y1, rfl, h2, hs2⟩ := hr
 replace h := h2; replace hs := hs.call hs2; clear h2 hs2
 refine S.p hf hs (iv y1) rfl rfl fun a hf => ?_
 refine R.nil (X.then_ (wp_seq (R.list ?_)))
 refine S.p hf hs (iv y1) rfl rfl fun a hf => ?_
 refine S.p hf hs (.bool (y1 != 0)) rfl rfl fun a hf => ?_
 refine R.nil (X.then_ ?_)
 refine C.cond hf (b := y1 != 0) rfl (fun hc => ?_) (fun hc => ?_)
 ·replace h := h.1 hc
  refine wp_seq (R.list ?_)
  refine S.p hf hs (iv y1) rfl rfl fun a hf => ?_
  refine S.p hf hs (iv 0) rfl rfl fun a hf => ?_
  refine S.p hf hs (iv y1) rfl rfl fun a hf => ?_
  refine R.nil (X.then_ (wp_ret (X.then_ret ?_)))
  exact L.ret hf (run_results2 Tryd.results28 (ResIs.tmp hf rfl) (ResIs.tmp hf rfl)) ⟨0, y1, rfl, h, hs.nil⟩
 ·replace h := h.2 hc
  refine wp_skip (X.then_ (wp_seq (wp_seq ?_)))
  refine C.cut (J := fun a w => ∃ (c1 : Bool), M_mount_Nozzles_k1 b l rounds Q c1 ∧ FrOk 77 [(0, .slice bA b.length bC), (1, .slice lA l.length lC), (2, .slice roundsA rounds.length roundsC), (32, .bool c1)] a ∧ Sat w0 none_ [] w) ?_ ?_
  ·rintro a w ⟨c1, h, hf, hs⟩
   unfold M_mount_Nozzles_k1 at h
   refine C.cond hf (b := c1) rfl (fun hc => ?_) (fun hc => ?_)
   ·replace h := h.1 hc
    refine wp_seq (R.list ?_)
    refine S.p hf hs (iv 0) rfl rfl fun a hf => ?_
    refine S.p hf hs (iv 3) rfl rfl fun a hf => ?_
    refine R.nil (X.then_ (wp_ret (X.then_ret ?_)))
    exact L.ret hf (run_results2 Tryd.results28 (ResIs.tmp hf rfl) (ResIs.tmp hf rfl)) ⟨0, 3, rfl, h, hs.nil⟩
   ·replace h := h.2 hc
    refine wp_skip (X.then_ (wp_seq (R.list ?_)))
    refine S.alloc hf hs rfl rfl rfl [.string (ba []), .string (ba []), .string (ba []), .string (ba []), .string (ba []), .string (ba []), .string (ba []), .string (ba []), .string (ba []), .string (ba []), .string (ba []), .string (ba []), .string (ba []), .string (ba []), .string (ba []), .string (ba []), .string (ba []), .string (ba []), .string (ba []), .string (ba [])] rfl Tryd.zeroValue106 rfl (fun g1 a w hf hs => ?_)
    refine R.nil (X.then_ (wp_seq (R.list ?_)))
    refine S.p hf hs (iv 0) rfl rfl fun a hf => ?_
    refine R.nil (X.then_ (wp_seq (wp_seq (R.list ?_))))
    refine S.p hf hs (.slice roundsA rounds.length roundsC) rfl rfl fun a hf => ?_
    refine S.v hf hs (iv (rounds.length : Int)) rfl (V.len rfl rfl Tryd.runUnderlying61) fun a hf => ?_
    refine S.p hf hs (iv 0) rfl rfl fun a hf => ?_
    refine R.nil (X.then_ (wp_block ?_))
    have hlenk2 := hv_rounds.len64
    refine C.range (fun (ll : List (List Int)) a w => ∃ (k2 : Nat) (l2 : List Str) (hl_l2 : l2.length = 20) (n2 : Int), rounds.drop k2 = ll ∧ k2 + ll.length = rounds.length ∧ forIn' (fun k x (s : List Str × Int) next => M_mount_Nozzles_L1 b l k x s.1 s.2 (fun l2 n2 => next (l2, n2))) (fun (s : List Str × Int) => (fun (l2 : List Str) (n2 : Int) => Q n2 0) s.1 s.2) ll k2 (l2, n2) ∧ FrOk 77 [(35, iv (k2 : Int)), (0, .slice bA b.length bC), (1, .slice lA l.length lC), (9, (pn g1 0)), (10, iv n2), (33, .slice roundsA rounds.length roundsC), (34, iv (rounds.length : Int))] a ∧ Sat w0 none_ [hbox g1 106 (sval l2)] w) rounds ⟨0, ([[], [], [], [], [], [], [], [], [], [], [], [], [], [], [], [], [], [], [], []] : List Str), rfl, 0, rfl, Nat.zero_add _, h, (((((((hf.nil.cons (hf.get 34 _ rfl)).cons (hf.get 33 _ rfl)).cons (hf.get 10 _ rfl)).cons (hf.get 9 _ rfl)).cons (hf.get 1 _ rfl)).cons (hf.get 0 _ rfl)).cons (hf.get 35 _ rfl)), hs⟩ ?_
    clear h hf hs
    rintro llk2 a w ⟨k2, l2, hl_l2, n2, hlk2, hkk2, h, hf, hs⟩
    cases llk2 with
    | nil =>
     have hc := range_done hkk2
     replace h : (fun (l2 : List Str) (n2 : Int) => Q n2 0) l2 n2 := h
     refine wp_seq (R.list ?_)
     refine S.v hf hs (.bool false) rfl (V.cmp false rfl rfl rfl rfl hc) fun a hf => ?_
     refine R.nil (X.then_ (wp_seq ?_))
     refine C.no hf rfl ?_
     refine wp_exit (X.then_exit (X.then_exit (X.blk_exit (X.then_ (wp_seq (R.list ?_))))))
     refine S.p hf hs (iv n2) rfl rfl fun a hf => ?_
     refine S.p hf hs (iv n2) rfl rfl fun a hf => ?_
     refine S.p hf hs (iv 0) rfl rfl fun a hf => ?_
     refine R.nil (X.then_ (wp_ret ?_))
     exact L.ret hf (run_results2 Tryd.results28 (ResIs.tmp hf rfl) (ResIs.tmp hf rfl)) ⟨n2, 0, rfl, h, hs.nil⟩
    | cons xk2 llk2 =>
     have hltk2 := range_lt hkk2; have hc := range_go hkk2; have hxk2 := range_get hlk2
     obtain ⟨next1, hnext1⟩ : ∃ X : List Str → Int → Prop, X = (fun l2 n2 => forIn' (fun k x (s : List Str × Int) next => M_mount_Nozzles_L1 b l k x s.1 s.2 (fun l2 n2 => next (l2, n2))) (fun (s : List Str × Int) => (fun (l2 : List Str) (n2 : Int) => Q n2 0) s.1 s.2) llk2 (k2 + 1) (l2, n2)) := ⟨_, rfl⟩
     replace h : M_mount_Nozzles_L1 b l k2 xk2 l2 n2 next1 := by rw [hnext1]; exact h
     unfold M_mount_Nozzles_L1 at h
     refine wp_seq (R.list ?_)
     refine S.v hf hs (.bool true) rfl (V.cmp true rfl rfl rfl rfl hc) fun a hf => ?_
     refine R.nil (X.then_ (wp_seq ?_))
     refine C.yes hf rfl ?_
     refine wp_skip (X.then_ (wp_seq (wp_block (wp_seq (R.list ?_)))))
     obtain ⟨cs1, he1, hr1⟩ := hv_rounds.at_ _ _ hxk2
     obtain ⟨u1A, u1C, rfl, hvu1⟩ := hr1
     refine S.v hf hs (elemPtr roundsA (k2 * 1)) rfl (V.index rfl rfl rfl Tryd.runUnderlying61 Tryd.sizeOf48 (hv_rounds.some_ (lt_of_get hxk2)) (Int.natCast_nonneg _) (lt_of_get hxk2) rfl) fun a hf => ?_
     refine S.v hf hs (.slice u1A xk2.length u1C) rfl (V.loadEl (off := 0) (Ag.args _ _ _) he1 rfl rfl rfl Tryd.isAgg48 Tryd.sizeOf48 rfl rfl) fun a hf => ?_
     refine S.p hf hs (.slice u1A xk2.length u1C) rfl rfl fun a hf => ?_
     refine R.nil (X.then_ (wp_seq (R.list ?_)))
     refine S.p hf hs (.slice u1A xk2.length u1C) rfl rfl fun a hf => ?_
     refine S.v hf hs (iv (xk2.length : Int)) rfl (V.len rfl rfl Tryd.runUnderlying48) fun a hf => ?_
     refine S.p hf hs (iv 0) rfl rfl fun a hf => ?_
     refine R.nil (X.then_ (wp_block ?_))
     have hlenk3 := hvu1.len64
     refine C.range (fun (ll : List Int) a w => ∃ (k3 : Nat) (l4 : List Str) (hl_l4 : l4.length = 20) (n4 : Int), xk2.drop k3 = ll ∧ k3 + ll.length = xk2.length ∧ forIn' (fun k x (s : List Str × Int) next => M_mount_Nozzles_L2 b l k x s.1 s.2 (fun l4 n4 => next (l4, n4))) (fun (s : List Str × Int) => (fun (l4 : List Str) (n4 : Int) => next1 l4 n4) s.1 s.2) ll k3 (l4, n4) ∧ FrOk 77 [(41, iv (k3 : Int)), (0, .slice bA b.length bC), (1, .slice lA l.length lC), (9, (pn g1 0)), (10, iv n4), (33, .slice roundsA rounds.length roundsC), (34, iv (rounds.length : Int)), (35, iv (k2 : Int)), (39, .slice u1A xk2.length u1C), (40, iv (xk2.length : Int))] a ∧ Sat w0 none_ [hbox g1 106 (sval l4)] w) xk2 ⟨0, l2, hl_l2, n2, rfl, Nat.zero_add _, h, ((((((((((hf.nil.cons (hf.get 40 _ rfl)).cons (hf.get 39 _ rfl)).cons (hf.get 35 _ rfl)).cons (hf.get 34 _ rfl)).cons (hf.get 33 _ rfl)).cons (hf.get 10 _ rfl)).cons (hf.get 9 _ rfl)).cons (hf.get 1 _ rfl)).cons (hf.get 0 _ rfl)).cons (hf.get 41 _ rfl)), hs⟩ ?_
     clear h hf hs
     rintro llk3 a w ⟨k3, l4, hl_l4, n4, hlk3, hkk3, h, hf, hs⟩
     cases llk3 with
     | nil =>
      have hc := range_done hkk3
      replace h : (fun (l4 : List Str) (n4 : Int) => next1 l4 n4) l4 n4 := h
      refine wp_seq (R.list ?_)
      refine S.v hf hs (.bool false) rfl (V.cmp false rfl rfl rfl rfl hc) fun a hf => ?_
      refine R.nil (X.then_ (wp_seq ?_))
      refine C.no hf rfl ?_
      refine wp_exit (X.then_exit (X.then_exit (X.blk_exit (X.blk (X.then_ (R.list ?_))))))
      refine S.v hf hs (iv ((k2 + 1 : Nat) : Int)) rfl (V.incr rfl rfl rfl hltk2 hlenk2) fun a hf => ?_
      refine S.p hf hs (iv ((k2 + 1 : Nat) : Int)) rfl rfl fun a hf => ?_
      refine R.nil (X.then_ ?_)
      exact ⟨xk2, llk2, rfl, k2 + 1, l4, hl_l4, n4, range_drop hlk2, range_len hkk2, (by rw [hnext1] at h; exact h), (((((((hf.nil.cons (hf.get 34 _ rfl)).cons (hf.get 33 _ rfl)).cons (hf.get 10 _ rfl)).cons (hf.get 9 _ rfl)).cons (hf.get 1 _ rfl)).cons (hf.get 0 _ rfl)).cons (hf.get 35 _ rfl)), hs⟩
     | cons xk3 llk3 =>
      have hltk3 := range_lt hkk3; have hc := range_go hkk3; have hxk3 := range_get hlk3
      obtain ⟨next2, hnext2⟩ : ∃ X : List Str → Int → Prop, X = (fun l4 n4 => forIn' (fun k x (s : List Str × Int) next => M_mount_Nozzles_L2 b l k x s.1 s.2 (fun l4 n4 => next (l4, n4))) (fun (s : List Str × Int) => (fun (l4 : List Str) (n4 : Int) => next1 l4 n4) s.1 s.2) llk3 (k3 + 1) (l4, n4)) := ⟨_, rfl⟩
      replace h : M_mount_Nozzles_L2 b l k3 xk3 l4 n4 next2 := by rw [hnext2]; exact h
      unfold M_mount_Nozzles_L2 at h
      refine wp_seq (R.list ?_)
      refine S.v hf hs (.bool true) rfl (V.cmp true rfl rfl rfl rfl hc) fun a hf => ?_
      refine R.nil (X.then_ (wp_seq ?_))
      refine C.yes hf rfl ?_
      refine wp_skip (X.then_ (wp_seq (wp_block (wp_seq (R.list ?_)))))
      refine S.p hf hs (iv (k3 : Int)) rfl rfl fun a hf => ?_
      refine S.v hf hs (elemPtr u1A (k3 * 1)) rfl (V.index rfl rfl rfl Tryd.runUnderlying48 Tryd.sizeOf3 (hvu1.some_ (lt_of_get hxk3)) (Int.natCast_nonneg _) (lt_of_get hxk3) rfl) fun a hf => ?_
      refine S.v hf hs (iv xk3) rfl (V.loadEl (off := 0) (Ag.args _ _ _) (hvu1.flat hxk3) rfl rfl rfl Tryd.isAgg3 Tryd.sizeOf3 rfl rfl) fun a hf => ?_
      refine S.p hf hs (iv (k3 : Int)) rfl rfl fun a hf => ?_
      refine S.p hf hs (iv xk3) rfl rfl fun a hf => ?_
      refine R.nil (X.then_ (wp_seq (R.list ?_)))
      refine S.p hf hs (.slice bA b.length bC) rfl rfl fun a hf => ?_
      refine S.p hf hs (.slice lA l.length lC) rfl rfl fun a hf => ?_
      refine S.p hf hs (iv xk3) rfl rfl fun a hf => ?_
      obtain ⟨h0x1, x1, hx1, h⟩ := h
      refine S.v hf hs (elemPtr lA (xk3.toNat * 6)) rfl (V.index rfl rfl rfl Tryd.runUnderlying23 Tryd.sizeOf28 (hv_l.some_ (lt_of_get hx1)) h0x1 (lt_of_get hx1) rfl) fun a hf => ?_
      refine S.v hf hs (elemPtr lA (xk3.toNat * 6 + 1)) rfl (V.fieldEl rfl rfl (hv_l.some_ (lt_of_get hx1)) Tryd.runUnderlying28 rfl Tryd.sizeOf9 rfl rfl) fun a hf => ?_
      refine S.v hf hs (.string (ba x1.Typ)) rfl (V.loadEl (off := 1) (Ag.args _ _ _) (hv_l.flat hx1) rfl rfl rfl Tryd.isAgg9 Tryd.sizeOf9 rfl rfl) fun a hf => ?_
      refine S.call hf rfl rfl rfl (call_fn (vs := [.slice bA b.length bC, .string (ba x1.Typ)]) rfl rfl rfl Tryd.call61) (R_mount_bodyOf b x1.Typ _ bA bC ((Ag.args _ _ _).view hv_b hs) _ h) (fun v a w' hf hr => ?_)
      obtain ⟨y2, y3, rfl, h2, hs2⟩ := hr
      replace h := h2; replace hs := hs.call hs2; clear h2 hs2
      refine S.p hf hs (.tuple #[.agg #[.string (ba y2.Typ), iv y2.W, iv y2.H, iv y2.Tall, .string (ba y2.Nozzle)], .bool y3]) rfl rfl fun a hf => ?_
      refine S.p hf hs (.agg #[.string (ba y2.Typ), iv y2.W, iv y2.H, iv y2.Tall, .string (ba y2.Nozzle)]) rfl rfl fun a hf => ?_
      refine S.p hf hs (.bool y3) rfl rfl fun a hf => ?_
      refine S.alloc hf hs rfl rfl rfl [.string (ba []), iv 0, iv 0, iv 0, .string (ba [])] rfl Tryd.zeroValue95 rfl (fun g2 a w hf hs => ?_)
      refine S.storeBox 0 hf hs rfl rfl [.string (ba y2.Typ), iv y2.W, iv y2.H, iv y2.Tall, .string (ba y2.Nozzle)] [.string (ba y2.Typ), iv y2.W, iv y2.H, iv y2.Tall, .string (ba y2.Nozzle)] rfl rfl rfl rfl rfl Tryd.sizeOf95 rfl rfl rfl rfl (fun a w hf hs => ?_)
      refine S.p hf hs (.bool y3) rfl rfl fun a hf => ?_
      refine R.nil (X.then_ (wp_seq ?_))
      refine C.cut (J := fun a w => ∃ (n5 : Int), M_mount_Nozzles_k4 k3 l4 next2 y2 n5 ∧ FrOk 77 [(0, .slice bA b.length bC), (1, .slice lA l.length lC), (9, (pn g1 0)), (10, iv n5), (13, iv (k3 : Int)), (15, (pn g2 0)), (33, .slice roundsA rounds.length roundsC), (34, iv (rounds.length : Int)), (35, iv (k2 : Int)), (39, .slice u1A xk2.length u1C), (40, iv (xk2.length : Int)), (41, iv (k3 : Int))] a ∧ Sat w0 none_ [hbox g2 95 [.string (ba y2.Typ), iv y2.W, iv y2.H, iv y2.Tall, .string (ba y2.Nozzle)], hbox g1 106 (sval l4)] w) ?_ ?_
      ·rintro a w ⟨n5, h, hf, hs⟩
       unfold M_mount_Nozzles_k4 at h
       refine R.list ?_
       refine S.p hf hs (iv (k3 : Int)) rfl rfl fun a hf => ?_
       refine S.v hf hs ((pn g2 4)) rfl (V.fieldBox rfl rfl Tryd.runUnderlying95 rfl Tryd.sizeOf9 rfl rfl) fun a hf => ?_
       refine S.v hf hs (.string (ba y2.Nozzle)) rfl (V.loadBox 0 rfl rfl rfl Tryd.isAgg9 Tryd.sizeOf9 rfl rfl) fun a hf => ?_
       obtain ⟨h0x2, x2, hx2, h⟩ := h
       refine S.v hf hs (.pointer (some ⟨g1, ((k3 : Int) : Int).toNat, none⟩)) rfl (V.indexArr rfl rfl rfl Tryd.runUnderlying106 Tryd.sizeOf9 h0x2 (Nat.lt_of_lt_of_eq (lt_of_get hx2) hl_l4)) fun a hf => ?_
       refine S.storeArr (xs := l4) 1 hf hs rfl rfl y2.Nozzle rfl hx2 rfl rfl rfl Tryd.sizeOf9 (fun a w hf hs => ?_)
       refine R.nil (X.blk (X.then_ (R.list ?_)))
       refine S.v hf hs (iv ((k3 + 1 : Nat) : Int)) rfl (V.incr rfl rfl rfl hltk3 hlenk3) fun a hf => ?_
       refine S.p hf hs (iv ((k3 + 1 : Nat) : Int)) rfl rfl fun a hf => ?_
       refine R.nil (X.then_ ?_)
       exact ⟨xk3, llk3, rfl, k3 + 1, (l4.set (k3 : Int).toNat y2.Nozzle), (List.length_set.trans hl_l4), n5, range_drop hlk3, range_len hkk3, (by rw [hnext2] at h; exact h), ((((((((((hf.nil.cons (hf.get 40 _ rfl)).cons (hf.get 39 _ rfl)).cons (hf.get 35 _ rfl)).cons (hf.get 34 _ rfl)).cons (hf.get 33 _ rfl)).cons (hf.get 10 _ rfl)).cons (hf.get 9 _ rfl)).cons (hf.get 1 _ rfl)).cons (hf.get 0 _ rfl)).cons (hf.get 41 _ rfl)), hs.drop⟩
      ·skip
       refine wp_seq ?_
       refine C.cut (J := fun a w => ∃ (c2 : Bool), M_mount_Nozzles_k5 k3 l4 n4 next2 y2 c2 ∧ FrOk 77 [(0, .slice bA b.length bC), (1, .slice lA l.length lC), (9, (pn g1 0)), (10, iv n4), (13, iv (k3 : Int)), (15, (pn g2 0)), (33, .slice roundsA rounds.length roundsC), (34, iv (rounds.length : Int)), (35, iv (k2 : Int)), (39, .slice u1A xk2.length u1C), (40, iv (xk2.length : Int)), (41, iv (k3 : Int)), (67, .bool c2)] a ∧ Sat w0 none_ [hbox g2 95 [.string (ba y2.Typ), iv y2.W, iv y2.H, iv y2.Tall, .string (ba y2.Nozzle)], hbox g1 106 (sval l4)] w) ?_ ?_
       ·rintro a w ⟨c2, h, hf, hs⟩
        unfold M_mount_Nozzles_k5 at h
        refine C.cond hf (b := c2) rfl (fun hc => ?_) (fun hc => ?_)
        ·replace h := h.1 hc
         refine R.list ?_
         refine S.p hf hs (iv n4) rfl rfl fun a hf => ?_
         refine S.p hf hs (iv (w64 (n4 + 1))) rfl rfl fun a hf => ?_
         refine S.p hf hs (iv (w64 (n4 + 1))) rfl rfl fun a hf => ?_
         refine R.nil (X.then_ ?_)
         exact ⟨(w64 (n4 + 1)), h, ((((((((((((hf.nil.cons (hf.get 41 _ rfl)).cons (hf.get 40 _ rfl)).cons (hf.get 39 _ rfl)).cons (hf.get 35 _ rfl)).cons (hf.get 34 _ rfl)).cons (hf.get 33 _ rfl)).cons (hf.get 15 _ rfl)).cons (hf.get 13 _ rfl)).cons (hf.get 10 _ rfl)).cons (hf.get 9 _ rfl)).cons (hf.get 1 _ rfl)).cons (hf.get 0 _ rfl)), hs⟩
        ·replace h := h.2 hc
         refine wp_skip (X.then_ ?_)
         exact ⟨n4, h, ((((((((((((hf.nil.cons (hf.get 41 _ rfl)).cons (hf.get 40 _ rfl)).cons (hf.get 39 _ rfl)).cons (hf.get 35 _ rfl)).cons (hf.get 34 _ rfl)).cons (hf.get 33 _ rfl)).cons (hf.get 15 _ rfl)).cons (hf.get 13 _ rfl)).cons (hf.get 10 _ rfl)).cons (hf.get 9 _ rfl)).cons (hf.get 1 _ rfl)).cons (hf.get 0 _ rfl)), hs⟩
       ·skip
        refine R.draw mo (by kernel_rfl) hs ?_
        refine D.p hf (iv (k3 : Int)) rfl rfl fun a hf => ?_
        obtain ⟨h0x3, x3, hx3, h⟩ := h
        refine D.v hf (.pointer (some ⟨g1, ((k3 : Int) : Int).toNat, none⟩)) rfl (V.indexArr rfl rfl rfl Tryd.runUnderlying106 Tryd.sizeOf9 h0x3 (Nat.lt_of_lt_of_eq (lt_of_get hx3) hl_l4)) fun a hf => ?_
        refine D.v hf (.string (ba x3)) rfl (V.loadArr 1 (xs := l4) rfl rfl hx3 rfl rfl Tryd.isAgg9 Tryd.sizeOf9) fun a hf => ?_
        refine D.v hf (.bool (!(x3 == []))) rfl (V.strCmp (!(x3 == [])) rfl rfl rfl rfl) fun a hf => ?_
        refine D.split hf (b := !(x3 == [])) rfl rfl rfl (V.pure rfl) (fun hc a hf => ?_) (fun hc a hf => ?_)
        ·replace h := h.1 hc
         refine D.p hf (iv (k3 : Int)) rfl rfl fun a hf => ?_
         obtain ⟨h0x4, x4, hx4, h⟩ := h
         refine D.v hf (.pointer (some ⟨g1, ((k3 : Int) : Int).toNat, none⟩)) rfl (V.indexArr rfl rfl rfl Tryd.runUnderlying106 Tryd.sizeOf9 h0x4 (Nat.lt_of_lt_of_eq (lt_of_get hx4) hl_l4)) fun a hf => ?_
         refine D.v hf (.string (ba x4)) rfl (V.loadArr 1 (xs := l4) rfl rfl hx4 rfl rfl Tryd.isAgg9 Tryd.sizeOf9) fun a hf => ?_
         refine D.v hf ((pn g2 4)) rfl (V.fieldBox rfl rfl Tryd.runUnderlying95 rfl Tryd.sizeOf9 rfl rfl) fun a hf => ?_
         refine D.v hf (.string (ba y2.Nozzle)) rfl (V.loadBox 0 rfl rfl rfl Tryd.isAgg9 Tryd.sizeOf9 rfl rfl) fun a hf => ?_
         refine D.v hf (.bool (!(x4 == y2.Nozzle))) rfl (V.strCmp (!(x4 == y2.Nozzle)) rfl rfl rfl rfl) fun a hf => ?_
         refine D.p hf (.bool (!(x4 == y2.Nozzle))) rfl rfl fun a hf => ?_
         refine D.done (fun w hs => ?_)
         refine X.then_ ?_
         exact ⟨(!(x4 == y2.Nozzle)), h, (((((((((((((hf.nil.cons (hf.get 67 _ rfl)).cons (hf.get 41 _ rfl)).cons (hf.get 40 _ rfl)).cons (hf.get 39 _ rfl)).cons (hf.get 35 _ rfl)).cons (hf.get 34 _ rfl)).cons (hf.get 33 _ rfl)).cons (hf.get 15 _ rfl)).cons (hf.get 13 _ rfl)).cons (hf.get 10 _ rfl)).cons (hf.get 9 _ rfl)).cons (hf.get 1 _ rfl)).cons (hf.get 0 _ rfl)), hs⟩
        ·replace h := h.2 hc
         refine D.k hf rfl fun a hf => ?_
         refine D.k hf rfl fun a hf => ?_
         refine D.k hf rfl fun a hf => ?_
         refine D.k hf rfl fun a hf => ?_
         refine D.k hf rfl fun a hf => ?_
         refine D.k hf rfl fun a hf => ?_
         refine D.p hf (.bool false) rfl rfl fun a hf => ?_
         refine D.done (fun w hs => ?_)
         refine X.then_ ?_
         exact ⟨false, h, (((((((((((((hf.nil.cons (hf.get 67 _ rfl)).cons (hf.get 41 _ rfl)).cons (hf.get 40 _ rfl)).cons (hf.get 39 _ rfl)).cons (hf.get 35 _ rfl)).cons (hf.get 34 _ rfl)).cons (hf.get 33 _ rfl)).cons (hf.get 15 _ rfl)).cons (hf.get 13 _ rfl)).cons (hf.get 10 _ rfl)).cons (hf.get 9 _ rfl)).cons (hf.get 1 _ rfl)).cons (hf.get 0 _ rfl)), hs⟩
  ·skip
   refine R.list ?_
   refine S.p hf hs (.slice roundsA rounds.length roundsC) rfl rfl fun a hf => ?_
   refine S.call hf rfl rfl rfl (call_fn (vs := [.slice roundsA rounds.length roundsC]) rfl rfl rfl Tryd.call30) (R_concat_int rounds _ roundsA roundsC ((Ag.args _ _ _).view hv_rounds hs) _ h) (fun v a w' hf hr => ?_)
   obtain ⟨y4, y4A, y4C, rfl, h2, hs2⟩ := hr
   replace h := h2; replace hs := hs.call hs2; clear h2 hs2
   refine S.p hf hs (.slice lA l.length lC) rfl rfl fun a hf => ?_
   refine S.v hf hs (iv (l.length : Int)) rfl (V.len rfl rfl Tryd.runUnderlying23) fun a hf => ?_
   refine S.call hf rfl rfl rfl (call_fn (vs := [.slice y4A y4.length y4C, iv (l.length : Int)]) rfl rfl rfl Tryd.call67) (R_mount_isOrder y4 (l.length : Int) _ y4A y4C (hs.ownView 0 rfl) _ h) (fun v a w' hf hr => ?_)
   obtain ⟨y5, rfl, h2, hs2⟩ := hr
   replace h := h2; replace hs := hs.call hs2; clear h2 hs2
   refine S.p hf hs (.bool (!y5)) rfl rfl fun a hf => ?_
   refine S.split hf hs (b := !y5) rfl rfl rfl (V.pure rfl) (fun hc a hf => ?_) (fun hc a hf => ?_)
   ·replace h := h.1 hc
    refine S.k hf rfl fun a hf => ?_
    refine S.k hf rfl fun a hf => ?_
    refine S.p hf hs (.bool true) rfl rfl fun a hf => ?_
    refine R.nil (X.then_ ?_)
    exact ⟨true, h, ((((hf.nil.cons (hf.get 32 _ rfl)).cons (hf.get 2 _ rfl)).cons (hf.get 1 _ rfl)).cons (hf.get 0 _ rfl)), hs.drop⟩
   ·replace h := h.2 hc
    refine S.p hf hs (.slice roundsA rounds.length roundsC) rfl rfl fun a hf => ?_
    refine S.call hf rfl rfl rfl (call_fn (vs := [.slice roundsA rounds.length roundsC, .func (.func 69) #[] #[]]) rfl rfl rfl Tryd.call68) (R_containsfunc_row rounds _ roundsA roundsC ((Ag.args _ _ _).view hv_rounds hs) _ h) (fun v a w' hf hr => ?_)
    obtain ⟨y6, rfl, h2, hs2⟩ := hr
    replace h := h2; replace hs := hs.call hs2; clear h2 hs2
    refine S.p hf hs (.bool y6) rfl rfl fun a hf => ?_
    refine R.nil (X.then_ ?_)
    exact ⟨y6, h, ((((hf.nil.cons (hf.get 32 _ rfl)).cons (hf.get 2 _ rfl)).cons (hf.get 1 _ rfl)).cons (hf.get 0 _ rfl)), hs.drop⟩
set_option linter.unusedVariables false
def M_ref10_IsOrder_k2 (Q : Bool → Prop) (xk1 : Int) (l2 : List Bool) (next1 : List Bool → Prop) (c1 : Bool) : Prop :=
  cnd c1 (Q false) (idx l2 xk1 fun x1 => next1 (l2.set xk1.toNat true))
def M_ref10_IsOrder_L1 (n : Int) (Q : Bool → Prop) (k1 : Nat) (xk1 : Int) (l2 : List Bool) (next1 : List Bool → Prop) : Prop :=
  cnd (!(within xk1 0 (w64 (n - 1)))) (M_ref10_IsOrder_k2 Q xk1 l2 next1 true) (idx l2 xk1 fun x2 => M_ref10_IsOrder_k2 Q xk1 l2 next1 x2)
def M_ref10_IsOrder (order : (List Int)) (n : Int) (Q : Bool → Prop) : Prop :=
  must (0 ≤ n ∧ n * 1 ≤ 281474976710656) (forIn' (fun k x (s : List Bool) next => M_ref10_IsOrder_L1 n Q k x s (fun l2 => next l2)) (fun (s : List Bool) => (fun (l2 : List Bool) => Q ((order.length : Int) == n)) s) order 0 (List.replicate n.toNat false))
set_option maxHeartbeats 1000000 in
theorem R_ref10_IsOrder (order : (List Int)) (n : Int) (w0 : World) (orderA : Option Addr) (orderC : Nat) (hv_order : View w0 (old w0 none_) orderA orderC order) (Q : Bool → Prop) (h : M_ref10_IsOrder order n Q) :
  Ret Tryd.prog 25 #[.slice orderA order.length orderC, iv n] w0 fun v w' => ∃ (r0 : Bool), v = .bool r0 ∧ Q r0 ∧ Sat w0 none_ [] w' := by
 refine fn_enter Tryd.func25 rfl Tryd.ntmps25 rfl (fs := [(0, .slice orderA order.length orderC), (1, iv n)]) rfl (fun a hf => ?_)
 have hs := Sat.start w0 none_
 unfold M_ref10_IsOrder at h
 refine wp_seq (R.list ?_)
 refine S.p hf hs (.bool false) rfl rfl fun a hf => ?_
 refine R.nil (X.then_ (wp_seq (R.list ?_)))
 refine S.p hf hs (iv n) rfl rfl fun a hf => ?_
 obtain ⟨hmk, h⟩ := h
 refine S.make hf hs rfl rfl rfl (α := Bool) false (z := n) (N := n.toNat) rfl rfl rfl Tryd.underlying102 info4 hmk rfl (by have := hmk.2; omega) (fun A1 a w hf hs => ?_)
 refine S.p hf hs (.slice A1 (List.replicate n.toNat false).length n.toNat) rfl rfl fun a hf => ?_
 refine R.nil (X.then_ (wp_seq (wp_seq (R.list ?_))))
 refine S.p hf hs (.slice orderA order.length orderC) rfl rfl fun a hf => ?_
 refine S.v hf hs (iv (order.length : Int)) rfl (V.len rfl rfl Tryd.runUnderlying48) fun a hf => ?_
 refine S.p hf hs (iv 0) rfl rfl fun a hf => ?_
 refine R.nil (X.then_ (wp_block ?_))
 have hlenk1 := hv_order.len64
 refine C.range (fun (ll : List Int) a w => ∃ (k1 : Nat) (l2 : List Bool) (l2A : Option Addr) (l2C : Nat), order.drop k1 = ll ∧ k1 + ll.length = order.length ∧ forIn' (fun k x (s : List Bool) next => M_ref10_IsOrder_L1 n Q k x s (fun l2 => next l2)) (fun (s : List Bool) => (fun (l2 : List Bool) => Q ((order.length : Int) == n)) s) ll k1 l2 ∧ FrOk 35 [(12, iv (k1 : Int)), (0, .slice orderA order.length orderC), (1, iv n), (5, .slice l2A l2.length l2C), (10, .slice orderA order.length orderC), (11, iv (order.length : Int))] a ∧ Sat w0 none_ [hown 4 l2A l2C l2] w) order ⟨0, (List.replicate n.toNat false), A1, n.toNat, rfl, Nat.zero_add _, h, ((((((hf.nil.cons (hf.get 11 _ rfl)).cons (hf.get 10 _ rfl)).cons (hf.get 5 _ rfl)).cons (hf.get 1 _ rfl)).cons (hf.get 0 _ rfl)).cons (hf.get 12 _ rfl)), hs⟩ ?_
 clear h hf hs
 rintro llk1 a w ⟨k1, l2, l2A, l2C, hlk1, hkk1, h, hf, hs⟩
 cases llk1 with
 | nil =>
  have hc := range_done hkk1
  replace h : (fun (l2 : List Bool) => Q ((order.length : Int) == n)) l2 := h
  refine wp_seq (R.list ?_)
  refine S.v hf hs (.bool false) rfl (V.cmp false rfl rfl rfl rfl hc) fun a hf => ?_
  refine R.nil (X.then_ (wp_seq ?_))
  refine C.no hf rfl ?_
  refine wp_exit (X.then_exit (X.then_exit (X.blk_exit (X.then_ (wp_seq (R.list ?_))))))
  refine S.p hf hs (.slice orderA order.length orderC) rfl rfl fun a hf => ?_
  refine S.v hf hs (iv (order.length : Int)) rfl (V.len rfl rfl Tryd.runUnderlying48) fun a hf => ?_
  refine S.p hf hs (iv n) rfl rfl fun a hf => ?_
  refine S.p hf hs (.bool ((order.length : Int) == n)) rfl rfl fun a hf => ?_
  refine S.p hf hs (.bool ((order.length : Int) == n)) rfl rfl fun a hf => ?_
  refine R.nil (X.then_ (wp_ret ?_))
  exact L.ret hf (run_results1 Tryd.results25 (ResIs.tmp hf rfl)) ⟨((order.length : Int) == n), rfl, h, hs.nil⟩
 | cons xk1 llk1 =>
  have hltk1 := range_lt hkk1; have hc := range_go hkk1; have hxk1 := range_get hlk1
  obtain ⟨next1, hnext1⟩ : ∃ X : List Bool → Prop, X = (fun l2 => forIn' (fun k x (s : List Bool) next => M_ref10_IsOrder_L1 n Q k x s (fun l2 => next l2)) (fun (s : List Bool) => (fun (l2 : List Bool) => Q ((order.length : Int) == n)) s) llk1 (k1 + 1) l2) := ⟨_, rfl⟩
  replace h : M_ref10_IsOrder_L1 n Q k1 xk1 l2 next1 := by rw [hnext1]; exact h
  unfold M_ref10_IsOrder_L1 at h
  refine wp_seq (R.list ?_)
  refine S.v hf hs (.bool true) rfl (V.cmp true rfl rfl rfl rfl hc) fun a hf => ?_
  refine R.nil (X.then_ (wp_seq ?_))
  refine C.yes hf rfl ?_
  refine wp_skip (X.then_ (wp_seq (wp_block (wp_seq (R.list ?_)))))
  refine S.v hf hs (elemPtr orderA (k1 * 1)) rfl (V.index rfl rfl rfl Tryd.runUnderlying48 Tryd.sizeOf3 (hv_order.some_ (lt_of_get hxk1)) (Int.natCast_nonneg _) (lt_of_get hxk1) rfl) fun a hf => ?_
  refine S.v hf hs (iv xk1) rfl (V.loadEl (off := 0) (Ag.args _ _ _) (hv_order.flat hxk1) rfl rfl rfl Tryd.isAgg3 Tryd.sizeOf3 rfl rfl) fun a hf => ?_
  refine S.p hf hs (iv xk1) rfl rfl fun a hf => ?_
  refine R.nil (X.then_ (wp_seq (wp_seq ?_)))
  refine C.cut (J := fun a w => ∃ (c1 : Bool), M_ref10_IsOrder_k2 Q xk1 l2 next1 c1 ∧ FrOk 35 [(0, .slice orderA order.length orderC), (1, iv n), (5, .slice l2A l2.length l2C), (7, iv xk1), (10, .slice orderA order.length orderC), (11, iv (order.length : Int)), (12, iv (k1 : Int)), (26, .bool c1)] a ∧ Sat w0 none_ [hown 4 l2A l2C l2] w) ?_ ?_
  ·rintro a w ⟨c1, h, hf, hs⟩
   unfold M_ref10_IsOrder_k2 at h
   refine C.cond hf (b := c1) rfl (fun hc => ?_) (fun hc => ?_)
   ·replace h := h.1 hc
    refine wp_seq (R.list ?_)
    refine S.p hf hs (.bool false) rfl rfl fun a hf => ?_
    refine R.nil (X.then_ (wp_ret (X.then_ret (X.blk_ret (X.then_ret (X.then_ret (X.blk_ret (X.then_ret ?_))))))))
    exact L.ret hf (run_results1 Tryd.results25 (ResIs.tmp hf rfl)) ⟨false, rfl, h, hs.nil⟩
   ·replace h := h.2 hc
    refine wp_skip (X.then_ (R.list ?_))
    refine S.p hf hs (.slice l2A l2.length l2C) rfl rfl fun a hf => ?_
    refine S.p hf hs (iv xk1) rfl rfl fun a hf => ?_
    obtain ⟨h0x1, x1, hx1, h⟩ := h
    refine S.v hf hs (elemPtr l2A (xk1.toNat * 1)) rfl (V.index rfl rfl rfl Tryd.runUnderlying102 Tryd.sizeOf4 (hs.ownSome 0 rfl (lt_of_get hx1)) h0x1 (lt_of_get hx1) rfl) fun a hf => ?_
    refine S.storeOwn (off := 0) 0 hf hs rfl rfl true [.bool true] rfl hx1 rfl rfl rfl rfl rfl Tryd.sizeOf4 rfl (by decide) rfl rfl (fun a w hf hs => ?_)
    replace hf := hf.tell 5 (v := .slice l2A (l2.set xk1.toNat true).length l2C) ((hf.get 5 (.slice l2A l2.length l2C) rfl).trans (congrArg (fun n => Value.slice l2A n l2C) List.length_set.symm))
    replace hf := hf.tell 27 (v := .slice l2A (l2.set xk1.toNat true).length l2C) ((hf.get 27 (.slice l2A l2.length l2C) rfl).trans (congrArg (fun n => Value.slice l2A n l2C) List.length_set.symm))
    refine R.nil (X.blk (X.then_ (R.list ?_)))
    refine S.v hf hs (iv ((k1 + 1 : Nat) : Int)) rfl (V.incr rfl rfl rfl hltk1 hlenk1) fun a hf => ?_
    refine S.p hf hs (iv ((k1 + 1 : Nat) : Int)) rfl rfl fun a hf => ?_
    refine R.nil (X.then_ ?_)
    exact ⟨xk1, llk1, rfl, k1 + 1, (l2.set xk1.toNat true), l2A, l2C, range_drop hlk1, range_len hkk1, (by rw [hnext1] at h; exact h), ((((((hf.nil.cons (hf.get 11 _ rfl)).cons (hf.get 10 _ rfl)).cons (hf.get 5 _ rfl)).cons (hf.get 1 _ rfl)).cons (hf.get 0 _ rfl)).cons (hf.get 12 _ rfl)), hs⟩
  ·skip
   refine R.list ?_
   refine S.p hf hs (iv xk1) rfl rfl fun a hf => ?_
   refine S.p hf hs (iv n) rfl rfl fun a hf => ?_
   refine S.p hf hs (iv (w64 (n - 1))) rfl rfl fun a hf => ?_
   refine S.callv hf rfl rfl rfl (call_fn (vs := [iv xk1, iv 0, iv (w64 (n - 1))]) rfl rfl rfl Tryd.call51) (C_ref10_within xk1 0 (w64 (n - 1)) _ ) (fun a w hf hs' => ?_)
   replace hs := hs.call hs'; clear hs'
   refine S.p hf hs (.bool (!(within xk1 0 (w64 (n - 1))))) rfl rfl fun a hf => ?_
   refine S.split hf hs (b := !(within xk1 0 (w64 (n - 1)))) rfl rfl rfl (V.pure rfl) (fun hc a hf => ?_) (fun hc a hf => ?_)
   ·replace h := h.1 hc
    refine S.k hf rfl fun a hf => ?_
    refine S.k hf rfl fun a hf => ?_
    refine S.k hf rfl fun a hf => ?_
    refine S.k hf rfl fun a hf => ?_
    refine S.p hf hs (.bool true) rfl rfl fun a hf => ?_
    refine R.nil (X.then_ ?_)
    exact ⟨true, h, ((((((((hf.nil.cons (hf.get 26 _ rfl)).cons (hf.get 12 _ rfl)).cons (hf.get 11 _ rfl)).cons (hf.get 10 _ rfl)).cons (hf.get 7 _ rfl)).cons (hf.get 5 _ rfl)).cons (hf.get 1 _ rfl)).cons (hf.get 0 _ rfl)), hs⟩
   ·replace h := h.2 hc
    refine S.p hf hs (.slice l2A l2.length l2C) rfl rfl fun a hf => ?_
    refine S.p hf hs (iv xk1) rfl rfl fun a hf => ?_
    obtain ⟨h0x2, x2, hx2, h⟩ := h
    refine S.v hf hs (elemPtr l2A (xk1.toNat * 1)) rfl (V.index rfl rfl rfl Tryd.runUnderlying102 Tryd.sizeOf4 (hs.ownSome 0 rfl (lt_of_get hx2)) h0x2 (lt_of_get hx2) rfl) fun a hf => ?_
    refine S.v hf hs (.bool x2) rfl (V.loadOwn (off := 0) 0 rfl hx2 rfl rfl rfl Tryd.isAgg4 Tryd.sizeOf4 rfl rfl) fun a hf => ?_
    refine S.p hf hs (.bool x2) rfl rfl fun a hf => ?_
    refine R.nil (X.then_ ?_)
    exact ⟨x2, h, ((((((((hf.nil.cons (hf.get 26 _ rfl)).cons (hf.get 12 _ rfl)).cons (hf.get 11 _ rfl)).cons (hf.get 10 _ rfl)).cons (hf.get 7 _ rfl)).cons (hf.get 5 _ rfl)).cons (hf.get 1 _ rfl)).cons (hf.get 0 _ rfl)), hs⟩
set_option linter.unusedVariables false
def M_ref10_TallOf (b : (List Body)) (p : Place) (Q : Int → Prop) : Prop :=
  M_ref10_bodyOf b p.Typ fun y1 => cnd (decide (y1 ≥ 0)) (idx b y1 fun x1 => Q x1.Tall) (Q 0)
set_option maxHeartbeats 1000000 in
theorem R_ref10_TallOf (b : (List Body)) (p : Place) (w0 : World) (bA : Option Addr) (bC : Nat) (hv_b : View w0 (old w0 none_) bA bC b) (Q : Int → Prop) (h : M_ref10_TallOf b p Q) :
  Ret Tryd.prog 26 #[.slice bA b.length bC, .agg #[.string (ba p.Part), .string (ba p.Typ), iv p.At.X, iv p.At.Y, iv p.Quarters, .bool p.Below]] w0 fun v w' => ∃ (r0 : Int), v = iv r0 ∧ Q r0 ∧ Sat w0 none_ [] w' := by
 refine fn_enter Tryd.func26 rfl Tryd.ntmps26 rfl (fs := [(0, .slice bA b.length bC), (1, .agg #[.string (ba p.Part), .string (ba p.Typ), iv p.At.X, iv p.At.Y, iv p.Quarters, .bool p.Below])]) rfl (fun a hf => ?_)
 have hs := Sat.start w0 none_
 unfold M_ref10_TallOf at h
 refine wp_seq (R.list ?_)
 refine S.box hf hs rfl rfl rfl [.string (ba p.Part), .string (ba p.Typ), iv p.At.X, iv p.At.Y, iv p.Quarters, .bool p.Below] rfl rfl rfl (fun g1 a w hf hs => ?_)
 refine S.p hf hs (iv 0) rfl rfl fun a hf => ?_
 refine R.nil (X.then_ (wp_seq (wp_seq (R.list ?_))))
 refine S.p hf hs (.slice bA b.length bC) rfl rfl fun a hf => ?_
 refine S.v hf hs ((pn g1 1)) rfl (V.fieldBox rfl rfl Tryd.runUnderlying28 rfl Tryd.sizeOf9 rfl rfl) fun a hf => ?_
 refine S.v hf hs (.string (ba p.Typ)) rfl (V.loadBox 0 rfl rfl rfl Tryd.isAgg9 Tryd.sizeOf9 rfl rfl) fun a hf => ?_
 refine S.call hf rfl rfl rfl (call_fn (vs := [.slice bA b.length bC, .string (ba p.Typ)]) rfl rfl rfl Tryd.call66) (R_ref10_bodyOf b p.Typ _ bA bC ((Ag.args _ _ _).view hv_b hs) _ h) (fun v a w' hf hr => ?_)
 obtain ⟨y1, rfl, h2, hs2⟩ := hr
 replace h := h2; replace hs := hs.call hs2; clear h2 hs2
 refine S.p hf hs (iv y1) rfl rfl fun a hf => ?_
 refine R.nil (X.then_ (wp_seq (R.list ?_)))
 refine S.p hf hs (iv y1) rfl rfl fun a hf => ?_
 refine S.p hf hs (.bool (decide (y1 ≥ 0))) rfl rfl fun a hf => ?_
 refine R.nil (X.then_ ?_)
 refine C.cond hf (b := decide (y1 ≥ 0)) rfl (fun hc => ?_) (fun hc => ?_)
 ·replace h := h.1 hc
  refine wp_seq (R.list ?_)
  refine S.p hf hs (.slice bA b.length bC) rfl rfl fun a hf => ?_
  refine S.p hf hs (iv y1) rfl rfl fun a hf => ?_
  obtain ⟨h0x1, x1, hx1, h⟩ := h
  refine S.v hf hs (elemPtr bA (y1.toNat * 5)) rfl (V.index rfl rfl rfl Tryd.runUnderlying22 Tryd.sizeOf95 (hv_b.some_ (lt_of_get hx1)) h0x1 (lt_of_get hx1) rfl) fun a hf => ?_
  refine S.v hf hs (elemPtr bA (y1.toNat * 5 + 3)) rfl (V.fieldEl rfl rfl (hv_b.some_ (lt_of_get hx1)) Tryd.runUnderlying95 rfl Tryd.sizeOf3 rfl rfl) fun a hf => ?_
  refine S.v hf hs (iv x1.Tall) rfl (V.loadEl (off := 3) (Ag.args _ _ _) (hv_b.flat hx1) rfl rfl rfl Tryd.isAgg3 Tryd.sizeOf3 rfl rfl) fun a hf => ?_
  refine S.p hf hs (iv x1.Tall) rfl rfl fun a hf => ?_
  refine R.nil (X.then_ (wp_ret (X.then_ret ?_)))
  exact L.ret hf (run_results1 Tryd.results26 (ResIs.tmp hf rfl)) ⟨x1.Tall, rfl, h, hs.nil⟩
 ·replace h := h.2 hc
  refine wp_skip (X.then_ (wp_seq (R.list ?_)))
  refine S.p hf hs (iv 0) rfl rfl fun a hf => ?_
  refine R.nil (X.then_ (wp_ret ?_))
  exact L.ret hf (run_results1 Tryd.results26 (ResIs.tmp hf rfl)) ⟨0, rfl, h, hs.nil⟩
set_option linter.unusedVariables false
def M_equal_int_L1 (s2 : (List Int)) (Q : Bool → Prop) (k1 : Nat) (xk1 : Int)  (next1 : Prop) : Prop :=
  idx s2 (k1 : Int) fun x1 => cnd (xk1 != x1) (Q false) (next1)
def M_equal_int (s1 : (List Int)) (s2 : (List Int)) (Q : Bool → Prop) : Prop :=
  cnd ((s1.length : Int) != (s2.length : Int)) (Q false) (forIn' (fun k x (s : Unit) next => M_equal_int_L1 s2 Q k x (next ())) (fun (s : Unit) => Q true) s1 0 ())
set_option maxHeartbeats 1000000 in
theorem R_equal_int (s1 : (List Int)) (s2 : (List Int)) (w0 : World) (s1A : Option Addr) (s1C : Nat) (hv_s1 : View w0 (old w0 none_) s1A s1C s1) (s2A : Option Addr) (s2C : Nat) (hv_s2 : View w0 (old w0 none_) s2A s2C s2) (Q : Bool → Prop) (h : M_equal_int s1 s2 Q) :
  Ret Tryd.prog 29 #[.slice s1A s1.length s1C, .slice s2A s2.length s2C] w0 fun v w' => ∃ (r0 : Bool), v = .bool r0 ∧ Q r0 ∧ Sat w0 none_ [] w' := by
 refine fn_enter Tryd.func29 rfl Tryd.ntmps29 rfl (fs := [(0, .slice s1A s1.length s1C), (1, .slice s2A s2.length s2C)]) rfl (fun a hf => ?_)
 have hs := Sat.start w0 none_
 unfold M_equal_int at h
 refine wp_seq (R.list ?_)
 refine S.p hf hs (.bool false) rfl rfl fun a hf => ?_
 refine R.nil (X.then_ (wp_seq (wp_seq (R.list ?_))))
 refine S.p hf hs (.slice s1A s1.length s1C) rfl rfl fun a hf => ?_
 refine S.v hf hs (iv (s1.length : Int)) rfl (V.len rfl rfl Tryd.runUnderlying48) fun a hf => ?_
 refine S.p hf hs (.slice s2A s2.length s2C) rfl rfl fun a hf => ?_
 refine S.v hf hs (iv (s2.length : Int)) rfl (V.len rfl rfl Tryd.runUnderlying48) fun a hf => ?_
 refine S.p hf hs (.bool ((s1.length : Int) != (s2.length : Int))) rfl rfl fun a hf => ?_
 refine R.nil (X.then_ ?_)
 refine C.cond hf (b := (s1.length : Int) != (s2.length : Int)) rfl (fun hc => ?_) (fun hc => ?_)
 ·replace h := h.1 hc
  refine wp_seq (R.list ?_)
  refine S.p hf hs (.bool false) rfl rfl fun a hf => ?_
  refine R.nil (X.then_ (wp_ret (X.then_ret ?_)))
  exact L.ret hf (run_results1 Tryd.results29 (ResIs.tmp hf rfl)) ⟨false, rfl, h, hs.nil⟩
 ·replace h := h.2 hc
  refine wp_skip (X.then_ (wp_seq (wp_seq (R.list ?_))))
  refine S.p hf hs (.slice s1A s1.length s1C) rfl rfl fun a hf => ?_
  refine S.v hf hs (iv (s1.length : Int)) rfl (V.len rfl rfl Tryd.runUnderlying48) fun a hf => ?_
  refine S.p hf hs (iv 0) rfl rfl fun a hf => ?_
  refine R.nil (X.then_ (wp_block ?_))
  have hlenk1 := hv_s1.len64
  refine C.range (fun (ll : List Int) a w => ∃ (k1 : Nat) , s1.drop k1 = ll ∧ k1 + ll.length = s1.length ∧ forIn' (fun k x (s : Unit) next => M_equal_int_L1 s2 Q k x (next ())) (fun (s : Unit) => Q true) ll k1 () ∧ FrOk 26 [(13, iv (k1 : Int)), (0, .slice s1A s1.length s1C), (1, .slice s2A s2.length s2C), (12, iv (s1.length : Int))] a ∧ Sat w0 none_ [] w) s1 ⟨0, rfl, Nat.zero_add _, h, ((((hf.nil.cons (hf.get 12 _ rfl)).cons (hf.get 1 _ rfl)).cons (hf.get 0 _ rfl)).cons (hf.get 13 _ rfl)), hs⟩ ?_
  clear h hf hs
  rintro llk1 a w ⟨k1, hlk1, hkk1, h, hf, hs⟩
  cases llk1 with
  | nil =>
   have hc := range_done hkk1
   replace h : Q true := h
   refine wp_seq (R.list ?_)
   refine S.v hf hs (.bool false) rfl (V.cmp false rfl rfl rfl rfl hc) fun a hf => ?_
   refine R.nil (X.then_ (wp_seq ?_))
   refine C.no hf rfl ?_
   refine wp_exit (X.then_exit (X.then_exit (X.blk_exit (X.then_ (wp_seq (R.list ?_))))))
   refine S.p hf hs (.bool true) rfl rfl fun a hf => ?_
   refine R.nil (X.then_ (wp_ret ?_))
   exact L.ret hf (run_results1 Tryd.results29 (ResIs.tmp hf rfl)) ⟨true, rfl, h, hs.nil⟩
  | cons xk1 llk1 =>
   have hltk1 := range_lt hkk1; have hc := range_go hkk1; have hxk1 := range_get hlk1
   obtain ⟨next1, hnext1⟩ : ∃ X : Prop, X = (forIn' (fun k x (s : Unit) next => M_equal_int_L1 s2 Q k x (next ())) (fun (s : Unit) => Q true) llk1 (k1 + 1) ()) := ⟨_, rfl⟩
   replace h : M_equal_int_L1 s2 Q k1 xk1  next1 := by rw [hnext1]; exact h
   unfold M_equal_int_L1 at h
   refine wp_seq (R.list ?_)
   refine S.v hf hs (.bool true) rfl (V.cmp true rfl rfl rfl rfl hc) fun a hf => ?_
   refine R.nil (X.then_ (wp_seq ?_))
   refine C.yes hf rfl ?_
   refine wp_skip (X.then_ (wp_seq (wp_block (wp_seq (R.list ?_)))))
   refine S.p hf hs (iv (k1 : Int)) rfl rfl fun a hf => ?_
   refine S.p hf hs (iv (k1 : Int)) rfl rfl fun a hf => ?_
   refine R.nil (X.then_ (wp_seq ?_))
   refine R.draw mo (by kernel_rfl) hs ?_
   refine D.p hf (.slice s1A s1.length s1C) rfl rfl fun a hf => ?_
   refine D.p hf (iv (k1 : Int)) rfl rfl fun a hf => ?_
   refine D.v hf (elemPtr s1A (k1 * 1)) rfl (V.index rfl rfl rfl Tryd.runUnderlying48 Tryd.sizeOf3 (hv_s1.some_ (lt_of_get hxk1)) (Int.natCast_nonneg _) (lt_of_get hxk1) rfl) fun a hf => ?_
   refine D.v hf (iv xk1) rfl (V.loadEl (off := 0) (Ag.args _ _ _) (hv_s1.flat hxk1) rfl rfl rfl Tryd.isAgg3 Tryd.sizeOf3 rfl rfl) fun a hf => ?_
   refine D.p hf (.slice s2A s2.length s2C) rfl rfl fun a hf => ?_
   refine D.p hf (iv (k1 : Int)) rfl rfl fun a hf => ?_
   obtain ⟨h0x1, x1, hx1, h⟩ := h
   refine D.v hf (elemPtr s2A (k1 * 1)) rfl (V.index rfl rfl rfl Tryd.runUnderlying48 Tryd.sizeOf3 (hv_s2.some_ (lt_of_get hx1)) (Int.natCast_nonneg _) (lt_of_get hx1) rfl) fun a hf => ?_
   refine D.v hf (iv x1) rfl (V.loadEl (off := 0) (Ag.args _ _ _) (hv_s2.flat hx1) rfl rfl rfl Tryd.isAgg3 Tryd.sizeOf3 rfl rfl) fun a hf => ?_
   refine D.p hf (.bool (xk1 != x1)) rfl rfl fun a hf => ?_
   refine D.done (fun w hs => ?_)
   refine X.then_ ?_
   refine C.cond hf (b := xk1 != x1) rfl (fun hc => ?_) (fun hc => ?_)
   ·replace h := h.1 hc
    refine wp_seq (R.list ?_)
    refine S.p hf hs (.bool false) rfl rfl fun a hf => ?_
    refine R.nil (X.then_ (wp_ret (X.blk_ret (X.then_ret (X.then_ret (X.blk_ret (X.then_ret ?_)))))))
    exact L.ret hf (run_results1 Tryd.results29 (ResIs.tmp hf rfl)) ⟨false, rfl, h, hs.nil⟩
   ·replace h := h.2 hc
    refine wp_skip (X.blk (X.then_ (R.list ?_)))
    refine S.v hf hs (iv ((k1 + 1 : Nat) : Int)) rfl (V.incr rfl rfl rfl hltk1 hlenk1) fun a hf => ?_
    refine S.p hf hs (iv ((k1 + 1 : Nat) : Int)) rfl rfl fun a hf => ?_
    refine R.nil (X.then_ ?_)
    exact ⟨xk1, llk1, rfl, k1 + 1, range_drop hlk1, range_len hkk1, (by rw [hnext1] at h; exact h), ((((hf.nil.cons (hf.get 12 _ rfl)).cons (hf.get 1 _ rfl)).cons (hf.get 0 _ rfl)).cons (hf.get 13 _ rfl)), hs⟩
end Go.Proofs.YtcmlcgjjkccaeaaDoor
