/- Chapter 10: reels, picks: the walks. -/
import Derived.Test.YtcmlcgjjkccaeaaDoorDoorF
namespace Go.Proofs.YtcmlcgjjkccaeaaDoor
open Go Go.RowKit
set_option linter.unusedVariables false

set_option linter.unusedVariables false
def M_mount_CheckReels_k2 (Q : Int → Prop) (next1 : Prop) (c1 : Bool) : Prop :=
  cnd c1 (Q 8) (next1)
def M_mount_CheckReels_L1 (r : (List Reel)) (Q : Int → Prop) (k1 : Nat) (xk1 : Reel)  (next1 : Prop) : Prop :=
  cnd (!(within xk1.Slot 1 10000)) (Q 1) (M_netlist_IsWord xk1.Typ fun y1 => cnd (!y1) (Q 5) (cnd (!(within xk1.Left 0 1000000)) (Q 1) (cnd (decide ((k1 : Int) > 0)) (idx r (w64 ((k1 : Int) - 1)) fun x1 => M_mount_CheckReels_k2 Q next1 (decide (xk1.Slot ≤ x1.Slot))) (M_mount_CheckReels_k2 Q next1 false))))
def M_mount_CheckReels (r : (List Reel)) (Q : Int → Prop) : Prop :=
  cnd (decide ((r.length : Int) > 200)) (Q 2) (forIn' (fun k x (s : Unit) next => M_mount_CheckReels_L1 r Q k x (next ())) (fun (s : Unit) => Q 0) r 0 ())
set_option maxHeartbeats 1000000 in
theorem R_mount_CheckReels (r : (List Reel)) (w0 : World) (rA : Option Addr) (rC : Nat) (hv_r : View w0 (old w0 none_) rA rC r) (Q : Int → Prop) (h : M_mount_CheckReels r Q) :
    Ret Tryd.prog 44 #[.slice rA r.length rC] w0 fun v w' => ∃ (r0 : Int), v = .int .i64 r0 ∧ Q r0 ∧ Sat w0 none_ [] w' := by
  refine fn_enter Tryd.func44 rfl Tryd.ntmps44 rfl (fs := [(0, .slice rA r.length rC)]) rfl (fun a hf => ?_)
  have hs := Sat.start w0 none_
  unfold M_mount_CheckReels at h
  refine wp_seq ?_
  refine R.list ?_
  refine S.val hf hs (v := .int .i64 0) rfl rfl rfl (V.pure rfl) (fun a hf => ?_)
  refine R.nil ?_
  refine X.then_ ?_
  refine wp_seq ?_
  refine wp_seq ?_
  refine R.list ?_
  refine S.val hf hs (v := .slice rA r.length rC) rfl rfl rfl (V.pure rfl) (fun a hf => ?_)
  refine S.val hf hs (v := .int .i64 (r.length : Int)) rfl rfl rfl (V.len rfl rfl Tryd.runUnderlying43) (fun a hf => ?_)
  refine S.val hf hs (v := .bool (decide ((r.length : Int) > 200))) rfl rfl rfl (V.pure rfl) (fun a hf => ?_)
  refine R.nil ?_
  refine X.then_ ?_
  refine C.cond hf (b := decide ((r.length : Int) > 200)) rfl (fun hc => ?_) (fun hc => ?_)
  · replace h := h.1 hc
    refine wp_seq ?_
    refine R.list ?_
    refine S.val hf hs (v := .int .i64 2) rfl rfl rfl (V.pure rfl) (fun a hf => ?_)
    refine R.nil ?_
    refine X.then_ ?_
    refine wp_ret ?_
    refine X.then_ret ?_
    exact L.ret hf (run_results1 Tryd.results44 (ResIs.tmp hf rfl)) ⟨2, rfl, h, hs.nil⟩
  · replace h := h.2 hc
    refine wp_skip ?_
    refine X.then_ ?_
    refine wp_seq ?_
    refine wp_seq ?_
    refine R.list ?_
    refine S.val hf hs (v := .slice rA r.length rC) rfl rfl rfl (V.pure rfl) (fun a hf => ?_)
    refine S.val hf hs (v := .int .i64 (r.length : Int)) rfl rfl rfl (V.len rfl rfl Tryd.runUnderlying43) (fun a hf => ?_)
    refine S.val hf hs (v := .int .i64 0) rfl rfl rfl (V.pure rfl) (fun a hf => ?_)
    refine R.nil ?_
    refine X.then_ ?_
    refine wp_block ?_
    have hlenk1 := hv_r.len64
    refine C.range (fun (ll : List Reel) a w => ∃ (k1 : Nat) , r.drop k1 = ll ∧ k1 + ll.length = r.length ∧ forIn' (fun k x (s : Unit) next => M_mount_CheckReels_L1 r Q k x (next ())) (fun (s : Unit) => Q 0) ll k1 () ∧ FrOk 45 [(10, .int .i64 (k1 : Int)), (0, .slice rA r.length rC), (8, .slice rA r.length rC), (9, .int .i64 (r.length : Int))] a ∧ Sat w0 none_ [] w) r ⟨0, rfl, Nat.zero_add _, h, ((((hf.nil.cons (hf.get 9 _ rfl)).cons (hf.get 8 _ rfl)).cons (hf.get 0 _ rfl)).cons (hf.get 10 _ rfl)), hs⟩ ?_
    clear h hf hs
    rintro llk1 a w ⟨k1, hlk1, hkk1, h, hf, hs⟩
    cases llk1 with
    | nil =>
      have hc := range_done hkk1
      replace h : Q 0 := h
      refine wp_seq ?_
      refine R.list ?_
      refine S.val hf hs (v := .bool false) rfl rfl rfl (V.cmp false rfl rfl rfl rfl hc) (fun a hf => ?_)
      refine R.nil ?_
      refine X.then_ ?_
      refine wp_seq ?_
      refine C.no hf rfl ?_
      refine wp_exit ?_
      refine X.then_exit ?_
      refine X.then_exit ?_
      refine X.blk_exit ?_
      refine X.then_ ?_
      refine wp_seq ?_
      refine R.list ?_
      refine S.val hf hs (v := .int .i64 0) rfl rfl rfl (V.pure rfl) (fun a hf => ?_)
      refine R.nil ?_
      refine X.then_ ?_
      refine wp_ret ?_
      exact L.ret hf (run_results1 Tryd.results44 (ResIs.tmp hf rfl)) ⟨0, rfl, h, hs.nil⟩
    | cons xk1 llk1 =>
      have hltk1 := range_lt hkk1; have hc := range_go hkk1; have hxk1 := range_get hlk1
      obtain ⟨next1, hnext1⟩ : ∃ X : Prop, X = (forIn' (fun k x (s : Unit) next => M_mount_CheckReels_L1 r Q k x (next ())) (fun (s : Unit) => Q 0) llk1 (k1 + 1) ()) := ⟨_, rfl⟩
      replace h : M_mount_CheckReels_L1 r Q k1 xk1  next1 := by rw [hnext1]; exact h
      unfold M_mount_CheckReels_L1 at h
      refine wp_seq ?_
      refine R.list ?_
      refine S.val hf hs (v := .bool true) rfl rfl rfl (V.cmp true rfl rfl rfl rfl hc) (fun a hf => ?_)
      refine R.nil ?_
      refine X.then_ ?_
      refine wp_seq ?_
      refine C.yes hf rfl ?_
      refine wp_skip ?_
      refine X.then_ ?_
      refine wp_seq ?_
      refine wp_block ?_
      refine wp_seq ?_
      refine R.list ?_
      refine S.val hf hs (v := .int .i64 (k1 : Int)) rfl rfl rfl (V.pure rfl) (fun a hf => ?_)
      refine S.val hf hs (v := elemPtr rA (k1 * 3)) rfl rfl rfl (V.index rfl rfl rfl Tryd.runUnderlying43 Tryd.sizeOf52 (hv_r.some_ (lt_of_get hxk1)) (Int.natCast_nonneg _) (lt_of_get hxk1) rfl) (fun a hf => ?_)
      refine S.val hf hs (v := .agg #[.int .i64 xk1.Slot, .string (ba xk1.Typ), .int .i64 xk1.Left]) rfl rfl rfl (V.loadEl (off := 0) (Ag.args _ _ _) (hv_r.flat hxk1) rfl rfl rfl Tryd.isAgg52 Tryd.sizeOf52 rfl rfl) (fun a hf => ?_)
      refine S.alloc hf hs rfl rfl rfl [.int .i64 0, .string (ba []), .int .i64 0] rfl Tryd.zeroValue52 rfl (fun g1 a w hf hs => ?_)
      refine S.val hf hs (v := .int .i64 (k1 : Int)) rfl rfl rfl (V.pure rfl) (fun a hf => ?_)
      refine S.storeBox 0 hf hs rfl rfl [.int .i64 xk1.Slot, .string (ba xk1.Typ), .int .i64 xk1.Left] [.int .i64 xk1.Slot, .string (ba xk1.Typ), .int .i64 xk1.Left] rfl rfl rfl rfl rfl Tryd.sizeOf52 rfl rfl rfl rfl (fun a w hf hs => ?_)
      refine R.nil ?_
      refine X.then_ ?_
      refine wp_block ?_
      refine wp_seq ?_
      refine R.list ?_
      refine S.val hf hs (v := .pointer (some ⟨g1, 0, none⟩)) rfl rfl rfl (V.fieldBox rfl rfl Tryd.runUnderlying52 rfl Tryd.sizeOf3 rfl rfl) (fun a hf => ?_)
      refine S.val hf hs (v := .int .i64 xk1.Slot) rfl rfl rfl (V.loadBox 0 rfl rfl rfl Tryd.isAgg3 Tryd.sizeOf3 rfl rfl) (fun a hf => ?_)
      refine S.callv hf rfl rfl rfl (call_fn (vs := [.int .i64 xk1.Slot, .int .i64 1, .int .i64 10000]) rfl rfl rfl Tryd.call47) (C_mount_within xk1.Slot 1 10000 _ ) (fun a w hf hs' => ?_)
      replace hs := hs.call hs'; clear hs'
      refine S.val hf hs (v := .bool (!(within xk1.Slot 1 10000))) rfl rfl rfl (V.pure rfl) (fun a hf => ?_)
      refine S.val hf hs (v := .bool (!(within xk1.Slot 1 10000))) rfl rfl rfl (V.pure rfl) (fun a hf => ?_)
      refine R.nil ?_
      refine X.then_ ?_
      refine C.cond hf (b := !(within xk1.Slot 1 10000)) rfl (fun hc => ?_) (fun hc => ?_)
      · replace h := h.1 hc
        refine wp_seq ?_
        refine R.list ?_
        refine S.val hf hs (v := .int .i64 1) rfl rfl rfl (V.pure rfl) (fun a hf => ?_)
        refine R.nil ?_
        refine X.then_ ?_
        refine wp_ret ?_
        refine X.blk_ret ?_
        refine X.blk_ret ?_
        refine X.then_ret ?_
        refine X.then_ret ?_
        refine X.blk_ret ?_
        refine X.then_ret ?_
        exact L.ret hf (run_results1 Tryd.results44 (ResIs.tmp hf rfl)) ⟨1, rfl, h, hs.nil⟩
      · replace h := h.2 hc
        refine wp_seq ?_
        refine R.list ?_
        refine S.val hf hs (v := .pointer (some ⟨g1, 1, none⟩)) rfl rfl rfl (V.fieldBox rfl rfl Tryd.runUnderlying52 rfl Tryd.sizeOf9 rfl rfl) (fun a hf => ?_)
        refine S.val hf hs (v := .string (ba xk1.Typ)) rfl rfl rfl (V.loadBox 0 rfl rfl rfl Tryd.isAgg9 Tryd.sizeOf9 rfl rfl) (fun a hf => ?_)
        refine S.call hf rfl rfl rfl (call_fn (vs := [.string (ba xk1.Typ)]) rfl rfl rfl Tryd.call74) (R_netlist_IsWord xk1.Typ _  _ h) (fun v a w' hf hr => ?_)
        obtain ⟨y1, rfl, h2, hs2⟩ := hr
        replace h := h2; replace hs := hs.call hs2; clear h2 hs2
        refine S.val hf hs (v := .bool (!y1)) rfl rfl rfl (V.pure rfl) (fun a hf => ?_)
        refine S.val hf hs (v := .bool (!y1)) rfl rfl rfl (V.pure rfl) (fun a hf => ?_)
        refine R.nil ?_
        refine X.then_ ?_
        refine C.cond hf (b := !y1) rfl (fun hc => ?_) (fun hc => ?_)
        · replace h := h.1 hc
          refine wp_seq ?_
          refine R.list ?_
          refine S.val hf hs (v := .int .i64 5) rfl rfl rfl (V.pure rfl) (fun a hf => ?_)
          refine R.nil ?_
          refine X.then_ ?_
          refine wp_ret ?_
          refine X.blk_ret ?_
          refine X.blk_ret ?_
          refine X.then_ret ?_
          refine X.then_ret ?_
          refine X.blk_ret ?_
          refine X.then_ret ?_
          exact L.ret hf (run_results1 Tryd.results44 (ResIs.tmp hf rfl)) ⟨5, rfl, h, hs.nil⟩
        · replace h := h.2 hc
          refine wp_seq ?_
          refine R.list ?_
          refine S.val hf hs (v := .pointer (some ⟨g1, 2, none⟩)) rfl rfl rfl (V.fieldBox rfl rfl Tryd.runUnderlying52 rfl Tryd.sizeOf3 rfl rfl) (fun a hf => ?_)
          refine S.val hf hs (v := .int .i64 xk1.Left) rfl rfl rfl (V.loadBox 0 rfl rfl rfl Tryd.isAgg3 Tryd.sizeOf3 rfl rfl) (fun a hf => ?_)
          refine S.callv hf rfl rfl rfl (call_fn (vs := [.int .i64 xk1.Left, .int .i64 0, .int .i64 1000000]) rfl rfl rfl Tryd.call47) (C_mount_within xk1.Left 0 1000000 _ ) (fun a w hf hs' => ?_)
          replace hs := hs.call hs'; clear hs'
          refine S.val hf hs (v := .bool (!(within xk1.Left 0 1000000))) rfl rfl rfl (V.pure rfl) (fun a hf => ?_)
          refine S.val hf hs (v := .bool (!(within xk1.Left 0 1000000))) rfl rfl rfl (V.pure rfl) (fun a hf => ?_)
          refine R.nil ?_
          refine X.then_ ?_
          refine C.cond hf (b := !(within xk1.Left 0 1000000)) rfl (fun hc => ?_) (fun hc => ?_)
          · replace h := h.1 hc
            refine wp_seq ?_
            refine R.list ?_
            refine S.val hf hs (v := .int .i64 1) rfl rfl rfl (V.pure rfl) (fun a hf => ?_)
            refine R.nil ?_
            refine X.then_ ?_
            refine wp_ret ?_
            refine X.blk_ret ?_
            refine X.blk_ret ?_
            refine X.then_ret ?_
            refine X.then_ret ?_
            refine X.blk_ret ?_
            refine X.then_ret ?_
            exact L.ret hf (run_results1 Tryd.results44 (ResIs.tmp hf rfl)) ⟨1, rfl, h, hs.nil⟩
          · replace h := h.2 hc
            refine wp_seq ?_
            refine C.cut (J := fun a w => ∃ (c1 : Bool), M_mount_CheckReels_k2 Q next1 c1 ∧ FrOk 45 [(0, .slice rA r.length rC), (8, .slice rA r.length rC), (9, .int .i64 (r.length : Int)), (10, .int .i64 (k1 : Int)), (30, .bool c1)] a ∧ Sat w0 none_ [hbox g1 52 [.int .i64 xk1.Slot, .string (ba xk1.Typ), .int .i64 xk1.Left]] w) ?_ ?_
            · rintro a w ⟨c1, h, hf, hs⟩
              unfold M_mount_CheckReels_k2 at h
              refine C.cond hf (b := c1) rfl (fun hc => ?_) (fun hc => ?_)
              · replace h := h.1 hc
                refine wp_seq ?_
                refine R.list ?_
                refine S.val hf hs (v := .int .i64 8) rfl rfl rfl (V.pure rfl) (fun a hf => ?_)
                refine R.nil ?_
                refine X.then_ ?_
                refine wp_ret ?_
                refine X.blk_ret ?_
                refine X.blk_ret ?_
                refine X.then_ret ?_
                refine X.then_ret ?_
                refine X.blk_ret ?_
                refine X.then_ret ?_
                exact L.ret hf (run_results1 Tryd.results44 (ResIs.tmp hf rfl)) ⟨8, rfl, h, hs.nil⟩
              · replace h := h.2 hc
                refine wp_skip ?_
                refine X.blk ?_
                refine X.blk ?_
                refine X.then_ ?_
                refine R.list ?_
                refine S.val hf hs (v := .int .i64 ((k1 + 1 : Nat) : Int)) rfl rfl rfl (V.incr rfl rfl rfl hltk1 hlenk1) (fun a hf => ?_)
                refine S.val hf hs (v := .int .i64 ((k1 + 1 : Nat) : Int)) rfl rfl rfl (V.pure rfl) (fun a hf => ?_)
                refine R.nil ?_
                refine X.then_ ?_
                exact ⟨xk1, llk1, rfl, k1 + 1, range_drop hlk1, range_len hkk1, (by rw [hnext1] at h; exact h), ((((hf.nil.cons (hf.get 9 _ rfl)).cons (hf.get 8 _ rfl)).cons (hf.get 0 _ rfl)).cons (hf.get 10 _ rfl)), hs.drop⟩
            · skip
              refine R.draw mo (by kernel_rfl) hs ?_
              refine D.val hf (v := .int .i64 (k1 : Int)) rfl rfl rfl (V.pure rfl) (fun a hf => ?_)
              refine D.val hf (v := .bool (decide ((k1 : Int) > 0))) rfl rfl rfl (V.pure rfl) (fun a hf => ?_)
              refine D.split hf (b := decide ((k1 : Int) > 0)) rfl rfl rfl (V.pure rfl) (fun hc a hf => ?_) (fun hc a hf => ?_)
              · replace h := h.1 hc
                refine D.val hf (v := .pointer (some ⟨g1, 0, none⟩)) rfl rfl rfl (V.fieldBox rfl rfl Tryd.runUnderlying52 rfl Tryd.sizeOf3 rfl rfl) (fun a hf => ?_)
                refine D.val hf (v := .int .i64 xk1.Slot) rfl rfl rfl (V.loadBox 0 rfl rfl rfl Tryd.isAgg3 Tryd.sizeOf3 rfl rfl) (fun a hf => ?_)
                refine D.val hf (v := .slice rA r.length rC) rfl rfl rfl (V.pure rfl) (fun a hf => ?_)
                refine D.val hf (v := .int .i64 (k1 : Int)) rfl rfl rfl (V.pure rfl) (fun a hf => ?_)
                refine D.val hf (v := .int .i64 (w64 ((k1 : Int) - 1))) rfl rfl rfl (V.pure rfl) (fun a hf => ?_)
                obtain ⟨h0x1, x1, hx1, h⟩ := h
                refine D.val hf (v := elemPtr rA ((w64 ((k1 : Int) - 1)).toNat * 3)) rfl rfl rfl (V.index rfl rfl rfl Tryd.runUnderlying43 Tryd.sizeOf52 (hv_r.some_ (lt_of_get hx1)) h0x1 (lt_of_get hx1) rfl) (fun a hf => ?_)
                refine D.val hf (v := elemPtr rA ((w64 ((k1 : Int) - 1)).toNat * 3)) rfl rfl rfl (V.fieldEl rfl rfl (hv_r.some_ (lt_of_get hx1)) Tryd.runUnderlying52 rfl Tryd.sizeOf3 rfl rfl) (fun a hf => ?_)
                refine D.val hf (v := .int .i64 x1.Slot) rfl rfl rfl (V.loadEl (off := 0) (Ag.args _ _ _) (hv_r.flat hx1) rfl rfl rfl Tryd.isAgg3 Tryd.sizeOf3 rfl rfl) (fun a hf => ?_)
                refine D.val hf (v := .bool (decide (xk1.Slot ≤ x1.Slot))) rfl rfl rfl (V.pure rfl) (fun a hf => ?_)
                refine D.val hf (v := .bool (decide (xk1.Slot ≤ x1.Slot))) rfl rfl rfl (V.pure rfl) (fun a hf => ?_)
                refine D.val hf (v := .bool (decide (xk1.Slot ≤ x1.Slot))) rfl rfl rfl (V.pure rfl) (fun a hf => ?_)
                refine D.done (fun w hs => ?_)
                refine X.then_ ?_
                exact ⟨(decide (xk1.Slot ≤ x1.Slot)), h, (((((hf.nil.cons (hf.get 30 _ rfl)).cons (hf.get 10 _ rfl)).cons (hf.get 9 _ rfl)).cons (hf.get 8 _ rfl)).cons (hf.get 0 _ rfl)), hs⟩
              · replace h := h.2 hc
                refine D.skip hf rfl rfl rfl (fun a hf => ?_)
                refine D.skip hf rfl rfl rfl (fun a hf => ?_)
                refine D.skip hf rfl rfl rfl (fun a hf => ?_)
                refine D.skip hf rfl rfl rfl (fun a hf => ?_)
                refine D.skip hf rfl rfl rfl (fun a hf => ?_)
                refine D.skip hf rfl rfl rfl (fun a hf => ?_)
                refine D.skip hf rfl rfl rfl (fun a hf => ?_)
                refine D.skip hf rfl rfl rfl (fun a hf => ?_)
                refine D.skip hf rfl rfl rfl (fun a hf => ?_)
                refine D.val hf (v := .bool false) rfl rfl rfl (V.pure rfl) (fun a hf => ?_)
                refine D.val hf (v := .bool false) rfl rfl rfl (V.pure rfl) (fun a hf => ?_)
                refine D.done (fun w hs => ?_)
                refine X.then_ ?_
                exact ⟨false, h, (((((hf.nil.cons (hf.get 30 _ rfl)).cons (hf.get 10 _ rfl)).cons (hf.get 9 _ rfl)).cons (hf.get 8 _ rfl)).cons (hf.get 0 _ rfl)), hs⟩

set_option linter.unusedVariables false
def M_ref10_CheckReels_k2 (Q : Int → Prop) (next1 : Prop) (c1 : Bool) : Prop :=
  cnd c1 (Q 8) (next1)
def M_ref10_CheckReels_L1 (r : (List Reel)) (Q : Int → Prop) (k1 : Nat) (xk1 : Reel)  (next1 : Prop) : Prop :=
  cnd (!(within xk1.Slot 1 10000)) (Q 1) (M_ref10_isWord xk1.Typ fun y1 => cnd (!y1) (Q 5) (cnd (!(within xk1.Left 0 1000000)) (Q 1) (cnd (decide ((k1 : Int) > 0)) (idx r (w64 ((k1 : Int) - 1)) fun x1 => M_ref10_CheckReels_k2 Q next1 (decide (xk1.Slot ≤ x1.Slot))) (M_ref10_CheckReels_k2 Q next1 false))))
def M_ref10_CheckReels (r : (List Reel)) (Q : Int → Prop) : Prop :=
  cnd (decide ((r.length : Int) > 200)) (Q 2) (forIn' (fun k x (s : Unit) next => M_ref10_CheckReels_L1 r Q k x (next ())) (fun (s : Unit) => Q 0) r 0 ())
set_option maxHeartbeats 1000000 in
theorem R_ref10_CheckReels (r : (List Reel)) (w0 : World) (rA : Option Addr) (rC : Nat) (hv_r : View w0 (old w0 none_) rA rC r) (Q : Int → Prop) (h : M_ref10_CheckReels r Q) :
    Ret Tryd.prog 45 #[.slice rA r.length rC] w0 fun v w' => ∃ (r0 : Int), v = .int .i64 r0 ∧ Q r0 ∧ Sat w0 none_ [] w' := by
  refine fn_enter Tryd.func45 rfl Tryd.ntmps45 rfl (fs := [(0, .slice rA r.length rC)]) rfl (fun a hf => ?_)
  have hs := Sat.start w0 none_
  unfold M_ref10_CheckReels at h
  refine wp_seq ?_
  refine R.list ?_
  refine S.val hf hs (v := .int .i64 0) rfl rfl rfl (V.pure rfl) (fun a hf => ?_)
  refine R.nil ?_
  refine X.then_ ?_
  refine wp_seq ?_
  refine wp_seq ?_
  refine R.list ?_
  refine S.val hf hs (v := .slice rA r.length rC) rfl rfl rfl (V.pure rfl) (fun a hf => ?_)
  refine S.val hf hs (v := .int .i64 (r.length : Int)) rfl rfl rfl (V.len rfl rfl Tryd.runUnderlying43) (fun a hf => ?_)
  refine S.val hf hs (v := .bool (decide ((r.length : Int) > 200))) rfl rfl rfl (V.pure rfl) (fun a hf => ?_)
  refine R.nil ?_
  refine X.then_ ?_
  refine C.cond hf (b := decide ((r.length : Int) > 200)) rfl (fun hc => ?_) (fun hc => ?_)
  · replace h := h.1 hc
    refine wp_seq ?_
    refine R.list ?_
    refine S.val hf hs (v := .int .i64 2) rfl rfl rfl (V.pure rfl) (fun a hf => ?_)
    refine R.nil ?_
    refine X.then_ ?_
    refine wp_ret ?_
    refine X.then_ret ?_
    exact L.ret hf (run_results1 Tryd.results45 (ResIs.tmp hf rfl)) ⟨2, rfl, h, hs.nil⟩
  · replace h := h.2 hc
    refine wp_skip ?_
    refine X.then_ ?_
    refine wp_seq ?_
    refine wp_seq ?_
    refine R.list ?_
    refine S.val hf hs (v := .slice rA r.length rC) rfl rfl rfl (V.pure rfl) (fun a hf => ?_)
    refine S.val hf hs (v := .int .i64 (r.length : Int)) rfl rfl rfl (V.len rfl rfl Tryd.runUnderlying43) (fun a hf => ?_)
    refine S.val hf hs (v := .int .i64 0) rfl rfl rfl (V.pure rfl) (fun a hf => ?_)
    refine R.nil ?_
    refine X.then_ ?_
    refine wp_block ?_
    have hlenk1 := hv_r.len64
    refine C.range (fun (ll : List Reel) a w => ∃ (k1 : Nat) , r.drop k1 = ll ∧ k1 + ll.length = r.length ∧ forIn' (fun k x (s : Unit) next => M_ref10_CheckReels_L1 r Q k x (next ())) (fun (s : Unit) => Q 0) ll k1 () ∧ FrOk 45 [(10, .int .i64 (k1 : Int)), (0, .slice rA r.length rC), (8, .slice rA r.length rC), (9, .int .i64 (r.length : Int))] a ∧ Sat w0 none_ [] w) r ⟨0, rfl, Nat.zero_add _, h, ((((hf.nil.cons (hf.get 9 _ rfl)).cons (hf.get 8 _ rfl)).cons (hf.get 0 _ rfl)).cons (hf.get 10 _ rfl)), hs⟩ ?_
    clear h hf hs
    rintro llk1 a w ⟨k1, hlk1, hkk1, h, hf, hs⟩
    cases llk1 with
    | nil =>
      have hc := range_done hkk1
      replace h : Q 0 := h
      refine wp_seq ?_
      refine R.list ?_
      refine S.val hf hs (v := .bool false) rfl rfl rfl (V.cmp false rfl rfl rfl rfl hc) (fun a hf => ?_)
      refine R.nil ?_
      refine X.then_ ?_
      refine wp_seq ?_
      refine C.no hf rfl ?_
      refine wp_exit ?_
      refine X.then_exit ?_
      refine X.then_exit ?_
      refine X.blk_exit ?_
      refine X.then_ ?_
      refine wp_seq ?_
      refine R.list ?_
      refine S.val hf hs (v := .int .i64 0) rfl rfl rfl (V.pure rfl) (fun a hf => ?_)
      refine R.nil ?_
      refine X.then_ ?_
      refine wp_ret ?_
      exact L.ret hf (run_results1 Tryd.results45 (ResIs.tmp hf rfl)) ⟨0, rfl, h, hs.nil⟩
    | cons xk1 llk1 =>
      have hltk1 := range_lt hkk1; have hc := range_go hkk1; have hxk1 := range_get hlk1
      obtain ⟨next1, hnext1⟩ : ∃ X : Prop, X = (forIn' (fun k x (s : Unit) next => M_ref10_CheckReels_L1 r Q k x (next ())) (fun (s : Unit) => Q 0) llk1 (k1 + 1) ()) := ⟨_, rfl⟩
      replace h : M_ref10_CheckReels_L1 r Q k1 xk1  next1 := by rw [hnext1]; exact h
      unfold M_ref10_CheckReels_L1 at h
      refine wp_seq ?_
      refine R.list ?_
      refine S.val hf hs (v := .bool true) rfl rfl rfl (V.cmp true rfl rfl rfl rfl hc) (fun a hf => ?_)
      refine R.nil ?_
      refine X.then_ ?_
      refine wp_seq ?_
      refine C.yes hf rfl ?_
      refine wp_skip ?_
      refine X.then_ ?_
      refine wp_seq ?_
      refine wp_block ?_
      refine wp_seq ?_
      refine R.list ?_
      refine S.val hf hs (v := .int .i64 (k1 : Int)) rfl rfl rfl (V.pure rfl) (fun a hf => ?_)
      refine S.val hf hs (v := elemPtr rA (k1 * 3)) rfl rfl rfl (V.index rfl rfl rfl Tryd.runUnderlying43 Tryd.sizeOf52 (hv_r.some_ (lt_of_get hxk1)) (Int.natCast_nonneg _) (lt_of_get hxk1) rfl) (fun a hf => ?_)
      refine S.val hf hs (v := .agg #[.int .i64 xk1.Slot, .string (ba xk1.Typ), .int .i64 xk1.Left]) rfl rfl rfl (V.loadEl (off := 0) (Ag.args _ _ _) (hv_r.flat hxk1) rfl rfl rfl Tryd.isAgg52 Tryd.sizeOf52 rfl rfl) (fun a hf => ?_)
      refine S.alloc hf hs rfl rfl rfl [.int .i64 0, .string (ba []), .int .i64 0] rfl Tryd.zeroValue52 rfl (fun g1 a w hf hs => ?_)
      refine S.val hf hs (v := .int .i64 (k1 : Int)) rfl rfl rfl (V.pure rfl) (fun a hf => ?_)
      refine S.storeBox 0 hf hs rfl rfl [.int .i64 xk1.Slot, .string (ba xk1.Typ), .int .i64 xk1.Left] [.int .i64 xk1.Slot, .string (ba xk1.Typ), .int .i64 xk1.Left] rfl rfl rfl rfl rfl Tryd.sizeOf52 rfl rfl rfl rfl (fun a w hf hs => ?_)
      refine R.nil ?_
      refine X.then_ ?_
      refine wp_block ?_
      refine wp_seq ?_
      refine R.list ?_
      refine S.val hf hs (v := .pointer (some ⟨g1, 0, none⟩)) rfl rfl rfl (V.fieldBox rfl rfl Tryd.runUnderlying52 rfl Tryd.sizeOf3 rfl rfl) (fun a hf => ?_)
      refine S.val hf hs (v := .int .i64 xk1.Slot) rfl rfl rfl (V.loadBox 0 rfl rfl rfl Tryd.isAgg3 Tryd.sizeOf3 rfl rfl) (fun a hf => ?_)
      refine S.callv hf rfl rfl rfl (call_fn (vs := [.int .i64 xk1.Slot, .int .i64 1, .int .i64 10000]) rfl rfl rfl Tryd.call51) (C_ref10_within xk1.Slot 1 10000 _ ) (fun a w hf hs' => ?_)
      replace hs := hs.call hs'; clear hs'
      refine S.val hf hs (v := .bool (!(within xk1.Slot 1 10000))) rfl rfl rfl (V.pure rfl) (fun a hf => ?_)
      refine S.val hf hs (v := .bool (!(within xk1.Slot 1 10000))) rfl rfl rfl (V.pure rfl) (fun a hf => ?_)
      refine R.nil ?_
      refine X.then_ ?_
      refine C.cond hf (b := !(within xk1.Slot 1 10000)) rfl (fun hc => ?_) (fun hc => ?_)
      · replace h := h.1 hc
        refine wp_seq ?_
        refine R.list ?_
        refine S.val hf hs (v := .int .i64 1) rfl rfl rfl (V.pure rfl) (fun a hf => ?_)
        refine R.nil ?_
        refine X.then_ ?_
        refine wp_ret ?_
        refine X.blk_ret ?_
        refine X.blk_ret ?_
        refine X.then_ret ?_
        refine X.then_ret ?_
        refine X.blk_ret ?_
        refine X.then_ret ?_
        exact L.ret hf (run_results1 Tryd.results45 (ResIs.tmp hf rfl)) ⟨1, rfl, h, hs.nil⟩
      · replace h := h.2 hc
        refine wp_seq ?_
        refine R.list ?_
        refine S.val hf hs (v := .pointer (some ⟨g1, 1, none⟩)) rfl rfl rfl (V.fieldBox rfl rfl Tryd.runUnderlying52 rfl Tryd.sizeOf9 rfl rfl) (fun a hf => ?_)
        refine S.val hf hs (v := .string (ba xk1.Typ)) rfl rfl rfl (V.loadBox 0 rfl rfl rfl Tryd.isAgg9 Tryd.sizeOf9 rfl rfl) (fun a hf => ?_)
        refine S.call hf rfl rfl rfl (call_fn (vs := [.string (ba xk1.Typ)]) rfl rfl rfl Tryd.call75) (R_ref10_isWord xk1.Typ _  _ h) (fun v a w' hf hr => ?_)
        obtain ⟨y1, rfl, h2, hs2⟩ := hr
        replace h := h2; replace hs := hs.call hs2; clear h2 hs2
        refine S.val hf hs (v := .bool (!y1)) rfl rfl rfl (V.pure rfl) (fun a hf => ?_)
        refine S.val hf hs (v := .bool (!y1)) rfl rfl rfl (V.pure rfl) (fun a hf => ?_)
        refine R.nil ?_
        refine X.then_ ?_
        refine C.cond hf (b := !y1) rfl (fun hc => ?_) (fun hc => ?_)
        · replace h := h.1 hc
          refine wp_seq ?_
          refine R.list ?_
          refine S.val hf hs (v := .int .i64 5) rfl rfl rfl (V.pure rfl) (fun a hf => ?_)
          refine R.nil ?_
          refine X.then_ ?_
          refine wp_ret ?_
          refine X.blk_ret ?_
          refine X.blk_ret ?_
          refine X.then_ret ?_
          refine X.then_ret ?_
          refine X.blk_ret ?_
          refine X.then_ret ?_
          exact L.ret hf (run_results1 Tryd.results45 (ResIs.tmp hf rfl)) ⟨5, rfl, h, hs.nil⟩
        · replace h := h.2 hc
          refine wp_seq ?_
          refine R.list ?_
          refine S.val hf hs (v := .pointer (some ⟨g1, 2, none⟩)) rfl rfl rfl (V.fieldBox rfl rfl Tryd.runUnderlying52 rfl Tryd.sizeOf3 rfl rfl) (fun a hf => ?_)
          refine S.val hf hs (v := .int .i64 xk1.Left) rfl rfl rfl (V.loadBox 0 rfl rfl rfl Tryd.isAgg3 Tryd.sizeOf3 rfl rfl) (fun a hf => ?_)
          refine S.callv hf rfl rfl rfl (call_fn (vs := [.int .i64 xk1.Left, .int .i64 0, .int .i64 1000000]) rfl rfl rfl Tryd.call51) (C_ref10_within xk1.Left 0 1000000 _ ) (fun a w hf hs' => ?_)
          replace hs := hs.call hs'; clear hs'
          refine S.val hf hs (v := .bool (!(within xk1.Left 0 1000000))) rfl rfl rfl (V.pure rfl) (fun a hf => ?_)
          refine S.val hf hs (v := .bool (!(within xk1.Left 0 1000000))) rfl rfl rfl (V.pure rfl) (fun a hf => ?_)
          refine R.nil ?_
          refine X.then_ ?_
          refine C.cond hf (b := !(within xk1.Left 0 1000000)) rfl (fun hc => ?_) (fun hc => ?_)
          · replace h := h.1 hc
            refine wp_seq ?_
            refine R.list ?_
            refine S.val hf hs (v := .int .i64 1) rfl rfl rfl (V.pure rfl) (fun a hf => ?_)
            refine R.nil ?_
            refine X.then_ ?_
            refine wp_ret ?_
            refine X.blk_ret ?_
            refine X.blk_ret ?_
            refine X.then_ret ?_
            refine X.then_ret ?_
            refine X.blk_ret ?_
            refine X.then_ret ?_
            exact L.ret hf (run_results1 Tryd.results45 (ResIs.tmp hf rfl)) ⟨1, rfl, h, hs.nil⟩
          · replace h := h.2 hc
            refine wp_seq ?_
            refine C.cut (J := fun a w => ∃ (c1 : Bool), M_ref10_CheckReels_k2 Q next1 c1 ∧ FrOk 45 [(0, .slice rA r.length rC), (8, .slice rA r.length rC), (9, .int .i64 (r.length : Int)), (10, .int .i64 (k1 : Int)), (30, .bool c1)] a ∧ Sat w0 none_ [hbox g1 52 [.int .i64 xk1.Slot, .string (ba xk1.Typ), .int .i64 xk1.Left]] w) ?_ ?_
            · rintro a w ⟨c1, h, hf, hs⟩
              unfold M_ref10_CheckReels_k2 at h
              refine C.cond hf (b := c1) rfl (fun hc => ?_) (fun hc => ?_)
              · replace h := h.1 hc
                refine wp_seq ?_
                refine R.list ?_
                refine S.val hf hs (v := .int .i64 8) rfl rfl rfl (V.pure rfl) (fun a hf => ?_)
                refine R.nil ?_
                refine X.then_ ?_
                refine wp_ret ?_
                refine X.blk_ret ?_
                refine X.blk_ret ?_
                refine X.then_ret ?_
                refine X.then_ret ?_
                refine X.blk_ret ?_
                refine X.then_ret ?_
                exact L.ret hf (run_results1 Tryd.results45 (ResIs.tmp hf rfl)) ⟨8, rfl, h, hs.nil⟩
              · replace h := h.2 hc
                refine wp_skip ?_
                refine X.blk ?_
                refine X.blk ?_
                refine X.then_ ?_
                refine R.list ?_
                refine S.val hf hs (v := .int .i64 ((k1 + 1 : Nat) : Int)) rfl rfl rfl (V.incr rfl rfl rfl hltk1 hlenk1) (fun a hf => ?_)
                refine S.val hf hs (v := .int .i64 ((k1 + 1 : Nat) : Int)) rfl rfl rfl (V.pure rfl) (fun a hf => ?_)
                refine R.nil ?_
                refine X.then_ ?_
                exact ⟨xk1, llk1, rfl, k1 + 1, range_drop hlk1, range_len hkk1, (by rw [hnext1] at h; exact h), ((((hf.nil.cons (hf.get 9 _ rfl)).cons (hf.get 8 _ rfl)).cons (hf.get 0 _ rfl)).cons (hf.get 10 _ rfl)), hs.drop⟩
            · skip
              refine R.draw mo (by kernel_rfl) hs ?_
              refine D.val hf (v := .int .i64 (k1 : Int)) rfl rfl rfl (V.pure rfl) (fun a hf => ?_)
              refine D.val hf (v := .bool (decide ((k1 : Int) > 0))) rfl rfl rfl (V.pure rfl) (fun a hf => ?_)
              refine D.split hf (b := decide ((k1 : Int) > 0)) rfl rfl rfl (V.pure rfl) (fun hc a hf => ?_) (fun hc a hf => ?_)
              · replace h := h.1 hc
                refine D.val hf (v := .pointer (some ⟨g1, 0, none⟩)) rfl rfl rfl (V.fieldBox rfl rfl Tryd.runUnderlying52 rfl Tryd.sizeOf3 rfl rfl) (fun a hf => ?_)
                refine D.val hf (v := .int .i64 xk1.Slot) rfl rfl rfl (V.loadBox 0 rfl rfl rfl Tryd.isAgg3 Tryd.sizeOf3 rfl rfl) (fun a hf => ?_)
                refine D.val hf (v := .slice rA r.length rC) rfl rfl rfl (V.pure rfl) (fun a hf => ?_)
                refine D.val hf (v := .int .i64 (k1 : Int)) rfl rfl rfl (V.pure rfl) (fun a hf => ?_)
                refine D.val hf (v := .int .i64 (w64 ((k1 : Int) - 1))) rfl rfl rfl (V.pure rfl) (fun a hf => ?_)
                obtain ⟨h0x1, x1, hx1, h⟩ := h
                refine D.val hf (v := elemPtr rA ((w64 ((k1 : Int) - 1)).toNat * 3)) rfl rfl rfl (V.index rfl rfl rfl Tryd.runUnderlying43 Tryd.sizeOf52 (hv_r.some_ (lt_of_get hx1)) h0x1 (lt_of_get hx1) rfl) (fun a hf => ?_)
                refine D.val hf (v := elemPtr rA ((w64 ((k1 : Int) - 1)).toNat * 3)) rfl rfl rfl (V.fieldEl rfl rfl (hv_r.some_ (lt_of_get hx1)) Tryd.runUnderlying52 rfl Tryd.sizeOf3 rfl rfl) (fun a hf => ?_)
                refine D.val hf (v := .int .i64 x1.Slot) rfl rfl rfl (V.loadEl (off := 0) (Ag.args _ _ _) (hv_r.flat hx1) rfl rfl rfl Tryd.isAgg3 Tryd.sizeOf3 rfl rfl) (fun a hf => ?_)
                refine D.val hf (v := .bool (decide (xk1.Slot ≤ x1.Slot))) rfl rfl rfl (V.pure rfl) (fun a hf => ?_)
                refine D.val hf (v := .bool (decide (xk1.Slot ≤ x1.Slot))) rfl rfl rfl (V.pure rfl) (fun a hf => ?_)
                refine D.val hf (v := .bool (decide (xk1.Slot ≤ x1.Slot))) rfl rfl rfl (V.pure rfl) (fun a hf => ?_)
                refine D.done (fun w hs => ?_)
                refine X.then_ ?_
                exact ⟨(decide (xk1.Slot ≤ x1.Slot)), h, (((((hf.nil.cons (hf.get 30 _ rfl)).cons (hf.get 10 _ rfl)).cons (hf.get 9 _ rfl)).cons (hf.get 8 _ rfl)).cons (hf.get 0 _ rfl)), hs⟩
              · replace h := h.2 hc
                refine D.skip hf rfl rfl rfl (fun a hf => ?_)
                refine D.skip hf rfl rfl rfl (fun a hf => ?_)
                refine D.skip hf rfl rfl rfl (fun a hf => ?_)
                refine D.skip hf rfl rfl rfl (fun a hf => ?_)
                refine D.skip hf rfl rfl rfl (fun a hf => ?_)
                refine D.skip hf rfl rfl rfl (fun a hf => ?_)
                refine D.skip hf rfl rfl rfl (fun a hf => ?_)
                refine D.skip hf rfl rfl rfl (fun a hf => ?_)
                refine D.skip hf rfl rfl rfl (fun a hf => ?_)
                refine D.val hf (v := .bool false) rfl rfl rfl (V.pure rfl) (fun a hf => ?_)
                refine D.val hf (v := .bool false) rfl rfl rfl (V.pure rfl) (fun a hf => ?_)
                refine D.done (fun w hs => ?_)
                refine X.then_ ?_
                exact ⟨false, h, (((((hf.nil.cons (hf.get 30 _ rfl)).cons (hf.get 10 _ rfl)).cons (hf.get 9 _ rfl)).cons (hf.get 8 _ rfl)).cons (hf.get 0 _ rfl)), hs⟩

set_option linter.unusedVariables false
def M_index_inst_L1 (v_ : Instead) (Q : Int → Prop) (k1 : Nat) (xk1 : Instead)  (next1 : Prop) : Prop :=
  cnd (decide (v_ = xk1)) (Q (k1 : Int)) (next1)
def M_index_inst (s_ : (List Instead)) (v_ : Instead) (Q : Int → Prop) : Prop :=
  forIn' (fun k x (s : Unit) next => M_index_inst_L1 v_ Q k x (next ())) (fun (s : Unit) => Q (-1)) s_ 0 ()
set_option maxHeartbeats 1000000 in
theorem R_index_inst (s_ : (List Instead)) (v_ : Instead) (w0 : World) (s_A : Option Addr) (s_C : Nat) (hv_s_ : View w0 (old w0 none_) s_A s_C s_) (Q : Int → Prop) (h : M_index_inst s_ v_ Q) :
    Ret Tryd.prog 105 #[.slice s_A s_.length s_C, .agg #[.string (ba v_.Typ), .string (ba v_.By)]] w0 fun v w' => ∃ (r0 : Int), v = .int .i64 r0 ∧ Q r0 ∧ Sat w0 none_ [] w' := by
  refine fn_enter Tryd.func105 rfl Tryd.ntmps105 rfl (fs := [(0, .slice s_A s_.length s_C), (1, .agg #[.string (ba v_.Typ), .string (ba v_.By)])]) rfl (fun a hf => ?_)
  have hs := Sat.start w0 none_
  unfold M_index_inst at h
  refine wp_seq ?_
  refine R.list ?_
  refine S.box hf hs rfl rfl rfl [.string (ba v_.Typ), .string (ba v_.By)] rfl rfl rfl (fun g1 a w hf hs => ?_)
  refine S.val hf hs (v := .int .i64 0) rfl rfl rfl (V.pure rfl) (fun a hf => ?_)
  refine R.nil ?_
  refine X.then_ ?_
  refine wp_seq ?_
  refine wp_seq ?_
  refine R.list ?_
  refine S.val hf hs (v := .slice s_A s_.length s_C) rfl rfl rfl (V.pure rfl) (fun a hf => ?_)
  refine S.val hf hs (v := .int .i64 (s_.length : Int)) rfl rfl rfl (V.len rfl rfl Tryd.runUnderlying44) (fun a hf => ?_)
  refine S.val hf hs (v := .int .i64 0) rfl rfl rfl (V.pure rfl) (fun a hf => ?_)
  refine R.nil ?_
  refine X.then_ ?_
  refine wp_block ?_
  have hlenk1 := hv_s_.len64
  refine C.range (fun (ll : List Instead) a w => ∃ (k1 : Nat) , s_.drop k1 = ll ∧ k1 + ll.length = s_.length ∧ forIn' (fun k x (s : Unit) next => M_index_inst_L1 v_ Q k x (next ())) (fun (s : Unit) => Q (-1)) ll k1 () ∧ FrOk 19 [(8, .int .i64 (k1 : Int)), (0, .slice s_A s_.length s_C), (3, .pointer (some ⟨g1, 0, none⟩)), (7, .int .i64 (s_.length : Int))] a ∧ Sat w0 none_ [hbox g1 121 [.string (ba v_.Typ), .string (ba v_.By)]] w) s_ ⟨0, rfl, Nat.zero_add _, h, ((((hf.nil.cons (hf.get 7 _ rfl)).cons (hf.get 3 _ rfl)).cons (hf.get 0 _ rfl)).cons (hf.get 8 _ rfl)), hs⟩ ?_
  clear h hf hs
  rintro llk1 a w ⟨k1, hlk1, hkk1, h, hf, hs⟩
  cases llk1 with
  | nil =>
    have hc := range_done hkk1
    replace h : Q (-1) := h
    refine wp_seq ?_
    refine R.list ?_
    refine S.val hf hs (v := .bool false) rfl rfl rfl (V.cmp false rfl rfl rfl rfl hc) (fun a hf => ?_)
    refine R.nil ?_
    refine X.then_ ?_
    refine wp_seq ?_
    refine C.no hf rfl ?_
    refine wp_exit ?_
    refine X.then_exit ?_
    refine X.then_exit ?_
    refine X.blk_exit ?_
    refine X.then_ ?_
    refine wp_seq ?_
    refine R.list ?_
    refine S.val hf hs (v := .int .i64 (-1)) rfl rfl rfl (V.pure rfl) (fun a hf => ?_)
    refine R.nil ?_
    refine X.then_ ?_
    refine wp_ret ?_
    exact L.ret hf (run_results1 Tryd.results105 (ResIs.tmp hf rfl)) ⟨(-1), rfl, h, hs.nil⟩
  | cons xk1 llk1 =>
    have hltk1 := range_lt hkk1; have hc := range_go hkk1; have hxk1 := range_get hlk1
    obtain ⟨next1, hnext1⟩ : ∃ X : Prop, X = (forIn' (fun k x (s : Unit) next => M_index_inst_L1 v_ Q k x (next ())) (fun (s : Unit) => Q (-1)) llk1 (k1 + 1) ()) := ⟨_, rfl⟩
    replace h : M_index_inst_L1 v_ Q k1 xk1  next1 := by rw [hnext1]; exact h
    unfold M_index_inst_L1 at h
    refine wp_seq ?_
    refine R.list ?_
    refine S.val hf hs (v := .bool true) rfl rfl rfl (V.cmp true rfl rfl rfl rfl hc) (fun a hf => ?_)
    refine R.nil ?_
    refine X.then_ ?_
    refine wp_seq ?_
    refine C.yes hf rfl ?_
    refine wp_skip ?_
    refine X.then_ ?_
    refine wp_seq ?_
    refine wp_block ?_
    refine wp_seq ?_
    refine R.list ?_
    refine S.val hf hs (v := .int .i64 (k1 : Int)) rfl rfl rfl (V.pure rfl) (fun a hf => ?_)
    refine S.val hf hs (v := .int .i64 (k1 : Int)) rfl rfl rfl (V.pure rfl) (fun a hf => ?_)
    refine R.nil ?_
    refine X.then_ ?_
    refine wp_seq ?_
    refine R.draw mo (by kernel_rfl) hs ?_
    refine D.val hf (v := .agg #[.string (ba v_.Typ), .string (ba v_.By)]) rfl rfl rfl (V.loadBox 0 rfl rfl rfl Tryd.isAgg121 Tryd.sizeOf121 rfl rfl) (fun a hf => ?_)
    refine D.val hf (v := .slice s_A s_.length s_C) rfl rfl rfl (V.pure rfl) (fun a hf => ?_)
    refine D.val hf (v := .int .i64 (k1 : Int)) rfl rfl rfl (V.pure rfl) (fun a hf => ?_)
    refine D.val hf (v := elemPtr s_A (k1 * 2)) rfl rfl rfl (V.index rfl rfl rfl Tryd.runUnderlying44 Tryd.sizeOf121 (hv_s_.some_ (lt_of_get hxk1)) (Int.natCast_nonneg _) (lt_of_get hxk1) rfl) (fun a hf => ?_)
    refine D.val hf (v := .agg #[.string (ba xk1.Typ), .string (ba xk1.By)]) rfl rfl rfl (V.loadEl (off := 0) (Ag.args _ _ _) (hv_s_.flat hxk1) rfl rfl rfl Tryd.isAgg121 Tryd.sizeOf121 rfl rfl) (fun a hf => ?_)
    refine D.val hf (v := .bool (decide (v_ = xk1))) rfl rfl rfl (V.aggeql rfl rfl rfl (by kernel_rfl) (fun w => eqS121 v_ xk1 w)) (fun a hf => ?_)
    refine D.done (fun w hs => ?_)
    refine X.then_ ?_
    refine C.cond hf (b := decide (v_ = xk1)) rfl (fun hc => ?_) (fun hc => ?_)
    · replace h := h.1 hc
      refine wp_seq ?_
      refine R.list ?_
      refine S.val hf hs (v := .int .i64 (k1 : Int)) rfl rfl rfl (V.pure rfl) (fun a hf => ?_)
      refine S.val hf hs (v := .int .i64 (k1 : Int)) rfl rfl rfl (V.pure rfl) (fun a hf => ?_)
      refine R.nil ?_
      refine X.then_ ?_
      refine wp_ret ?_
      refine X.blk_ret ?_
      refine X.then_ret ?_
      refine X.then_ret ?_
      refine X.blk_ret ?_
      refine X.then_ret ?_
      exact L.ret hf (run_results1 Tryd.results105 (ResIs.tmp hf rfl)) ⟨(k1 : Int), rfl, h, hs.nil⟩
    · replace h := h.2 hc
      refine wp_skip ?_
      refine X.blk ?_
      refine X.then_ ?_
      refine R.list ?_
      refine S.val hf hs (v := .int .i64 ((k1 + 1 : Nat) : Int)) rfl rfl rfl (V.incr rfl rfl rfl hltk1 hlenk1) (fun a hf => ?_)
      refine S.val hf hs (v := .int .i64 ((k1 + 1 : Nat) : Int)) rfl rfl rfl (V.pure rfl) (fun a hf => ?_)
      refine R.nil ?_
      refine X.then_ ?_
      exact ⟨xk1, llk1, rfl, k1 + 1, range_drop hlk1, range_len hkk1, (by rw [hnext1] at h; exact h), ((((hf.nil.cons (hf.get 7 _ rfl)).cons (hf.get 3 _ rfl)).cons (hf.get 0 _ rfl)).cons (hf.get 8 _ rfl)), hs⟩

set_option linter.unusedVariables false
def M_contains_inst (s_ : (List Instead)) (v_ : Instead) (Q : Bool → Prop) : Prop :=
  M_index_inst s_ v_ fun y1 => Q (decide (y1 ≥ 0))
set_option maxHeartbeats 1000000 in
theorem R_contains_inst (s_ : (List Instead)) (v_ : Instead) (w0 : World) (s_A : Option Addr) (s_C : Nat) (hv_s_ : View w0 (old w0 none_) s_A s_C s_) (Q : Bool → Prop) (h : M_contains_inst s_ v_ Q) :
    Ret Tryd.prog 84 #[.slice s_A s_.length s_C, .agg #[.string (ba v_.Typ), .string (ba v_.By)]] w0 fun v w' => ∃ (r0 : Bool), v = .bool r0 ∧ Q r0 ∧ Sat w0 none_ [] w' := by
  refine fn_enter Tryd.func84 rfl Tryd.ntmps84 rfl (fs := [(0, .slice s_A s_.length s_C), (1, .agg #[.string (ba v_.Typ), .string (ba v_.By)])]) rfl (fun a hf => ?_)
  have hs := Sat.start w0 none_
  unfold M_contains_inst at h
  refine wp_seq ?_
  refine R.list ?_
  refine S.box hf hs rfl rfl rfl [.string (ba v_.Typ), .string (ba v_.By)] rfl rfl rfl (fun g1 a w hf hs => ?_)
  refine S.val hf hs (v := .bool false) rfl rfl rfl (V.pure rfl) (fun a hf => ?_)
  refine R.nil ?_
  refine X.then_ ?_
  refine wp_seq ?_
  refine R.list ?_
  refine S.val hf hs (v := .slice s_A s_.length s_C) rfl rfl rfl (V.pure rfl) (fun a hf => ?_)
  refine S.val hf hs (v := .agg #[.string (ba v_.Typ), .string (ba v_.By)]) rfl rfl rfl (V.loadBox 0 rfl rfl rfl Tryd.isAgg121 Tryd.sizeOf121 rfl rfl) (fun a hf => ?_)
  refine S.call hf rfl rfl rfl (call_fn (vs := [.slice s_A s_.length s_C, .agg #[.string (ba v_.Typ), .string (ba v_.By)]]) rfl rfl rfl Tryd.call105) (R_index_inst s_ v_ _ s_A s_C ((Ag.args _ _ _).view hv_s_ hs) _ h) (fun v a w' hf hr => ?_)
  obtain ⟨y1, rfl, h2, hs2⟩ := hr
  replace h := h2; replace hs := hs.call hs2; clear h2 hs2
  refine S.val hf hs (v := .bool (decide (y1 ≥ 0))) rfl rfl rfl (V.pure rfl) (fun a hf => ?_)
  refine S.val hf hs (v := .bool (decide (y1 ≥ 0))) rfl rfl rfl (V.pure rfl) (fun a hf => ?_)
  refine R.nil ?_
  refine X.then_ ?_
  refine wp_ret ?_
  exact L.ret hf (run_results1 Tryd.results84 (ResIs.tmp hf rfl)) ⟨(decide (y1 ≥ 0)), rfl, h, hs.nil⟩

set_option linter.unusedVariables false
def M_mount_checkInstead_k2 (s_ : (List Instead)) (Q : Int → Prop) (k1 : Nat) (xk1 : Instead) (next1 : Prop) (c1 : Bool) : Prop :=
  cnd c1 (Q 5) (cnd (xk1.Typ == xk1.By) (Q 12) (must (0 ≤ (0 : Int) ∧ (0 : Int) ≤ (k1 : Int) ∧ (k1 : Int) ≤ (s_.length : Int)) (M_contains_inst (seg s_ (0 : Int) (k1 : Int)) xk1 fun y1 => cnd y1 (Q 7) (next1))))
def M_mount_checkInstead_L1 (s_ : (List Instead)) (Q : Int → Prop) (k1 : Nat) (xk1 : Instead)  (next1 : Prop) : Prop :=
  M_netlist_IsWord xk1.Typ fun y2 => cnd (!y2) (M_mount_checkInstead_k2 s_ Q k1 xk1 next1 true) (M_netlist_IsWord xk1.By fun y3 => M_mount_checkInstead_k2 s_ Q k1 xk1 next1 (!y3))
def M_mount_checkInstead (s_ : (List Instead)) (Q : Int → Prop) : Prop :=
  cnd (decide ((s_.length : Int) > 200)) (Q 2) (forIn' (fun k x (s : Unit) next => M_mount_checkInstead_L1 s_ Q k x (next ())) (fun (s : Unit) => Q 0) s_ 0 ())
set_option maxHeartbeats 1000000 in
theorem R_mount_checkInstead (s_ : (List Instead)) (w0 : World) (s_A : Option Addr) (s_C : Nat) (hv_s_ : View w0 (old w0 none_) s_A s_C s_) (Q : Int → Prop) (h : M_mount_checkInstead s_ Q) :
    Ret Tryd.prog 53 #[.slice s_A s_.length s_C] w0 fun v w' => ∃ (r0 : Int), v = .int .i64 r0 ∧ Q r0 ∧ Sat w0 none_ [] w' := by
  refine fn_enter Tryd.func53 rfl Tryd.ntmps53 rfl (fs := [(0, .slice s_A s_.length s_C)]) rfl (fun a hf => ?_)
  have hs := Sat.start w0 none_
  unfold M_mount_checkInstead at h
  refine wp_seq ?_
  refine R.list ?_
  refine S.val hf hs (v := .int .i64 0) rfl rfl rfl (V.pure rfl) (fun a hf => ?_)
  refine R.nil ?_
  refine X.then_ ?_
  refine wp_seq ?_
  refine wp_seq ?_
  refine R.list ?_
  refine S.val hf hs (v := .slice s_A s_.length s_C) rfl rfl rfl (V.pure rfl) (fun a hf => ?_)
  refine S.val hf hs (v := .int .i64 (s_.length : Int)) rfl rfl rfl (V.len rfl rfl Tryd.runUnderlying44) (fun a hf => ?_)
  refine S.val hf hs (v := .bool (decide ((s_.length : Int) > 200))) rfl rfl rfl (V.pure rfl) (fun a hf => ?_)
  refine R.nil ?_
  refine X.then_ ?_
  refine C.cond hf (b := decide ((s_.length : Int) > 200)) rfl (fun hc => ?_) (fun hc => ?_)
  · replace h := h.1 hc
    refine wp_seq ?_
    refine R.list ?_
    refine S.val hf hs (v := .int .i64 2) rfl rfl rfl (V.pure rfl) (fun a hf => ?_)
    refine R.nil ?_
    refine X.then_ ?_
    refine wp_ret ?_
    refine X.then_ret ?_
    exact L.ret hf (run_results1 Tryd.results53 (ResIs.tmp hf rfl)) ⟨2, rfl, h, hs.nil⟩
  · replace h := h.2 hc
    refine wp_skip ?_
    refine X.then_ ?_
    refine wp_seq ?_
    refine wp_seq ?_
    refine R.list ?_
    refine S.val hf hs (v := .slice s_A s_.length s_C) rfl rfl rfl (V.pure rfl) (fun a hf => ?_)
    refine S.val hf hs (v := .int .i64 (s_.length : Int)) rfl rfl rfl (V.len rfl rfl Tryd.runUnderlying44) (fun a hf => ?_)
    refine S.val hf hs (v := .int .i64 0) rfl rfl rfl (V.pure rfl) (fun a hf => ?_)
    refine R.nil ?_
    refine X.then_ ?_
    refine wp_block ?_
    have hlenk1 := hv_s_.len64
    refine C.range (fun (ll : List Instead) a w => ∃ (k1 : Nat) , s_.drop k1 = ll ∧ k1 + ll.length = s_.length ∧ forIn' (fun k x (s : Unit) next => M_mount_checkInstead_L1 s_ Q k x (next ())) (fun (s : Unit) => Q 0) ll k1 () ∧ FrOk 39 [(10, .int .i64 (k1 : Int)), (0, .slice s_A s_.length s_C), (8, .slice s_A s_.length s_C), (9, .int .i64 (s_.length : Int))] a ∧ Sat w0 none_ [] w) s_ ⟨0, rfl, Nat.zero_add _, h, ((((hf.nil.cons (hf.get 9 _ rfl)).cons (hf.get 8 _ rfl)).cons (hf.get 0 _ rfl)).cons (hf.get 10 _ rfl)), hs⟩ ?_
    clear h hf hs
    rintro llk1 a w ⟨k1, hlk1, hkk1, h, hf, hs⟩
    cases llk1 with
    | nil =>
      have hc := range_done hkk1
      replace h : Q 0 := h
      refine wp_seq ?_
      refine R.list ?_
      refine S.val hf hs (v := .bool false) rfl rfl rfl (V.cmp false rfl rfl rfl rfl hc) (fun a hf => ?_)
      refine R.nil ?_
      refine X.then_ ?_
      refine wp_seq ?_
      refine C.no hf rfl ?_
      refine wp_exit ?_
      refine X.then_exit ?_
      refine X.then_exit ?_
      refine X.blk_exit ?_
      refine X.then_ ?_
      refine wp_seq ?_
      refine R.list ?_
      refine S.val hf hs (v := .int .i64 0) rfl rfl rfl (V.pure rfl) (fun a hf => ?_)
      refine R.nil ?_
      refine X.then_ ?_
      refine wp_ret ?_
      exact L.ret hf (run_results1 Tryd.results53 (ResIs.tmp hf rfl)) ⟨0, rfl, h, hs.nil⟩
    | cons xk1 llk1 =>
      have hltk1 := range_lt hkk1; have hc := range_go hkk1; have hxk1 := range_get hlk1
      obtain ⟨next1, hnext1⟩ : ∃ X : Prop, X = (forIn' (fun k x (s : Unit) next => M_mount_checkInstead_L1 s_ Q k x (next ())) (fun (s : Unit) => Q 0) llk1 (k1 + 1) ()) := ⟨_, rfl⟩
      replace h : M_mount_checkInstead_L1 s_ Q k1 xk1  next1 := by rw [hnext1]; exact h
      unfold M_mount_checkInstead_L1 at h
      refine wp_seq ?_
      refine R.list ?_
      refine S.val hf hs (v := .bool true) rfl rfl rfl (V.cmp true rfl rfl rfl rfl hc) (fun a hf => ?_)
      refine R.nil ?_
      refine X.then_ ?_
      refine wp_seq ?_
      refine C.yes hf rfl ?_
      refine wp_skip ?_
      refine X.then_ ?_
      refine wp_seq ?_
      refine wp_block ?_
      refine wp_seq ?_
      refine R.list ?_
      refine S.val hf hs (v := .int .i64 (k1 : Int)) rfl rfl rfl (V.pure rfl) (fun a hf => ?_)
      refine S.val hf hs (v := elemPtr s_A (k1 * 2)) rfl rfl rfl (V.index rfl rfl rfl Tryd.runUnderlying44 Tryd.sizeOf121 (hv_s_.some_ (lt_of_get hxk1)) (Int.natCast_nonneg _) (lt_of_get hxk1) rfl) (fun a hf => ?_)
      refine S.val hf hs (v := .agg #[.string (ba xk1.Typ), .string (ba xk1.By)]) rfl rfl rfl (V.loadEl (off := 0) (Ag.args _ _ _) (hv_s_.flat hxk1) rfl rfl rfl Tryd.isAgg121 Tryd.sizeOf121 rfl rfl) (fun a hf => ?_)
      refine S.alloc hf hs rfl rfl rfl [.string (ba []), .string (ba [])] rfl Tryd.zeroValue121 rfl (fun g1 a w hf hs => ?_)
      refine S.val hf hs (v := .int .i64 (k1 : Int)) rfl rfl rfl (V.pure rfl) (fun a hf => ?_)
      refine S.storeBox 0 hf hs rfl rfl [.string (ba xk1.Typ), .string (ba xk1.By)] [.string (ba xk1.Typ), .string (ba xk1.By)] rfl rfl rfl rfl rfl Tryd.sizeOf121 rfl rfl rfl rfl (fun a w hf hs => ?_)
      refine R.nil ?_
      refine X.then_ ?_
      refine wp_block ?_
      refine wp_seq ?_
      refine C.cut (J := fun a w => ∃ (c1 : Bool), M_mount_checkInstead_k2 s_ Q k1 xk1 next1 c1 ∧ FrOk 39 [(0, .slice s_A s_.length s_C), (3, .int .i64 (k1 : Int)), (4, .pointer (some ⟨g1, 0, none⟩)), (8, .slice s_A s_.length s_C), (9, .int .i64 (s_.length : Int)), (10, .int .i64 (k1 : Int)), (15, .bool c1)] a ∧ Sat w0 none_ [hbox g1 121 [.string (ba xk1.Typ), .string (ba xk1.By)]] w) ?_ ?_
      · rintro a w ⟨c1, h, hf, hs⟩
        unfold M_mount_checkInstead_k2 at h
        refine C.cond hf (b := c1) rfl (fun hc => ?_) (fun hc => ?_)
        · replace h := h.1 hc
          refine wp_seq ?_
          refine R.list ?_
          refine S.val hf hs (v := .int .i64 5) rfl rfl rfl (V.pure rfl) (fun a hf => ?_)
          refine R.nil ?_
          refine X.then_ ?_
          refine wp_ret ?_
          refine X.blk_ret ?_
          refine X.blk_ret ?_
          refine X.then_ret ?_
          refine X.then_ret ?_
          refine X.blk_ret ?_
          refine X.then_ret ?_
          exact L.ret hf (run_results1 Tryd.results53 (ResIs.tmp hf rfl)) ⟨5, rfl, h, hs.nil⟩
        · replace h := h.2 hc
          refine wp_seq ?_
          refine R.list ?_
          refine S.val hf hs (v := .pointer (some ⟨g1, 0, none⟩)) rfl rfl rfl (V.fieldBox rfl rfl Tryd.runUnderlying121 rfl Tryd.sizeOf9 rfl rfl) (fun a hf => ?_)
          refine S.val hf hs (v := .string (ba xk1.Typ)) rfl rfl rfl (V.loadBox 0 rfl rfl rfl Tryd.isAgg9 Tryd.sizeOf9 rfl rfl) (fun a hf => ?_)
          refine S.val hf hs (v := .pointer (some ⟨g1, 1, none⟩)) rfl rfl rfl (V.fieldBox rfl rfl Tryd.runUnderlying121 rfl Tryd.sizeOf9 rfl rfl) (fun a hf => ?_)
          refine S.val hf hs (v := .string (ba xk1.By)) rfl rfl rfl (V.loadBox 0 rfl rfl rfl Tryd.isAgg9 Tryd.sizeOf9 rfl rfl) (fun a hf => ?_)
          refine S.val hf hs (v := .bool (xk1.Typ == xk1.By)) rfl rfl rfl (V.strCmp (xk1.Typ == xk1.By) rfl rfl rfl rfl) (fun a hf => ?_)
          refine S.val hf hs (v := .bool (xk1.Typ == xk1.By)) rfl rfl rfl (V.pure rfl) (fun a hf => ?_)
          refine R.nil ?_
          refine X.then_ ?_
          refine C.cond hf (b := xk1.Typ == xk1.By) rfl (fun hc => ?_) (fun hc => ?_)
          · replace h := h.1 hc
            refine wp_seq ?_
            refine R.list ?_
            refine S.val hf hs (v := .int .i64 12) rfl rfl rfl (V.pure rfl) (fun a hf => ?_)
            refine R.nil ?_
            refine X.then_ ?_
            refine wp_ret ?_
            refine X.blk_ret ?_
            refine X.blk_ret ?_
            refine X.then_ret ?_
            refine X.then_ret ?_
            refine X.blk_ret ?_
            refine X.then_ret ?_
            exact L.ret hf (run_results1 Tryd.results53 (ResIs.tmp hf rfl)) ⟨12, rfl, h, hs.nil⟩
          · replace h := h.2 hc
            refine wp_seq ?_
            refine H.start (S := Sat w0 none_ [hbox g1 121 [.string (ba xk1.Typ), .string (ba xk1.By)]]) mo ?_
            replace hs := hs.drew
            refine H.val hf hs (v := .slice s_A s_.length s_C) (i := 0) rfl rfl rfl rfl (by kernel_rfl) (by kernel_rfl) (by kernel_rfl) (V.pure rfl) (fun a hf => ?_)
            refine H.val hf hs (v := .int .i64 (k1 : Int)) (i := 1) rfl rfl rfl rfl (by kernel_rfl) (by kernel_rfl) (by kernel_rfl) (V.pure rfl) (fun a hf => ?_)
            obtain ⟨hp1, h⟩ := h
            refine H.val hf hs (v := .slice (segA s_A s_C ((0 : Int) : Int).toNat 2) (seg s_ (0 : Int) (k1 : Int)).length (s_C - ((0 : Int) : Int).toNat)) (i := 2) rfl rfl rfl rfl (by kernel_rfl) (by kernel_rfl) (by kernel_rfl) (V.slice rfl rfl rfl rfl Tryd.runUnderlying44 Tryd.sizeOf121 rfl rfl hp1 hv_s_.cap (seg_length (by have := hp1.2.2; omega))) (fun a hf => ?_)
            refine H.val hf hs (v := .agg #[.string (ba xk1.Typ), .string (ba xk1.By)]) (i := 3) rfl rfl rfl rfl (by kernel_rfl) (by kernel_rfl) (by kernel_rfl) (V.loadBox 0 rfl rfl rfl Tryd.isAgg121 Tryd.sizeOf121 rfl rfl) (fun a hf => ?_)
            refine H.one (i := 4) rfl (by kernel_rfl) ?_
            refine S.call hf rfl rfl rfl (call_fn (vs := [.slice (segA s_A s_C ((0 : Int) : Int).toNat 2) (seg s_ (0 : Int) (k1 : Int)).length (s_C - ((0 : Int) : Int).toNat), .agg #[.string (ba xk1.Typ), .string (ba xk1.By)]]) rfl rfl rfl Tryd.call84) (R_contains_inst (seg s_ (0 : Int) (k1 : Int)) xk1 _ (segA s_A s_C ((0 : Int) : Int).toNat 2) (s_C - ((0 : Int) : Int).toNat) ((Ag.args _ _ _).view (View.sub hv_s_ hp1) hs) _ h) (fun v a w' hf hr => ?_)
            obtain ⟨y1, rfl, h2, hs2⟩ := hr
            replace h := h2; replace hs := hs.call hs2; clear h2 hs2
            refine R.nil ?_
            refine X.then_ ?_
            refine ⟨hs, ?_⟩
            refine H.val hf hs (v := .bool y1) (i := 5) rfl rfl rfl rfl (by kernel_rfl) (by kernel_rfl) (by kernel_rfl) (V.pure rfl) (fun a hf => ?_)
            refine H.done (by kernel_rfl) ?_
            refine X.then_ ?_
            refine C.cond hf (b := y1) rfl (fun hc => ?_) (fun hc => ?_)
            · replace h := h.1 hc
              refine wp_seq ?_
              refine R.list ?_
              refine S.val hf hs (v := .int .i64 7) rfl rfl rfl (V.pure rfl) (fun a hf => ?_)
              refine R.nil ?_
              refine X.then_ ?_
              refine wp_ret ?_
              refine X.blk_ret ?_
              refine X.blk_ret ?_
              refine X.then_ret ?_
              refine X.then_ret ?_
              refine X.blk_ret ?_
              refine X.then_ret ?_
              exact L.ret hf (run_results1 Tryd.results53 (ResIs.tmp hf rfl)) ⟨7, rfl, h, hs.nil⟩
            · replace h := h.2 hc
              refine wp_skip ?_
              refine X.blk ?_
              refine X.blk ?_
              refine X.then_ ?_
              refine R.list ?_
              refine S.val hf hs (v := .int .i64 ((k1 + 1 : Nat) : Int)) rfl rfl rfl (V.incr rfl rfl rfl hltk1 hlenk1) (fun a hf => ?_)
              refine S.val hf hs (v := .int .i64 ((k1 + 1 : Nat) : Int)) rfl rfl rfl (V.pure rfl) (fun a hf => ?_)
              refine R.nil ?_
              refine X.then_ ?_
              exact ⟨xk1, llk1, rfl, k1 + 1, range_drop hlk1, range_len hkk1, (by rw [hnext1] at h; exact h), ((((hf.nil.cons (hf.get 9 _ rfl)).cons (hf.get 8 _ rfl)).cons (hf.get 0 _ rfl)).cons (hf.get 10 _ rfl)), hs.drop⟩
      · skip
        refine R.list ?_
        refine S.val hf hs (v := .pointer (some ⟨g1, 0, none⟩)) rfl rfl rfl (V.fieldBox rfl rfl Tryd.runUnderlying121 rfl Tryd.sizeOf9 rfl rfl) (fun a hf => ?_)
        refine S.val hf hs (v := .string (ba xk1.Typ)) rfl rfl rfl (V.loadBox 0 rfl rfl rfl Tryd.isAgg9 Tryd.sizeOf9 rfl rfl) (fun a hf => ?_)
        refine S.call hf rfl rfl rfl (call_fn (vs := [.string (ba xk1.Typ)]) rfl rfl rfl Tryd.call74) (R_netlist_IsWord xk1.Typ _  _ h) (fun v a w' hf hr => ?_)
        obtain ⟨y2, rfl, h2, hs2⟩ := hr
        replace h := h2; replace hs := hs.call hs2; clear h2 hs2
        refine S.val hf hs (v := .bool (!y2)) rfl rfl rfl (V.pure rfl) (fun a hf => ?_)
        refine S.split hf hs (b := !y2) rfl rfl rfl (V.pure rfl) (fun hc a hf => ?_) (fun hc a hf => ?_)
        · replace h := h.1 hc
          refine S.skip hf rfl rfl rfl (fun a hf => ?_)
          refine S.skip hf rfl rfl rfl (fun a hf => ?_)
          refine S.skip hf rfl rfl rfl (fun a hf => ?_)
          refine S.skip hf rfl rfl rfl (fun a hf => ?_)
          refine S.val hf hs (v := .bool true) rfl rfl rfl (V.pure rfl) (fun a hf => ?_)
          refine S.val hf hs (v := .bool true) rfl rfl rfl (V.pure rfl) (fun a hf => ?_)
          refine R.nil ?_
          refine X.then_ ?_
          exact ⟨true, h, (((((((hf.nil.cons (hf.get 15 _ rfl)).cons (hf.get 10 _ rfl)).cons (hf.get 9 _ rfl)).cons (hf.get 8 _ rfl)).cons (hf.get 4 _ rfl)).cons (hf.get 3 _ rfl)).cons (hf.get 0 _ rfl)), hs⟩
        · replace h := h.2 hc
          refine S.val hf hs (v := .pointer (some ⟨g1, 1, none⟩)) rfl rfl rfl (V.fieldBox rfl rfl Tryd.runUnderlying121 rfl Tryd.sizeOf9 rfl rfl) (fun a hf => ?_)
          refine S.val hf hs (v := .string (ba xk1.By)) rfl rfl rfl (V.loadBox 0 rfl rfl rfl Tryd.isAgg9 Tryd.sizeOf9 rfl rfl) (fun a hf => ?_)
          refine S.call hf rfl rfl rfl (call_fn (vs := [.string (ba xk1.By)]) rfl rfl rfl Tryd.call74) (R_netlist_IsWord xk1.By _  _ h) (fun v a w' hf hr => ?_)
          obtain ⟨y3, rfl, h2, hs2⟩ := hr
          replace h := h2; replace hs := hs.call hs2; clear h2 hs2
          refine S.val hf hs (v := .bool (!y3)) rfl rfl rfl (V.pure rfl) (fun a hf => ?_)
          refine S.val hf hs (v := .bool (!y3)) rfl rfl rfl (V.pure rfl) (fun a hf => ?_)
          refine S.val hf hs (v := .bool (!y3)) rfl rfl rfl (V.pure rfl) (fun a hf => ?_)
          refine R.nil ?_
          refine X.then_ ?_
          exact ⟨(!y3), h, (((((((hf.nil.cons (hf.get 15 _ rfl)).cons (hf.get 10 _ rfl)).cons (hf.get 9 _ rfl)).cons (hf.get 8 _ rfl)).cons (hf.get 4 _ rfl)).cons (hf.get 3 _ rfl)).cons (hf.get 0 _ rfl)), hs⟩

set_option linter.unusedVariables false
def M_ref10_checkInsteads_k2 (s_ : (List Instead)) (Q : Int → Prop) (k1 : Nat) (xk1 : Instead) (next1 : Prop) (c1 : Bool) : Prop :=
  cnd c1 (Q 5) (cnd (xk1.Typ == xk1.By) (Q 12) (must (0 ≤ (0 : Int) ∧ (0 : Int) ≤ (k1 : Int) ∧ (k1 : Int) ≤ (s_.length : Int)) (M_contains_inst (seg s_ (0 : Int) (k1 : Int)) xk1 fun y1 => cnd y1 (Q 7) (next1))))
def M_ref10_checkInsteads_L1 (s_ : (List Instead)) (Q : Int → Prop) (k1 : Nat) (xk1 : Instead)  (next1 : Prop) : Prop :=
  M_ref10_isWord xk1.Typ fun y2 => cnd (!y2) (M_ref10_checkInsteads_k2 s_ Q k1 xk1 next1 true) (M_ref10_isWord xk1.By fun y3 => M_ref10_checkInsteads_k2 s_ Q k1 xk1 next1 (!y3))
def M_ref10_checkInsteads (s_ : (List Instead)) (Q : Int → Prop) : Prop :=
  cnd (decide ((s_.length : Int) > 200)) (Q 2) (forIn' (fun k x (s : Unit) next => M_ref10_checkInsteads_L1 s_ Q k x (next ())) (fun (s : Unit) => Q 0) s_ 0 ())
set_option maxHeartbeats 1000000 in
theorem R_ref10_checkInsteads (s_ : (List Instead)) (w0 : World) (s_A : Option Addr) (s_C : Nat) (hv_s_ : View w0 (old w0 none_) s_A s_C s_) (Q : Int → Prop) (h : M_ref10_checkInsteads s_ Q) :
    Ret Tryd.prog 88 #[.slice s_A s_.length s_C] w0 fun v w' => ∃ (r0 : Int), v = .int .i64 r0 ∧ Q r0 ∧ Sat w0 none_ [] w' := by
  refine fn_enter Tryd.func88 rfl Tryd.ntmps88 rfl (fs := [(0, .slice s_A s_.length s_C)]) rfl (fun a hf => ?_)
  have hs := Sat.start w0 none_
  unfold M_ref10_checkInsteads at h
  refine wp_seq ?_
  refine R.list ?_
  refine S.val hf hs (v := .int .i64 0) rfl rfl rfl (V.pure rfl) (fun a hf => ?_)
  refine R.nil ?_
  refine X.then_ ?_
  refine wp_seq ?_
  refine wp_seq ?_
  refine R.list ?_
  refine S.val hf hs (v := .slice s_A s_.length s_C) rfl rfl rfl (V.pure rfl) (fun a hf => ?_)
  refine S.val hf hs (v := .int .i64 (s_.length : Int)) rfl rfl rfl (V.len rfl rfl Tryd.runUnderlying44) (fun a hf => ?_)
  refine S.val hf hs (v := .bool (decide ((s_.length : Int) > 200))) rfl rfl rfl (V.pure rfl) (fun a hf => ?_)
  refine R.nil ?_
  refine X.then_ ?_
  refine C.cond hf (b := decide ((s_.length : Int) > 200)) rfl (fun hc => ?_) (fun hc => ?_)
  · replace h := h.1 hc
    refine wp_seq ?_
    refine R.list ?_
    refine S.val hf hs (v := .int .i64 2) rfl rfl rfl (V.pure rfl) (fun a hf => ?_)
    refine R.nil ?_
    refine X.then_ ?_
    refine wp_ret ?_
    refine X.then_ret ?_
    exact L.ret hf (run_results1 Tryd.results88 (ResIs.tmp hf rfl)) ⟨2, rfl, h, hs.nil⟩
  · replace h := h.2 hc
    refine wp_skip ?_
    refine X.then_ ?_
    refine wp_seq ?_
    refine wp_seq ?_
    refine R.list ?_
    refine S.val hf hs (v := .slice s_A s_.length s_C) rfl rfl rfl (V.pure rfl) (fun a hf => ?_)
    refine S.val hf hs (v := .int .i64 (s_.length : Int)) rfl rfl rfl (V.len rfl rfl Tryd.runUnderlying44) (fun a hf => ?_)
    refine S.val hf hs (v := .int .i64 0) rfl rfl rfl (V.pure rfl) (fun a hf => ?_)
    refine R.nil ?_
    refine X.then_ ?_
    refine wp_block ?_
    have hlenk1 := hv_s_.len64
    refine C.range (fun (ll : List Instead) a w => ∃ (k1 : Nat) , s_.drop k1 = ll ∧ k1 + ll.length = s_.length ∧ forIn' (fun k x (s : Unit) next => M_ref10_checkInsteads_L1 s_ Q k x (next ())) (fun (s : Unit) => Q 0) ll k1 () ∧ FrOk 39 [(10, .int .i64 (k1 : Int)), (0, .slice s_A s_.length s_C), (8, .slice s_A s_.length s_C), (9, .int .i64 (s_.length : Int))] a ∧ Sat w0 none_ [] w) s_ ⟨0, rfl, Nat.zero_add _, h, ((((hf.nil.cons (hf.get 9 _ rfl)).cons (hf.get 8 _ rfl)).cons (hf.get 0 _ rfl)).cons (hf.get 10 _ rfl)), hs⟩ ?_
    clear h hf hs
    rintro llk1 a w ⟨k1, hlk1, hkk1, h, hf, hs⟩
    cases llk1 with
    | nil =>
      have hc := range_done hkk1
      replace h : Q 0 := h
      refine wp_seq ?_
      refine R.list ?_
      refine S.val hf hs (v := .bool false) rfl rfl rfl (V.cmp false rfl rfl rfl rfl hc) (fun a hf => ?_)
      refine R.nil ?_
      refine X.then_ ?_
      refine wp_seq ?_
      refine C.no hf rfl ?_
      refine wp_exit ?_
      refine X.then_exit ?_
      refine X.then_exit ?_
      refine X.blk_exit ?_
      refine X.then_ ?_
      refine wp_seq ?_
      refine R.list ?_
      refine S.val hf hs (v := .int .i64 0) rfl rfl rfl (V.pure rfl) (fun a hf => ?_)
      refine R.nil ?_
      refine X.then_ ?_
      refine wp_ret ?_
      exact L.ret hf (run_results1 Tryd.results88 (ResIs.tmp hf rfl)) ⟨0, rfl, h, hs.nil⟩
    | cons xk1 llk1 =>
      have hltk1 := range_lt hkk1; have hc := range_go hkk1; have hxk1 := range_get hlk1
      obtain ⟨next1, hnext1⟩ : ∃ X : Prop, X = (forIn' (fun k x (s : Unit) next => M_ref10_checkInsteads_L1 s_ Q k x (next ())) (fun (s : Unit) => Q 0) llk1 (k1 + 1) ()) := ⟨_, rfl⟩
      replace h : M_ref10_checkInsteads_L1 s_ Q k1 xk1  next1 := by rw [hnext1]; exact h
      unfold M_ref10_checkInsteads_L1 at h
      refine wp_seq ?_
      refine R.list ?_
      refine S.val hf hs (v := .bool true) rfl rfl rfl (V.cmp true rfl rfl rfl rfl hc) (fun a hf => ?_)
      refine R.nil ?_
      refine X.then_ ?_
      refine wp_seq ?_
      refine C.yes hf rfl ?_
      refine wp_skip ?_
      refine X.then_ ?_
      refine wp_seq ?_
      refine wp_block ?_
      refine wp_seq ?_
      refine R.list ?_
      refine S.val hf hs (v := .int .i64 (k1 : Int)) rfl rfl rfl (V.pure rfl) (fun a hf => ?_)
      refine S.val hf hs (v := elemPtr s_A (k1 * 2)) rfl rfl rfl (V.index rfl rfl rfl Tryd.runUnderlying44 Tryd.sizeOf121 (hv_s_.some_ (lt_of_get hxk1)) (Int.natCast_nonneg _) (lt_of_get hxk1) rfl) (fun a hf => ?_)
      refine S.val hf hs (v := .agg #[.string (ba xk1.Typ), .string (ba xk1.By)]) rfl rfl rfl (V.loadEl (off := 0) (Ag.args _ _ _) (hv_s_.flat hxk1) rfl rfl rfl Tryd.isAgg121 Tryd.sizeOf121 rfl rfl) (fun a hf => ?_)
      refine S.alloc hf hs rfl rfl rfl [.string (ba []), .string (ba [])] rfl Tryd.zeroValue121 rfl (fun g1 a w hf hs => ?_)
      refine S.val hf hs (v := .int .i64 (k1 : Int)) rfl rfl rfl (V.pure rfl) (fun a hf => ?_)
      refine S.storeBox 0 hf hs rfl rfl [.string (ba xk1.Typ), .string (ba xk1.By)] [.string (ba xk1.Typ), .string (ba xk1.By)] rfl rfl rfl rfl rfl Tryd.sizeOf121 rfl rfl rfl rfl (fun a w hf hs => ?_)
      refine R.nil ?_
      refine X.then_ ?_
      refine wp_block ?_
      refine wp_seq ?_
      refine C.cut (J := fun a w => ∃ (c1 : Bool), M_ref10_checkInsteads_k2 s_ Q k1 xk1 next1 c1 ∧ FrOk 39 [(0, .slice s_A s_.length s_C), (3, .int .i64 (k1 : Int)), (4, .pointer (some ⟨g1, 0, none⟩)), (8, .slice s_A s_.length s_C), (9, .int .i64 (s_.length : Int)), (10, .int .i64 (k1 : Int)), (15, .bool c1)] a ∧ Sat w0 none_ [hbox g1 121 [.string (ba xk1.Typ), .string (ba xk1.By)]] w) ?_ ?_
      · rintro a w ⟨c1, h, hf, hs⟩
        unfold M_ref10_checkInsteads_k2 at h
        refine C.cond hf (b := c1) rfl (fun hc => ?_) (fun hc => ?_)
        · replace h := h.1 hc
          refine wp_seq ?_
          refine R.list ?_
          refine S.val hf hs (v := .int .i64 5) rfl rfl rfl (V.pure rfl) (fun a hf => ?_)
          refine R.nil ?_
          refine X.then_ ?_
          refine wp_ret ?_
          refine X.blk_ret ?_
          refine X.blk_ret ?_
          refine X.then_ret ?_
          refine X.then_ret ?_
          refine X.blk_ret ?_
          refine X.then_ret ?_
          exact L.ret hf (run_results1 Tryd.results88 (ResIs.tmp hf rfl)) ⟨5, rfl, h, hs.nil⟩
        · replace h := h.2 hc
          refine wp_seq ?_
          refine R.list ?_
          refine S.val hf hs (v := .pointer (some ⟨g1, 0, none⟩)) rfl rfl rfl (V.fieldBox rfl rfl Tryd.runUnderlying121 rfl Tryd.sizeOf9 rfl rfl) (fun a hf => ?_)
          refine S.val hf hs (v := .string (ba xk1.Typ)) rfl rfl rfl (V.loadBox 0 rfl rfl rfl Tryd.isAgg9 Tryd.sizeOf9 rfl rfl) (fun a hf => ?_)
          refine S.val hf hs (v := .pointer (some ⟨g1, 1, none⟩)) rfl rfl rfl (V.fieldBox rfl rfl Tryd.runUnderlying121 rfl Tryd.sizeOf9 rfl rfl) (fun a hf => ?_)
          refine S.val hf hs (v := .string (ba xk1.By)) rfl rfl rfl (V.loadBox 0 rfl rfl rfl Tryd.isAgg9 Tryd.sizeOf9 rfl rfl) (fun a hf => ?_)
          refine S.val hf hs (v := .bool (xk1.Typ == xk1.By)) rfl rfl rfl (V.strCmp (xk1.Typ == xk1.By) rfl rfl rfl rfl) (fun a hf => ?_)
          refine S.val hf hs (v := .bool (xk1.Typ == xk1.By)) rfl rfl rfl (V.pure rfl) (fun a hf => ?_)
          refine R.nil ?_
          refine X.then_ ?_
          refine C.cond hf (b := xk1.Typ == xk1.By) rfl (fun hc => ?_) (fun hc => ?_)
          · replace h := h.1 hc
            refine wp_seq ?_
            refine R.list ?_
            refine S.val hf hs (v := .int .i64 12) rfl rfl rfl (V.pure rfl) (fun a hf => ?_)
            refine R.nil ?_
            refine X.then_ ?_
            refine wp_ret ?_
            refine X.blk_ret ?_
            refine X.blk_ret ?_
            refine X.then_ret ?_
            refine X.then_ret ?_
            refine X.blk_ret ?_
            refine X.then_ret ?_
            exact L.ret hf (run_results1 Tryd.results88 (ResIs.tmp hf rfl)) ⟨12, rfl, h, hs.nil⟩
          · replace h := h.2 hc
            refine wp_seq ?_
            refine H.start (S := Sat w0 none_ [hbox g1 121 [.string (ba xk1.Typ), .string (ba xk1.By)]]) mo ?_
            replace hs := hs.drew
            refine H.val hf hs (v := .slice s_A s_.length s_C) (i := 0) rfl rfl rfl rfl (by kernel_rfl) (by kernel_rfl) (by kernel_rfl) (V.pure rfl) (fun a hf => ?_)
            refine H.val hf hs (v := .int .i64 (k1 : Int)) (i := 1) rfl rfl rfl rfl (by kernel_rfl) (by kernel_rfl) (by kernel_rfl) (V.pure rfl) (fun a hf => ?_)
            obtain ⟨hp1, h⟩ := h
            refine H.val hf hs (v := .slice (segA s_A s_C ((0 : Int) : Int).toNat 2) (seg s_ (0 : Int) (k1 : Int)).length (s_C - ((0 : Int) : Int).toNat)) (i := 2) rfl rfl rfl rfl (by kernel_rfl) (by kernel_rfl) (by kernel_rfl) (V.slice rfl rfl rfl rfl Tryd.runUnderlying44 Tryd.sizeOf121 rfl rfl hp1 hv_s_.cap (seg_length (by have := hp1.2.2; omega))) (fun a hf => ?_)
            refine H.val hf hs (v := .agg #[.string (ba xk1.Typ), .string (ba xk1.By)]) (i := 3) rfl rfl rfl rfl (by kernel_rfl) (by kernel_rfl) (by kernel_rfl) (V.loadBox 0 rfl rfl rfl Tryd.isAgg121 Tryd.sizeOf121 rfl rfl) (fun a hf => ?_)
            refine H.one (i := 4) rfl (by kernel_rfl) ?_
            refine S.call hf rfl rfl rfl (call_fn (vs := [.slice (segA s_A s_C ((0 : Int) : Int).toNat 2) (seg s_ (0 : Int) (k1 : Int)).length (s_C - ((0 : Int) : Int).toNat), .agg #[.string (ba xk1.Typ), .string (ba xk1.By)]]) rfl rfl rfl Tryd.call84) (R_contains_inst (seg s_ (0 : Int) (k1 : Int)) xk1 _ (segA s_A s_C ((0 : Int) : Int).toNat 2) (s_C - ((0 : Int) : Int).toNat) ((Ag.args _ _ _).view (View.sub hv_s_ hp1) hs) _ h) (fun v a w' hf hr => ?_)
            obtain ⟨y1, rfl, h2, hs2⟩ := hr
            replace h := h2; replace hs := hs.call hs2; clear h2 hs2
            refine R.nil ?_
            refine X.then_ ?_
            refine ⟨hs, ?_⟩
            refine H.val hf hs (v := .bool y1) (i := 5) rfl rfl rfl rfl (by kernel_rfl) (by kernel_rfl) (by kernel_rfl) (V.pure rfl) (fun a hf => ?_)
            refine H.done (by kernel_rfl) ?_
            refine X.then_ ?_
            refine C.cond hf (b := y1) rfl (fun hc => ?_) (fun hc => ?_)
            · replace h := h.1 hc
              refine wp_seq ?_
              refine R.list ?_
              refine S.val hf hs (v := .int .i64 7) rfl rfl rfl (V.pure rfl) (fun a hf => ?_)
              refine R.nil ?_
              refine X.then_ ?_
              refine wp_ret ?_
              refine X.blk_ret ?_
              refine X.blk_ret ?_
              refine X.then_ret ?_
              refine X.then_ret ?_
              refine X.blk_ret ?_
              refine X.then_ret ?_
              exact L.ret hf (run_results1 Tryd.results88 (ResIs.tmp hf rfl)) ⟨7, rfl, h, hs.nil⟩
            · replace h := h.2 hc
              refine wp_skip ?_
              refine X.blk ?_
              refine X.blk ?_
              refine X.then_ ?_
              refine R.list ?_
              refine S.val hf hs (v := .int .i64 ((k1 + 1 : Nat) : Int)) rfl rfl rfl (V.incr rfl rfl rfl hltk1 hlenk1) (fun a hf => ?_)
              refine S.val hf hs (v := .int .i64 ((k1 + 1 : Nat) : Int)) rfl rfl rfl (V.pure rfl) (fun a hf => ?_)
              refine R.nil ?_
              refine X.then_ ?_
              exact ⟨xk1, llk1, rfl, k1 + 1, range_drop hlk1, range_len hkk1, (by rw [hnext1] at h; exact h), ((((hf.nil.cons (hf.get 9 _ rfl)).cons (hf.get 8 _ rfl)).cons (hf.get 0 _ rfl)).cons (hf.get 10 _ rfl)), hs.drop⟩
      · skip
        refine R.list ?_
        refine S.val hf hs (v := .pointer (some ⟨g1, 0, none⟩)) rfl rfl rfl (V.fieldBox rfl rfl Tryd.runUnderlying121 rfl Tryd.sizeOf9 rfl rfl) (fun a hf => ?_)
        refine S.val hf hs (v := .string (ba xk1.Typ)) rfl rfl rfl (V.loadBox 0 rfl rfl rfl Tryd.isAgg9 Tryd.sizeOf9 rfl rfl) (fun a hf => ?_)
        refine S.call hf rfl rfl rfl (call_fn (vs := [.string (ba xk1.Typ)]) rfl rfl rfl Tryd.call75) (R_ref10_isWord xk1.Typ _  _ h) (fun v a w' hf hr => ?_)
        obtain ⟨y2, rfl, h2, hs2⟩ := hr
        replace h := h2; replace hs := hs.call hs2; clear h2 hs2
        refine S.val hf hs (v := .bool (!y2)) rfl rfl rfl (V.pure rfl) (fun a hf => ?_)
        refine S.split hf hs (b := !y2) rfl rfl rfl (V.pure rfl) (fun hc a hf => ?_) (fun hc a hf => ?_)
        · replace h := h.1 hc
          refine S.skip hf rfl rfl rfl (fun a hf => ?_)
          refine S.skip hf rfl rfl rfl (fun a hf => ?_)
          refine S.skip hf rfl rfl rfl (fun a hf => ?_)
          refine S.skip hf rfl rfl rfl (fun a hf => ?_)
          refine S.val hf hs (v := .bool true) rfl rfl rfl (V.pure rfl) (fun a hf => ?_)
          refine S.val hf hs (v := .bool true) rfl rfl rfl (V.pure rfl) (fun a hf => ?_)
          refine R.nil ?_
          refine X.then_ ?_
          exact ⟨true, h, (((((((hf.nil.cons (hf.get 15 _ rfl)).cons (hf.get 10 _ rfl)).cons (hf.get 9 _ rfl)).cons (hf.get 8 _ rfl)).cons (hf.get 4 _ rfl)).cons (hf.get 3 _ rfl)).cons (hf.get 0 _ rfl)), hs⟩
        · replace h := h.2 hc
          refine S.val hf hs (v := .pointer (some ⟨g1, 1, none⟩)) rfl rfl rfl (V.fieldBox rfl rfl Tryd.runUnderlying121 rfl Tryd.sizeOf9 rfl rfl) (fun a hf => ?_)
          refine S.val hf hs (v := .string (ba xk1.By)) rfl rfl rfl (V.loadBox 0 rfl rfl rfl Tryd.isAgg9 Tryd.sizeOf9 rfl rfl) (fun a hf => ?_)
          refine S.call hf rfl rfl rfl (call_fn (vs := [.string (ba xk1.By)]) rfl rfl rfl Tryd.call75) (R_ref10_isWord xk1.By _  _ h) (fun v a w' hf hr => ?_)
          obtain ⟨y3, rfl, h2, hs2⟩ := hr
          replace h := h2; replace hs := hs.call hs2; clear h2 hs2
          refine S.val hf hs (v := .bool (!y3)) rfl rfl rfl (V.pure rfl) (fun a hf => ?_)
          refine S.val hf hs (v := .bool (!y3)) rfl rfl rfl (V.pure rfl) (fun a hf => ?_)
          refine S.val hf hs (v := .bool (!y3)) rfl rfl rfl (V.pure rfl) (fun a hf => ?_)
          refine R.nil ?_
          refine X.then_ ?_
          exact ⟨(!y3), h, (((((((hf.nil.cons (hf.get 15 _ rfl)).cons (hf.get 10 _ rfl)).cons (hf.get 9 _ rfl)).cons (hf.get 8 _ rfl)).cons (hf.get 4 _ rfl)).cons (hf.get 3 _ rfl)).cons (hf.get 0 _ rfl)), hs⟩

set_option linter.unusedVariables false
def M_mount_isBoards (n : Int) (Q : Bool → Prop) : Prop :=
  Q (within n 0 1000)
set_option maxHeartbeats 1000000 in
theorem R_mount_isBoards (n : Int) (w0 : World)  (Q : Bool → Prop) (h : M_mount_isBoards n Q) :
    Ret Tryd.prog 54 #[.int .i64 n] w0 fun v w' => ∃ (r0 : Bool), v = .bool r0 ∧ Q r0 ∧ Sat w0 none_ [] w' := by
  refine fn_enter Tryd.func54 rfl Tryd.ntmps54 rfl (fs := [(0, .int .i64 n)]) rfl (fun a hf => ?_)
  have hs := Sat.start w0 none_
  unfold M_mount_isBoards at h
  refine wp_seq ?_
  refine R.list ?_
  refine S.val hf hs (v := .bool false) rfl rfl rfl (V.pure rfl) (fun a hf => ?_)
  refine R.nil ?_
  refine X.then_ ?_
  refine wp_seq ?_
  refine R.list ?_
  refine S.val hf hs (v := .int .i64 n) rfl rfl rfl (V.pure rfl) (fun a hf => ?_)
  refine S.callv hf rfl rfl rfl (call_fn (vs := [.int .i64 n, .int .i64 0, .int .i64 1000]) rfl rfl rfl Tryd.call47) (C_mount_within n 0 1000 _ ) (fun a w hf hs' => ?_)
  replace hs := hs.call hs'; clear hs'
  refine S.val hf hs (v := .bool (within n 0 1000)) rfl rfl rfl (V.pure rfl) (fun a hf => ?_)
  refine R.nil ?_
  refine X.then_ ?_
  refine wp_ret ?_
  exact L.ret hf (run_results1 Tryd.results54 (ResIs.tmp hf rfl)) ⟨(within n 0 1000), rfl, h, hs.nil⟩

set_option linter.unusedVariables false
def M_ref10_askPicks (b : (List Body)) (l : (List Place)) (r : (List Reel)) (s_ : (List Instead)) (boards : Int) (Q : Int → Prop) : Prop :=
  M_ref10_CheckPlaces b l fun y1 => cnd (y1 != 0) (Q y1) (M_ref10_CheckReels r fun y2 => cnd (y2 != 0) (Q y2) (M_ref10_checkInsteads s_ fun y3 => cnd (y3 != 0) (Q y3) (cnd (!(within boards 0 1000)) (Q 1) (cnd (decide (w64 ((l.length : Int) * boards) > 20000)) (Q 2) (Q 0)))))
set_option maxHeartbeats 1000000 in
theorem R_ref10_askPicks (b : (List Body)) (l : (List Place)) (r : (List Reel)) (s_ : (List Instead)) (boards : Int) (w0 : World) (bA : Option Addr) (bC : Nat) (hv_b : View w0 (old w0 none_) bA bC b) (lA : Option Addr) (lC : Nat) (hv_l : View w0 (old w0 none_) lA lC l) (rA : Option Addr) (rC : Nat) (hv_r : View w0 (old w0 none_) rA rC r) (s_A : Option Addr) (s_C : Nat) (hv_s_ : View w0 (old w0 none_) s_A s_C s_) (Q : Int → Prop) (h : M_ref10_askPicks b l r s_ boards Q) :
    Ret Tryd.prog 57 #[.slice bA b.length bC, .slice lA l.length lC, .slice rA r.length rC, .slice s_A s_.length s_C, .int .i64 boards] w0 fun v w' => ∃ (r0 : Int), v = .int .i64 r0 ∧ Q r0 ∧ Sat w0 none_ [] w' := by
  refine fn_enter Tryd.func57 rfl Tryd.ntmps57 rfl (fs := [(0, .slice bA b.length bC), (1, .slice lA l.length lC), (2, .slice rA r.length rC), (3, .slice s_A s_.length s_C), (4, .int .i64 boards)]) rfl (fun a hf => ?_)
  have hs := Sat.start w0 none_
  unfold M_ref10_askPicks at h
  refine wp_seq ?_
  refine R.list ?_
  refine S.val hf hs (v := .int .i64 0) rfl rfl rfl (V.pure rfl) (fun a hf => ?_)
  refine R.nil ?_
  refine X.then_ ?_
  refine wp_seq ?_
  refine wp_seq ?_
  refine R.list ?_
  refine S.val hf hs (v := .slice bA b.length bC) rfl rfl rfl (V.pure rfl) (fun a hf => ?_)
  refine S.val hf hs (v := .slice lA l.length lC) rfl rfl rfl (V.pure rfl) (fun a hf => ?_)
  refine S.call hf rfl rfl rfl (call_fn (vs := [.slice bA b.length bC, .slice lA l.length lC]) rfl rfl rfl Tryd.call36) (R_ref10_CheckPlaces b l _ bA bC ((Ag.args _ _ _).view hv_b hs) lA lC ((Ag.args _ _ _).view hv_l hs) _ h) (fun v a w' hf hr => ?_)
  obtain ⟨y1, rfl, h2, hs2⟩ := hr
  replace h := h2; replace hs := hs.call hs2; clear h2 hs2
  refine S.val hf hs (v := .int .i64 y1) rfl rfl rfl (V.pure rfl) (fun a hf => ?_)
  refine R.nil ?_
  refine X.then_ ?_
  refine wp_seq ?_
  refine R.list ?_
  refine S.val hf hs (v := .int .i64 y1) rfl rfl rfl (V.pure rfl) (fun a hf => ?_)
  refine S.val hf hs (v := .bool (y1 != 0)) rfl rfl rfl (V.pure rfl) (fun a hf => ?_)
  refine R.nil ?_
  refine X.then_ ?_
  refine C.cond hf (b := y1 != 0) rfl (fun hc => ?_) (fun hc => ?_)
  · replace h := h.1 hc
    refine wp_seq ?_
    refine R.list ?_
    refine S.val hf hs (v := .int .i64 y1) rfl rfl rfl (V.pure rfl) (fun a hf => ?_)
    refine S.val hf hs (v := .int .i64 y1) rfl rfl rfl (V.pure rfl) (fun a hf => ?_)
    refine R.nil ?_
    refine X.then_ ?_
    refine wp_ret ?_
    refine X.then_ret ?_
    exact L.ret hf (run_results1 Tryd.results57 (ResIs.tmp hf rfl)) ⟨y1, rfl, h, hs.nil⟩
  · replace h := h.2 hc
    refine wp_skip ?_
    refine X.then_ ?_
    refine wp_seq ?_
    refine wp_seq ?_
    refine R.list ?_
    refine S.val hf hs (v := .slice rA r.length rC) rfl rfl rfl (V.pure rfl) (fun a hf => ?_)
    refine S.call hf rfl rfl rfl (call_fn (vs := [.slice rA r.length rC]) rfl rfl rfl Tryd.call45) (R_ref10_CheckReels r _ rA rC ((Ag.args _ _ _).view hv_r hs) _ h) (fun v a w' hf hr => ?_)
    obtain ⟨y2, rfl, h2, hs2⟩ := hr
    replace h := h2; replace hs := hs.call hs2; clear h2 hs2
    refine S.val hf hs (v := .int .i64 y2) rfl rfl rfl (V.pure rfl) (fun a hf => ?_)
    refine R.nil ?_
    refine X.then_ ?_
    refine wp_seq ?_
    refine R.list ?_
    refine S.val hf hs (v := .int .i64 y2) rfl rfl rfl (V.pure rfl) (fun a hf => ?_)
    refine S.val hf hs (v := .bool (y2 != 0)) rfl rfl rfl (V.pure rfl) (fun a hf => ?_)
    refine R.nil ?_
    refine X.then_ ?_
    refine C.cond hf (b := y2 != 0) rfl (fun hc => ?_) (fun hc => ?_)
    · replace h := h.1 hc
      refine wp_seq ?_
      refine R.list ?_
      refine S.val hf hs (v := .int .i64 y2) rfl rfl rfl (V.pure rfl) (fun a hf => ?_)
      refine S.val hf hs (v := .int .i64 y2) rfl rfl rfl (V.pure rfl) (fun a hf => ?_)
      refine R.nil ?_
      refine X.then_ ?_
      refine wp_ret ?_
      refine X.then_ret ?_
      exact L.ret hf (run_results1 Tryd.results57 (ResIs.tmp hf rfl)) ⟨y2, rfl, h, hs.nil⟩
    · replace h := h.2 hc
      refine wp_skip ?_
      refine X.then_ ?_
      refine wp_seq ?_
      refine wp_seq ?_
      refine R.list ?_
      refine S.val hf hs (v := .slice s_A s_.length s_C) rfl rfl rfl (V.pure rfl) (fun a hf => ?_)
      refine S.call hf rfl rfl rfl (call_fn (vs := [.slice s_A s_.length s_C]) rfl rfl rfl Tryd.call88) (R_ref10_checkInsteads s_ _ s_A s_C ((Ag.args _ _ _).view hv_s_ hs) _ h) (fun v a w' hf hr => ?_)
      obtain ⟨y3, rfl, h2, hs2⟩ := hr
      replace h := h2; replace hs := hs.call hs2; clear h2 hs2
      refine S.val hf hs (v := .int .i64 y3) rfl rfl rfl (V.pure rfl) (fun a hf => ?_)
      refine R.nil ?_
      refine X.then_ ?_
      refine wp_seq ?_
      refine R.list ?_
      refine S.val hf hs (v := .int .i64 y3) rfl rfl rfl (V.pure rfl) (fun a hf => ?_)
      refine S.val hf hs (v := .bool (y3 != 0)) rfl rfl rfl (V.pure rfl) (fun a hf => ?_)
      refine R.nil ?_
      refine X.then_ ?_
      refine C.cond hf (b := y3 != 0) rfl (fun hc => ?_) (fun hc => ?_)
      · replace h := h.1 hc
        refine wp_seq ?_
        refine R.list ?_
        refine S.val hf hs (v := .int .i64 y3) rfl rfl rfl (V.pure rfl) (fun a hf => ?_)
        refine S.val hf hs (v := .int .i64 y3) rfl rfl rfl (V.pure rfl) (fun a hf => ?_)
        refine R.nil ?_
        refine X.then_ ?_
        refine wp_ret ?_
        refine X.then_ret ?_
        exact L.ret hf (run_results1 Tryd.results57 (ResIs.tmp hf rfl)) ⟨y3, rfl, h, hs.nil⟩
      · replace h := h.2 hc
        refine wp_skip ?_
        refine X.then_ ?_
        refine wp_seq ?_
        refine wp_seq ?_
        refine R.list ?_
        refine S.val hf hs (v := .int .i64 boards) rfl rfl rfl (V.pure rfl) (fun a hf => ?_)
        refine S.callv hf rfl rfl rfl (call_fn (vs := [.int .i64 boards, .int .i64 0, .int .i64 1000]) rfl rfl rfl Tryd.call51) (C_ref10_within boards 0 1000 _ ) (fun a w hf hs' => ?_)
        replace hs := hs.call hs'; clear hs'
        refine S.val hf hs (v := .bool (!(within boards 0 1000))) rfl rfl rfl (V.pure rfl) (fun a hf => ?_)
        refine R.nil ?_
        refine X.then_ ?_
        refine C.cond hf (b := !(within boards 0 1000)) rfl (fun hc => ?_) (fun hc => ?_)
        · replace h := h.1 hc
          refine wp_seq ?_
          refine R.list ?_
          refine S.val hf hs (v := .int .i64 1) rfl rfl rfl (V.pure rfl) (fun a hf => ?_)
          refine R.nil ?_
          refine X.then_ ?_
          refine wp_ret ?_
          refine X.then_ret ?_
          exact L.ret hf (run_results1 Tryd.results57 (ResIs.tmp hf rfl)) ⟨1, rfl, h, hs.nil⟩
        · replace h := h.2 hc
          refine wp_skip ?_
          refine X.then_ ?_
          refine wp_seq ?_
          refine wp_seq ?_
          refine R.list ?_
          refine S.val hf hs (v := .slice lA l.length lC) rfl rfl rfl (V.pure rfl) (fun a hf => ?_)
          refine S.val hf hs (v := .int .i64 (l.length : Int)) rfl rfl rfl (V.len rfl rfl Tryd.runUnderlying23) (fun a hf => ?_)
          refine S.val hf hs (v := .int .i64 boards) rfl rfl rfl (V.pure rfl) (fun a hf => ?_)
          refine S.val hf hs (v := .int .i64 (w64 ((l.length : Int) * boards))) rfl rfl rfl (V.pure rfl) (fun a hf => ?_)
          refine S.val hf hs (v := .bool (decide (w64 ((l.length : Int) * boards) > 20000))) rfl rfl rfl (V.pure rfl) (fun a hf => ?_)
          refine R.nil ?_
          refine X.then_ ?_
          refine C.cond hf (b := decide (w64 ((l.length : Int) * boards) > 20000)) rfl (fun hc => ?_) (fun hc => ?_)
          · replace h := h.1 hc
            refine wp_seq ?_
            refine R.list ?_
            refine S.val hf hs (v := .int .i64 2) rfl rfl rfl (V.pure rfl) (fun a hf => ?_)
            refine R.nil ?_
            refine X.then_ ?_
            refine wp_ret ?_
            refine X.then_ret ?_
            exact L.ret hf (run_results1 Tryd.results57 (ResIs.tmp hf rfl)) ⟨2, rfl, h, hs.nil⟩
          · replace h := h.2 hc
            refine wp_skip ?_
            refine X.then_ ?_
            refine wp_seq ?_
            refine R.list ?_
            refine S.val hf hs (v := .int .i64 0) rfl rfl rfl (V.pure rfl) (fun a hf => ?_)
            refine R.nil ?_
            refine X.then_ ?_
            refine wp_ret ?_
            exact L.ret hf (run_results1 Tryd.results57 (ResIs.tmp hf rfl)) ⟨0, rfl, h, hs.nil⟩

set_option linter.unusedVariables false
def M_clone_reel (s_ : (List Reel)) (Q : (List Reel) → Prop) : Prop :=
  nilq s_ fun b1 => cnd b1 (Q ([] : List Reel)) (must (room (([] : List Reel) ++ s_).length 32) (Q (([] : List Reel) ++ s_)))
set_option maxHeartbeats 1000000 in
theorem R_clone_reel (s_ : (List Reel)) (w0 : World) (s_A : Option Addr) (s_C : Nat) (hv_s_ : View w0 (old w0 none_) s_A s_C s_) (Q : (List Reel) → Prop) (h : M_clone_reel s_ Q) :
    Ret Tryd.prog 55 #[.slice s_A s_.length s_C] w0 fun v w' => ∃ (r0 : (List Reel)) (r0A : Option Addr) (r0C : Nat), v = .slice r0A r0.length r0C ∧ Q r0 ∧ Sat w0 none_ [hown 52 r0A r0C r0] w' := by
  refine fn_enter Tryd.func55 rfl Tryd.ntmps55 rfl (fs := [(0, .slice s_A s_.length s_C)]) rfl (fun a hf => ?_)
  have hs := Sat.start w0 none_
  unfold M_clone_reel at h
  refine wp_seq ?_
  refine R.list ?_
  refine S.val hf hs (v := .slice none 0 0) rfl rfl rfl (V.pure rfl) (fun a hf => ?_)
  refine R.nil ?_
  refine X.then_ ?_
  refine wp_seq ?_
  refine wp_seq ?_
  refine R.list ?_
  refine S.val hf hs (v := .slice s_A s_.length s_C) rfl rfl rfl (V.pure rfl) (fun a hf => ?_)
  obtain ⟨b1, hb1⟩ : ∃ b : Bool, b = Option.isNone s_A := ⟨_, rfl⟩
  replace h := h b1 (fun e => ((Ag.args _ _ _).view hv_s_ hs).nil_of (hb1.symm.trans e))
  refine S.val hf hs (v := .bool b1) rfl rfl rfl (V.eqNil b1 rfl rfl rfl Tryd.underlying43 (by kernel_rfl) hb1) (fun a hf => ?_)
  refine R.nil ?_
  refine X.then_ ?_
  refine C.cond hf (b := b1) rfl (fun hc => ?_) (fun hc => ?_)
  · replace h := h.1 hc
    refine wp_seq ?_
    refine R.list ?_
    refine S.val hf hs (v := .slice none 0 0) rfl rfl rfl (V.pure rfl) (fun a hf => ?_)
    refine R.nil ?_
    refine X.then_ ?_
    refine wp_ret ?_
    refine X.then_ret ?_
    replace hs := hs.nilOwn (α := Reel) 52
    replace hs := hs.take 1
    exact L.ret hf (run_results1 Tryd.results55 (ResIs.tmp hf rfl)) ⟨([] : List Reel), none, 0, rfl, h, hs⟩
  · replace h := h.2 hc
    refine wp_skip ?_
    refine X.then_ ?_
    refine wp_seq ?_
    refine R.list ?_
    refine S.buildEmpty (α := Reel) hf hs rfl rfl rfl rfl Tryd.runUnderlying43 Tryd.sizeOf52 (fun A1 a w hf hs => ?_)
    refine S.val hf hs (v := .slice s_A s_.length s_C) rfl rfl rfl (V.pure rfl) (fun a hf => ?_)
    obtain ⟨hroom, h⟩ := h
    refine S.appendAny 0 hf hs rfl rfl rfl rfl rfl rfl rfl Tryd.underlying43 info52 rfl hroom ((Ag.args _ _ _).view hv_s_ hs) (fun A2 C1 a w hf hs => ?_)
    refine S.val hf hs (v := .slice A2 (([] : List Reel) ++ s_).length C1) rfl rfl rfl (V.pure rfl) (fun a hf => ?_)
    refine R.nil ?_
    refine X.then_ ?_
    refine wp_ret ?_
    replace hs := hs.take 1
    exact L.ret hf (run_results1 Tryd.results55 (ResIs.tmp hf rfl)) ⟨(([] : List Reel) ++ s_), A2, C1, rfl, h, hs⟩

set_option linter.unusedVariables false
def M_pick11 (x_ : Reel) (name : Str) (Q : Bool → Prop) : Prop :=
  cnd (x_.Typ == name) (Q (decide (x_.Left > 0))) (Q false)
set_option maxHeartbeats 1000000 in
theorem R_pick11 (x_ : Reel) (name : Str) (w0 : World) (nameg : Nat) (hb_name : ElemAt w0 (old w0 none_) (some ⟨nameg, 0, none⟩) 0 [.string (ba name)]) (Q : Bool → Prop) (h : M_pick11 x_ name Q) :
    Ret Tryd.prog 87 #[.agg #[.int .i64 x_.Slot, .string (ba x_.Typ), .int .i64 x_.Left], .pointer (some ⟨nameg, 0, none⟩)] w0 fun v w' => ∃ (r0 : Bool), v = .bool r0 ∧ Q r0 ∧ Sat w0 none_ [] w' := by
  refine fn_enter Tryd.func87 rfl Tryd.ntmps87 rfl (fs := [(0, .agg #[.int .i64 x_.Slot, .string (ba x_.Typ), .int .i64 x_.Left]), (1, .pointer (some ⟨nameg, 0, none⟩))]) rfl (fun a hf => ?_)
  have hs := Sat.start w0 none_
  unfold M_pick11 at h
  refine wp_seq ?_
  refine R.list ?_
  refine S.box hf hs rfl rfl rfl [.int .i64 x_.Slot, .string (ba x_.Typ), .int .i64 x_.Left] rfl rfl rfl (fun g1 a w hf hs => ?_)
  refine S.val hf hs (v := .bool false) rfl rfl rfl (V.pure rfl) (fun a hf => ?_)
  refine R.nil ?_
  refine X.then_ ?_
  refine wp_seq ?_
  refine R.list ?_
  refine S.val hf hs (v := .pointer (some ⟨g1, 1, none⟩)) rfl rfl rfl (V.fieldBox rfl rfl Tryd.runUnderlying52 rfl Tryd.sizeOf9 rfl rfl) (fun a hf => ?_)
  refine S.val hf hs (v := .string (ba x_.Typ)) rfl rfl rfl (V.loadBox 0 rfl rfl rfl Tryd.isAgg9 Tryd.sizeOf9 rfl rfl) (fun a hf => ?_)
  refine S.val hf hs (v := .string (ba name)) rfl rfl rfl (V.loadAt0 (off := 0) (Ag.args _ _ _) hb_name rfl rfl Tryd.isAgg9 Tryd.sizeOf9 rfl rfl) (fun a hf => ?_)
  refine S.val hf hs (v := .bool (x_.Typ == name)) rfl rfl rfl (V.strCmp (x_.Typ == name) rfl rfl rfl rfl) (fun a hf => ?_)
  refine S.split hf hs (b := x_.Typ == name) rfl rfl rfl (V.pure rfl) (fun hc a hf => ?_) (fun hc a hf => ?_)
  · replace h := h.1 hc
    refine S.val hf hs (v := .pointer (some ⟨g1, 2, none⟩)) rfl rfl rfl (V.fieldBox rfl rfl Tryd.runUnderlying52 rfl Tryd.sizeOf3 rfl rfl) (fun a hf => ?_)
    refine S.val hf hs (v := .int .i64 x_.Left) rfl rfl rfl (V.loadBox 0 rfl rfl rfl Tryd.isAgg3 Tryd.sizeOf3 rfl rfl) (fun a hf => ?_)
    refine S.val hf hs (v := .bool (decide (x_.Left > 0))) rfl rfl rfl (V.pure rfl) (fun a hf => ?_)
    refine S.val hf hs (v := .bool (decide (x_.Left > 0))) rfl rfl rfl (V.pure rfl) (fun a hf => ?_)
    refine S.val hf hs (v := .bool (decide (x_.Left > 0))) rfl rfl rfl (V.pure rfl) (fun a hf => ?_)
    refine R.nil ?_
    refine X.then_ ?_
    refine wp_ret ?_
    exact L.ret hf (run_results1 Tryd.results87 (ResIs.tmp hf rfl)) ⟨(decide (x_.Left > 0)), rfl, h, hs.nil⟩
  · replace h := h.2 hc
    refine S.skip hf rfl rfl rfl (fun a hf => ?_)
    refine S.skip hf rfl rfl rfl (fun a hf => ?_)
    refine S.skip hf rfl rfl rfl (fun a hf => ?_)
    refine S.val hf hs (v := .bool false) rfl rfl rfl (V.pure rfl) (fun a hf => ?_)
    refine S.val hf hs (v := .bool false) rfl rfl rfl (V.pure rfl) (fun a hf => ?_)
    refine R.nil ?_
    refine X.then_ ?_
    refine wp_ret ?_
    exact L.ret hf (run_results1 Tryd.results87 (ResIs.tmp hf rfl)) ⟨false, rfl, h, hs.nil⟩

set_option linter.unusedVariables false
def M_indexfunc_reel_L1 (name : Str) (Q : Int → Prop) (k1 : Nat) (xk1 : Reel)  (next1 : Prop) : Prop :=
  M_pick11 xk1 name fun y1 => cnd y1 (Q (k1 : Int)) (next1)
def M_indexfunc_reel (s_ : (List Reel)) (name : Str) (Q : Int → Prop) : Prop :=
  forIn' (fun k x (s : Unit) next => M_indexfunc_reel_L1 name Q k x (next ())) (fun (s : Unit) => Q (-1)) s_ 0 ()
set_option maxHeartbeats 1000000 in
theorem R_indexfunc_reel (s_ : (List Reel)) (name : Str) (w0 : World) (s_A : Option Addr) (s_C : Nat) (hv_s_ : View w0 (old w0 none_) s_A s_C s_) (nameg : Nat) (hb_name : ElemAt w0 (old w0 none_) (some ⟨nameg, 0, none⟩) 0 [.string (ba name)]) (Q : Int → Prop) (h : M_indexfunc_reel s_ name Q) :
    Ret Tryd.prog 86 #[.slice s_A s_.length s_C, .func (.func 87) #[] #[.pointer (some ⟨nameg, 0, none⟩)]] w0 fun v w' => ∃ (r0 : Int), v = .int .i64 r0 ∧ Q r0 ∧ Sat w0 none_ [] w' := by
  refine fn_enter Tryd.func86 rfl Tryd.ntmps86 rfl (fs := [(0, .slice s_A s_.length s_C), (1, .func (.func 87) #[] #[.pointer (some ⟨nameg, 0, none⟩)])]) rfl (fun a hf => ?_)
  have hs := Sat.start w0 none_
  unfold M_indexfunc_reel at h
  refine wp_seq ?_
  refine R.list ?_
  refine S.val hf hs (v := .int .i64 0) rfl rfl rfl (V.pure rfl) (fun a hf => ?_)
  refine R.nil ?_
  refine X.then_ ?_
  refine wp_seq ?_
  refine wp_seq ?_
  refine R.list ?_
  refine S.val hf hs (v := .slice s_A s_.length s_C) rfl rfl rfl (V.pure rfl) (fun a hf => ?_)
  refine S.val hf hs (v := .int .i64 (s_.length : Int)) rfl rfl rfl (V.len rfl rfl Tryd.runUnderlying43) (fun a hf => ?_)
  refine S.val hf hs (v := .int .i64 0) rfl rfl rfl (V.pure rfl) (fun a hf => ?_)
  refine R.nil ?_
  refine X.then_ ?_
  refine wp_block ?_
  have hlenk1 := hv_s_.len64
  refine C.range (fun (ll : List Reel) a w => ∃ (k1 : Nat) , s_.drop k1 = ll ∧ k1 + ll.length = s_.length ∧ forIn' (fun k x (s : Unit) next => M_indexfunc_reel_L1 name Q k x (next ())) (fun (s : Unit) => Q (-1)) ll k1 () ∧ FrOk 19 [(8, .int .i64 (k1 : Int)), (0, .slice s_A s_.length s_C), (1, .func (.func 87) #[] #[.pointer (some ⟨nameg, 0, none⟩)]), (7, .int .i64 (s_.length : Int))] a ∧ Sat w0 none_ [] w) s_ ⟨0, rfl, Nat.zero_add _, h, ((((hf.nil.cons (hf.get 7 _ rfl)).cons (hf.get 1 _ rfl)).cons (hf.get 0 _ rfl)).cons (hf.get 8 _ rfl)), hs⟩ ?_
  clear h hf hs
  rintro llk1 a w ⟨k1, hlk1, hkk1, h, hf, hs⟩
  cases llk1 with
  | nil =>
    have hc := range_done hkk1
    replace h : Q (-1) := h
    refine wp_seq ?_
    refine R.list ?_
    refine S.val hf hs (v := .bool false) rfl rfl rfl (V.cmp false rfl rfl rfl rfl hc) (fun a hf => ?_)
    refine R.nil ?_
    refine X.then_ ?_
    refine wp_seq ?_
    refine C.no hf rfl ?_
    refine wp_exit ?_
    refine X.then_exit ?_
    refine X.then_exit ?_
    refine X.blk_exit ?_
    refine X.then_ ?_
    refine wp_seq ?_
    refine R.list ?_
    refine S.val hf hs (v := .int .i64 (-1)) rfl rfl rfl (V.pure rfl) (fun a hf => ?_)
    refine R.nil ?_
    refine X.then_ ?_
    refine wp_ret ?_
    exact L.ret hf (run_results1 Tryd.results86 (ResIs.tmp hf rfl)) ⟨(-1), rfl, h, hs.nil⟩
  | cons xk1 llk1 =>
    have hltk1 := range_lt hkk1; have hc := range_go hkk1; have hxk1 := range_get hlk1
    obtain ⟨next1, hnext1⟩ : ∃ X : Prop, X = (forIn' (fun k x (s : Unit) next => M_indexfunc_reel_L1 name Q k x (next ())) (fun (s : Unit) => Q (-1)) llk1 (k1 + 1) ()) := ⟨_, rfl⟩
    replace h : M_indexfunc_reel_L1 name Q k1 xk1  next1 := by rw [hnext1]; exact h
    unfold M_indexfunc_reel_L1 at h
    refine wp_seq ?_
    refine R.list ?_
    refine S.val hf hs (v := .bool true) rfl rfl rfl (V.cmp true rfl rfl rfl rfl hc) (fun a hf => ?_)
    refine R.nil ?_
    refine X.then_ ?_
    refine wp_seq ?_
    refine C.yes hf rfl ?_
    refine wp_skip ?_
    refine X.then_ ?_
    refine wp_seq ?_
    refine wp_block ?_
    refine wp_seq ?_
    refine R.list ?_
    refine S.val hf hs (v := .int .i64 (k1 : Int)) rfl rfl rfl (V.pure rfl) (fun a hf => ?_)
    refine S.val hf hs (v := .int .i64 (k1 : Int)) rfl rfl rfl (V.pure rfl) (fun a hf => ?_)
    refine R.nil ?_
    refine X.then_ ?_
    refine wp_seq ?_
    refine R.list ?_
    refine S.val hf hs (v := .func (.func 87) #[] #[.pointer (some ⟨nameg, 0, none⟩)]) rfl rfl rfl (V.pure rfl) (fun a hf => ?_)
    refine S.val hf hs (v := .slice s_A s_.length s_C) rfl rfl rfl (V.pure rfl) (fun a hf => ?_)
    refine S.val hf hs (v := .int .i64 (k1 : Int)) rfl rfl rfl (V.pure rfl) (fun a hf => ?_)
    refine S.val hf hs (v := elemPtr s_A (k1 * 3)) rfl rfl rfl (V.index rfl rfl rfl Tryd.runUnderlying43 Tryd.sizeOf52 (hv_s_.some_ (lt_of_get hxk1)) (Int.natCast_nonneg _) (lt_of_get hxk1) rfl) (fun a hf => ?_)
    refine S.val hf hs (v := .agg #[.int .i64 xk1.Slot, .string (ba xk1.Typ), .int .i64 xk1.Left]) rfl rfl rfl (V.loadEl (off := 0) (Ag.args _ _ _) (hv_s_.flat hxk1) rfl rfl rfl Tryd.isAgg52 Tryd.sizeOf52 rfl rfl) (fun a hf => ?_)
    refine S.call hf rfl rfl rfl (call_run (args := #[.agg #[.int .i64 xk1.Slot, .string (ba xk1.Typ), .int .i64 xk1.Left], .pointer (some ⟨nameg, 0, none⟩)]) rfl rfl rfl Tryd.call87 (by simp)) (R_pick11 xk1 name _ nameg ((Ag.args _ _ _).elem hb_name hs) _ h) (fun v a w' hf hr => ?_)
    obtain ⟨y1, rfl, h2, hs2⟩ := hr
    replace h := h2; replace hs := hs.call hs2; clear h2 hs2
    refine R.nil ?_
    refine X.then_ ?_
    refine C.cond hf (b := y1) rfl (fun hc => ?_) (fun hc => ?_)
    · replace h := h.1 hc
      refine wp_seq ?_
      refine R.list ?_
      refine S.val hf hs (v := .int .i64 (k1 : Int)) rfl rfl rfl (V.pure rfl) (fun a hf => ?_)
      refine S.val hf hs (v := .int .i64 (k1 : Int)) rfl rfl rfl (V.pure rfl) (fun a hf => ?_)
      refine R.nil ?_
      refine X.then_ ?_
      refine wp_ret ?_
      refine X.blk_ret ?_
      refine X.then_ret ?_
      refine X.then_ret ?_
      refine X.blk_ret ?_
      refine X.then_ret ?_
      exact L.ret hf (run_results1 Tryd.results86 (ResIs.tmp hf rfl)) ⟨(k1 : Int), rfl, h, hs.nil⟩
    · replace h := h.2 hc
      refine wp_skip ?_
      refine X.blk ?_
      refine X.then_ ?_
      refine R.list ?_
      refine S.val hf hs (v := .int .i64 ((k1 + 1 : Nat) : Int)) rfl rfl rfl (V.incr rfl rfl rfl hltk1 hlenk1) (fun a hf => ?_)
      refine S.val hf hs (v := .int .i64 ((k1 + 1 : Nat) : Int)) rfl rfl rfl (V.pure rfl) (fun a hf => ?_)
      refine R.nil ?_
      refine X.then_ ?_
      exact ⟨xk1, llk1, rfl, k1 + 1, range_drop hlk1, range_len hkk1, (by rw [hnext1] at h; exact h), ((((hf.nil.cons (hf.get 7 _ rfl)).cons (hf.get 1 _ rfl)).cons (hf.get 0 _ rfl)).cons (hf.get 8 _ rfl)), hs⟩

set_option linter.unusedVariables false
def M_pick1 (name : Str) (r : (List Reel)) (Q : Int → Prop) : Prop :=
  M_indexfunc_reel r name fun y1 => Q y1
set_option maxHeartbeats 1000000 in
theorem R_pick1 (name : Str) (r : (List Reel)) (w0 : World) (rA : Option Addr) (rC : Nat) (hv_r : View w0 (old w0 none_) rA rC r) (rg : Nat) (hb_r : ElemAt w0 (old w0 none_) (some ⟨rg, 0, none⟩) 0 [.slice rA r.length rC]) (Q : Int → Prop) (h : M_pick1 name r Q) :
    Ret Tryd.prog 85 #[.string (ba name), .pointer (some ⟨rg, 0, none⟩)] w0 fun v w' => ∃ (r0 : Int), v = .int .i64 r0 ∧ Q r0 ∧ Sat w0 none_ [] w' := by
  refine fn_enter Tryd.func85 rfl Tryd.ntmps85 rfl (fs := [(0, .string (ba name)), (1, .pointer (some ⟨rg, 0, none⟩))]) rfl (fun a hf => ?_)
  have hs := Sat.start w0 none_
  unfold M_pick1 at h
  refine wp_seq ?_
  refine R.list ?_
  refine S.box hf hs rfl rfl rfl [.string (ba name)] rfl rfl rfl (fun g1 a w hf hs => ?_)
  refine S.val hf hs (v := .int .i64 0) rfl rfl rfl (V.pure rfl) (fun a hf => ?_)
  refine R.nil ?_
  refine X.then_ ?_
  refine wp_seq ?_
  refine R.list ?_
  refine S.val hf hs (v := .slice rA r.length rC) rfl rfl rfl (V.loadAt0 (off := 0) (Ag.args _ _ _) hb_r rfl rfl Tryd.isAgg43 Tryd.sizeOf43 rfl rfl) (fun a hf => ?_)
  refine S.val hf hs (v := .func (.func 87) #[] #[.pointer (some ⟨g1, 0, none⟩)]) rfl rfl rfl (V.pure rfl) (fun a hf => ?_)
  refine S.call hf rfl rfl rfl (call_fn (vs := [.slice rA r.length rC, .func (.func 87) #[] #[.pointer (some ⟨g1, 0, none⟩)]]) rfl rfl rfl Tryd.call86) (R_indexfunc_reel r name _ rA rC ((Ag.args _ _ _).view hv_r hs) g1 (hs.boxAt 0 rfl) _ h) (fun v a w' hf hr => ?_)
  obtain ⟨y1, rfl, h2, hs2⟩ := hr
  replace h := h2; replace hs := hs.call hs2; clear h2 hs2
  refine S.val hf hs (v := .int .i64 y1) rfl rfl rfl (V.pure rfl) (fun a hf => ?_)
  refine R.nil ?_
  refine X.then_ ?_
  refine wp_ret ?_
  exact L.ret hf (run_results1 Tryd.results85 (ResIs.tmp hf rfl)) ⟨y1, rfl, h, hs.nil⟩

set_option linter.unusedVariables false
def M_mount_pick_k2 (r : (List Reel)) (xk1 : Instead) (n2 : Int) (next1 : Int → Prop) (c1 : Bool) : Prop :=
  cnd c1 (M_pick1 xk1.By r fun y2 => next1 y2) (next1 n2)
def M_mount_pick_L1 (r : (List Reel)) (name : Str) (k1 : Nat) (xk1 : Instead) (n2 : Int) (next1 : Int → Prop) : Prop :=
  cnd (decide (n2 < 0)) (M_mount_pick_k2 r xk1 n2 next1 (xk1.Typ == name)) (M_mount_pick_k2 r xk1 n2 next1 false)
def M_mount_pick (r : (List Reel)) (s_ : (List Instead)) (name : Str) (Q : Int → Prop) : Prop :=
  M_pick1 name r fun y1 => forIn' (fun k x (s : Int) next => M_mount_pick_L1 r name k x s (fun n2 => next n2)) (fun (s : Int) => (fun (n2 : Int) => Q n2) s) s_ 0 y1
set_option maxHeartbeats 1000000 in
theorem R_mount_pick (r : (List Reel)) (s_ : (List Instead)) (name : Str) (w0 : World) (rA : Option Addr) (rC : Nat) (hv_r : View w0 (old w0 none_) rA rC r) (s_A : Option Addr) (s_C : Nat) (hv_s_ : View w0 (old w0 none_) s_A s_C s_) (Q : Int → Prop) (h : M_mount_pick r s_ name Q) :
    Ret Tryd.prog 56 #[.slice rA r.length rC, .slice s_A s_.length s_C, .string (ba name)] w0 fun v w' => ∃ (r0 : Int), v = .int .i64 r0 ∧ Q r0 ∧ Sat w0 none_ [] w' := by
  refine fn_enter Tryd.func56 rfl Tryd.ntmps56 rfl (fs := [(0, .slice rA r.length rC), (1, .slice s_A s_.length s_C), (2, .string (ba name))]) rfl (fun a hf => ?_)
  have hs := Sat.start w0 none_
  unfold M_mount_pick at h
  refine wp_seq ?_
  refine R.list ?_
  refine S.box hf hs rfl rfl rfl [.slice rA r.length rC] rfl rfl rfl (fun g1 a w hf hs => ?_)
  refine S.val hf hs (v := .int .i64 0) rfl rfl rfl (V.pure rfl) (fun a hf => ?_)
  refine R.nil ?_
  refine X.then_ ?_
  refine wp_seq ?_
  refine R.list ?_
  refine S.val hf hs (v := .func (.func 85) #[] #[.pointer (some ⟨g1, 0, none⟩)]) rfl rfl rfl (V.pure rfl) (fun a hf => ?_)
  refine S.val hf hs (v := .func (.func 85) #[] #[.pointer (some ⟨g1, 0, none⟩)]) rfl rfl rfl (V.pure rfl) (fun a hf => ?_)
  refine R.nil ?_
  refine X.then_ ?_
  refine wp_seq ?_
  refine R.list ?_
  refine S.val hf hs (v := .func (.func 85) #[] #[.pointer (some ⟨g1, 0, none⟩)]) rfl rfl rfl (V.pure rfl) (fun a hf => ?_)
  refine S.val hf hs (v := .string (ba name)) rfl rfl rfl (V.pure rfl) (fun a hf => ?_)
  refine S.call hf rfl rfl rfl (call_run (args := #[.string (ba name), .pointer (some ⟨g1, 0, none⟩)]) rfl rfl rfl Tryd.call85 (by simp)) (R_pick1 name r _ rA rC ((Ag.args _ _ _).view hv_r hs) g1 (hs.boxAt 0 rfl) _ h) (fun v a w' hf hr => ?_)
  obtain ⟨y1, rfl, h2, hs2⟩ := hr
  replace h := h2; replace hs := hs.call hs2; clear h2 hs2
  refine S.val hf hs (v := .int .i64 y1) rfl rfl rfl (V.pure rfl) (fun a hf => ?_)
  refine R.nil ?_
  refine X.then_ ?_
  refine wp_seq ?_
  refine wp_seq ?_
  refine R.list ?_
  refine S.val hf hs (v := .slice s_A s_.length s_C) rfl rfl rfl (V.pure rfl) (fun a hf => ?_)
  refine S.val hf hs (v := .int .i64 (s_.length : Int)) rfl rfl rfl (V.len rfl rfl Tryd.runUnderlying44) (fun a hf => ?_)
  refine S.val hf hs (v := .int .i64 0) rfl rfl rfl (V.pure rfl) (fun a hf => ?_)
  refine R.nil ?_
  refine X.then_ ?_
  refine wp_block ?_
  have hlenk1 := hv_s_.len64
  refine C.range (fun (ll : List Instead) a w => ∃ (k1 : Nat) (n2 : Int), s_.drop k1 = ll ∧ k1 + ll.length = s_.length ∧ forIn' (fun k x (s : Int) next => M_mount_pick_L1 r name k x s (fun n2 => next n2)) (fun (s : Int) => (fun (n2 : Int) => Q n2) s) ll k1 n2 ∧ FrOk 35 [(17, .int .i64 (k1 : Int)), (2, .string (ba name)), (7, .func (.func 85) #[] #[.pointer (some ⟨g1, 0, none⟩)]), (8, .int .i64 n2), (15, .slice s_A s_.length s_C), (16, .int .i64 (s_.length : Int))] a ∧ Sat w0 none_ [hbox g1 43 [.slice rA r.length rC]] w) s_ ⟨0, y1, rfl, Nat.zero_add _, h, ((((((hf.nil.cons (hf.get 16 _ rfl)).cons (hf.get 15 _ rfl)).cons (hf.get 8 _ rfl)).cons (hf.get 7 _ rfl)).cons (hf.get 2 _ rfl)).cons (hf.get 17 _ rfl)), hs⟩ ?_
  clear h hf hs
  rintro llk1 a w ⟨k1, n2, hlk1, hkk1, h, hf, hs⟩
  cases llk1 with
  | nil =>
    have hc := range_done hkk1
    replace h : (fun (n2 : Int) => Q n2) n2 := h
    refine wp_seq ?_
    refine R.list ?_
    refine S.val hf hs (v := .bool false) rfl rfl rfl (V.cmp false rfl rfl rfl rfl hc) (fun a hf => ?_)
    refine R.nil ?_
    refine X.then_ ?_
    refine wp_seq ?_
    refine C.no hf rfl ?_
    refine wp_exit ?_
    refine X.then_exit ?_
    refine X.then_exit ?_
    refine X.blk_exit ?_
    refine X.then_ ?_
    refine wp_seq ?_
    refine R.list ?_
    refine S.val hf hs (v := .int .i64 n2) rfl rfl rfl (V.pure rfl) (fun a hf => ?_)
    refine S.val hf hs (v := .int .i64 n2) rfl rfl rfl (V.pure rfl) (fun a hf => ?_)
    refine R.nil ?_
    refine X.then_ ?_
    refine wp_ret ?_
    exact L.ret hf (run_results1 Tryd.results56 (ResIs.tmp hf rfl)) ⟨n2, rfl, h, hs.nil⟩
  | cons xk1 llk1 =>
    have hltk1 := range_lt hkk1; have hc := range_go hkk1; have hxk1 := range_get hlk1
    obtain ⟨next1, hnext1⟩ : ∃ X : Int → Prop, X = (fun n2 => forIn' (fun k x (s : Int) next => M_mount_pick_L1 r name k x s (fun n2 => next n2)) (fun (s : Int) => (fun (n2 : Int) => Q n2) s) llk1 (k1 + 1) n2) := ⟨_, rfl⟩
    replace h : M_mount_pick_L1 r name k1 xk1 n2 next1 := by rw [hnext1]; exact h
    unfold M_mount_pick_L1 at h
    refine wp_seq ?_
    refine R.list ?_
    refine S.val hf hs (v := .bool true) rfl rfl rfl (V.cmp true rfl rfl rfl rfl hc) (fun a hf => ?_)
    refine R.nil ?_
    refine X.then_ ?_
    refine wp_seq ?_
    refine C.yes hf rfl ?_
    refine wp_skip ?_
    refine X.then_ ?_
    refine wp_seq ?_
    refine wp_block ?_
    refine wp_seq ?_
    refine R.list ?_
    refine S.val hf hs (v := elemPtr s_A (k1 * 2)) rfl rfl rfl (V.index rfl rfl rfl Tryd.runUnderlying44 Tryd.sizeOf121 (hv_s_.some_ (lt_of_get hxk1)) (Int.natCast_nonneg _) (lt_of_get hxk1) rfl) (fun a hf => ?_)
    refine S.val hf hs (v := .agg #[.string (ba xk1.Typ), .string (ba xk1.By)]) rfl rfl rfl (V.loadEl (off := 0) (Ag.args _ _ _) (hv_s_.flat hxk1) rfl rfl rfl Tryd.isAgg121 Tryd.sizeOf121 rfl rfl) (fun a hf => ?_)
    refine S.alloc hf hs rfl rfl rfl [.string (ba []), .string (ba [])] rfl Tryd.zeroValue121 rfl (fun g2 a w hf hs => ?_)
    refine S.storeBox 0 hf hs rfl rfl [.string (ba xk1.Typ), .string (ba xk1.By)] [.string (ba xk1.Typ), .string (ba xk1.By)] rfl rfl rfl rfl rfl Tryd.sizeOf121 rfl rfl rfl rfl (fun a w hf hs => ?_)
    refine R.nil ?_
    refine X.then_ ?_
    refine wp_seq ?_
    refine C.cut (J := fun a w => ∃ (c1 : Bool), M_mount_pick_k2 r xk1 n2 next1 c1 ∧ FrOk 35 [(2, .string (ba name)), (7, .func (.func 85) #[] #[.pointer (some ⟨g1, 0, none⟩)]), (8, .int .i64 n2), (10, .pointer (some ⟨g2, 0, none⟩)), (15, .slice s_A s_.length s_C), (16, .int .i64 (s_.length : Int)), (17, .int .i64 (k1 : Int)), (28, .bool c1)] a ∧ Sat w0 none_ [hbox g2 121 [.string (ba xk1.Typ), .string (ba xk1.By)], hbox g1 43 [.slice rA r.length rC]] w) ?_ ?_
    · rintro a w ⟨c1, h, hf, hs⟩
      unfold M_mount_pick_k2 at h
      refine C.cond hf (b := c1) rfl (fun hc => ?_) (fun hc => ?_)
      · replace h := h.1 hc
        refine R.list ?_
        refine S.val hf hs (v := .func (.func 85) #[] #[.pointer (some ⟨g1, 0, none⟩)]) rfl rfl rfl (V.pure rfl) (fun a hf => ?_)
        refine S.val hf hs (v := .pointer (some ⟨g2, 1, none⟩)) rfl rfl rfl (V.fieldBox rfl rfl Tryd.runUnderlying121 rfl Tryd.sizeOf9 rfl rfl) (fun a hf => ?_)
        refine S.val hf hs (v := .string (ba xk1.By)) rfl rfl rfl (V.loadBox 0 rfl rfl rfl Tryd.isAgg9 Tryd.sizeOf9 rfl rfl) (fun a hf => ?_)
        refine S.call hf rfl rfl rfl (call_run (args := #[.string (ba xk1.By), .pointer (some ⟨g1, 0, none⟩)]) rfl rfl rfl Tryd.call85 (by simp)) (R_pick1 xk1.By r _ rA rC ((Ag.args _ _ _).view hv_r hs) g1 (hs.boxAt 1 rfl) _ h) (fun v a w' hf hr => ?_)
        obtain ⟨y2, rfl, h2, hs2⟩ := hr
        replace h := h2; replace hs := hs.call hs2; clear h2 hs2
        refine S.val hf hs (v := .int .i64 y2) rfl rfl rfl (V.pure rfl) (fun a hf => ?_)
        refine R.nil ?_
        refine X.blk ?_
        refine X.then_ ?_
        refine R.list ?_
        refine S.val hf hs (v := .int .i64 ((k1 + 1 : Nat) : Int)) rfl rfl rfl (V.incr rfl rfl rfl hltk1 hlenk1) (fun a hf => ?_)
        refine S.val hf hs (v := .int .i64 ((k1 + 1 : Nat) : Int)) rfl rfl rfl (V.pure rfl) (fun a hf => ?_)
        refine R.nil ?_
        refine X.then_ ?_
        exact ⟨xk1, llk1, rfl, k1 + 1, y2, range_drop hlk1, range_len hkk1, (by rw [hnext1] at h; exact h), ((((((hf.nil.cons (hf.get 16 _ rfl)).cons (hf.get 15 _ rfl)).cons (hf.get 8 _ rfl)).cons (hf.get 7 _ rfl)).cons (hf.get 2 _ rfl)).cons (hf.get 17 _ rfl)), hs.drop⟩
      · replace h := h.2 hc
        refine wp_skip ?_
        refine X.blk ?_
        refine X.then_ ?_
        refine R.list ?_
        refine S.val hf hs (v := .int .i64 ((k1 + 1 : Nat) : Int)) rfl rfl rfl (V.incr rfl rfl rfl hltk1 hlenk1) (fun a hf => ?_)
        refine S.val hf hs (v := .int .i64 ((k1 + 1 : Nat) : Int)) rfl rfl rfl (V.pure rfl) (fun a hf => ?_)
        refine R.nil ?_
        refine X.then_ ?_
        exact ⟨xk1, llk1, rfl, k1 + 1, n2, range_drop hlk1, range_len hkk1, (by rw [hnext1] at h; exact h), ((((((hf.nil.cons (hf.get 16 _ rfl)).cons (hf.get 15 _ rfl)).cons (hf.get 8 _ rfl)).cons (hf.get 7 _ rfl)).cons (hf.get 2 _ rfl)).cons (hf.get 17 _ rfl)), hs.drop⟩
    · skip
      refine R.list ?_
      refine S.val hf hs (v := .int .i64 n2) rfl rfl rfl (V.pure rfl) (fun a hf => ?_)
      refine S.val hf hs (v := .bool (decide (n2 < 0))) rfl rfl rfl (V.pure rfl) (fun a hf => ?_)
      refine S.split hf hs (b := decide (n2 < 0)) rfl rfl rfl (V.pure rfl) (fun hc a hf => ?_) (fun hc a hf => ?_)
      · replace h := h.1 hc
        refine S.val hf hs (v := .pointer (some ⟨g2, 0, none⟩)) rfl rfl rfl (V.fieldBox rfl rfl Tryd.runUnderlying121 rfl Tryd.sizeOf9 rfl rfl) (fun a hf => ?_)
        refine S.val hf hs (v := .string (ba xk1.Typ)) rfl rfl rfl (V.loadBox 0 rfl rfl rfl Tryd.isAgg9 Tryd.sizeOf9 rfl rfl) (fun a hf => ?_)
        refine S.val hf hs (v := .string (ba name)) rfl rfl rfl (V.pure rfl) (fun a hf => ?_)
        refine S.val hf hs (v := .bool (xk1.Typ == name)) rfl rfl rfl (V.strCmp (xk1.Typ == name) rfl rfl rfl rfl) (fun a hf => ?_)
        refine S.val hf hs (v := .bool (xk1.Typ == name)) rfl rfl rfl (V.pure rfl) (fun a hf => ?_)
        refine R.nil ?_
        refine X.then_ ?_
        exact ⟨(xk1.Typ == name), h, ((((((((hf.nil.cons (hf.get 28 _ rfl)).cons (hf.get 17 _ rfl)).cons (hf.get 16 _ rfl)).cons (hf.get 15 _ rfl)).cons (hf.get 10 _ rfl)).cons (hf.get 8 _ rfl)).cons (hf.get 7 _ rfl)).cons (hf.get 2 _ rfl)), hs⟩
      · replace h := h.2 hc
        refine S.skip hf rfl rfl rfl (fun a hf => ?_)
        refine S.skip hf rfl rfl rfl (fun a hf => ?_)
        refine S.skip hf rfl rfl rfl (fun a hf => ?_)
        refine S.skip hf rfl rfl rfl (fun a hf => ?_)
        refine S.val hf hs (v := .bool false) rfl rfl rfl (V.pure rfl) (fun a hf => ?_)
        refine R.nil ?_
        refine X.then_ ?_
        exact ⟨false, h, ((((((((hf.nil.cons (hf.get 28 _ rfl)).cons (hf.get 17 _ rfl)).cons (hf.get 16 _ rfl)).cons (hf.get 15 _ rfl)).cons (hf.get 10 _ rfl)).cons (hf.get 8 _ rfl)).cons (hf.get 7 _ rfl)).cons (hf.get 2 _ rfl)), hs⟩

set_option linter.unusedVariables false
def M_mount_Picks_k3 (l7 : List Pick) (next2 : List Pick → List Reel → Prop) (l9 : List Reel) (b1 : Pick) : Prop :=
  must (room (l7 ++ [b1]).length 48) (next2 (l7 ++ [b1]) l9)
def M_mount_Picks_L2 (s_ : (List Instead)) (n2 : Int) (k2 : Nat) (xk2 : Place) (l7 : List Pick) (l8 : List Reel) (next2 : List Pick → List Reel → Prop) : Prop :=
  M_mount_pick l8 s_ xk2.Typ fun y6 => cnd (decide (y6 ≥ 0)) (idx l8 y6 fun x1 => idx (l8.set y6.toNat (⟨x1.Slot, x1.Typ, w64 (x1.Left - 1)⟩ : Reel)) y6 fun x2 => M_mount_Picks_k3 l7 next2 (l8.set y6.toNat (⟨x1.Slot, x1.Typ, w64 (x1.Left - 1)⟩ : Reel)) (⟨n2, xk2.Part, x2.Typ, x2.Slot⟩ : Pick)) (M_mount_Picks_k3 l7 next2 l8 (⟨n2, xk2.Part, xk2.Typ, 0⟩ : Pick))
def M_mount_Picks_L1 (l : (List Place)) (s_ : (List Instead)) (boards : Int) (Q : (List Pick) → (List Reel) → Int → Prop) (again1 : List Pick → List Reel → Int → Prop) (l3 : List Pick) (l4 : List Reel) (n2 : Int) : Prop :=
  cnd (decide (n2 ≤ boards)) (forIn' (fun k x (s : List Pick × List Reel) next => M_mount_Picks_L2 s_ n2 k x s.1 s.2 (fun l7 l8 => next (l7, l8))) (fun (s : List Pick × List Reel) => (fun (l7 : List Pick) (l8 : List Reel) => again1 l7 l8 (w64 (n2 + 1))) s.1 s.2) l 0 (l3, l4)) (Q l3 l4 0)
def M_mount_Picks (b : (List Body)) (l : (List Place)) (r : (List Reel)) (s_ : (List Instead)) (boards : Int) (Q : (List Pick) → (List Reel) → Int → Prop) : Prop :=
  M_mount_CheckPlaces b l fun y1 => cnd (y1 != 0) (Q ([] : List Pick) ([] : List Reel) y1) (M_mount_CheckReels r fun y2 => cnd (y2 != 0) (Q ([] : List Pick) ([] : List Reel) y2) (M_mount_checkInstead s_ fun y3 => cnd (y3 != 0) (Q ([] : List Pick) ([] : List Reel) y3) (M_mount_isBoards boards fun y4 => cnd (!y4) (Q ([] : List Pick) ([] : List Reel) 1) (cnd (decide (w64 (boards * (l.length : Int)) > 20000)) (Q ([] : List Pick) ([] : List Reel) 2) (M_clone_reel r fun y5 => lp (fun again (s : List Pick × List Reel × Int) => M_mount_Picks_L1 l s_ boards Q (fun l3 l4 n2 => again (l3, l4, n2)) s.1 s.2.1 s.2.2) (([] : List Pick), y5, 1))))))
set_option maxHeartbeats 1000000 in
theorem R_mount_Picks (b : (List Body)) (l : (List Place)) (r : (List Reel)) (s_ : (List Instead)) (boards : Int) (w0 : World) (bA : Option Addr) (bC : Nat) (hv_b : View w0 (old w0 none_) bA bC b) (lA : Option Addr) (lC : Nat) (hv_l : View w0 (old w0 none_) lA lC l) (rA : Option Addr) (rC : Nat) (hv_r : View w0 (old w0 none_) rA rC r) (s_A : Option Addr) (s_C : Nat) (hv_s_ : View w0 (old w0 none_) s_A s_C s_) (Q : (List Pick) → (List Reel) → Int → Prop) (h : M_mount_Picks b l r s_ boards Q) :
    Ret Tryd.prog 19 #[.slice bA b.length bC, .slice lA l.length lC, .slice rA r.length rC, .slice s_A s_.length s_C, .int .i64 boards] w0 fun v w' => ∃ (r0 : (List Pick)) (r0A : Option Addr) (r0C : Nat) (r1 : (List Reel)) (r1A : Option Addr) (r1C : Nat) (r2 : Int), v = .tuple #[.slice r0A r0.length r0C, .slice r1A r1.length r1C, .int .i64 r2] ∧ Q r0 r1 r2 ∧ Sat w0 none_ [hown 50 r0A r0C r0, hown 52 r1A r1C r1] w' := by
  refine fn_enter Tryd.func19 rfl Tryd.ntmps19 rfl (fs := [(0, .slice bA b.length bC), (1, .slice lA l.length lC), (2, .slice rA r.length rC), (3, .slice s_A s_.length s_C), (4, .int .i64 boards)]) rfl (fun a hf => ?_)
  have hs := Sat.start w0 none_
  unfold M_mount_Picks at h
  refine wp_seq ?_
  refine R.list ?_
  refine S.val hf hs (v := .slice none 0 0) rfl rfl rfl (V.pure rfl) (fun a hf => ?_)
  refine S.val hf hs (v := .slice none 0 0) rfl rfl rfl (V.pure rfl) (fun a hf => ?_)
  refine S.val hf hs (v := .int .i64 0) rfl rfl rfl (V.pure rfl) (fun a hf => ?_)
  refine R.nil ?_
  refine X.then_ ?_
  refine wp_seq ?_
  refine wp_seq ?_
  refine R.list ?_
  refine S.val hf hs (v := .slice bA b.length bC) rfl rfl rfl (V.pure rfl) (fun a hf => ?_)
  refine S.val hf hs (v := .slice lA l.length lC) rfl rfl rfl (V.pure rfl) (fun a hf => ?_)
  refine S.call hf rfl rfl rfl (call_fn (vs := [.slice bA b.length bC, .slice lA l.length lC]) rfl rfl rfl Tryd.call35) (R_mount_CheckPlaces b l _ bA bC ((Ag.args _ _ _).view hv_b hs) lA lC ((Ag.args _ _ _).view hv_l hs) _ h) (fun v a w' hf hr => ?_)
  obtain ⟨y1, rfl, h2, hs2⟩ := hr
  replace h := h2; replace hs := hs.call hs2; clear h2 hs2
  refine S.val hf hs (v := .int .i64 y1) rfl rfl rfl (V.pure rfl) (fun a hf => ?_)
  refine R.nil ?_
  refine X.then_ ?_
  refine wp_seq ?_
  refine R.list ?_
  refine S.val hf hs (v := .int .i64 y1) rfl rfl rfl (V.pure rfl) (fun a hf => ?_)
  refine S.val hf hs (v := .bool (y1 != 0)) rfl rfl rfl (V.pure rfl) (fun a hf => ?_)
  refine R.nil ?_
  refine X.then_ ?_
  refine C.cond hf (b := y1 != 0) rfl (fun hc => ?_) (fun hc => ?_)
  · replace h := h.1 hc
    refine wp_seq ?_
    refine R.list ?_
    refine S.val hf hs (v := .int .i64 y1) rfl rfl rfl (V.pure rfl) (fun a hf => ?_)
    refine S.val hf hs (v := .slice none 0 0) rfl rfl rfl (V.pure rfl) (fun a hf => ?_)
    refine S.val hf hs (v := .slice none 0 0) rfl rfl rfl (V.pure rfl) (fun a hf => ?_)
    refine S.val hf hs (v := .int .i64 y1) rfl rfl rfl (V.pure rfl) (fun a hf => ?_)
    refine R.nil ?_
    refine X.then_ ?_
    refine wp_ret ?_
    refine X.then_ret ?_
    replace hs := hs.nilOwn (α := Pick) 50
    replace hs := hs.nilOwn (α := Reel) 52
    replace hs := hs.front 1 rfl
    replace hs := hs.take 2
    exact L.ret hf (run_results3 Tryd.results19 (ResIs.tmp hf rfl) (ResIs.tmp hf rfl) (ResIs.tmp hf rfl)) ⟨([] : List Pick), none, 0, ([] : List Reel), none, 0, y1, rfl, h, hs⟩
  · replace h := h.2 hc
    refine wp_skip ?_
    refine X.then_ ?_
    refine wp_seq ?_
    refine wp_seq ?_
    refine R.list ?_
    refine S.val hf hs (v := .slice rA r.length rC) rfl rfl rfl (V.pure rfl) (fun a hf => ?_)
    refine S.call hf rfl rfl rfl (call_fn (vs := [.slice rA r.length rC]) rfl rfl rfl Tryd.call44) (R_mount_CheckReels r _ rA rC ((Ag.args _ _ _).view hv_r hs) _ h) (fun v a w' hf hr => ?_)
    obtain ⟨y2, rfl, h2, hs2⟩ := hr
    replace h := h2; replace hs := hs.call hs2; clear h2 hs2
    refine S.val hf hs (v := .int .i64 y2) rfl rfl rfl (V.pure rfl) (fun a hf => ?_)
    refine R.nil ?_
    refine X.then_ ?_
    refine wp_seq ?_
    refine R.list ?_
    refine S.val hf hs (v := .int .i64 y2) rfl rfl rfl (V.pure rfl) (fun a hf => ?_)
    refine S.val hf hs (v := .bool (y2 != 0)) rfl rfl rfl (V.pure rfl) (fun a hf => ?_)
    refine R.nil ?_
    refine X.then_ ?_
    refine C.cond hf (b := y2 != 0) rfl (fun hc => ?_) (fun hc => ?_)
    · replace h := h.1 hc
      refine wp_seq ?_
      refine R.list ?_
      refine S.val hf hs (v := .int .i64 y2) rfl rfl rfl (V.pure rfl) (fun a hf => ?_)
      refine S.val hf hs (v := .slice none 0 0) rfl rfl rfl (V.pure rfl) (fun a hf => ?_)
      refine S.val hf hs (v := .slice none 0 0) rfl rfl rfl (V.pure rfl) (fun a hf => ?_)
      refine S.val hf hs (v := .int .i64 y2) rfl rfl rfl (V.pure rfl) (fun a hf => ?_)
      refine R.nil ?_
      refine X.then_ ?_
      refine wp_ret ?_
      refine X.then_ret ?_
      replace hs := hs.nilOwn (α := Pick) 50
      replace hs := hs.nilOwn (α := Reel) 52
      replace hs := hs.front 1 rfl
      replace hs := hs.take 2
      exact L.ret hf (run_results3 Tryd.results19 (ResIs.tmp hf rfl) (ResIs.tmp hf rfl) (ResIs.tmp hf rfl)) ⟨([] : List Pick), none, 0, ([] : List Reel), none, 0, y2, rfl, h, hs⟩
    · replace h := h.2 hc
      refine wp_skip ?_
      refine X.then_ ?_
      refine wp_seq ?_
      refine wp_seq ?_
      refine R.list ?_
      refine S.val hf hs (v := .slice s_A s_.length s_C) rfl rfl rfl (V.pure rfl) (fun a hf => ?_)
      refine S.call hf rfl rfl rfl (call_fn (vs := [.slice s_A s_.length s_C]) rfl rfl rfl Tryd.call53) (R_mount_checkInstead s_ _ s_A s_C ((Ag.args _ _ _).view hv_s_ hs) _ h) (fun v a w' hf hr => ?_)
      obtain ⟨y3, rfl, h2, hs2⟩ := hr
      replace h := h2; replace hs := hs.call hs2; clear h2 hs2
      refine S.val hf hs (v := .int .i64 y3) rfl rfl rfl (V.pure rfl) (fun a hf => ?_)
      refine R.nil ?_
      refine X.then_ ?_
      refine wp_seq ?_
      refine R.list ?_
      refine S.val hf hs (v := .int .i64 y3) rfl rfl rfl (V.pure rfl) (fun a hf => ?_)
      refine S.val hf hs (v := .bool (y3 != 0)) rfl rfl rfl (V.pure rfl) (fun a hf => ?_)
      refine R.nil ?_
      refine X.then_ ?_
      refine C.cond hf (b := y3 != 0) rfl (fun hc => ?_) (fun hc => ?_)
      · replace h := h.1 hc
        refine wp_seq ?_
        refine R.list ?_
        refine S.val hf hs (v := .int .i64 y3) rfl rfl rfl (V.pure rfl) (fun a hf => ?_)
        refine S.val hf hs (v := .slice none 0 0) rfl rfl rfl (V.pure rfl) (fun a hf => ?_)
        refine S.val hf hs (v := .slice none 0 0) rfl rfl rfl (V.pure rfl) (fun a hf => ?_)
        refine S.val hf hs (v := .int .i64 y3) rfl rfl rfl (V.pure rfl) (fun a hf => ?_)
        refine R.nil ?_
        refine X.then_ ?_
        refine wp_ret ?_
        refine X.then_ret ?_
        replace hs := hs.nilOwn (α := Pick) 50
        replace hs := hs.nilOwn (α := Reel) 52
        replace hs := hs.front 1 rfl
        replace hs := hs.take 2
        exact L.ret hf (run_results3 Tryd.results19 (ResIs.tmp hf rfl) (ResIs.tmp hf rfl) (ResIs.tmp hf rfl)) ⟨([] : List Pick), none, 0, ([] : List Reel), none, 0, y3, rfl, h, hs⟩
      · replace h := h.2 hc
        refine wp_skip ?_
        refine X.then_ ?_
        refine wp_seq ?_
        refine wp_seq ?_
        refine R.list ?_
        refine S.val hf hs (v := .int .i64 boards) rfl rfl rfl (V.pure rfl) (fun a hf => ?_)
        refine S.call hf rfl rfl rfl (call_fn (vs := [.int .i64 boards]) rfl rfl rfl Tryd.call54) (R_mount_isBoards boards _  _ h) (fun v a w' hf hr => ?_)
        obtain ⟨y4, rfl, h2, hs2⟩ := hr
        replace h := h2; replace hs := hs.call hs2; clear h2 hs2
        refine S.val hf hs (v := .bool (!y4)) rfl rfl rfl (V.pure rfl) (fun a hf => ?_)
        refine R.nil ?_
        refine X.then_ ?_
        refine C.cond hf (b := !y4) rfl (fun hc => ?_) (fun hc => ?_)
        · replace h := h.1 hc
          refine wp_seq ?_
          refine R.list ?_
          refine S.val hf hs (v := .slice none 0 0) rfl rfl rfl (V.pure rfl) (fun a hf => ?_)
          refine S.val hf hs (v := .slice none 0 0) rfl rfl rfl (V.pure rfl) (fun a hf => ?_)
          refine S.val hf hs (v := .int .i64 1) rfl rfl rfl (V.pure rfl) (fun a hf => ?_)
          refine R.nil ?_
          refine X.then_ ?_
          refine wp_ret ?_
          refine X.then_ret ?_
          replace hs := hs.nilOwn (α := Pick) 50
          replace hs := hs.nilOwn (α := Reel) 52
          replace hs := hs.front 1 rfl
          replace hs := hs.take 2
          exact L.ret hf (run_results3 Tryd.results19 (ResIs.tmp hf rfl) (ResIs.tmp hf rfl) (ResIs.tmp hf rfl)) ⟨([] : List Pick), none, 0, ([] : List Reel), none, 0, 1, rfl, h, hs⟩
        · replace h := h.2 hc
          refine wp_skip ?_
          refine X.then_ ?_
          refine wp_seq ?_
          refine wp_seq ?_
          refine R.list ?_
          refine S.val hf hs (v := .int .i64 boards) rfl rfl rfl (V.pure rfl) (fun a hf => ?_)
          refine S.val hf hs (v := .slice lA l.length lC) rfl rfl rfl (V.pure rfl) (fun a hf => ?_)
          refine S.val hf hs (v := .int .i64 (l.length : Int)) rfl rfl rfl (V.len rfl rfl Tryd.runUnderlying23) (fun a hf => ?_)
          refine S.val hf hs (v := .int .i64 (w64 (boards * (l.length : Int)))) rfl rfl rfl (V.pure rfl) (fun a hf => ?_)
          refine S.val hf hs (v := .bool (decide (w64 (boards * (l.length : Int)) > 20000))) rfl rfl rfl (V.pure rfl) (fun a hf => ?_)
          refine R.nil ?_
          refine X.then_ ?_
          refine C.cond hf (b := decide (w64 (boards * (l.length : Int)) > 20000)) rfl (fun hc => ?_) (fun hc => ?_)
          · replace h := h.1 hc
            refine wp_seq ?_
            refine R.list ?_
            refine S.val hf hs (v := .slice none 0 0) rfl rfl rfl (V.pure rfl) (fun a hf => ?_)
            refine S.val hf hs (v := .slice none 0 0) rfl rfl rfl (V.pure rfl) (fun a hf => ?_)
            refine S.val hf hs (v := .int .i64 2) rfl rfl rfl (V.pure rfl) (fun a hf => ?_)
            refine R.nil ?_
            refine X.then_ ?_
            refine wp_ret ?_
            refine X.then_ret ?_
            replace hs := hs.nilOwn (α := Pick) 50
            replace hs := hs.nilOwn (α := Reel) 52
            replace hs := hs.front 1 rfl
            replace hs := hs.take 2
            exact L.ret hf (run_results3 Tryd.results19 (ResIs.tmp hf rfl) (ResIs.tmp hf rfl) (ResIs.tmp hf rfl)) ⟨([] : List Pick), none, 0, ([] : List Reel), none, 0, 2, rfl, h, hs⟩
          · replace h := h.2 hc
            refine wp_skip ?_
            refine X.then_ ?_
            refine wp_seq ?_
            refine R.list ?_
            refine S.val hf hs (v := .slice rA r.length rC) rfl rfl rfl (V.pure rfl) (fun a hf => ?_)
            refine S.call hf rfl rfl rfl (call_fn (vs := [.slice rA r.length rC]) rfl rfl rfl Tryd.call55) (R_clone_reel r _ rA rC ((Ag.args _ _ _).view hv_r hs) _ h) (fun v a w' hf hr => ?_)
            obtain ⟨y5, y5A, y5C, rfl, h2, hs2⟩ := hr
            replace h := h2; replace hs := hs.call hs2; clear h2 hs2
            refine S.val hf hs (v := .slice y5A y5.length y5C) rfl rfl rfl (V.pure rfl) (fun a hf => ?_)
            refine R.nil ?_
            refine X.then_ ?_
            refine wp_seq ?_
            refine R.list ?_
            refine S.val hf hs (v := .slice none 0 0) rfl rfl rfl (V.pure rfl) (fun a hf => ?_)
            refine R.nil ?_
            refine X.then_ ?_
            refine wp_seq ?_
            refine wp_seq ?_
            refine R.list ?_
            refine S.val hf hs (v := .int .i64 1) rfl rfl rfl (V.pure rfl) (fun a hf => ?_)
            refine R.nil ?_
            refine X.then_ ?_
            refine wp_block ?_
            replace hs := hs.nilOwn (α := Pick) 50
            obtain ⟨kk, h⟩ := h
            refine C.loop (fun kk a w => ∃ (l3 : List Pick) (l3A : Option Addr) (l3C : Nat) (l4 : List Reel) (l4A : Option Addr) (l4C : Nat) (n2 : Int), iterF (fun again (s : List Pick × List Reel × Int) => M_mount_Picks_L1 l s_ boards Q (fun l3 l4 n2 => again (l3, l4, n2)) s.1 s.2.1 s.2.2) kk (l3, l4, n2) ∧ FrOk 99 [(1, .slice lA l.length lC), (2, .slice l4A l4.length l4C), (3, .slice s_A s_.length s_C), (4, .int .i64 boards), (16, .slice l3A l3.length l3C), (17, .int .i64 n2)] a ∧ Sat w0 none_ [hown 50 l3A l3C l3, hown 52 l4A l4C l4] w) kk ⟨([] : List Pick), none, 0, y5, y5A, y5C, 1, h, ((((((hf.nil.cons (hf.get 17 _ rfl)).cons (hf.get 16 _ rfl)).cons (hf.get 4 _ rfl)).cons (hf.get 3 _ rfl)).cons (hf.get 2 _ rfl)).cons (hf.get 1 _ rfl)), hs⟩ (fun a w ⟨_, _, _, _, _, _, _, h, _, _⟩ => h) ?_
            clear h hf hs
            rintro kk a w ⟨l3, l3A, l3C, l4, l4A, l4C, n2, h, hf, hs⟩
            obtain ⟨again1, hagain1⟩ : ∃ X : List Pick → List Reel → Int → Prop, X = (fun l3 l4 n2 => iterF (fun again (s : List Pick × List Reel × Int) => M_mount_Picks_L1 l s_ boards Q (fun l3 l4 n2 => again (l3, l4, n2)) s.1 s.2.1 s.2.2) kk (l3, l4, n2)) := ⟨_, rfl⟩
            replace h : M_mount_Picks_L1 l s_ boards Q again1 l3 l4 n2 := by rw [hagain1]; exact h
            unfold M_mount_Picks_L1 at h
            refine wp_seq ?_
            refine wp_seq ?_
            refine R.list ?_
            refine S.val hf hs (v := .int .i64 n2) rfl rfl rfl (V.pure rfl) (fun a hf => ?_)
            refine S.val hf hs (v := .int .i64 boards) rfl rfl rfl (V.pure rfl) (fun a hf => ?_)
            refine S.val hf hs (v := .bool (decide (n2 ≤ boards))) rfl rfl rfl (V.pure rfl) (fun a hf => ?_)
            refine R.nil ?_
            refine X.then_ ?_
            refine C.cond hf (b := decide (n2 ≤ boards)) rfl (fun hc => ?_) (fun hc => ?_)
            · replace h := h.1 hc
              refine wp_skip ?_
              refine X.then_ ?_
              refine wp_seq ?_
              refine wp_block ?_
              refine wp_seq ?_
              refine R.list ?_
              refine S.val hf hs (v := .slice lA l.length lC) rfl rfl rfl (V.pure rfl) (fun a hf => ?_)
              refine S.val hf hs (v := .int .i64 (l.length : Int)) rfl rfl rfl (V.len rfl rfl Tryd.runUnderlying23) (fun a hf => ?_)
              refine S.val hf hs (v := .int .i64 0) rfl rfl rfl (V.pure rfl) (fun a hf => ?_)
              refine R.nil ?_
              refine X.then_ ?_
              refine wp_block ?_
              have hlenk2 := hv_l.len64
              refine C.range (fun (ll : List Place) a w => ∃ (k2 : Nat) (l7 : List Pick) (l7A : Option Addr) (l7C : Nat) (l8 : List Reel) (l8A : Option Addr) (l8C : Nat), l.drop k2 = ll ∧ k2 + ll.length = l.length ∧ forIn' (fun k x (s : List Pick × List Reel) next => M_mount_Picks_L2 s_ n2 k x s.1 s.2 (fun l7 l8 => next (l7, l8))) (fun (s : List Pick × List Reel) => (fun (l7 : List Pick) (l8 : List Reel) => again1 l7 l8 (w64 (n2 + 1))) s.1 s.2) ll k2 (l7, l8) ∧ FrOk 99 [(55, .int .i64 (k2 : Int)), (1, .slice lA l.length lC), (2, .slice l8A l8.length l8C), (3, .slice s_A s_.length s_C), (4, .int .i64 boards), (16, .slice l7A l7.length l7C), (17, .int .i64 n2), (53, .slice lA l.length lC), (54, .int .i64 (l.length : Int))] a ∧ Sat w0 none_ [hown 50 l7A l7C l7, hown 52 l8A l8C l8] w) l ⟨0, l3, l3A, l3C, l4, l4A, l4C, rfl, Nat.zero_add _, h, (((((((((hf.nil.cons (hf.get 54 _ rfl)).cons (hf.get 53 _ rfl)).cons (hf.get 17 _ rfl)).cons (hf.get 16 _ rfl)).cons (hf.get 4 _ rfl)).cons (hf.get 3 _ rfl)).cons (hf.get 2 _ rfl)).cons (hf.get 1 _ rfl)).cons (hf.get 55 _ rfl)), hs⟩ ?_
              clear h hf hs
              rintro llk2 a w ⟨k2, l7, l7A, l7C, l8, l8A, l8C, hlk2, hkk2, h, hf, hs⟩
              cases llk2 with
              | nil =>
                have hc := range_done hkk2
                replace h : (fun (l7 : List Pick) (l8 : List Reel) => again1 l7 l8 (w64 (n2 + 1))) l7 l8 := h
                refine wp_seq ?_
                refine R.list ?_
                refine S.val hf hs (v := .bool false) rfl rfl rfl (V.cmp false rfl rfl rfl rfl hc) (fun a hf => ?_)
                refine R.nil ?_
                refine X.then_ ?_
                refine wp_seq ?_
                refine C.no hf rfl ?_
                refine wp_exit ?_
                refine X.then_exit ?_
                refine X.then_exit ?_
                refine X.blk_exit ?_
                refine X.blk ?_
                refine X.then_ ?_
                refine R.list ?_
                refine S.val hf hs (v := .int .i64 n2) rfl rfl rfl (V.pure rfl) (fun a hf => ?_)
                refine S.val hf hs (v := .int .i64 (w64 (n2 + 1))) rfl rfl rfl (V.pure rfl) (fun a hf => ?_)
                refine S.val hf hs (v := .int .i64 (w64 (n2 + 1))) rfl rfl rfl (V.pure rfl) (fun a hf => ?_)
                refine R.nil ?_
                refine X.then_ ?_
                exact ⟨l7, l7A, l7C, l8, l8A, l8C, (w64 (n2 + 1)), (by rw [hagain1] at h; exact h), ((((((hf.nil.cons (hf.get 17 _ rfl)).cons (hf.get 16 _ rfl)).cons (hf.get 4 _ rfl)).cons (hf.get 3 _ rfl)).cons (hf.get 2 _ rfl)).cons (hf.get 1 _ rfl)), hs⟩
              | cons xk2 llk2 =>
                have hltk2 := range_lt hkk2; have hc := range_go hkk2; have hxk2 := range_get hlk2
                obtain ⟨next2, hnext2⟩ : ∃ X : List Pick → List Reel → Prop, X = (fun l7 l8 => forIn' (fun k x (s : List Pick × List Reel) next => M_mount_Picks_L2 s_ n2 k x s.1 s.2 (fun l7 l8 => next (l7, l8))) (fun (s : List Pick × List Reel) => (fun (l7 : List Pick) (l8 : List Reel) => again1 l7 l8 (w64 (n2 + 1))) s.1 s.2) llk2 (k2 + 1) (l7, l8)) := ⟨_, rfl⟩
                replace h : M_mount_Picks_L2 s_ n2 k2 xk2 l7 l8 next2 := by rw [hnext2]; exact h
                unfold M_mount_Picks_L2 at h
                refine wp_seq ?_
                refine R.list ?_
                refine S.val hf hs (v := .bool true) rfl rfl rfl (V.cmp true rfl rfl rfl rfl hc) (fun a hf => ?_)
                refine R.nil ?_
                refine X.then_ ?_
                refine wp_seq ?_
                refine C.yes hf rfl ?_
                refine wp_skip ?_
                refine X.then_ ?_
                refine wp_seq ?_
                refine wp_block ?_
                refine wp_seq ?_
                refine R.list ?_
                refine S.val hf hs (v := elemPtr lA (k2 * 6)) rfl rfl rfl (V.index rfl rfl rfl Tryd.runUnderlying23 Tryd.sizeOf28 (hv_l.some_ (lt_of_get hxk2)) (Int.natCast_nonneg _) (lt_of_get hxk2) rfl) (fun a hf => ?_)
                refine S.val hf hs (v := .agg #[.string (ba xk2.Part), .string (ba xk2.Typ), .int .i64 xk2.At.X, .int .i64 xk2.At.Y, .int .i64 xk2.Quarters, .bool xk2.Below]) rfl rfl rfl (V.loadEl (off := 0) (Ag.args _ _ _) (hv_l.flat hxk2) rfl rfl rfl Tryd.isAgg28 Tryd.sizeOf28 rfl rfl) (fun a hf => ?_)
                refine S.alloc hf hs rfl rfl rfl [.string (ba []), .string (ba []), .int .i64 0, .int .i64 0, .int .i64 0, .bool false] rfl Tryd.zeroValue28 rfl (fun g1 a w hf hs => ?_)
                refine S.storeBox 0 hf hs rfl rfl [.string (ba xk2.Part), .string (ba xk2.Typ), .int .i64 xk2.At.X, .int .i64 xk2.At.Y, .int .i64 xk2.Quarters, .bool xk2.Below] [.string (ba xk2.Part), .string (ba xk2.Typ), .int .i64 xk2.At.X, .int .i64 xk2.At.Y, .int .i64 xk2.Quarters, .bool xk2.Below] rfl rfl rfl rfl rfl Tryd.sizeOf28 rfl rfl rfl rfl (fun a w hf hs => ?_)
                refine R.nil ?_
                refine X.then_ ?_
                refine wp_seq ?_
                refine R.list ?_
                refine S.val hf hs (v := .int .i64 n2) rfl rfl rfl (V.pure rfl) (fun a hf => ?_)
                refine S.val hf hs (v := .pointer (some ⟨g1, 0, none⟩)) rfl rfl rfl (V.fieldBox rfl rfl Tryd.runUnderlying28 rfl Tryd.sizeOf9 rfl rfl) (fun a hf => ?_)
                refine S.val hf hs (v := .string (ba xk2.Part)) rfl rfl rfl (V.loadBox 0 rfl rfl rfl Tryd.isAgg9 Tryd.sizeOf9 rfl rfl) (fun a hf => ?_)
                refine S.val hf hs (v := .pointer (some ⟨g1, 1, none⟩)) rfl rfl rfl (V.fieldBox rfl rfl Tryd.runUnderlying28 rfl Tryd.sizeOf9 rfl rfl) (fun a hf => ?_)
                refine S.val hf hs (v := .string (ba xk2.Typ)) rfl rfl rfl (V.loadBox 0 rfl rfl rfl Tryd.isAgg9 Tryd.sizeOf9 rfl rfl) (fun a hf => ?_)
                refine S.val hf hs (v := .agg #[.int .i64 n2, .string (ba xk2.Part), .string (ba xk2.Typ), .int .i64 0]) rfl rfl rfl (V.build (places := #[(0, 1), (1, 1), (2, 1), (3, 1)]) rfl Tryd.zeroValue50 Tryd.runUnderlying50 (by intro w; simp [Tryd.sizeOf3, Tryd.sizeOf9]) rfl rfl) (fun a hf => ?_)
                refine S.alloc hf hs rfl rfl rfl [.int .i64 0, .string (ba []), .string (ba []), .int .i64 0] rfl Tryd.zeroValue50 rfl (fun g2 a w hf hs => ?_)
                refine S.storeBox 0 hf hs rfl rfl [.int .i64 n2, .string (ba xk2.Part), .string (ba xk2.Typ), .int .i64 0] [.int .i64 n2, .string (ba xk2.Part), .string (ba xk2.Typ), .int .i64 0] rfl rfl rfl rfl rfl Tryd.sizeOf50 rfl rfl rfl rfl (fun a w hf hs => ?_)
                refine R.nil ?_
                refine X.then_ ?_
                refine wp_seq ?_
                refine C.cut (J := fun a w => ∃ (l9 : List Reel) (l9A : Option Addr) (l9C : Nat) (b1 : Pick), M_mount_Picks_k3 l7 next2 l9 b1 ∧ FrOk 99 [(1, .slice lA l.length lC), (2, .slice l9A l9.length l9C), (3, .slice s_A s_.length s_C), (4, .int .i64 boards), (16, .slice l7A l7.length l7C), (17, .int .i64 n2), (20, .pointer (some ⟨g2, 0, none⟩)), (53, .slice lA l.length lC), (54, .int .i64 (l.length : Int)), (55, .int .i64 (k2 : Int))] a ∧ Sat w0 none_ [hbox g2 50 [.int .i64 b1.Board, .string (ba b1.Part), .string (ba b1.Typ), .int .i64 b1.Slot], hbox g1 28 [.string (ba xk2.Part), .string (ba xk2.Typ), .int .i64 xk2.At.X, .int .i64 xk2.At.Y, .int .i64 xk2.Quarters, .bool xk2.Below], hown 50 l7A l7C l7, hown 52 l9A l9C l9] w) ?_ ?_
                · rintro a w ⟨l9, l9A, l9C, b1, h, hf, hs⟩
                  unfold M_mount_Picks_k3 at h
                  refine R.list ?_
                  refine S.val hf hs (v := .slice l7A l7.length l7C) rfl rfl rfl (V.pure rfl) (fun a hf => ?_)
                  refine S.val hf hs (v := .agg #[.int .i64 b1.Board, .string (ba b1.Part), .string (ba b1.Typ), .int .i64 b1.Slot]) rfl rfl rfl (V.loadBox 0 rfl rfl rfl Tryd.isAgg50 Tryd.sizeOf50 rfl rfl) (fun a hf => ?_)
                  refine S.build1 hf hs rfl rfl rfl (α := Pick) b1 rfl rfl rfl Tryd.runUnderlying45 Tryd.sizeOf50 Tryd.zeroValue50 rfl (by decide) (fun A1 a w hf hs => ?_)
                  obtain ⟨hroom, h⟩ := h
                  refine S.appendCells 3 hf hs rfl rfl rfl rfl rfl rfl rfl Tryd.underlying45 info50 rfl hroom ((hs.ownView 0 rfl).some_ (i := 0) (by simp)) (hs.ownView 0 rfl) (fun A2 C1 a w hf hs => ?_)
                  replace hs := hs.drop
                  refine S.val hf hs (v := .slice A2 (l7 ++ [b1]).length C1) rfl rfl rfl (V.pure rfl) (fun a hf => ?_)
                  refine R.nil ?_
                  refine X.blk ?_
                  refine X.then_ ?_
                  refine R.list ?_
                  refine S.val hf hs (v := .int .i64 ((k2 + 1 : Nat) : Int)) rfl rfl rfl (V.incr rfl rfl rfl hltk2 hlenk2) (fun a hf => ?_)
                  refine S.val hf hs (v := .int .i64 ((k2 + 1 : Nat) : Int)) rfl rfl rfl (V.pure rfl) (fun a hf => ?_)
                  refine R.nil ?_
                  refine X.then_ ?_
                  exact ⟨xk2, llk2, rfl, k2 + 1, (l7 ++ [b1]), A2, C1, l9, l9A, l9C, range_drop hlk2, range_len hkk2, (by rw [hnext2] at h; exact h), (((((((((hf.nil.cons (hf.get 54 _ rfl)).cons (hf.get 53 _ rfl)).cons (hf.get 17 _ rfl)).cons (hf.get 16 _ rfl)).cons (hf.get 4 _ rfl)).cons (hf.get 3 _ rfl)).cons (hf.get 2 _ rfl)).cons (hf.get 1 _ rfl)).cons (hf.get 55 _ rfl)), hs.drop.drop⟩
                · skip
                  refine wp_seq ?_
                  refine R.list ?_
                  refine S.val hf hs (v := .slice l8A l8.length l8C) rfl rfl rfl (V.pure rfl) (fun a hf => ?_)
                  refine S.val hf hs (v := .slice s_A s_.length s_C) rfl rfl rfl (V.pure rfl) (fun a hf => ?_)
                  refine S.val hf hs (v := .pointer (some ⟨g1, 1, none⟩)) rfl rfl rfl (V.fieldBox rfl rfl Tryd.runUnderlying28 rfl Tryd.sizeOf9 rfl rfl) (fun a hf => ?_)
                  refine S.val hf hs (v := .string (ba xk2.Typ)) rfl rfl rfl (V.loadBox 1 rfl rfl rfl Tryd.isAgg9 Tryd.sizeOf9 rfl rfl) (fun a hf => ?_)
                  refine S.call hf rfl rfl rfl (call_fn (vs := [.slice l8A l8.length l8C, .slice s_A s_.length s_C, .string (ba xk2.Typ)]) rfl rfl rfl Tryd.call56) (R_mount_pick l8 s_ xk2.Typ _ l8A l8C (hs.ownView 3 rfl) s_A s_C ((Ag.args _ _ _).view hv_s_ hs) _ h) (fun v a w' hf hr => ?_)
                  obtain ⟨y6, rfl, h2, hs2⟩ := hr
                  replace h := h2; replace hs := hs.call hs2; clear h2 hs2
                  refine S.val hf hs (v := .int .i64 y6) rfl rfl rfl (V.pure rfl) (fun a hf => ?_)
                  refine R.nil ?_
                  refine X.then_ ?_
                  refine wp_seq ?_
                  refine R.list ?_
                  refine S.val hf hs (v := .int .i64 y6) rfl rfl rfl (V.pure rfl) (fun a hf => ?_)
                  refine S.val hf hs (v := .bool (decide (y6 ≥ 0))) rfl rfl rfl (V.pure rfl) (fun a hf => ?_)
                  refine R.nil ?_
                  refine X.then_ ?_
                  refine C.cond hf (b := decide (y6 ≥ 0)) rfl (fun hc => ?_) (fun hc => ?_)
                  · replace h := h.1 hc
                    refine wp_seq ?_
                    refine R.list ?_
                    refine S.val hf hs (v := .slice l8A l8.length l8C) rfl rfl rfl (V.pure rfl) (fun a hf => ?_)
                    refine S.val hf hs (v := .int .i64 y6) rfl rfl rfl (V.pure rfl) (fun a hf => ?_)
                    obtain ⟨h0x1, x1, hx1, h⟩ := h
                    refine S.val hf hs (v := elemPtr l8A (y6.toNat * 3)) rfl rfl rfl (V.index rfl rfl rfl Tryd.runUnderlying43 Tryd.sizeOf52 (hs.ownSome 3 rfl (lt_of_get hx1)) h0x1 (lt_of_get hx1) rfl) (fun a hf => ?_)
                    refine S.val hf hs (v := elemPtr l8A (y6.toNat * 3 + 2)) rfl rfl rfl (V.fieldEl rfl rfl (hs.ownSome 3 rfl (lt_of_get hx1)) Tryd.runUnderlying52 rfl Tryd.sizeOf3 rfl rfl) (fun a hf => ?_)
                    refine S.val hf hs (v := .int .i64 x1.Left) rfl rfl rfl (V.loadOwn (off := 2) 3 rfl hx1 rfl rfl rfl Tryd.isAgg3 Tryd.sizeOf3 rfl rfl) (fun a hf => ?_)
                    refine S.val hf hs (v := .int .i64 (w64 (x1.Left - 1))) rfl rfl rfl (V.pure rfl) (fun a hf => ?_)
                    refine S.val hf hs (v := elemPtr l8A (y6.toNat * 3)) rfl rfl rfl (V.index rfl rfl rfl Tryd.runUnderlying43 Tryd.sizeOf52 (hs.ownSome 3 rfl (lt_of_get hx1)) h0x1 (lt_of_get hx1) rfl) (fun a hf => ?_)
                    refine S.val hf hs (v := elemPtr l8A (y6.toNat * 3 + 2)) rfl rfl rfl (V.fieldEl rfl rfl (hs.ownSome 3 rfl (lt_of_get hx1)) Tryd.runUnderlying52 rfl Tryd.sizeOf3 rfl rfl) (fun a hf => ?_)
                    refine S.storeOwn (off := 2) 3 hf hs rfl rfl (⟨x1.Slot, x1.Typ, w64 (x1.Left - 1)⟩ : Reel) [.int .i64 (w64 (x1.Left - 1))] rfl hx1 rfl rfl rfl rfl rfl Tryd.sizeOf3 rfl (by decide) rfl rfl (fun a w hf hs => ?_)
                    replace hf := hf.tell 2 (v := .slice l8A (l8.set y6.toNat (⟨x1.Slot, x1.Typ, w64 (x1.Left - 1)⟩ : Reel)).length l8C) ((hf.get 2 (.slice l8A l8.length l8C) rfl).trans (congrArg (fun n => Value.slice l8A n l8C) List.length_set.symm))
                    replace hf := hf.tell 65 (v := .slice l8A (l8.set y6.toNat (⟨x1.Slot, x1.Typ, w64 (x1.Left - 1)⟩ : Reel)).length l8C) ((hf.get 65 (.slice l8A l8.length l8C) rfl).trans (congrArg (fun n => Value.slice l8A n l8C) List.length_set.symm))
                    replace hf := hf.tell 72 (v := .slice l8A (l8.set y6.toNat (⟨x1.Slot, x1.Typ, w64 (x1.Left - 1)⟩ : Reel)).length l8C) ((hf.get 72 (.slice l8A l8.length l8C) rfl).trans (congrArg (fun n => Value.slice l8A n l8C) List.length_set.symm))
                    refine R.nil ?_
                    refine X.then_ ?_
                    refine H.start (S := Sat w0 none_ [hbox g1 28 [.string (ba xk2.Part), .string (ba xk2.Typ), .int .i64 xk2.At.X, .int .i64 xk2.At.Y, .int .i64 xk2.Quarters, .bool xk2.Below], hown 50 l7A l7C l7, hown 52 l8A l8C (l8.set y6.toNat (⟨x1.Slot, x1.Typ, w64 (x1.Left - 1)⟩ : Reel))]) mo ?_
                    replace hs := hs.drew
                    refine H.val hf (hs.mask [false, true, true, true]) (v := .slice l8A (l8.set y6.toNat (⟨x1.Slot, x1.Typ, w64 (x1.Left - 1)⟩ : Reel)).length l8C) (i := 0) rfl rfl rfl rfl (by kernel_rfl) (by kernel_rfl) (by kernel_rfl) (V.pure rfl) (fun a hf => ?_)
                    refine H.val hf (hs.mask [false, true, true, true]) (v := .int .i64 y6) (i := 1) rfl rfl rfl rfl (by kernel_rfl) (by kernel_rfl) (by kernel_rfl) (V.pure rfl) (fun a hf => ?_)
                    obtain ⟨h0x2, x2, hx2, h⟩ := h
                    refine H.val hf (hs.mask [false, true, true, true]) (v := elemPtr l8A (y6.toNat * 3)) (i := 2) rfl rfl rfl rfl (by kernel_rfl) (by kernel_rfl) (by kernel_rfl) (V.index rfl rfl rfl Tryd.runUnderlying43 Tryd.sizeOf52 (hs.ownSome 3 rfl (lt_of_get hx2)) h0x2 (lt_of_get hx2) rfl) (fun a hf => ?_)
                    refine H.val hf (hs.mask [false, true, true, true]) (v := elemPtr l8A (y6.toNat * 3 + 1)) (i := 3) rfl rfl rfl rfl (by kernel_rfl) (by kernel_rfl) (by kernel_rfl) (V.fieldEl rfl rfl (hs.ownSome 3 rfl (lt_of_get hx2)) Tryd.runUnderlying52 rfl Tryd.sizeOf9 rfl rfl) (fun a hf => ?_)
                    refine H.val hf (hs.mask [false, true, true, true]) (v := .string (ba x2.Typ)) (i := 4) rfl rfl rfl rfl (by kernel_rfl) (by kernel_rfl) (by kernel_rfl) (V.loadOwn (off := 1) 2 rfl hx2 rfl rfl rfl Tryd.isAgg9 Tryd.sizeOf9 rfl rfl) (fun a hf => ?_)
                    refine H.val hf (hs.mask [false, true, true, true]) (v := .slice l8A (l8.set y6.toNat (⟨x1.Slot, x1.Typ, w64 (x1.Left - 1)⟩ : Reel)).length l8C) (i := 5) rfl rfl rfl rfl (by kernel_rfl) (by kernel_rfl) (by kernel_rfl) (V.pure rfl) (fun a hf => ?_)
                    refine H.val hf (hs.mask [false, true, true, true]) (v := .int .i64 y6) (i := 6) rfl rfl rfl rfl (by kernel_rfl) (by kernel_rfl) (by kernel_rfl) (V.pure rfl) (fun a hf => ?_)
                    refine H.val hf (hs.mask [false, true, true, true]) (v := elemPtr l8A (y6.toNat * 3)) (i := 7) rfl rfl rfl rfl (by kernel_rfl) (by kernel_rfl) (by kernel_rfl) (V.index rfl rfl rfl Tryd.runUnderlying43 Tryd.sizeOf52 (hs.ownSome 3 rfl (lt_of_get hx2)) h0x2 (lt_of_get hx2) rfl) (fun a hf => ?_)
                    refine H.val hf (hs.mask [false, true, true, true]) (v := elemPtr l8A (y6.toNat * 3)) (i := 8) rfl rfl rfl rfl (by kernel_rfl) (by kernel_rfl) (by kernel_rfl) (V.fieldEl rfl rfl (hs.ownSome 3 rfl (lt_of_get hx2)) Tryd.runUnderlying52 rfl Tryd.sizeOf3 rfl rfl) (fun a hf => ?_)
                    refine H.val hf (hs.mask [false, true, true, true]) (v := .int .i64 x2.Slot) (i := 9) rfl rfl rfl rfl (by kernel_rfl) (by kernel_rfl) (by kernel_rfl) (V.loadOwn (off := 0) 2 rfl hx2 rfl rfl rfl Tryd.isAgg3 Tryd.sizeOf3 rfl rfl) (fun a hf => ?_)
                    refine H.val hf (hs.mask [false, true, true, true]) (v := .pointer (some ⟨g2, 2, none⟩)) (i := 10) rfl rfl rfl rfl (by kernel_rfl) (by kernel_rfl) (by kernel_rfl) (V.fieldBox rfl rfl Tryd.runUnderlying50 rfl Tryd.sizeOf9 rfl rfl) (fun a hf => ?_)
                    refine H.one (i := 11) rfl (by kernel_rfl) ?_
                    refine S.storeBox 0 hf hs rfl rfl [.string (ba x2.Typ)] [.int .i64 n2, .string (ba xk2.Part), .string (ba x2.Typ), .int .i64 0] rfl rfl rfl rfl rfl Tryd.sizeOf9 rfl rfl rfl rfl (fun a w hf hs => ?_)
                    refine R.nil ?_
                    refine X.then_ ?_
                    refine ⟨(hs.mask [false, true, true, true]), ?_⟩
                    refine H.val hf (hs.mask [false, true, true, true]) (v := .pointer (some ⟨g2, 3, none⟩)) (i := 12) rfl rfl rfl rfl (by kernel_rfl) (by kernel_rfl) (by kernel_rfl) (V.fieldBox rfl rfl Tryd.runUnderlying50 rfl Tryd.sizeOf3 rfl rfl) (fun a hf => ?_)
                    refine H.one (i := 13) rfl (by kernel_rfl) ?_
                    refine S.storeBox 0 hf hs rfl rfl [.int .i64 x2.Slot] [.int .i64 n2, .string (ba xk2.Part), .string (ba x2.Typ), .int .i64 x2.Slot] rfl rfl rfl rfl rfl Tryd.sizeOf3 rfl rfl rfl rfl (fun a w hf hs => ?_)
                    refine R.nil ?_
                    refine X.then_ ?_
                    refine ⟨(hs.mask [false, true, true, true]), ?_⟩
                    refine H.done (by kernel_rfl) ?_
                    refine X.then_ ?_
                    exact ⟨(l8.set y6.toNat (⟨x1.Slot, x1.Typ, w64 (x1.Left - 1)⟩ : Reel)), l8A, l8C, (⟨n2, xk2.Part, x2.Typ, x2.Slot⟩ : Pick), h, ((((((((((hf.nil.cons (hf.get 55 _ rfl)).cons (hf.get 54 _ rfl)).cons (hf.get 53 _ rfl)).cons (hf.get 20 _ rfl)).cons (hf.get 17 _ rfl)).cons (hf.get 16 _ rfl)).cons (hf.get 4 _ rfl)).cons (hf.get 3 _ rfl)).cons (hf.get 2 _ rfl)).cons (hf.get 1 _ rfl)), hs⟩
                  · replace h := h.2 hc
                    refine wp_skip ?_
                    refine X.then_ ?_
                    exact ⟨l8, l8A, l8C, (⟨n2, xk2.Part, xk2.Typ, 0⟩ : Pick), h, ((((((((((hf.nil.cons (hf.get 55 _ rfl)).cons (hf.get 54 _ rfl)).cons (hf.get 53 _ rfl)).cons (hf.get 20 _ rfl)).cons (hf.get 17 _ rfl)).cons (hf.get 16 _ rfl)).cons (hf.get 4 _ rfl)).cons (hf.get 3 _ rfl)).cons (hf.get 2 _ rfl)).cons (hf.get 1 _ rfl)), hs⟩
            · replace h := h.2 hc
              refine wp_exit ?_
              refine X.then_exit ?_
              refine X.then_exit ?_
              refine X.blk_exit ?_
              refine X.then_ ?_
              refine wp_seq ?_
              refine R.list ?_
              refine S.val hf hs (v := .slice l3A l3.length l3C) rfl rfl rfl (V.pure rfl) (fun a hf => ?_)
              refine S.val hf hs (v := .slice l4A l4.length l4C) rfl rfl rfl (V.pure rfl) (fun a hf => ?_)
              refine S.val hf hs (v := .slice l3A l3.length l3C) rfl rfl rfl (V.pure rfl) (fun a hf => ?_)
              refine S.val hf hs (v := .slice l4A l4.length l4C) rfl rfl rfl (V.pure rfl) (fun a hf => ?_)
              refine S.val hf hs (v := .int .i64 0) rfl rfl rfl (V.pure rfl) (fun a hf => ?_)
              refine R.nil ?_
              refine X.then_ ?_
              refine wp_ret ?_
              replace hs := hs.front 1 rfl
              replace hs := hs.front 1 rfl
              replace hs := hs.take 2
              exact L.ret hf (run_results3 Tryd.results19 (ResIs.tmp hf rfl) (ResIs.tmp hf rfl) (ResIs.tmp hf rfl)) ⟨l3, l3A, l3C, l4, l4A, l4C, 0, rfl, h, hs⟩

set_option linter.unusedVariables false
def M_ref10_reelOf_k2 (Q : Int → Prop) (k1 : Nat) (next1 : Prop) (c1 : Bool) : Prop :=
  cnd c1 (Q (k1 : Int)) (next1)
def M_ref10_reelOf_L1 (name : Str) (Q : Int → Prop) (k1 : Nat) (xk1 : Reel)  (next1 : Prop) : Prop :=
  cnd (xk1.Typ == name) (M_ref10_reelOf_k2 Q k1 next1 (decide (xk1.Left > 0))) (M_ref10_reelOf_k2 Q k1 next1 false)
def M_ref10_reelOf (r : (List Reel)) (name : Str) (Q : Int → Prop) : Prop :=
  forIn' (fun k x (s : Unit) next => M_ref10_reelOf_L1 name Q k x (next ())) (fun (s : Unit) => Q (-1)) r 0 ()
set_option maxHeartbeats 1000000 in
theorem R_ref10_reelOf (r : (List Reel)) (name : Str) (w0 : World) (rA : Option Addr) (rC : Nat) (hv_r : View w0 (old w0 none_) rA rC r) (Q : Int → Prop) (h : M_ref10_reelOf r name Q) :
    Ret Tryd.prog 89 #[.slice rA r.length rC, .string (ba name)] w0 fun v w' => ∃ (r0 : Int), v = .int .i64 r0 ∧ Q r0 ∧ Sat w0 none_ [] w' := by
  refine fn_enter Tryd.func89 rfl Tryd.ntmps89 rfl (fs := [(0, .slice rA r.length rC), (1, .string (ba name))]) rfl (fun a hf => ?_)
  have hs := Sat.start w0 none_
  unfold M_ref10_reelOf at h
  refine wp_seq ?_
  refine R.list ?_
  refine S.val hf hs (v := .int .i64 0) rfl rfl rfl (V.pure rfl) (fun a hf => ?_)
  refine R.nil ?_
  refine X.then_ ?_
  refine wp_seq ?_
  refine wp_seq ?_
  refine R.list ?_
  refine S.val hf hs (v := .slice rA r.length rC) rfl rfl rfl (V.pure rfl) (fun a hf => ?_)
  refine S.val hf hs (v := .int .i64 (r.length : Int)) rfl rfl rfl (V.len rfl rfl Tryd.runUnderlying43) (fun a hf => ?_)
  refine S.val hf hs (v := .int .i64 0) rfl rfl rfl (V.pure rfl) (fun a hf => ?_)
  refine R.nil ?_
  refine X.then_ ?_
  refine wp_block ?_
  have hlenk1 := hv_r.len64
  refine C.range (fun (ll : List Reel) a w => ∃ (k1 : Nat) , r.drop k1 = ll ∧ k1 + ll.length = r.length ∧ forIn' (fun k x (s : Unit) next => M_ref10_reelOf_L1 name Q k x (next ())) (fun (s : Unit) => Q (-1)) ll k1 () ∧ FrOk 25 [(9, .int .i64 (k1 : Int)), (1, .string (ba name)), (7, .slice rA r.length rC), (8, .int .i64 (r.length : Int))] a ∧ Sat w0 none_ [] w) r ⟨0, rfl, Nat.zero_add _, h, ((((hf.nil.cons (hf.get 8 _ rfl)).cons (hf.get 7 _ rfl)).cons (hf.get 1 _ rfl)).cons (hf.get 9 _ rfl)), hs⟩ ?_
  clear h hf hs
  rintro llk1 a w ⟨k1, hlk1, hkk1, h, hf, hs⟩
  cases llk1 with
  | nil =>
    have hc := range_done hkk1
    replace h : Q (-1) := h
    refine wp_seq ?_
    refine R.list ?_
    refine S.val hf hs (v := .bool false) rfl rfl rfl (V.cmp false rfl rfl rfl rfl hc) (fun a hf => ?_)
    refine R.nil ?_
    refine X.then_ ?_
    refine wp_seq ?_
    refine C.no hf rfl ?_
    refine wp_exit ?_
    refine X.then_exit ?_
    refine X.then_exit ?_
    refine X.blk_exit ?_
    refine X.then_ ?_
    refine wp_seq ?_
    refine R.list ?_
    refine S.val hf hs (v := .int .i64 (-1)) rfl rfl rfl (V.pure rfl) (fun a hf => ?_)
    refine R.nil ?_
    refine X.then_ ?_
    refine wp_ret ?_
    exact L.ret hf (run_results1 Tryd.results89 (ResIs.tmp hf rfl)) ⟨(-1), rfl, h, hs.nil⟩
  | cons xk1 llk1 =>
    have hltk1 := range_lt hkk1; have hc := range_go hkk1; have hxk1 := range_get hlk1
    obtain ⟨next1, hnext1⟩ : ∃ X : Prop, X = (forIn' (fun k x (s : Unit) next => M_ref10_reelOf_L1 name Q k x (next ())) (fun (s : Unit) => Q (-1)) llk1 (k1 + 1) ()) := ⟨_, rfl⟩
    replace h : M_ref10_reelOf_L1 name Q k1 xk1  next1 := by rw [hnext1]; exact h
    unfold M_ref10_reelOf_L1 at h
    refine wp_seq ?_
    refine R.list ?_
    refine S.val hf hs (v := .bool true) rfl rfl rfl (V.cmp true rfl rfl rfl rfl hc) (fun a hf => ?_)
    refine R.nil ?_
    refine X.then_ ?_
    refine wp_seq ?_
    refine C.yes hf rfl ?_
    refine wp_skip ?_
    refine X.then_ ?_
    refine wp_seq ?_
    refine wp_block ?_
    refine wp_seq ?_
    refine R.list ?_
    refine S.val hf hs (v := .int .i64 (k1 : Int)) rfl rfl rfl (V.pure rfl) (fun a hf => ?_)
    refine S.val hf hs (v := elemPtr rA (k1 * 3)) rfl rfl rfl (V.index rfl rfl rfl Tryd.runUnderlying43 Tryd.sizeOf52 (hv_r.some_ (lt_of_get hxk1)) (Int.natCast_nonneg _) (lt_of_get hxk1) rfl) (fun a hf => ?_)
    refine S.val hf hs (v := .agg #[.int .i64 xk1.Slot, .string (ba xk1.Typ), .int .i64 xk1.Left]) rfl rfl rfl (V.loadEl (off := 0) (Ag.args _ _ _) (hv_r.flat hxk1) rfl rfl rfl Tryd.isAgg52 Tryd.sizeOf52 rfl rfl) (fun a hf => ?_)
    refine S.alloc hf hs rfl rfl rfl [.int .i64 0, .string (ba []), .int .i64 0] rfl Tryd.zeroValue52 rfl (fun g1 a w hf hs => ?_)
    refine S.val hf hs (v := .int .i64 (k1 : Int)) rfl rfl rfl (V.pure rfl) (fun a hf => ?_)
    refine S.storeBox 0 hf hs rfl rfl [.int .i64 xk1.Slot, .string (ba xk1.Typ), .int .i64 xk1.Left] [.int .i64 xk1.Slot, .string (ba xk1.Typ), .int .i64 xk1.Left] rfl rfl rfl rfl rfl Tryd.sizeOf52 rfl rfl rfl rfl (fun a w hf hs => ?_)
    refine R.nil ?_
    refine X.then_ ?_
    refine wp_seq ?_
    refine C.cut (J := fun a w => ∃ (c1 : Bool), M_ref10_reelOf_k2 Q k1 next1 c1 ∧ FrOk 25 [(1, .string (ba name)), (5, .int .i64 (k1 : Int)), (7, .slice rA r.length rC), (8, .int .i64 (r.length : Int)), (9, .int .i64 (k1 : Int)), (22, .bool c1)] a ∧ Sat w0 none_ [hbox g1 52 [.int .i64 xk1.Slot, .string (ba xk1.Typ), .int .i64 xk1.Left]] w) ?_ ?_
    · rintro a w ⟨c1, h, hf, hs⟩
      unfold M_ref10_reelOf_k2 at h
      refine C.cond hf (b := c1) rfl (fun hc => ?_) (fun hc => ?_)
      · replace h := h.1 hc
        refine wp_seq ?_
        refine R.list ?_
        refine S.val hf hs (v := .int .i64 (k1 : Int)) rfl rfl rfl (V.pure rfl) (fun a hf => ?_)
        refine S.val hf hs (v := .int .i64 (k1 : Int)) rfl rfl rfl (V.pure rfl) (fun a hf => ?_)
        refine R.nil ?_
        refine X.then_ ?_
        refine wp_ret ?_
        refine X.blk_ret ?_
        refine X.then_ret ?_
        refine X.then_ret ?_
        refine X.blk_ret ?_
        refine X.then_ret ?_
        exact L.ret hf (run_results1 Tryd.results89 (ResIs.tmp hf rfl)) ⟨(k1 : Int), rfl, h, hs.nil⟩
      · replace h := h.2 hc
        refine wp_skip ?_
        refine X.blk ?_
        refine X.then_ ?_
        refine R.list ?_
        refine S.val hf hs (v := .int .i64 ((k1 + 1 : Nat) : Int)) rfl rfl rfl (V.incr rfl rfl rfl hltk1 hlenk1) (fun a hf => ?_)
        refine S.val hf hs (v := .int .i64 ((k1 + 1 : Nat) : Int)) rfl rfl rfl (V.pure rfl) (fun a hf => ?_)
        refine R.nil ?_
        refine X.then_ ?_
        exact ⟨xk1, llk1, rfl, k1 + 1, range_drop hlk1, range_len hkk1, (by rw [hnext1] at h; exact h), ((((hf.nil.cons (hf.get 8 _ rfl)).cons (hf.get 7 _ rfl)).cons (hf.get 1 _ rfl)).cons (hf.get 9 _ rfl)), hs.drop⟩
    · skip
      refine R.list ?_
      refine S.val hf hs (v := .pointer (some ⟨g1, 1, none⟩)) rfl rfl rfl (V.fieldBox rfl rfl Tryd.runUnderlying52 rfl Tryd.sizeOf9 rfl rfl) (fun a hf => ?_)
      refine S.val hf hs (v := .string (ba xk1.Typ)) rfl rfl rfl (V.loadBox 0 rfl rfl rfl Tryd.isAgg9 Tryd.sizeOf9 rfl rfl) (fun a hf => ?_)
      refine S.val hf hs (v := .string (ba name)) rfl rfl rfl (V.pure rfl) (fun a hf => ?_)
      refine S.val hf hs (v := .bool (xk1.Typ == name)) rfl rfl rfl (V.strCmp (xk1.Typ == name) rfl rfl rfl rfl) (fun a hf => ?_)
      refine S.split hf hs (b := xk1.Typ == name) rfl rfl rfl (V.pure rfl) (fun hc a hf => ?_) (fun hc a hf => ?_)
      · replace h := h.1 hc
        refine S.val hf hs (v := .pointer (some ⟨g1, 2, none⟩)) rfl rfl rfl (V.fieldBox rfl rfl Tryd.runUnderlying52 rfl Tryd.sizeOf3 rfl rfl) (fun a hf => ?_)
        refine S.val hf hs (v := .int .i64 xk1.Left) rfl rfl rfl (V.loadBox 0 rfl rfl rfl Tryd.isAgg3 Tryd.sizeOf3 rfl rfl) (fun a hf => ?_)
        refine S.val hf hs (v := .bool (decide (xk1.Left > 0))) rfl rfl rfl (V.pure rfl) (fun a hf => ?_)
        refine S.val hf hs (v := .bool (decide (xk1.Left > 0))) rfl rfl rfl (V.pure rfl) (fun a hf => ?_)
        refine R.nil ?_
        refine X.then_ ?_
        exact ⟨(decide (xk1.Left > 0)), h, ((((((hf.nil.cons (hf.get 22 _ rfl)).cons (hf.get 9 _ rfl)).cons (hf.get 8 _ rfl)).cons (hf.get 7 _ rfl)).cons (hf.get 5 _ rfl)).cons (hf.get 1 _ rfl)), hs⟩
      · replace h := h.2 hc
        refine S.skip hf rfl rfl rfl (fun a hf => ?_)
        refine S.skip hf rfl rfl rfl (fun a hf => ?_)
        refine S.skip hf rfl rfl rfl (fun a hf => ?_)
        refine S.val hf hs (v := .bool false) rfl rfl rfl (V.pure rfl) (fun a hf => ?_)
        refine R.nil ?_
        refine X.then_ ?_
        exact ⟨false, h, ((((((hf.nil.cons (hf.get 22 _ rfl)).cons (hf.get 9 _ rfl)).cons (hf.get 8 _ rfl)).cons (hf.get 7 _ rfl)).cons (hf.get 5 _ rfl)).cons (hf.get 1 _ rfl)), hs⟩

set_option linter.unusedVariables false
def M_ref10_from_k2 (r : (List Reel)) (s_ : (List Instead)) (name : Str) (Q : Int → Prop) (n3 : Int) (n4 : Int) (again1 : Int → Int → Prop) (c1 : Bool) : Prop :=
  cnd c1 (idx s_ n4 fun x1 => cnd (x1.Typ == name) (M_ref10_reelOf r x1.By fun y2 => again1 y2 (w64 (n4 + 1))) (again1 n3 (w64 (n4 + 1)))) (Q n3)
def M_ref10_from_L1 (r : (List Reel)) (s_ : (List Instead)) (name : Str) (Q : Int → Prop) (again1 : Int → Int → Prop) (n3 : Int) (n4 : Int) : Prop :=
  cnd (decide (n3 < 0)) (M_ref10_from_k2 r s_ name Q n3 n4 again1 (decide (n4 < (s_.length : Int)))) (M_ref10_from_k2 r s_ name Q n3 n4 again1 false)
def M_ref10_from (r : (List Reel)) (s_ : (List Instead)) (name : Str) (Q : Int → Prop) : Prop :=
  M_ref10_reelOf r name fun y1 => lp (fun again (s : Int × Int) => M_ref10_from_L1 r s_ name Q (fun n3 n4 => again (n3, n4)) s.1 s.2) (y1, 0)
set_option maxHeartbeats 1000000 in
theorem R_ref10_from (r : (List Reel)) (s_ : (List Instead)) (name : Str) (w0 : World) (rA : Option Addr) (rC : Nat) (hv_r : View w0 (old w0 none_) rA rC r) (s_A : Option Addr) (s_C : Nat) (hv_s_ : View w0 (old w0 none_) s_A s_C s_) (Q : Int → Prop) (h : M_ref10_from r s_ name Q) :
    Ret Tryd.prog 58 #[.slice rA r.length rC, .slice s_A s_.length s_C, .string (ba name)] w0 fun v w' => ∃ (r0 : Int), v = .int .i64 r0 ∧ Q r0 ∧ Sat w0 none_ [] w' := by
  refine fn_enter Tryd.func58 rfl Tryd.ntmps58 rfl (fs := [(0, .slice rA r.length rC), (1, .slice s_A s_.length s_C), (2, .string (ba name))]) rfl (fun a hf => ?_)
  have hs := Sat.start w0 none_
  unfold M_ref10_from at h
  refine wp_seq ?_
  refine R.list ?_
  refine S.val hf hs (v := .int .i64 0) rfl rfl rfl (V.pure rfl) (fun a hf => ?_)
  refine R.nil ?_
  refine X.then_ ?_
  refine wp_seq ?_
  refine R.list ?_
  refine S.val hf hs (v := .slice rA r.length rC) rfl rfl rfl (V.pure rfl) (fun a hf => ?_)
  refine S.val hf hs (v := .string (ba name)) rfl rfl rfl (V.pure rfl) (fun a hf => ?_)
  refine S.call hf rfl rfl rfl (call_fn (vs := [.slice rA r.length rC, .string (ba name)]) rfl rfl rfl Tryd.call89) (R_ref10_reelOf r name _ rA rC ((Ag.args _ _ _).view hv_r hs) _ h) (fun v a w' hf hr => ?_)
  obtain ⟨y1, rfl, h2, hs2⟩ := hr
  replace h := h2; replace hs := hs.call hs2; clear h2 hs2
  refine S.val hf hs (v := .int .i64 y1) rfl rfl rfl (V.pure rfl) (fun a hf => ?_)
  refine R.nil ?_
  refine X.then_ ?_
  refine wp_seq ?_
  refine wp_seq ?_
  refine R.list ?_
  refine S.val hf hs (v := .int .i64 0) rfl rfl rfl (V.pure rfl) (fun a hf => ?_)
  refine R.nil ?_
  refine X.then_ ?_
  refine wp_block ?_
  obtain ⟨kk, h⟩ := h
  refine C.loop (fun kk a w => ∃ (n3 : Int) (n4 : Int), iterF (fun again (s : Int × Int) => M_ref10_from_L1 r s_ name Q (fun n3 n4 => again (n3, n4)) s.1 s.2) kk (n3, n4) ∧ FrOk 37 [(0, .slice rA r.length rC), (1, .slice s_A s_.length s_C), (2, .string (ba name)), (7, .int .i64 n3), (8, .int .i64 n4)] a ∧ Sat w0 none_ [] w) kk ⟨y1, 0, h, (((((hf.nil.cons (hf.get 8 _ rfl)).cons (hf.get 7 _ rfl)).cons (hf.get 2 _ rfl)).cons (hf.get 1 _ rfl)).cons (hf.get 0 _ rfl)), hs⟩ (fun a w ⟨_, _, h, _, _⟩ => h) ?_
  clear h hf hs
  rintro kk a w ⟨n3, n4, h, hf, hs⟩
  obtain ⟨again1, hagain1⟩ : ∃ X : Int → Int → Prop, X = (fun n3 n4 => iterF (fun again (s : Int × Int) => M_ref10_from_L1 r s_ name Q (fun n3 n4 => again (n3, n4)) s.1 s.2) kk (n3, n4)) := ⟨_, rfl⟩
  replace h : M_ref10_from_L1 r s_ name Q again1 n3 n4 := by rw [hagain1]; exact h
  unfold M_ref10_from_L1 at h
  refine wp_seq ?_
  refine wp_seq ?_
  refine C.cut (J := fun a w => ∃ (c1 : Bool), M_ref10_from_k2 r s_ name Q n3 n4 again1 c1 ∧ FrOk 37 [(0, .slice rA r.length rC), (1, .slice s_A s_.length s_C), (2, .string (ba name)), (7, .int .i64 n3), (8, .int .i64 n4), (19, .bool c1)] a ∧ Sat w0 none_ [] w) ?_ ?_
  · rintro a w ⟨c1, h, hf, hs⟩
    unfold M_ref10_from_k2 at h
    refine C.cond hf (b := c1) rfl (fun hc => ?_) (fun hc => ?_)
    · replace h := h.1 hc
      refine wp_skip ?_
      refine X.then_ ?_
      refine wp_seq ?_
      refine wp_block ?_
      refine wp_seq ?_
      refine R.list ?_
      refine S.val hf hs (v := .slice s_A s_.length s_C) rfl rfl rfl (V.pure rfl) (fun a hf => ?_)
      refine S.val hf hs (v := .int .i64 n4) rfl rfl rfl (V.pure rfl) (fun a hf => ?_)
      obtain ⟨h0x1, x1, hx1, h⟩ := h
      refine S.val hf hs (v := elemPtr s_A (n4.toNat * 2)) rfl rfl rfl (V.index rfl rfl rfl Tryd.runUnderlying44 Tryd.sizeOf121 (hv_s_.some_ (lt_of_get hx1)) h0x1 (lt_of_get hx1) rfl) (fun a hf => ?_)
      refine S.val hf hs (v := elemPtr s_A (n4.toNat * 2)) rfl rfl rfl (V.fieldEl rfl rfl (hv_s_.some_ (lt_of_get hx1)) Tryd.runUnderlying121 rfl Tryd.sizeOf9 rfl rfl) (fun a hf => ?_)
      refine S.val hf hs (v := .string (ba x1.Typ)) rfl rfl rfl (V.loadEl (off := 0) (Ag.args _ _ _) (hv_s_.flat hx1) rfl rfl rfl Tryd.isAgg9 Tryd.sizeOf9 rfl rfl) (fun a hf => ?_)
      refine S.val hf hs (v := .string (ba name)) rfl rfl rfl (V.pure rfl) (fun a hf => ?_)
      refine S.val hf hs (v := .bool (x1.Typ == name)) rfl rfl rfl (V.strCmp (x1.Typ == name) rfl rfl rfl rfl) (fun a hf => ?_)
      refine R.nil ?_
      refine X.then_ ?_
      refine C.cond hf (b := x1.Typ == name) rfl (fun hc => ?_) (fun hc => ?_)
      · replace h := h.1 hc
        refine R.list ?_
        refine S.val hf hs (v := .slice rA r.length rC) rfl rfl rfl (V.pure rfl) (fun a hf => ?_)
        refine S.val hf hs (v := .slice s_A s_.length s_C) rfl rfl rfl (V.pure rfl) (fun a hf => ?_)
        refine S.val hf hs (v := .int .i64 n4) rfl rfl rfl (V.pure rfl) (fun a hf => ?_)
        refine S.val hf hs (v := elemPtr s_A (n4.toNat * 2)) rfl rfl rfl (V.index rfl rfl rfl Tryd.runUnderlying44 Tryd.sizeOf121 (hv_s_.some_ (lt_of_get hx1)) h0x1 (lt_of_get hx1) rfl) (fun a hf => ?_)
        refine S.val hf hs (v := elemPtr s_A (n4.toNat * 2 + 1)) rfl rfl rfl (V.fieldEl rfl rfl (hv_s_.some_ (lt_of_get hx1)) Tryd.runUnderlying121 rfl Tryd.sizeOf9 rfl rfl) (fun a hf => ?_)
        refine S.val hf hs (v := .string (ba x1.By)) rfl rfl rfl (V.loadEl (off := 1) (Ag.args _ _ _) (hv_s_.flat hx1) rfl rfl rfl Tryd.isAgg9 Tryd.sizeOf9 rfl rfl) (fun a hf => ?_)
        refine S.call hf rfl rfl rfl (call_fn (vs := [.slice rA r.length rC, .string (ba x1.By)]) rfl rfl rfl Tryd.call89) (R_ref10_reelOf r x1.By _ rA rC ((Ag.args _ _ _).view hv_r hs) _ h) (fun v a w' hf hr => ?_)
        obtain ⟨y2, rfl, h2, hs2⟩ := hr
        replace h := h2; replace hs := hs.call hs2; clear h2 hs2
        refine S.val hf hs (v := .int .i64 y2) rfl rfl rfl (V.pure rfl) (fun a hf => ?_)
        refine R.nil ?_
        refine X.blk ?_
        refine X.then_ ?_
        refine R.list ?_
        refine S.val hf hs (v := .int .i64 n4) rfl rfl rfl (V.pure rfl) (fun a hf => ?_)
        refine S.val hf hs (v := .int .i64 (w64 (n4 + 1))) rfl rfl rfl (V.pure rfl) (fun a hf => ?_)
        refine S.val hf hs (v := .int .i64 (w64 (n4 + 1))) rfl rfl rfl (V.pure rfl) (fun a hf => ?_)
        refine R.nil ?_
        refine X.then_ ?_
        exact ⟨y2, (w64 (n4 + 1)), (by rw [hagain1] at h; exact h), (((((hf.nil.cons (hf.get 8 _ rfl)).cons (hf.get 7 _ rfl)).cons (hf.get 2 _ rfl)).cons (hf.get 1 _ rfl)).cons (hf.get 0 _ rfl)), hs⟩
      · replace h := h.2 hc
        refine wp_skip ?_
        refine X.blk ?_
        refine X.then_ ?_
        refine R.list ?_
        refine S.val hf hs (v := .int .i64 n4) rfl rfl rfl (V.pure rfl) (fun a hf => ?_)
        refine S.val hf hs (v := .int .i64 (w64 (n4 + 1))) rfl rfl rfl (V.pure rfl) (fun a hf => ?_)
        refine S.val hf hs (v := .int .i64 (w64 (n4 + 1))) rfl rfl rfl (V.pure rfl) (fun a hf => ?_)
        refine R.nil ?_
        refine X.then_ ?_
        exact ⟨n3, (w64 (n4 + 1)), (by rw [hagain1] at h; exact h), (((((hf.nil.cons (hf.get 8 _ rfl)).cons (hf.get 7 _ rfl)).cons (hf.get 2 _ rfl)).cons (hf.get 1 _ rfl)).cons (hf.get 0 _ rfl)), hs⟩
    · replace h := h.2 hc
      refine wp_exit ?_
      refine X.then_exit ?_
      refine X.then_exit ?_
      refine X.blk_exit ?_
      refine X.then_ ?_
      refine wp_seq ?_
      refine R.list ?_
      refine S.val hf hs (v := .int .i64 n3) rfl rfl rfl (V.pure rfl) (fun a hf => ?_)
      refine S.val hf hs (v := .int .i64 n3) rfl rfl rfl (V.pure rfl) (fun a hf => ?_)
      refine R.nil ?_
      refine X.then_ ?_
      refine wp_ret ?_
      exact L.ret hf (run_results1 Tryd.results58 (ResIs.tmp hf rfl)) ⟨n3, rfl, h, hs.nil⟩
  · skip
    refine R.list ?_
    refine S.val hf hs (v := .int .i64 n3) rfl rfl rfl (V.pure rfl) (fun a hf => ?_)
    refine S.val hf hs (v := .bool (decide (n3 < 0))) rfl rfl rfl (V.pure rfl) (fun a hf => ?_)
    refine S.split hf hs (b := decide (n3 < 0)) rfl rfl rfl (V.pure rfl) (fun hc a hf => ?_) (fun hc a hf => ?_)
    · replace h := h.1 hc
      refine S.val hf hs (v := .int .i64 n4) rfl rfl rfl (V.pure rfl) (fun a hf => ?_)
      refine S.val hf hs (v := .slice s_A s_.length s_C) rfl rfl rfl (V.pure rfl) (fun a hf => ?_)
      refine S.val hf hs (v := .int .i64 (s_.length : Int)) rfl rfl rfl (V.len rfl rfl Tryd.runUnderlying44) (fun a hf => ?_)
      refine S.val hf hs (v := .bool (decide (n4 < (s_.length : Int)))) rfl rfl rfl (V.pure rfl) (fun a hf => ?_)
      refine S.val hf hs (v := .bool (decide (n4 < (s_.length : Int)))) rfl rfl rfl (V.pure rfl) (fun a hf => ?_)
      refine R.nil ?_
      refine X.then_ ?_
      exact ⟨(decide (n4 < (s_.length : Int))), h, ((((((hf.nil.cons (hf.get 19 _ rfl)).cons (hf.get 8 _ rfl)).cons (hf.get 7 _ rfl)).cons (hf.get 2 _ rfl)).cons (hf.get 1 _ rfl)).cons (hf.get 0 _ rfl)), hs⟩
    · replace h := h.2 hc
      refine S.skip hf rfl rfl rfl (fun a hf => ?_)
      refine S.skip hf rfl rfl rfl (fun a hf => ?_)
      refine S.skip hf rfl rfl rfl (fun a hf => ?_)
      refine S.skip hf rfl rfl rfl (fun a hf => ?_)
      refine S.val hf hs (v := .bool false) rfl rfl rfl (V.pure rfl) (fun a hf => ?_)
      refine R.nil ?_
      refine X.then_ ?_
      exact ⟨false, h, ((((((hf.nil.cons (hf.get 19 _ rfl)).cons (hf.get 8 _ rfl)).cons (hf.get 7 _ rfl)).cons (hf.get 2 _ rfl)).cons (hf.get 1 _ rfl)).cons (hf.get 0 _ rfl)), hs⟩

set_option linter.unusedVariables false
def M_ref10_Picks_k3 (l7 : List Pick) (next2 : List Pick → List Reel → Prop) (l9 : List Reel) (b1 : Pick) : Prop :=
  must (room (l7 ++ [b1]).length 48) (next2 (l7 ++ [b1]) l9)
def M_ref10_Picks_L2 (s_ : (List Instead)) (n2 : Int) (k2 : Nat) (xk2 : Place) (l7 : List Pick) (l8 : List Reel) (next2 : List Pick → List Reel → Prop) : Prop :=
  M_ref10_from l8 s_ xk2.Typ fun y3 => cnd (decide (y3 ≥ 0)) (idx l8 y3 fun x1 => idx (l8.set y3.toNat (⟨x1.Slot, x1.Typ, w64 (x1.Left - 1)⟩ : Reel)) y3 fun x2 => M_ref10_Picks_k3 l7 next2 (l8.set y3.toNat (⟨x1.Slot, x1.Typ, w64 (x1.Left - 1)⟩ : Reel)) (⟨n2, xk2.Part, x2.Typ, x2.Slot⟩ : Pick)) (M_ref10_Picks_k3 l7 next2 l8 (⟨n2, xk2.Part, xk2.Typ, 0⟩ : Pick))
def M_ref10_Picks_L1 (l : (List Place)) (s_ : (List Instead)) (boards : Int) (Q : (List Pick) → (List Reel) → Int → Prop) (again1 : List Pick → List Reel → Int → Prop) (l3 : List Pick) (l4 : List Reel) (n2 : Int) : Prop :=
  cnd (decide (n2 ≤ boards)) (forIn' (fun k x (s : List Pick × List Reel) next => M_ref10_Picks_L2 s_ n2 k x s.1 s.2 (fun l7 l8 => next (l7, l8))) (fun (s : List Pick × List Reel) => (fun (l7 : List Pick) (l8 : List Reel) => again1 l7 l8 (w64 (n2 + 1))) s.1 s.2) l 0 (l3, l4)) (Q l3 l4 0)
def M_ref10_Picks (b : (List Body)) (l : (List Place)) (r : (List Reel)) (s_ : (List Instead)) (boards : Int) (Q : (List Pick) → (List Reel) → Int → Prop) : Prop :=
  M_ref10_askPicks b l r s_ boards fun y1 => cnd (y1 != 0) (Q ([] : List Pick) ([] : List Reel) y1) (M_clone_reel r fun y2 => lp (fun again (s : List Pick × List Reel × Int) => M_ref10_Picks_L1 l s_ boards Q (fun l3 l4 n2 => again (l3, l4, n2)) s.1 s.2.1 s.2.2) (([] : List Pick), y2, 1))
set_option maxHeartbeats 1000000 in
theorem R_ref10_Picks (b : (List Body)) (l : (List Place)) (r : (List Reel)) (s_ : (List Instead)) (boards : Int) (w0 : World) (bA : Option Addr) (bC : Nat) (hv_b : View w0 (old w0 none_) bA bC b) (lA : Option Addr) (lC : Nat) (hv_l : View w0 (old w0 none_) lA lC l) (rA : Option Addr) (rC : Nat) (hv_r : View w0 (old w0 none_) rA rC r) (s_A : Option Addr) (s_C : Nat) (hv_s_ : View w0 (old w0 none_) s_A s_C s_) (Q : (List Pick) → (List Reel) → Int → Prop) (h : M_ref10_Picks b l r s_ boards Q) :
    Ret Tryd.prog 21 #[.slice bA b.length bC, .slice lA l.length lC, .slice rA r.length rC, .slice s_A s_.length s_C, .int .i64 boards] w0 fun v w' => ∃ (r0 : (List Pick)) (r0A : Option Addr) (r0C : Nat) (r1 : (List Reel)) (r1A : Option Addr) (r1C : Nat) (r2 : Int), v = .tuple #[.slice r0A r0.length r0C, .slice r1A r1.length r1C, .int .i64 r2] ∧ Q r0 r1 r2 ∧ Sat w0 none_ [hown 50 r0A r0C r0, hown 52 r1A r1C r1] w' := by
  refine fn_enter Tryd.func21 rfl Tryd.ntmps21 rfl (fs := [(0, .slice bA b.length bC), (1, .slice lA l.length lC), (2, .slice rA r.length rC), (3, .slice s_A s_.length s_C), (4, .int .i64 boards)]) rfl (fun a hf => ?_)
  have hs := Sat.start w0 none_
  unfold M_ref10_Picks at h
  refine wp_seq ?_
  refine R.list ?_
  refine S.val hf hs (v := .slice none 0 0) rfl rfl rfl (V.pure rfl) (fun a hf => ?_)
  refine S.val hf hs (v := .slice none 0 0) rfl rfl rfl (V.pure rfl) (fun a hf => ?_)
  refine S.val hf hs (v := .int .i64 0) rfl rfl rfl (V.pure rfl) (fun a hf => ?_)
  refine R.nil ?_
  refine X.then_ ?_
  refine wp_seq ?_
  refine wp_seq ?_
  refine R.list ?_
  refine S.val hf hs (v := .slice bA b.length bC) rfl rfl rfl (V.pure rfl) (fun a hf => ?_)
  refine S.val hf hs (v := .slice lA l.length lC) rfl rfl rfl (V.pure rfl) (fun a hf => ?_)
  refine S.val hf hs (v := .slice rA r.length rC) rfl rfl rfl (V.pure rfl) (fun a hf => ?_)
  refine S.val hf hs (v := .slice s_A s_.length s_C) rfl rfl rfl (V.pure rfl) (fun a hf => ?_)
  refine S.val hf hs (v := .int .i64 boards) rfl rfl rfl (V.pure rfl) (fun a hf => ?_)
  refine S.call hf rfl rfl rfl (call_fn (vs := [.slice bA b.length bC, .slice lA l.length lC, .slice rA r.length rC, .slice s_A s_.length s_C, .int .i64 boards]) rfl rfl rfl Tryd.call57) (R_ref10_askPicks b l r s_ boards _ bA bC ((Ag.args _ _ _).view hv_b hs) lA lC ((Ag.args _ _ _).view hv_l hs) rA rC ((Ag.args _ _ _).view hv_r hs) s_A s_C ((Ag.args _ _ _).view hv_s_ hs) _ h) (fun v a w' hf hr => ?_)
  obtain ⟨y1, rfl, h2, hs2⟩ := hr
  replace h := h2; replace hs := hs.call hs2; clear h2 hs2
  refine S.val hf hs (v := .int .i64 y1) rfl rfl rfl (V.pure rfl) (fun a hf => ?_)
  refine R.nil ?_
  refine X.then_ ?_
  refine wp_seq ?_
  refine R.list ?_
  refine S.val hf hs (v := .int .i64 y1) rfl rfl rfl (V.pure rfl) (fun a hf => ?_)
  refine S.val hf hs (v := .bool (y1 != 0)) rfl rfl rfl (V.pure rfl) (fun a hf => ?_)
  refine R.nil ?_
  refine X.then_ ?_
  refine C.cond hf (b := y1 != 0) rfl (fun hc => ?_) (fun hc => ?_)
  · replace h := h.1 hc
    refine wp_seq ?_
    refine R.list ?_
    refine S.val hf hs (v := .int .i64 y1) rfl rfl rfl (V.pure rfl) (fun a hf => ?_)
    refine S.val hf hs (v := .slice none 0 0) rfl rfl rfl (V.pure rfl) (fun a hf => ?_)
    refine S.val hf hs (v := .slice none 0 0) rfl rfl rfl (V.pure rfl) (fun a hf => ?_)
    refine S.val hf hs (v := .int .i64 y1) rfl rfl rfl (V.pure rfl) (fun a hf => ?_)
    refine R.nil ?_
    refine X.then_ ?_
    refine wp_ret ?_
    refine X.then_ret ?_
    replace hs := hs.nilOwn (α := Pick) 50
    replace hs := hs.nilOwn (α := Reel) 52
    replace hs := hs.front 1 rfl
    replace hs := hs.take 2
    exact L.ret hf (run_results3 Tryd.results21 (ResIs.tmp hf rfl) (ResIs.tmp hf rfl) (ResIs.tmp hf rfl)) ⟨([] : List Pick), none, 0, ([] : List Reel), none, 0, y1, rfl, h, hs⟩
  · replace h := h.2 hc
    refine wp_skip ?_
    refine X.then_ ?_
    refine wp_seq ?_
    refine R.list ?_
    refine S.val hf hs (v := .slice rA r.length rC) rfl rfl rfl (V.pure rfl) (fun a hf => ?_)
    refine S.call hf rfl rfl rfl (call_fn (vs := [.slice rA r.length rC]) rfl rfl rfl Tryd.call55) (R_clone_reel r _ rA rC ((Ag.args _ _ _).view hv_r hs) _ h) (fun v a w' hf hr => ?_)
    obtain ⟨y2, y2A, y2C, rfl, h2, hs2⟩ := hr
    replace h := h2; replace hs := hs.call hs2; clear h2 hs2
    refine S.val hf hs (v := .slice y2A y2.length y2C) rfl rfl rfl (V.pure rfl) (fun a hf => ?_)
    refine R.nil ?_
    refine X.then_ ?_
    refine wp_seq ?_
    refine R.list ?_
    refine S.val hf hs (v := .slice none 0 0) rfl rfl rfl (V.pure rfl) (fun a hf => ?_)
    refine R.nil ?_
    refine X.then_ ?_
    refine wp_seq ?_
    refine wp_seq ?_
    refine R.list ?_
    refine S.val hf hs (v := .int .i64 1) rfl rfl rfl (V.pure rfl) (fun a hf => ?_)
    refine R.nil ?_
    refine X.then_ ?_
    refine wp_block ?_
    replace hs := hs.nilOwn (α := Pick) 50
    obtain ⟨kk, h⟩ := h
    refine C.loop (fun kk a w => ∃ (l3 : List Pick) (l3A : Option Addr) (l3C : Nat) (l4 : List Reel) (l4A : Option Addr) (l4C : Nat) (n2 : Int), iterF (fun again (s : List Pick × List Reel × Int) => M_ref10_Picks_L1 l s_ boards Q (fun l3 l4 n2 => again (l3, l4, n2)) s.1 s.2.1 s.2.2) kk (l3, l4, n2) ∧ FrOk 83 [(1, .slice lA l.length lC), (3, .slice s_A s_.length s_C), (4, .int .i64 boards), (14, .slice l4A l4.length l4C), (15, .slice l3A l3.length l3C), (16, .int .i64 n2)] a ∧ Sat w0 none_ [hown 50 l3A l3C l3, hown 52 l4A l4C l4] w) kk ⟨([] : List Pick), none, 0, y2, y2A, y2C, 1, h, ((((((hf.nil.cons (hf.get 16 _ rfl)).cons (hf.get 15 _ rfl)).cons (hf.get 14 _ rfl)).cons (hf.get 4 _ rfl)).cons (hf.get 3 _ rfl)).cons (hf.get 1 _ rfl)), hs⟩ (fun a w ⟨_, _, _, _, _, _, _, h, _, _⟩ => h) ?_
    clear h hf hs
    rintro kk a w ⟨l3, l3A, l3C, l4, l4A, l4C, n2, h, hf, hs⟩
    obtain ⟨again1, hagain1⟩ : ∃ X : List Pick → List Reel → Int → Prop, X = (fun l3 l4 n2 => iterF (fun again (s : List Pick × List Reel × Int) => M_ref10_Picks_L1 l s_ boards Q (fun l3 l4 n2 => again (l3, l4, n2)) s.1 s.2.1 s.2.2) kk (l3, l4, n2)) := ⟨_, rfl⟩
    replace h : M_ref10_Picks_L1 l s_ boards Q again1 l3 l4 n2 := by rw [hagain1]; exact h
    unfold M_ref10_Picks_L1 at h
    refine wp_seq ?_
    refine wp_seq ?_
    refine R.list ?_
    refine S.val hf hs (v := .int .i64 n2) rfl rfl rfl (V.pure rfl) (fun a hf => ?_)
    refine S.val hf hs (v := .int .i64 boards) rfl rfl rfl (V.pure rfl) (fun a hf => ?_)
    refine S.val hf hs (v := .bool (decide (n2 ≤ boards))) rfl rfl rfl (V.pure rfl) (fun a hf => ?_)
    refine R.nil ?_
    refine X.then_ ?_
    refine C.cond hf (b := decide (n2 ≤ boards)) rfl (fun hc => ?_) (fun hc => ?_)
    · replace h := h.1 hc
      refine wp_skip ?_
      refine X.then_ ?_
      refine wp_seq ?_
      refine wp_block ?_
      refine wp_seq ?_
      refine R.list ?_
      refine S.val hf hs (v := .slice lA l.length lC) rfl rfl rfl (V.pure rfl) (fun a hf => ?_)
      refine S.val hf hs (v := .int .i64 (l.length : Int)) rfl rfl rfl (V.len rfl rfl Tryd.runUnderlying23) (fun a hf => ?_)
      refine S.val hf hs (v := .int .i64 0) rfl rfl rfl (V.pure rfl) (fun a hf => ?_)
      refine R.nil ?_
      refine X.then_ ?_
      refine wp_block ?_
      have hlenk2 := hv_l.len64
      refine C.range (fun (ll : List Place) a w => ∃ (k2 : Nat) (l7 : List Pick) (l7A : Option Addr) (l7C : Nat) (l8 : List Reel) (l8A : Option Addr) (l8C : Nat), l.drop k2 = ll ∧ k2 + ll.length = l.length ∧ forIn' (fun k x (s : List Pick × List Reel) next => M_ref10_Picks_L2 s_ n2 k x s.1 s.2 (fun l7 l8 => next (l7, l8))) (fun (s : List Pick × List Reel) => (fun (l7 : List Pick) (l8 : List Reel) => again1 l7 l8 (w64 (n2 + 1))) s.1 s.2) ll k2 (l7, l8) ∧ FrOk 83 [(39, .int .i64 (k2 : Int)), (1, .slice lA l.length lC), (3, .slice s_A s_.length s_C), (4, .int .i64 boards), (14, .slice l8A l8.length l8C), (15, .slice l7A l7.length l7C), (16, .int .i64 n2), (37, .slice lA l.length lC), (38, .int .i64 (l.length : Int))] a ∧ Sat w0 none_ [hown 50 l7A l7C l7, hown 52 l8A l8C l8] w) l ⟨0, l3, l3A, l3C, l4, l4A, l4C, rfl, Nat.zero_add _, h, (((((((((hf.nil.cons (hf.get 38 _ rfl)).cons (hf.get 37 _ rfl)).cons (hf.get 16 _ rfl)).cons (hf.get 15 _ rfl)).cons (hf.get 14 _ rfl)).cons (hf.get 4 _ rfl)).cons (hf.get 3 _ rfl)).cons (hf.get 1 _ rfl)).cons (hf.get 39 _ rfl)), hs⟩ ?_
      clear h hf hs
      rintro llk2 a w ⟨k2, l7, l7A, l7C, l8, l8A, l8C, hlk2, hkk2, h, hf, hs⟩
      cases llk2 with
      | nil =>
        have hc := range_done hkk2
        replace h : (fun (l7 : List Pick) (l8 : List Reel) => again1 l7 l8 (w64 (n2 + 1))) l7 l8 := h
        refine wp_seq ?_
        refine R.list ?_
        refine S.val hf hs (v := .bool false) rfl rfl rfl (V.cmp false rfl rfl rfl rfl hc) (fun a hf => ?_)
        refine R.nil ?_
        refine X.then_ ?_
        refine wp_seq ?_
        refine C.no hf rfl ?_
        refine wp_exit ?_
        refine X.then_exit ?_
        refine X.then_exit ?_
        refine X.blk_exit ?_
        refine X.blk ?_
        refine X.then_ ?_
        refine R.list ?_
        refine S.val hf hs (v := .int .i64 n2) rfl rfl rfl (V.pure rfl) (fun a hf => ?_)
        refine S.val hf hs (v := .int .i64 (w64 (n2 + 1))) rfl rfl rfl (V.pure rfl) (fun a hf => ?_)
        refine S.val hf hs (v := .int .i64 (w64 (n2 + 1))) rfl rfl rfl (V.pure rfl) (fun a hf => ?_)
        refine R.nil ?_
        refine X.then_ ?_
        exact ⟨l7, l7A, l7C, l8, l8A, l8C, (w64 (n2 + 1)), (by rw [hagain1] at h; exact h), ((((((hf.nil.cons (hf.get 16 _ rfl)).cons (hf.get 15 _ rfl)).cons (hf.get 14 _ rfl)).cons (hf.get 4 _ rfl)).cons (hf.get 3 _ rfl)).cons (hf.get 1 _ rfl)), hs⟩
      | cons xk2 llk2 =>
        have hltk2 := range_lt hkk2; have hc := range_go hkk2; have hxk2 := range_get hlk2
        obtain ⟨next2, hnext2⟩ : ∃ X : List Pick → List Reel → Prop, X = (fun l7 l8 => forIn' (fun k x (s : List Pick × List Reel) next => M_ref10_Picks_L2 s_ n2 k x s.1 s.2 (fun l7 l8 => next (l7, l8))) (fun (s : List Pick × List Reel) => (fun (l7 : List Pick) (l8 : List Reel) => again1 l7 l8 (w64 (n2 + 1))) s.1 s.2) llk2 (k2 + 1) (l7, l8)) := ⟨_, rfl⟩
        replace h : M_ref10_Picks_L2 s_ n2 k2 xk2 l7 l8 next2 := by rw [hnext2]; exact h
        unfold M_ref10_Picks_L2 at h
        refine wp_seq ?_
        refine R.list ?_
        refine S.val hf hs (v := .bool true) rfl rfl rfl (V.cmp true rfl rfl rfl rfl hc) (fun a hf => ?_)
        refine R.nil ?_
        refine X.then_ ?_
        refine wp_seq ?_
        refine C.yes hf rfl ?_
        refine wp_skip ?_
        refine X.then_ ?_
        refine wp_seq ?_
        refine wp_block ?_
        refine wp_seq ?_
        refine R.list ?_
        refine S.val hf hs (v := elemPtr lA (k2 * 6)) rfl rfl rfl (V.index rfl rfl rfl Tryd.runUnderlying23 Tryd.sizeOf28 (hv_l.some_ (lt_of_get hxk2)) (Int.natCast_nonneg _) (lt_of_get hxk2) rfl) (fun a hf => ?_)
        refine S.val hf hs (v := .agg #[.string (ba xk2.Part), .string (ba xk2.Typ), .int .i64 xk2.At.X, .int .i64 xk2.At.Y, .int .i64 xk2.Quarters, .bool xk2.Below]) rfl rfl rfl (V.loadEl (off := 0) (Ag.args _ _ _) (hv_l.flat hxk2) rfl rfl rfl Tryd.isAgg28 Tryd.sizeOf28 rfl rfl) (fun a hf => ?_)
        refine S.alloc hf hs rfl rfl rfl [.string (ba []), .string (ba []), .int .i64 0, .int .i64 0, .int .i64 0, .bool false] rfl Tryd.zeroValue28 rfl (fun g1 a w hf hs => ?_)
        refine S.storeBox 0 hf hs rfl rfl [.string (ba xk2.Part), .string (ba xk2.Typ), .int .i64 xk2.At.X, .int .i64 xk2.At.Y, .int .i64 xk2.Quarters, .bool xk2.Below] [.string (ba xk2.Part), .string (ba xk2.Typ), .int .i64 xk2.At.X, .int .i64 xk2.At.Y, .int .i64 xk2.Quarters, .bool xk2.Below] rfl rfl rfl rfl rfl Tryd.sizeOf28 rfl rfl rfl rfl (fun a w hf hs => ?_)
        refine R.nil ?_
        refine X.then_ ?_
        refine wp_seq ?_
        refine R.list ?_
        refine S.val hf hs (v := .int .i64 n2) rfl rfl rfl (V.pure rfl) (fun a hf => ?_)
        refine S.val hf hs (v := .pointer (some ⟨g1, 0, none⟩)) rfl rfl rfl (V.fieldBox rfl rfl Tryd.runUnderlying28 rfl Tryd.sizeOf9 rfl rfl) (fun a hf => ?_)
        refine S.val hf hs (v := .string (ba xk2.Part)) rfl rfl rfl (V.loadBox 0 rfl rfl rfl Tryd.isAgg9 Tryd.sizeOf9 rfl rfl) (fun a hf => ?_)
        refine S.val hf hs (v := .pointer (some ⟨g1, 1, none⟩)) rfl rfl rfl (V.fieldBox rfl rfl Tryd.runUnderlying28 rfl Tryd.sizeOf9 rfl rfl) (fun a hf => ?_)
        refine S.val hf hs (v := .string (ba xk2.Typ)) rfl rfl rfl (V.loadBox 0 rfl rfl rfl Tryd.isAgg9 Tryd.sizeOf9 rfl rfl) (fun a hf => ?_)
        refine S.val hf hs (v := .agg #[.int .i64 n2, .string (ba xk2.Part), .string (ba xk2.Typ), .int .i64 0]) rfl rfl rfl (V.build (places := #[(0, 1), (1, 1), (2, 1), (3, 1)]) rfl Tryd.zeroValue50 Tryd.runUnderlying50 (by intro w; simp [Tryd.sizeOf3, Tryd.sizeOf9]) rfl rfl) (fun a hf => ?_)
        refine S.alloc hf hs rfl rfl rfl [.int .i64 0, .string (ba []), .string (ba []), .int .i64 0] rfl Tryd.zeroValue50 rfl (fun g2 a w hf hs => ?_)
        refine S.storeBox 0 hf hs rfl rfl [.int .i64 n2, .string (ba xk2.Part), .string (ba xk2.Typ), .int .i64 0] [.int .i64 n2, .string (ba xk2.Part), .string (ba xk2.Typ), .int .i64 0] rfl rfl rfl rfl rfl Tryd.sizeOf50 rfl rfl rfl rfl (fun a w hf hs => ?_)
        refine R.nil ?_
        refine X.then_ ?_
        refine wp_seq ?_
        refine C.cut (J := fun a w => ∃ (l9 : List Reel) (l9A : Option Addr) (l9C : Nat) (b1 : Pick), M_ref10_Picks_k3 l7 next2 l9 b1 ∧ FrOk 83 [(1, .slice lA l.length lC), (3, .slice s_A s_.length s_C), (4, .int .i64 boards), (14, .slice l9A l9.length l9C), (15, .slice l7A l7.length l7C), (16, .int .i64 n2), (19, .pointer (some ⟨g2, 0, none⟩)), (37, .slice lA l.length lC), (38, .int .i64 (l.length : Int)), (39, .int .i64 (k2 : Int))] a ∧ Sat w0 none_ [hbox g2 50 [.int .i64 b1.Board, .string (ba b1.Part), .string (ba b1.Typ), .int .i64 b1.Slot], hbox g1 28 [.string (ba xk2.Part), .string (ba xk2.Typ), .int .i64 xk2.At.X, .int .i64 xk2.At.Y, .int .i64 xk2.Quarters, .bool xk2.Below], hown 50 l7A l7C l7, hown 52 l9A l9C l9] w) ?_ ?_
        · rintro a w ⟨l9, l9A, l9C, b1, h, hf, hs⟩
          unfold M_ref10_Picks_k3 at h
          refine R.list ?_
          refine S.val hf hs (v := .slice l7A l7.length l7C) rfl rfl rfl (V.pure rfl) (fun a hf => ?_)
          refine S.val hf hs (v := .agg #[.int .i64 b1.Board, .string (ba b1.Part), .string (ba b1.Typ), .int .i64 b1.Slot]) rfl rfl rfl (V.loadBox 0 rfl rfl rfl Tryd.isAgg50 Tryd.sizeOf50 rfl rfl) (fun a hf => ?_)
          refine S.build1 hf hs rfl rfl rfl (α := Pick) b1 rfl rfl rfl Tryd.runUnderlying45 Tryd.sizeOf50 Tryd.zeroValue50 rfl (by decide) (fun A1 a w hf hs => ?_)
          obtain ⟨hroom, h⟩ := h
          refine S.appendCells 3 hf hs rfl rfl rfl rfl rfl rfl rfl Tryd.underlying45 info50 rfl hroom ((hs.ownView 0 rfl).some_ (i := 0) (by simp)) (hs.ownView 0 rfl) (fun A2 C1 a w hf hs => ?_)
          replace hs := hs.drop
          refine S.val hf hs (v := .slice A2 (l7 ++ [b1]).length C1) rfl rfl rfl (V.pure rfl) (fun a hf => ?_)
          refine R.nil ?_
          refine X.blk ?_
          refine X.then_ ?_
          refine R.list ?_
          refine S.val hf hs (v := .int .i64 ((k2 + 1 : Nat) : Int)) rfl rfl rfl (V.incr rfl rfl rfl hltk2 hlenk2) (fun a hf => ?_)
          refine S.val hf hs (v := .int .i64 ((k2 + 1 : Nat) : Int)) rfl rfl rfl (V.pure rfl) (fun a hf => ?_)
          refine R.nil ?_
          refine X.then_ ?_
          exact ⟨xk2, llk2, rfl, k2 + 1, (l7 ++ [b1]), A2, C1, l9, l9A, l9C, range_drop hlk2, range_len hkk2, (by rw [hnext2] at h; exact h), (((((((((hf.nil.cons (hf.get 38 _ rfl)).cons (hf.get 37 _ rfl)).cons (hf.get 16 _ rfl)).cons (hf.get 15 _ rfl)).cons (hf.get 14 _ rfl)).cons (hf.get 4 _ rfl)).cons (hf.get 3 _ rfl)).cons (hf.get 1 _ rfl)).cons (hf.get 39 _ rfl)), hs.drop.drop⟩
        · skip
          refine wp_seq ?_
          refine R.list ?_
          refine S.val hf hs (v := .slice l8A l8.length l8C) rfl rfl rfl (V.pure rfl) (fun a hf => ?_)
          refine S.val hf hs (v := .slice s_A s_.length s_C) rfl rfl rfl (V.pure rfl) (fun a hf => ?_)
          refine S.val hf hs (v := .pointer (some ⟨g1, 1, none⟩)) rfl rfl rfl (V.fieldBox rfl rfl Tryd.runUnderlying28 rfl Tryd.sizeOf9 rfl rfl) (fun a hf => ?_)
          refine S.val hf hs (v := .string (ba xk2.Typ)) rfl rfl rfl (V.loadBox 1 rfl rfl rfl Tryd.isAgg9 Tryd.sizeOf9 rfl rfl) (fun a hf => ?_)
          refine S.call hf rfl rfl rfl (call_fn (vs := [.slice l8A l8.length l8C, .slice s_A s_.length s_C, .string (ba xk2.Typ)]) rfl rfl rfl Tryd.call58) (R_ref10_from l8 s_ xk2.Typ _ l8A l8C (hs.ownView 3 rfl) s_A s_C ((Ag.args _ _ _).view hv_s_ hs) _ h) (fun v a w' hf hr => ?_)
          obtain ⟨y3, rfl, h2, hs2⟩ := hr
          replace h := h2; replace hs := hs.call hs2; clear h2 hs2
          refine S.val hf hs (v := .int .i64 y3) rfl rfl rfl (V.pure rfl) (fun a hf => ?_)
          refine R.nil ?_
          refine X.then_ ?_
          refine wp_seq ?_
          refine R.list ?_
          refine S.val hf hs (v := .int .i64 y3) rfl rfl rfl (V.pure rfl) (fun a hf => ?_)
          refine S.val hf hs (v := .bool (decide (y3 ≥ 0))) rfl rfl rfl (V.pure rfl) (fun a hf => ?_)
          refine R.nil ?_
          refine X.then_ ?_
          refine C.cond hf (b := decide (y3 ≥ 0)) rfl (fun hc => ?_) (fun hc => ?_)
          · replace h := h.1 hc
            refine wp_seq ?_
            refine R.list ?_
            refine S.val hf hs (v := .slice l8A l8.length l8C) rfl rfl rfl (V.pure rfl) (fun a hf => ?_)
            refine S.val hf hs (v := .int .i64 y3) rfl rfl rfl (V.pure rfl) (fun a hf => ?_)
            obtain ⟨h0x1, x1, hx1, h⟩ := h
            refine S.val hf hs (v := elemPtr l8A (y3.toNat * 3)) rfl rfl rfl (V.index rfl rfl rfl Tryd.runUnderlying43 Tryd.sizeOf52 (hs.ownSome 3 rfl (lt_of_get hx1)) h0x1 (lt_of_get hx1) rfl) (fun a hf => ?_)
            refine S.val hf hs (v := elemPtr l8A (y3.toNat * 3 + 2)) rfl rfl rfl (V.fieldEl rfl rfl (hs.ownSome 3 rfl (lt_of_get hx1)) Tryd.runUnderlying52 rfl Tryd.sizeOf3 rfl rfl) (fun a hf => ?_)
            refine S.val hf hs (v := .int .i64 x1.Left) rfl rfl rfl (V.loadOwn (off := 2) 3 rfl hx1 rfl rfl rfl Tryd.isAgg3 Tryd.sizeOf3 rfl rfl) (fun a hf => ?_)
            refine S.val hf hs (v := .int .i64 (w64 (x1.Left - 1))) rfl rfl rfl (V.pure rfl) (fun a hf => ?_)
            refine S.val hf hs (v := elemPtr l8A (y3.toNat * 3)) rfl rfl rfl (V.index rfl rfl rfl Tryd.runUnderlying43 Tryd.sizeOf52 (hs.ownSome 3 rfl (lt_of_get hx1)) h0x1 (lt_of_get hx1) rfl) (fun a hf => ?_)
            refine S.val hf hs (v := elemPtr l8A (y3.toNat * 3 + 2)) rfl rfl rfl (V.fieldEl rfl rfl (hs.ownSome 3 rfl (lt_of_get hx1)) Tryd.runUnderlying52 rfl Tryd.sizeOf3 rfl rfl) (fun a hf => ?_)
            refine S.storeOwn (off := 2) 3 hf hs rfl rfl (⟨x1.Slot, x1.Typ, w64 (x1.Left - 1)⟩ : Reel) [.int .i64 (w64 (x1.Left - 1))] rfl hx1 rfl rfl rfl rfl rfl Tryd.sizeOf3 rfl (by decide) rfl rfl (fun a w hf hs => ?_)
            replace hf := hf.tell 14 (v := .slice l8A (l8.set y3.toNat (⟨x1.Slot, x1.Typ, w64 (x1.Left - 1)⟩ : Reel)).length l8C) ((hf.get 14 (.slice l8A l8.length l8C) rfl).trans (congrArg (fun n => Value.slice l8A n l8C) List.length_set.symm))
            replace hf := hf.tell 49 (v := .slice l8A (l8.set y3.toNat (⟨x1.Slot, x1.Typ, w64 (x1.Left - 1)⟩ : Reel)).length l8C) ((hf.get 49 (.slice l8A l8.length l8C) rfl).trans (congrArg (fun n => Value.slice l8A n l8C) List.length_set.symm))
            replace hf := hf.tell 56 (v := .slice l8A (l8.set y3.toNat (⟨x1.Slot, x1.Typ, w64 (x1.Left - 1)⟩ : Reel)).length l8C) ((hf.get 56 (.slice l8A l8.length l8C) rfl).trans (congrArg (fun n => Value.slice l8A n l8C) List.length_set.symm))
            refine R.nil ?_
            refine X.then_ ?_
            refine H.start (S := Sat w0 none_ [hbox g1 28 [.string (ba xk2.Part), .string (ba xk2.Typ), .int .i64 xk2.At.X, .int .i64 xk2.At.Y, .int .i64 xk2.Quarters, .bool xk2.Below], hown 50 l7A l7C l7, hown 52 l8A l8C (l8.set y3.toNat (⟨x1.Slot, x1.Typ, w64 (x1.Left - 1)⟩ : Reel))]) mo ?_
            replace hs := hs.drew
            refine H.val hf (hs.mask [false, true, true, true]) (v := .slice l8A (l8.set y3.toNat (⟨x1.Slot, x1.Typ, w64 (x1.Left - 1)⟩ : Reel)).length l8C) (i := 0) rfl rfl rfl rfl (by kernel_rfl) (by kernel_rfl) (by kernel_rfl) (V.pure rfl) (fun a hf => ?_)
            refine H.val hf (hs.mask [false, true, true, true]) (v := .int .i64 y3) (i := 1) rfl rfl rfl rfl (by kernel_rfl) (by kernel_rfl) (by kernel_rfl) (V.pure rfl) (fun a hf => ?_)
            obtain ⟨h0x2, x2, hx2, h⟩ := h
            refine H.val hf (hs.mask [false, true, true, true]) (v := elemPtr l8A (y3.toNat * 3)) (i := 2) rfl rfl rfl rfl (by kernel_rfl) (by kernel_rfl) (by kernel_rfl) (V.index rfl rfl rfl Tryd.runUnderlying43 Tryd.sizeOf52 (hs.ownSome 3 rfl (lt_of_get hx2)) h0x2 (lt_of_get hx2) rfl) (fun a hf => ?_)
            refine H.val hf (hs.mask [false, true, true, true]) (v := elemPtr l8A (y3.toNat * 3 + 1)) (i := 3) rfl rfl rfl rfl (by kernel_rfl) (by kernel_rfl) (by kernel_rfl) (V.fieldEl rfl rfl (hs.ownSome 3 rfl (lt_of_get hx2)) Tryd.runUnderlying52 rfl Tryd.sizeOf9 rfl rfl) (fun a hf => ?_)
            refine H.val hf (hs.mask [false, true, true, true]) (v := .string (ba x2.Typ)) (i := 4) rfl rfl rfl rfl (by kernel_rfl) (by kernel_rfl) (by kernel_rfl) (V.loadOwn (off := 1) 2 rfl hx2 rfl rfl rfl Tryd.isAgg9 Tryd.sizeOf9 rfl rfl) (fun a hf => ?_)
            refine H.val hf (hs.mask [false, true, true, true]) (v := .slice l8A (l8.set y3.toNat (⟨x1.Slot, x1.Typ, w64 (x1.Left - 1)⟩ : Reel)).length l8C) (i := 5) rfl rfl rfl rfl (by kernel_rfl) (by kernel_rfl) (by kernel_rfl) (V.pure rfl) (fun a hf => ?_)
            refine H.val hf (hs.mask [false, true, true, true]) (v := .int .i64 y3) (i := 6) rfl rfl rfl rfl (by kernel_rfl) (by kernel_rfl) (by kernel_rfl) (V.pure rfl) (fun a hf => ?_)
            refine H.val hf (hs.mask [false, true, true, true]) (v := elemPtr l8A (y3.toNat * 3)) (i := 7) rfl rfl rfl rfl (by kernel_rfl) (by kernel_rfl) (by kernel_rfl) (V.index rfl rfl rfl Tryd.runUnderlying43 Tryd.sizeOf52 (hs.ownSome 3 rfl (lt_of_get hx2)) h0x2 (lt_of_get hx2) rfl) (fun a hf => ?_)
            refine H.val hf (hs.mask [false, true, true, true]) (v := elemPtr l8A (y3.toNat * 3)) (i := 8) rfl rfl rfl rfl (by kernel_rfl) (by kernel_rfl) (by kernel_rfl) (V.fieldEl rfl rfl (hs.ownSome 3 rfl (lt_of_get hx2)) Tryd.runUnderlying52 rfl Tryd.sizeOf3 rfl rfl) (fun a hf => ?_)
            refine H.val hf (hs.mask [false, true, true, true]) (v := .int .i64 x2.Slot) (i := 9) rfl rfl rfl rfl (by kernel_rfl) (by kernel_rfl) (by kernel_rfl) (V.loadOwn (off := 0) 2 rfl hx2 rfl rfl rfl Tryd.isAgg3 Tryd.sizeOf3 rfl rfl) (fun a hf => ?_)
            refine H.val hf (hs.mask [false, true, true, true]) (v := .pointer (some ⟨g2, 2, none⟩)) (i := 10) rfl rfl rfl rfl (by kernel_rfl) (by kernel_rfl) (by kernel_rfl) (V.fieldBox rfl rfl Tryd.runUnderlying50 rfl Tryd.sizeOf9 rfl rfl) (fun a hf => ?_)
            refine H.one (i := 11) rfl (by kernel_rfl) ?_
            refine S.storeBox 0 hf hs rfl rfl [.string (ba x2.Typ)] [.int .i64 n2, .string (ba xk2.Part), .string (ba x2.Typ), .int .i64 0] rfl rfl rfl rfl rfl Tryd.sizeOf9 rfl rfl rfl rfl (fun a w hf hs => ?_)
            refine R.nil ?_
            refine X.then_ ?_
            refine ⟨(hs.mask [false, true, true, true]), ?_⟩
            refine H.val hf (hs.mask [false, true, true, true]) (v := .pointer (some ⟨g2, 3, none⟩)) (i := 12) rfl rfl rfl rfl (by kernel_rfl) (by kernel_rfl) (by kernel_rfl) (V.fieldBox rfl rfl Tryd.runUnderlying50 rfl Tryd.sizeOf3 rfl rfl) (fun a hf => ?_)
            refine H.one (i := 13) rfl (by kernel_rfl) ?_
            refine S.storeBox 0 hf hs rfl rfl [.int .i64 x2.Slot] [.int .i64 n2, .string (ba xk2.Part), .string (ba x2.Typ), .int .i64 x2.Slot] rfl rfl rfl rfl rfl Tryd.sizeOf3 rfl rfl rfl rfl (fun a w hf hs => ?_)
            refine R.nil ?_
            refine X.then_ ?_
            refine ⟨(hs.mask [false, true, true, true]), ?_⟩
            refine H.done (by kernel_rfl) ?_
            refine X.then_ ?_
            exact ⟨(l8.set y3.toNat (⟨x1.Slot, x1.Typ, w64 (x1.Left - 1)⟩ : Reel)), l8A, l8C, (⟨n2, xk2.Part, x2.Typ, x2.Slot⟩ : Pick), h, ((((((((((hf.nil.cons (hf.get 39 _ rfl)).cons (hf.get 38 _ rfl)).cons (hf.get 37 _ rfl)).cons (hf.get 19 _ rfl)).cons (hf.get 16 _ rfl)).cons (hf.get 15 _ rfl)).cons (hf.get 14 _ rfl)).cons (hf.get 4 _ rfl)).cons (hf.get 3 _ rfl)).cons (hf.get 1 _ rfl)), hs⟩
          · replace h := h.2 hc
            refine wp_skip ?_
            refine X.then_ ?_
            exact ⟨l8, l8A, l8C, (⟨n2, xk2.Part, xk2.Typ, 0⟩ : Pick), h, ((((((((((hf.nil.cons (hf.get 39 _ rfl)).cons (hf.get 38 _ rfl)).cons (hf.get 37 _ rfl)).cons (hf.get 19 _ rfl)).cons (hf.get 16 _ rfl)).cons (hf.get 15 _ rfl)).cons (hf.get 14 _ rfl)).cons (hf.get 4 _ rfl)).cons (hf.get 3 _ rfl)).cons (hf.get 1 _ rfl)), hs⟩
    · replace h := h.2 hc
      refine wp_exit ?_
      refine X.then_exit ?_
      refine X.then_exit ?_
      refine X.blk_exit ?_
      refine X.then_ ?_
      refine wp_seq ?_
      refine R.list ?_
      refine S.val hf hs (v := .slice l3A l3.length l3C) rfl rfl rfl (V.pure rfl) (fun a hf => ?_)
      refine S.val hf hs (v := .slice l4A l4.length l4C) rfl rfl rfl (V.pure rfl) (fun a hf => ?_)
      refine S.val hf hs (v := .slice l3A l3.length l3C) rfl rfl rfl (V.pure rfl) (fun a hf => ?_)
      refine S.val hf hs (v := .slice l4A l4.length l4C) rfl rfl rfl (V.pure rfl) (fun a hf => ?_)
      refine S.val hf hs (v := .int .i64 0) rfl rfl rfl (V.pure rfl) (fun a hf => ?_)
      refine R.nil ?_
      refine X.then_ ?_
      refine wp_ret ?_
      replace hs := hs.front 1 rfl
      replace hs := hs.front 1 rfl
      replace hs := hs.take 2
      exact L.ret hf (run_results3 Tryd.results21 (ResIs.tmp hf rfl) (ResIs.tmp hf rfl) (ResIs.tmp hf rfl)) ⟨l3, l3A, l3C, l4, l4A, l4C, 0, rfl, h, hs⟩

set_option linter.unusedVariables false
def M_ref10_Left_L1 (name : Str) (k1 : Nat) (xk1 : Reel) (n2 : Int) (next1 : Int → Prop) : Prop :=
  cnd (xk1.Typ == name) (next1 (w64 (n2 + xk1.Left))) (next1 n2)
def M_ref10_Left (r : (List Reel)) (name : Str) (Q : Int → Prop) : Prop :=
  forIn' (fun k x (s : Int) next => M_ref10_Left_L1 name k x s (fun n2 => next n2)) (fun (s : Int) => (fun (n2 : Int) => Q n2) s) r 0 0
set_option maxHeartbeats 1000000 in
theorem R_ref10_Left (r : (List Reel)) (name : Str) (w0 : World) (rA : Option Addr) (rC : Nat) (hv_r : View w0 (old w0 none_) rA rC r) (Q : Int → Prop) (h : M_ref10_Left r name Q) :
    Ret Tryd.prog 20 #[.slice rA r.length rC, .string (ba name)] w0 fun v w' => ∃ (r0 : Int), v = .int .i64 r0 ∧ Q r0 ∧ Sat w0 none_ [] w' := by
  refine fn_enter Tryd.func20 rfl Tryd.ntmps20 rfl (fs := [(0, .slice rA r.length rC), (1, .string (ba name))]) rfl (fun a hf => ?_)
  have hs := Sat.start w0 none_
  unfold M_ref10_Left at h
  refine wp_seq ?_
  refine R.list ?_
  refine S.val hf hs (v := .int .i64 0) rfl rfl rfl (V.pure rfl) (fun a hf => ?_)
  refine R.nil ?_
  refine X.then_ ?_
  refine wp_seq ?_
  refine R.list ?_
  refine S.val hf hs (v := .int .i64 0) rfl rfl rfl (V.pure rfl) (fun a hf => ?_)
  refine R.nil ?_
  refine X.then_ ?_
  refine wp_seq ?_
  refine wp_seq ?_
  refine R.list ?_
  refine S.val hf hs (v := .slice rA r.length rC) rfl rfl rfl (V.pure rfl) (fun a hf => ?_)
  refine S.val hf hs (v := .int .i64 (r.length : Int)) rfl rfl rfl (V.len rfl rfl Tryd.runUnderlying43) (fun a hf => ?_)
  refine S.val hf hs (v := .int .i64 0) rfl rfl rfl (V.pure rfl) (fun a hf => ?_)
  refine R.nil ?_
  refine X.then_ ?_
  refine wp_block ?_
  have hlenk1 := hv_r.len64
  refine C.range (fun (ll : List Reel) a w => ∃ (k1 : Nat) (n2 : Int), r.drop k1 = ll ∧ k1 + ll.length = r.length ∧ forIn' (fun k x (s : Int) next => M_ref10_Left_L1 name k x s (fun n2 => next n2)) (fun (s : Int) => (fun (n2 : Int) => Q n2) s) ll k1 n2 ∧ FrOk 24 [(10, .int .i64 (k1 : Int)), (1, .string (ba name)), (5, .int .i64 n2), (8, .slice rA r.length rC), (9, .int .i64 (r.length : Int))] a ∧ Sat w0 none_ [] w) r ⟨0, 0, rfl, Nat.zero_add _, h, (((((hf.nil.cons (hf.get 9 _ rfl)).cons (hf.get 8 _ rfl)).cons (hf.get 5 _ rfl)).cons (hf.get 1 _ rfl)).cons (hf.get 10 _ rfl)), hs⟩ ?_
  clear h hf hs
  rintro llk1 a w ⟨k1, n2, hlk1, hkk1, h, hf, hs⟩
  cases llk1 with
  | nil =>
    have hc := range_done hkk1
    replace h : (fun (n2 : Int) => Q n2) n2 := h
    refine wp_seq ?_
    refine R.list ?_
    refine S.val hf hs (v := .bool false) rfl rfl rfl (V.cmp false rfl rfl rfl rfl hc) (fun a hf => ?_)
    refine R.nil ?_
    refine X.then_ ?_
    refine wp_seq ?_
    refine C.no hf rfl ?_
    refine wp_exit ?_
    refine X.then_exit ?_
    refine X.then_exit ?_
    refine X.blk_exit ?_
    refine X.then_ ?_
    refine wp_seq ?_
    refine R.list ?_
    refine S.val hf hs (v := .int .i64 n2) rfl rfl rfl (V.pure rfl) (fun a hf => ?_)
    refine S.val hf hs (v := .int .i64 n2) rfl rfl rfl (V.pure rfl) (fun a hf => ?_)
    refine R.nil ?_
    refine X.then_ ?_
    refine wp_ret ?_
    exact L.ret hf (run_results1 Tryd.results20 (ResIs.tmp hf rfl)) ⟨n2, rfl, h, hs.nil⟩
  | cons xk1 llk1 =>
    have hltk1 := range_lt hkk1; have hc := range_go hkk1; have hxk1 := range_get hlk1
    obtain ⟨next1, hnext1⟩ : ∃ X : Int → Prop, X = (fun n2 => forIn' (fun k x (s : Int) next => M_ref10_Left_L1 name k x s (fun n2 => next n2)) (fun (s : Int) => (fun (n2 : Int) => Q n2) s) llk1 (k1 + 1) n2) := ⟨_, rfl⟩
    replace h : M_ref10_Left_L1 name k1 xk1 n2 next1 := by rw [hnext1]; exact h
    unfold M_ref10_Left_L1 at h
    refine wp_seq ?_
    refine R.list ?_
    refine S.val hf hs (v := .bool true) rfl rfl rfl (V.cmp true rfl rfl rfl rfl hc) (fun a hf => ?_)
    refine R.nil ?_
    refine X.then_ ?_
    refine wp_seq ?_
    refine C.yes hf rfl ?_
    refine wp_skip ?_
    refine X.then_ ?_
    refine wp_seq ?_
    refine wp_block ?_
    refine wp_seq ?_
    refine R.list ?_
    refine S.val hf hs (v := elemPtr rA (k1 * 3)) rfl rfl rfl (V.index rfl rfl rfl Tryd.runUnderlying43 Tryd.sizeOf52 (hv_r.some_ (lt_of_get hxk1)) (Int.natCast_nonneg _) (lt_of_get hxk1) rfl) (fun a hf => ?_)
    refine S.val hf hs (v := .agg #[.int .i64 xk1.Slot, .string (ba xk1.Typ), .int .i64 xk1.Left]) rfl rfl rfl (V.loadEl (off := 0) (Ag.args _ _ _) (hv_r.flat hxk1) rfl rfl rfl Tryd.isAgg52 Tryd.sizeOf52 rfl rfl) (fun a hf => ?_)
    refine S.alloc hf hs rfl rfl rfl [.int .i64 0, .string (ba []), .int .i64 0] rfl Tryd.zeroValue52 rfl (fun g1 a w hf hs => ?_)
    refine S.storeBox 0 hf hs rfl rfl [.int .i64 xk1.Slot, .string (ba xk1.Typ), .int .i64 xk1.Left] [.int .i64 xk1.Slot, .string (ba xk1.Typ), .int .i64 xk1.Left] rfl rfl rfl rfl rfl Tryd.sizeOf52 rfl rfl rfl rfl (fun a w hf hs => ?_)
    refine R.nil ?_
    refine X.then_ ?_
    refine wp_seq ?_
    refine R.list ?_
    refine S.val hf hs (v := .pointer (some ⟨g1, 1, none⟩)) rfl rfl rfl (V.fieldBox rfl rfl Tryd.runUnderlying52 rfl Tryd.sizeOf9 rfl rfl) (fun a hf => ?_)
    refine S.val hf hs (v := .string (ba xk1.Typ)) rfl rfl rfl (V.loadBox 0 rfl rfl rfl Tryd.isAgg9 Tryd.sizeOf9 rfl rfl) (fun a hf => ?_)
    refine S.val hf hs (v := .string (ba name)) rfl rfl rfl (V.pure rfl) (fun a hf => ?_)
    refine S.val hf hs (v := .bool (xk1.Typ == name)) rfl rfl rfl (V.strCmp (xk1.Typ == name) rfl rfl rfl rfl) (fun a hf => ?_)
    refine R.nil ?_
    refine X.then_ ?_
    refine C.cond hf (b := xk1.Typ == name) rfl (fun hc => ?_) (fun hc => ?_)
    · replace h := h.1 hc
      refine R.list ?_
      refine S.val hf hs (v := .int .i64 n2) rfl rfl rfl (V.pure rfl) (fun a hf => ?_)
      refine S.val hf hs (v := .pointer (some ⟨g1, 2, none⟩)) rfl rfl rfl (V.fieldBox rfl rfl Tryd.runUnderlying52 rfl Tryd.sizeOf3 rfl rfl) (fun a hf => ?_)
      refine S.val hf hs (v := .int .i64 xk1.Left) rfl rfl rfl (V.loadBox 0 rfl rfl rfl Tryd.isAgg3 Tryd.sizeOf3 rfl rfl) (fun a hf => ?_)
      refine S.val hf hs (v := .int .i64 (w64 (n2 + xk1.Left))) rfl rfl rfl (V.pure rfl) (fun a hf => ?_)
      refine S.val hf hs (v := .int .i64 (w64 (n2 + xk1.Left))) rfl rfl rfl (V.pure rfl) (fun a hf => ?_)
      refine R.nil ?_
      refine X.blk ?_
      refine X.then_ ?_
      refine R.list ?_
      refine S.val hf hs (v := .int .i64 ((k1 + 1 : Nat) : Int)) rfl rfl rfl (V.incr rfl rfl rfl hltk1 hlenk1) (fun a hf => ?_)
      refine S.val hf hs (v := .int .i64 ((k1 + 1 : Nat) : Int)) rfl rfl rfl (V.pure rfl) (fun a hf => ?_)
      refine R.nil ?_
      refine X.then_ ?_
      exact ⟨xk1, llk1, rfl, k1 + 1, (w64 (n2 + xk1.Left)), range_drop hlk1, range_len hkk1, (by rw [hnext1] at h; exact h), (((((hf.nil.cons (hf.get 9 _ rfl)).cons (hf.get 8 _ rfl)).cons (hf.get 5 _ rfl)).cons (hf.get 1 _ rfl)).cons (hf.get 10 _ rfl)), hs.drop⟩
    · replace h := h.2 hc
      refine wp_skip ?_
      refine X.blk ?_
      refine X.then_ ?_
      refine R.list ?_
      refine S.val hf hs (v := .int .i64 ((k1 + 1 : Nat) : Int)) rfl rfl rfl (V.incr rfl rfl rfl hltk1 hlenk1) (fun a hf => ?_)
      refine S.val hf hs (v := .int .i64 ((k1 + 1 : Nat) : Int)) rfl rfl rfl (V.pure rfl) (fun a hf => ?_)
      refine R.nil ?_
      refine X.then_ ?_
      exact ⟨xk1, llk1, rfl, k1 + 1, n2, range_drop hlk1, range_len hkk1, (by rw [hnext1] at h; exact h), (((((hf.nil.cons (hf.get 9 _ rfl)).cons (hf.get 8 _ rfl)).cons (hf.get 5 _ rfl)).cons (hf.get 1 _ rfl)).cons (hf.get 10 _ rfl)), hs.drop⟩

end Go.Proofs.YtcmlcgjjkccaeaaDoor
