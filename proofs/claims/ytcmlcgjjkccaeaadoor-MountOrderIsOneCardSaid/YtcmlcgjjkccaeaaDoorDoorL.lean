/- Chapter texts of ours, as far as the claim needs them. -/
import Derived.Test.YtcmlcgjjkccaeaaDoorDoorC
import Derived.Test.YtcmlcgjjkccaeaaDoorArr
import Derived.Test.YtcmlcgjjkccaeaaDoorRaw
namespace Go.Proofs.YtcmlcgjjkccaeaaDoor
open Go Go.RowKit
set_option linter.unusedVariables false
set_option linter.unusedSimpArgs false
set_option linter.unusedVariables false
def M_mount_side (p : Place) (Q : Int → Prop) : Prop :=
  cnd p.Below (Q 1) (Q 0)
set_option maxHeartbeats 1000000 in
theorem R_mount_side (p : Place) (w0 : World)  (Q : Int → Prop) (h : M_mount_side p Q) :
  Ret Tryd.prog 64 #[.agg #[.string (ba p.Part), .string (ba p.Typ), iv p.At.X, iv p.At.Y, iv p.Quarters, .bool p.Below]] w0 fun v w' => ∃ (r0 : Int), v = iv r0 ∧ Q r0 ∧ Sat w0 none_ [] w' := by
 refine fn_enter Tryd.func64 rfl Tryd.ntmps64 rfl (fs := [(0, .agg #[.string (ba p.Part), .string (ba p.Typ), iv p.At.X, iv p.At.Y, iv p.Quarters, .bool p.Below])]) rfl (fun a hf => ?_)
 have hs := Sat.start w0 none_
 unfold M_mount_side at h
 refine wp_seq (R.list ?_)
 refine S.box hf hs rfl rfl rfl [.string (ba p.Part), .string (ba p.Typ), iv p.At.X, iv p.At.Y, iv p.Quarters, .bool p.Below] rfl rfl rfl (fun g1 a w hf hs => ?_)
 refine S.p hf hs (iv 0) rfl rfl fun a hf => ?_
 refine R.nil (X.then_ (wp_seq (wp_seq (R.list ?_))))
 refine S.v hf hs ((pn g1 5)) rfl (V.fieldBox rfl rfl Tryd.runUnderlying28 rfl Tryd.sizeOf4 rfl rfl) fun a hf => ?_
 refine S.v hf hs (.bool p.Below) rfl (V.loadBox 0 rfl rfl rfl Tryd.isAgg4 Tryd.sizeOf4 rfl rfl) fun a hf => ?_
 refine R.nil (X.then_ ?_)
 refine C.cond hf (b := p.Below) rfl (fun hc => ?_) (fun hc => ?_)
 ·replace h := h.1 hc
  refine wp_seq (R.list ?_)
  refine S.p hf hs (iv 1) rfl rfl fun a hf => ?_
  refine R.nil (X.then_ (wp_ret (X.then_ret ?_)))
  exact L.ret hf (run_results1 Tryd.results64 (ResIs.tmp hf rfl)) ⟨1, rfl, h, hs.nil⟩
 ·replace h := h.2 hc
  refine wp_skip (X.then_ (wp_seq (R.list ?_)))
  refine S.p hf hs (iv 0) rfl rfl fun a hf => ?_
  refine R.nil (X.then_ (wp_ret ?_))
  exact L.ret hf (run_results1 Tryd.results64 (ResIs.tmp hf rfl)) ⟨0, rfl, h, hs.nil⟩
set_option linter.unusedVariables false
def M_isNaN_int (x_ : Int) (Q : Bool → Prop) : Prop :=
  Q (x_ != x_)
set_option maxHeartbeats 1000000 in
theorem R_isNaN_int (x_ : Int) (w0 : World)  (Q : Bool → Prop) (h : M_isNaN_int x_ Q) :
  Ret Tryd.prog 93 #[iv x_] w0 fun v w' => ∃ (r0 : Bool), v = .bool r0 ∧ Q r0 ∧ Sat w0 none_ [] w' := by
 refine fn_enter Tryd.func93 rfl Tryd.ntmps93 rfl (fs := [(0, iv x_)]) rfl (fun a hf => ?_)
 have hs := Sat.start w0 none_
 unfold M_isNaN_int at h
 refine wp_seq (R.list ?_)
 refine S.p hf hs (.bool false) rfl rfl fun a hf => ?_
 refine R.nil (X.then_ (wp_seq (R.list ?_)))
 refine S.p hf hs (iv x_) rfl rfl fun a hf => ?_
 refine S.p hf hs (iv x_) rfl rfl fun a hf => ?_
 refine S.p hf hs (.bool (x_ != x_)) rfl rfl fun a hf => ?_
 refine S.p hf hs (.bool (x_ != x_)) rfl rfl fun a hf => ?_
 refine R.nil (X.then_ (wp_ret ?_))
 exact L.ret hf (run_results1 Tryd.results93 (ResIs.tmp hf rfl)) ⟨(x_ != x_), rfl, h, hs.nil⟩
set_option linter.unusedVariables false
def M_compare_int (x_ : Int) (y : Int) (Q : Int → Prop) : Prop :=
  M_isNaN_int x_ fun y1 => M_isNaN_int y fun y2 => cnd y1 (cnd y2 (Q 0) (Q (-1))) (cnd y2 (Q 1) (cnd (decide (x_ < y)) (Q (-1)) (cnd (decide (x_ > y)) (Q 1) (Q 0))))
set_option maxHeartbeats 1000000 in
theorem R_compare_int (x_ : Int) (y : Int) (w0 : World)  (Q : Int → Prop) (h : M_compare_int x_ y Q) :
  Ret Tryd.prog 63 #[iv x_, iv y] w0 fun v w' => ∃ (r0 : Int), v = iv r0 ∧ Q r0 ∧ Sat w0 none_ [] w' := by
 refine fn_enter Tryd.func63 rfl Tryd.ntmps63 rfl (fs := [(0, iv x_), (1, iv y)]) rfl (fun a hf => ?_)
 have hs := Sat.start w0 none_
 unfold M_compare_int at h
 refine wp_seq (R.list ?_)
 refine S.p hf hs (iv 0) rfl rfl fun a hf => ?_
 refine R.nil (X.then_ (wp_seq (R.list ?_)))
 refine S.p hf hs (iv x_) rfl rfl fun a hf => ?_
 refine S.call hf rfl rfl rfl (call_fn (vs := [iv x_]) rfl rfl rfl Tryd.call93) (R_isNaN_int x_ _  _ h) (fun v a w' hf hr => ?_)
 obtain ⟨y1, rfl, h2, hs2⟩ := hr
 replace h := h2; replace hs := hs.call hs2; clear h2 hs2
 refine S.p hf hs (.bool y1) rfl rfl fun a hf => ?_
 refine R.nil (X.then_ (wp_seq (R.list ?_)))
 refine S.p hf hs (iv y) rfl rfl fun a hf => ?_
 refine S.call hf rfl rfl rfl (call_fn (vs := [iv y]) rfl rfl rfl Tryd.call93) (R_isNaN_int y _  _ h) (fun v a w' hf hr => ?_)
 obtain ⟨y2, rfl, h2, hs2⟩ := hr
 replace h := h2; replace hs := hs.call hs2; clear h2 hs2
 refine S.p hf hs (.bool y2) rfl rfl fun a hf => ?_
 refine R.nil (X.then_ (wp_seq (wp_seq (R.list ?_))))
 refine S.p hf hs (.bool y1) rfl rfl fun a hf => ?_
 refine R.nil (X.then_ ?_)
 refine C.cond hf (b := y1) rfl (fun hc => ?_) (fun hc => ?_)
 ·replace h := h.1 hc
  refine wp_seq (wp_seq (R.list ?_))
  refine S.p hf hs (.bool y2) rfl rfl fun a hf => ?_
  refine R.nil (X.then_ ?_)
  refine C.cond hf (b := y2) rfl (fun hc => ?_) (fun hc => ?_)
  ·replace h := h.1 hc
   refine wp_seq (R.list ?_)
   refine S.p hf hs (iv 0) rfl rfl fun a hf => ?_
   refine R.nil (X.then_ (wp_ret (X.then_ret (X.then_ret ?_))))
   exact L.ret hf (run_results1 Tryd.results63 (ResIs.tmp hf rfl)) ⟨0, rfl, h, hs.nil⟩
  ·replace h := h.2 hc
   refine wp_skip (X.then_ (wp_seq (R.list ?_)))
   refine S.p hf hs (iv (-1)) rfl rfl fun a hf => ?_
   refine R.nil (X.then_ (wp_ret (X.then_ret ?_)))
   exact L.ret hf (run_results1 Tryd.results63 (ResIs.tmp hf rfl)) ⟨(-1), rfl, h, hs.nil⟩
 ·replace h := h.2 hc
  refine wp_skip (X.then_ (wp_seq (wp_seq (R.list ?_))))
  refine S.p hf hs (.bool y2) rfl rfl fun a hf => ?_
  refine R.nil (X.then_ ?_)
  refine C.cond hf (b := y2) rfl (fun hc => ?_) (fun hc => ?_)
  ·replace h := h.1 hc
   refine wp_seq (R.list ?_)
   refine S.p hf hs (iv 1) rfl rfl fun a hf => ?_
   refine R.nil (X.then_ (wp_ret (X.then_ret ?_)))
   exact L.ret hf (run_results1 Tryd.results63 (ResIs.tmp hf rfl)) ⟨1, rfl, h, hs.nil⟩
  ·replace h := h.2 hc
   refine wp_skip (X.then_ (wp_seq (wp_seq (R.list ?_))))
   refine S.p hf hs (iv x_) rfl rfl fun a hf => ?_
   refine S.p hf hs (iv y) rfl rfl fun a hf => ?_
   refine S.p hf hs (.bool (decide (x_ < y))) rfl rfl fun a hf => ?_
   refine R.nil (X.then_ ?_)
   refine C.cond hf (b := decide (x_ < y)) rfl (fun hc => ?_) (fun hc => ?_)
   ·replace h := h.1 hc
    refine wp_seq (R.list ?_)
    refine S.p hf hs (iv (-1)) rfl rfl fun a hf => ?_
    refine R.nil (X.then_ (wp_ret (X.then_ret ?_)))
    exact L.ret hf (run_results1 Tryd.results63 (ResIs.tmp hf rfl)) ⟨(-1), rfl, h, hs.nil⟩
   ·replace h := h.2 hc
    refine wp_skip (X.then_ (wp_seq (wp_seq (R.list ?_))))
    refine S.p hf hs (iv x_) rfl rfl fun a hf => ?_
    refine S.p hf hs (iv y) rfl rfl fun a hf => ?_
    refine S.p hf hs (.bool (decide (x_ > y))) rfl rfl fun a hf => ?_
    refine R.nil (X.then_ ?_)
    refine C.cond hf (b := decide (x_ > y)) rfl (fun hc => ?_) (fun hc => ?_)
    ·replace h := h.1 hc
     refine wp_seq (R.list ?_)
     refine S.p hf hs (iv 1) rfl rfl fun a hf => ?_
     refine R.nil (X.then_ (wp_ret (X.then_ret ?_)))
     exact L.ret hf (run_results1 Tryd.results63 (ResIs.tmp hf rfl)) ⟨1, rfl, h, hs.nil⟩
    ·replace h := h.2 hc
     refine wp_skip (X.then_ (wp_seq (R.list ?_)))
     refine S.p hf hs (iv 0) rfl rfl fun a hf => ?_
     refine R.nil (X.then_ (wp_ret ?_))
     exact L.ret hf (run_results1 Tryd.results63 (ResIs.tmp hf rfl)) ⟨0, rfl, h, hs.nil⟩
set_option linter.unusedVariables false
def M_or_int_L1 (Q : Int → Prop) (k1 : Nat) (xk1 : Int)  (next1 : Prop) : Prop :=
  cnd (xk1 != 0) (Q xk1) (next1)
def M_or_int (vals : (List Int)) (Q : Int → Prop) : Prop :=
  forIn' (fun k x (s : Unit) next => M_or_int_L1 Q k x (next ())) (fun (s : Unit) => Q 0) vals 0 ()
set_option maxHeartbeats 1000000 in
theorem R_or_int (vals : (List Int)) (w0 : World) (valsA : Option Addr) (valsC : Nat) (hv_vals : View w0 (old w0 none_) valsA valsC vals) (Q : Int → Prop) (h : M_or_int vals Q) :
  Ret Tryd.prog 62 #[.slice valsA vals.length valsC] w0 fun v w' => ∃ (r0 : Int), v = iv r0 ∧ Q r0 ∧ Sat w0 none_ [] w' := by
 refine fn_enter Tryd.func62 rfl Tryd.ntmps62 rfl (fs := [(0, .slice valsA vals.length valsC)]) rfl (fun a hf => ?_)
 have hs := Sat.start w0 none_
 unfold M_or_int at h
 refine wp_seq (R.list ?_)
 refine S.p hf hs (iv 0) rfl rfl fun a hf => ?_
 refine R.nil (X.then_ (wp_seq (R.list ?_)))
 refine S.p hf hs (iv 0) rfl rfl fun a hf => ?_
 refine R.nil (X.then_ (wp_seq (wp_seq (R.list ?_))))
 refine S.p hf hs (.slice valsA vals.length valsC) rfl rfl fun a hf => ?_
 refine S.v hf hs (iv (vals.length : Int)) rfl (V.len rfl rfl Tryd.runUnderlying48) fun a hf => ?_
 refine S.p hf hs (iv 0) rfl rfl fun a hf => ?_
 refine R.nil (X.then_ (wp_block ?_))
 have hlenk1 := hv_vals.len64
 refine C.range (fun (ll : List Int) a w => ∃ (k1 : Nat) , vals.drop k1 = ll ∧ k1 + ll.length = vals.length ∧ forIn' (fun k x (s : Unit) next => M_or_int_L1 Q k x (next ())) (fun (s : Unit) => Q 0) ll k1 () ∧ FrOk 18 [(8, iv (k1 : Int)), (3, iv 0), (6, .slice valsA vals.length valsC), (7, iv (vals.length : Int))] a ∧ Sat w0 none_ [] w) vals ⟨0, rfl, Nat.zero_add _, h, ((((hf.nil.cons (hf.get 7 _ rfl)).cons (hf.get 6 _ rfl)).cons (hf.get 3 _ rfl)).cons (hf.get 8 _ rfl)), hs⟩ ?_
 clear h hf hs
 rintro llk1 a w ⟨k1, hlk1, hkk1, h, hf, hs⟩
 cases llk1 with
 | nil =>
  have hc := range_done hkk1
  replace h : Q 0 := h
  refine wp_seq (R.list ?_)
  refine S.v hf hs (.bool false) rfl (V.cmp false rfl rfl rfl rfl hc) fun a hf => ?_
  refine R.nil (X.then_ (wp_seq ?_))
  refine C.no hf rfl ?_
  refine wp_exit (X.then_exit (X.then_exit (X.blk_exit (X.then_ (wp_seq (R.list ?_))))))
  refine S.p hf hs (iv 0) rfl rfl fun a hf => ?_
  refine S.p hf hs (iv 0) rfl rfl fun a hf => ?_
  refine R.nil (X.then_ (wp_ret ?_))
  exact L.ret hf (run_results1 Tryd.results62 (ResIs.tmp hf rfl)) ⟨0, rfl, h, hs.nil⟩
 | cons xk1 llk1 =>
  have hltk1 := range_lt hkk1; have hc := range_go hkk1; have hxk1 := range_get hlk1
  obtain ⟨next1, hnext1⟩ : ∃ X : Prop, X = (forIn' (fun k x (s : Unit) next => M_or_int_L1 Q k x (next ())) (fun (s : Unit) => Q 0) llk1 (k1 + 1) ()) := ⟨_, rfl⟩
  replace h : M_or_int_L1 Q k1 xk1  next1 := by rw [hnext1]; exact h
  unfold M_or_int_L1 at h
  refine wp_seq (R.list ?_)
  refine S.v hf hs (.bool true) rfl (V.cmp true rfl rfl rfl rfl hc) fun a hf => ?_
  refine R.nil (X.then_ (wp_seq ?_))
  refine C.yes hf rfl ?_
  refine wp_skip (X.then_ (wp_seq (wp_block (wp_seq (R.list ?_)))))
  refine S.v hf hs (elemPtr valsA (k1 * 1)) rfl (V.index rfl rfl rfl Tryd.runUnderlying48 Tryd.sizeOf3 (hv_vals.some_ (lt_of_get hxk1)) (Int.natCast_nonneg _) (lt_of_get hxk1) rfl) fun a hf => ?_
  refine S.v hf hs (iv xk1) rfl (V.loadEl (off := 0) (Ag.args _ _ _) (hv_vals.flat hxk1) rfl rfl rfl Tryd.isAgg3 Tryd.sizeOf3 rfl rfl) fun a hf => ?_
  refine S.p hf hs (iv xk1) rfl rfl fun a hf => ?_
  refine R.nil (X.then_ (wp_seq (R.list ?_)))
  refine S.p hf hs (iv xk1) rfl rfl fun a hf => ?_
  refine S.p hf hs (iv 0) rfl rfl fun a hf => ?_
  refine S.p hf hs (.bool (xk1 != 0)) rfl rfl fun a hf => ?_
  refine R.nil (X.then_ ?_)
  refine C.cond hf (b := xk1 != 0) rfl (fun hc => ?_) (fun hc => ?_)
  ·replace h := h.1 hc
   refine wp_seq (R.list ?_)
   refine S.p hf hs (iv xk1) rfl rfl fun a hf => ?_
   refine S.p hf hs (iv xk1) rfl rfl fun a hf => ?_
   refine R.nil (X.then_ (wp_ret (X.blk_ret (X.then_ret (X.then_ret (X.blk_ret (X.then_ret ?_)))))))
   exact L.ret hf (run_results1 Tryd.results62 (ResIs.tmp hf rfl)) ⟨xk1, rfl, h, hs.nil⟩
  ·replace h := h.2 hc
   refine wp_skip (X.blk (X.then_ (R.list ?_)))
   refine S.v hf hs (iv ((k1 + 1 : Nat) : Int)) rfl (V.incr rfl rfl rfl hltk1 hlenk1) fun a hf => ?_
   refine S.p hf hs (iv ((k1 + 1 : Nat) : Int)) rfl rfl fun a hf => ?_
   refine R.nil (X.then_ ?_)
   exact ⟨xk1, llk1, rfl, k1 + 1, range_drop hlk1, range_len hkk1, (by rw [hnext1] at h; exact h), ((((hf.nil.cons (hf.get 7 _ rfl)).cons (hf.get 6 _ rfl)).cons (hf.get 3 _ rfl)).cons (hf.get 8 _ rfl)), hs⟩
set_option linter.unusedVariables false
def M_Ordered1 (i : Int) (k_ : Int) (b : (List Body)) (l : (List Place)) (Q : Int → Prop) : Prop :=
  idx l i fun x1 => M_mount_bodyOf b x1.Typ fun y1 y2 => idx l k_ fun x2 => M_mount_bodyOf b x2.Typ fun y3 y4 => M_mount_side x1 fun y5 => M_mount_side x2 fun y6 => M_compare_int y5 y6 fun y7 => M_compare_int y1.Tall y3.Tall fun y8 => M_or_int ([y7, y8, (cmpStr y1.Nozzle y3.Nozzle), (cmpStr x1.Part x2.Part)] : List Int) fun y9 => Q y9
set_option maxHeartbeats 1000000 in
theorem R_Ordered1 (i : Int) (k_ : Int) (b : (List Body)) (l : (List Place)) (w0 : World) (bA : Option Addr) (bC : Nat) (hv_b : View w0 (old w0 none_) bA bC b) (bg : Nat) (hb_b : ElemAt w0 (old w0 none_) (some ⟨bg, 0, none⟩) 0 [.slice bA b.length bC]) (lA : Option Addr) (lC : Nat) (hv_l : View w0 (old w0 none_) lA lC l) (lg : Nat) (hb_l : ElemAt w0 (old w0 none_) (some ⟨lg, 0, none⟩) 0 [.slice lA l.length lC]) (Q : Int → Prop) (h : M_Ordered1 i k_ b l Q) :
  Ret Tryd.prog 60 #[iv i, iv k_, (pn bg 0), (pn lg 0)] w0 fun v w' => ∃ (r0 : Int), v = iv r0 ∧ Q r0 ∧ Sat w0 none_ [] w' := by
 refine fn_enter Tryd.func60 rfl Tryd.ntmps60 rfl (fs := [(0, iv i), (1, iv k_), (2, (pn bg 0)), (3, (pn lg 0))]) rfl (fun a hf => ?_)
 have hs := Sat.start w0 none_
 unfold M_Ordered1 at h
 refine wp_seq (R.list ?_)
 refine S.p hf hs (iv 0) rfl rfl fun a hf => ?_
 refine R.nil (X.then_ (wp_seq ?_))
 refine H.start (S := Sat w0 none_ []) mo ?_
 replace hs := hs.drew
 refine H.v hf hs (.slice bA b.length bC) 0 rfl rfl (by kernel_rfl) (V.loadAt0 (off := 0) (Ag.args _ _ _) hb_b rfl rfl Tryd.isAgg22 Tryd.sizeOf22 rfl rfl) fun a hf => ?_
 refine H.v hf hs (.slice lA l.length lC) 1 rfl rfl (by kernel_rfl) (V.loadAt0 (off := 0) (Ag.args _ _ _) hb_l rfl rfl Tryd.isAgg23 Tryd.sizeOf23 rfl rfl) fun a hf => ?_
 refine H.v hf hs (iv i) 2 rfl rfl (by kernel_rfl) (V.pure rfl) fun a hf => ?_
 obtain ⟨h0x1, x1, hx1, h⟩ := h
 refine H.v hf hs (elemPtr lA (i.toNat * 6)) 3 rfl rfl (by kernel_rfl) (V.index rfl rfl rfl Tryd.runUnderlying23 Tryd.sizeOf28 (hv_l.some_ (lt_of_get hx1)) h0x1 (lt_of_get hx1) rfl) fun a hf => ?_
 refine H.v hf hs (elemPtr lA (i.toNat * 6 + 1)) 4 rfl rfl (by kernel_rfl) (V.fieldEl rfl rfl (hv_l.some_ (lt_of_get hx1)) Tryd.runUnderlying28 rfl Tryd.sizeOf9 rfl rfl) fun a hf => ?_
 refine H.v hf hs (.string (ba x1.Typ)) 5 rfl rfl (by kernel_rfl) (V.loadEl (off := 1) (Ag.args _ _ _) (hv_l.flat hx1) rfl rfl rfl Tryd.isAgg9 Tryd.sizeOf9 rfl rfl) fun a hf => ?_
 refine H.each2 (i0 := 6) (i1 := 10) rfl rfl (by kernel_rfl) ?_ ?_
 ·refine S.call hf rfl rfl rfl (call_fn (vs := [.slice bA b.length bC, .string (ba x1.Typ)]) rfl rfl rfl Tryd.call61) (R_mount_bodyOf b x1.Typ _ bA bC ((Ag.args _ _ _).view hv_b hs) _ h) (fun v a w' hf hr => ?_)
  obtain ⟨y1, y2, rfl, h2, hs2⟩ := hr
  replace h := h2; replace hs := hs.call hs2; clear h2 hs2
  refine R.nil (X.then_ ?_)
  refine ⟨hs, ?_⟩
  refine H.v hf hs (.tuple #[.agg #[.string (ba y1.Typ), iv y1.W, iv y1.H, iv y1.Tall, .string (ba y1.Nozzle)], .bool y2]) 7 rfl rfl (by kernel_rfl) (V.pure rfl) fun a hf => ?_
  refine H.v hf hs (.agg #[.string (ba y1.Typ), iv y1.W, iv y1.H, iv y1.Tall, .string (ba y1.Nozzle)]) 8 rfl rfl (by kernel_rfl) (V.pure rfl) fun a hf => ?_
  refine H.v hf hs (.bool y2) 9 rfl rfl (by kernel_rfl) (V.pure rfl) fun a hf => ?_
  refine H.one (i := 10) rfl (by kernel_rfl) ?_
  refine S.alloc hf hs rfl rfl rfl [.string (ba []), iv 0, iv 0, iv 0, .string (ba [])] rfl Tryd.zeroValue95 rfl (fun g1 a w hf hs => ?_)
  refine R.nil (X.then_ ?_)
  refine ⟨hs.nil, ?_⟩
  refine H.one (i := 11) rfl (by kernel_rfl) ?_
  refine S.storeBox 0 hf hs rfl rfl [.string (ba y1.Typ), iv y1.W, iv y1.H, iv y1.Tall, .string (ba y1.Nozzle)] [.string (ba y1.Typ), iv y1.W, iv y1.H, iv y1.Tall, .string (ba y1.Nozzle)] rfl rfl rfl rfl rfl Tryd.sizeOf95 rfl rfl rfl rfl (fun a w hf hs => ?_)
  refine R.nil (X.then_ ?_)
  refine ⟨hs.nil, ?_⟩
  refine H.val hf hs.nil (v := .bool y2) (i := 12) rfl rfl rfl rfl (by kernel_rfl) (by kernel_rfl) (by kernel_rfl) (V.pure rfl) (fun a hf => ?_)
  refine H.done (by kernel_rfl) ?_
  refine X.then_ (wp_seq ?_)
  refine H.start (S := Sat w0 none_ [hbox g1 95 [.string (ba y1.Typ), iv y1.W, iv y1.H, iv y1.Tall, .string (ba y1.Nozzle)]]) mo ?_
  replace hs := hs.drew
  refine H.v hf hs (.slice bA b.length bC) 0 rfl rfl (by kernel_rfl) (V.loadAt0 (off := 0) (Ag.args _ _ _) hb_b rfl rfl Tryd.isAgg22 Tryd.sizeOf22 rfl rfl) fun a hf => ?_
  refine H.v hf hs (.slice lA l.length lC) 1 rfl rfl (by kernel_rfl) (V.loadAt0 (off := 0) (Ag.args _ _ _) hb_l rfl rfl Tryd.isAgg23 Tryd.sizeOf23 rfl rfl) fun a hf => ?_
  refine H.v hf hs (iv k_) 2 rfl rfl (by kernel_rfl) (V.pure rfl) fun a hf => ?_
  obtain ⟨h0x2, x2, hx2, h⟩ := h
  refine H.v hf hs (elemPtr lA (k_.toNat * 6)) 3 rfl rfl (by kernel_rfl) (V.index rfl rfl rfl Tryd.runUnderlying23 Tryd.sizeOf28 (hv_l.some_ (lt_of_get hx2)) h0x2 (lt_of_get hx2) rfl) fun a hf => ?_
  refine H.v hf hs (elemPtr lA (k_.toNat * 6 + 1)) 4 rfl rfl (by kernel_rfl) (V.fieldEl rfl rfl (hv_l.some_ (lt_of_get hx2)) Tryd.runUnderlying28 rfl Tryd.sizeOf9 rfl rfl) fun a hf => ?_
  refine H.v hf hs (.string (ba x2.Typ)) 5 rfl rfl (by kernel_rfl) (V.loadEl (off := 1) (Ag.args _ _ _) (hv_l.flat hx2) rfl rfl rfl Tryd.isAgg9 Tryd.sizeOf9 rfl rfl) fun a hf => ?_
  refine H.each2 (i0 := 6) (i1 := 10) rfl rfl (by kernel_rfl) ?_ ?_
  ·refine S.call hf rfl rfl rfl (call_fn (vs := [.slice bA b.length bC, .string (ba x2.Typ)]) rfl rfl rfl Tryd.call61) (R_mount_bodyOf b x2.Typ _ bA bC ((Ag.args _ _ _).view hv_b hs) _ h) (fun v a w' hf hr => ?_)
   obtain ⟨y3, y4, rfl, h2, hs2⟩ := hr
   replace h := h2; replace hs := hs.call hs2; clear h2 hs2
   refine R.nil (X.then_ ?_)
   refine ⟨hs, ?_⟩
   refine H.v hf hs (.tuple #[.agg #[.string (ba y3.Typ), iv y3.W, iv y3.H, iv y3.Tall, .string (ba y3.Nozzle)], .bool y4]) 7 rfl rfl (by kernel_rfl) (V.pure rfl) fun a hf => ?_
   refine H.v hf hs (.agg #[.string (ba y3.Typ), iv y3.W, iv y3.H, iv y3.Tall, .string (ba y3.Nozzle)]) 8 rfl rfl (by kernel_rfl) (V.pure rfl) fun a hf => ?_
   refine H.v hf hs (.bool y4) 9 rfl rfl (by kernel_rfl) (V.pure rfl) fun a hf => ?_
   refine H.one (i := 10) rfl (by kernel_rfl) ?_
   refine S.alloc hf hs rfl rfl rfl [.string (ba []), iv 0, iv 0, iv 0, .string (ba [])] rfl Tryd.zeroValue95 rfl (fun g2 a w hf hs => ?_)
   refine R.nil (X.then_ ?_)
   refine ⟨(hs.mask [false, true]), ?_⟩
   refine H.one (i := 11) rfl (by kernel_rfl) ?_
   refine S.storeBox 0 hf hs rfl rfl [.string (ba y3.Typ), iv y3.W, iv y3.H, iv y3.Tall, .string (ba y3.Nozzle)] [.string (ba y3.Typ), iv y3.W, iv y3.H, iv y3.Tall, .string (ba y3.Nozzle)] rfl rfl rfl rfl rfl Tryd.sizeOf95 rfl rfl rfl rfl (fun a w hf hs => ?_)
   refine R.nil (X.then_ ?_)
   refine ⟨(hs.mask [false, true]), ?_⟩
   refine H.val hf (hs.mask [false, true]) (v := .bool y4) (i := 12) rfl rfl rfl rfl (by kernel_rfl) (by kernel_rfl) (by kernel_rfl) (V.pure rfl) (fun a hf => ?_)
   refine H.done (by kernel_rfl) ?_
   refine X.then_ (wp_seq ?_)
   refine H.start (S := Sat w0 none_ [hbox g2 95 [.string (ba y3.Typ), iv y3.W, iv y3.H, iv y3.Tall, .string (ba y3.Nozzle)], hbox g1 95 [.string (ba y1.Typ), iv y1.W, iv y1.H, iv y1.Tall, .string (ba y1.Nozzle)]]) mo ?_
   replace hs := hs.drew
   refine H.v hf hs (.slice lA l.length lC) 0 rfl rfl (by kernel_rfl) (V.loadAt0 (off := 0) (Ag.args _ _ _) hb_l rfl rfl Tryd.isAgg23 Tryd.sizeOf23 rfl rfl) fun a hf => ?_
   refine H.v hf hs (iv i) 1 rfl rfl (by kernel_rfl) (V.pure rfl) fun a hf => ?_
   refine H.v hf hs (elemPtr lA (i.toNat * 6)) 2 rfl rfl (by kernel_rfl) (V.index rfl rfl rfl Tryd.runUnderlying23 Tryd.sizeOf28 (hv_l.some_ (lt_of_get hx1)) h0x1 (lt_of_get hx1) rfl) fun a hf => ?_
   refine H.v hf hs (.agg #[.string (ba x1.Part), .string (ba x1.Typ), iv x1.At.X, iv x1.At.Y, iv x1.Quarters, .bool x1.Below]) 3 rfl rfl (by kernel_rfl) (V.loadEl (off := 0) (Ag.args _ _ _) (hv_l.flat hx1) rfl rfl rfl Tryd.isAgg28 Tryd.sizeOf28 rfl rfl) fun a hf => ?_
   refine H.v hf hs (.slice lA l.length lC) 5 rfl rfl (by kernel_rfl) (V.loadAt0 (off := 0) (Ag.args _ _ _) hb_l rfl rfl Tryd.isAgg23 Tryd.sizeOf23 rfl rfl) fun a hf => ?_
   refine H.v hf hs (iv k_) 6 rfl rfl (by kernel_rfl) (V.pure rfl) fun a hf => ?_
   refine H.v hf hs (elemPtr lA (k_.toNat * 6)) 7 rfl rfl (by kernel_rfl) (V.index rfl rfl rfl Tryd.runUnderlying23 Tryd.sizeOf28 (hv_l.some_ (lt_of_get hx2)) h0x2 (lt_of_get hx2) rfl) fun a hf => ?_
   refine H.v hf hs (.agg #[.string (ba x2.Part), .string (ba x2.Typ), iv x2.At.X, iv x2.At.Y, iv x2.Quarters, .bool x2.Below]) 8 rfl rfl (by kernel_rfl) (V.loadEl (off := 0) (Ag.args _ _ _) (hv_l.flat hx2) rfl rfl rfl Tryd.isAgg28 Tryd.sizeOf28 rfl rfl) fun a hf => ?_
   refine H.v hf hs ((pn g1 3)) 11 rfl rfl (by kernel_rfl) (V.fieldBox rfl rfl Tryd.runUnderlying95 rfl Tryd.sizeOf3 rfl rfl) fun a hf => ?_
   refine H.v hf hs (iv y1.Tall) 12 rfl rfl (by kernel_rfl) (V.loadBox 1 rfl rfl rfl Tryd.isAgg3 Tryd.sizeOf3 rfl rfl) fun a hf => ?_
   refine H.v hf hs ((pn g2 3)) 13 rfl rfl (by kernel_rfl) (V.fieldBox rfl rfl Tryd.runUnderlying95 rfl Tryd.sizeOf3 rfl rfl) fun a hf => ?_
   refine H.v hf hs (iv y3.Tall) 14 rfl rfl (by kernel_rfl) (V.loadBox 0 rfl rfl rfl Tryd.isAgg3 Tryd.sizeOf3 rfl rfl) fun a hf => ?_
   refine H.v hf hs ((pn g1 4)) 16 rfl rfl (by kernel_rfl) (V.fieldBox rfl rfl Tryd.runUnderlying95 rfl Tryd.sizeOf9 rfl rfl) fun a hf => ?_
   refine H.v hf hs (.string (ba y1.Nozzle)) 17 rfl rfl (by kernel_rfl) (V.loadBox 1 rfl rfl rfl Tryd.isAgg9 Tryd.sizeOf9 rfl rfl) fun a hf => ?_
   refine H.v hf hs ((pn g2 4)) 18 rfl rfl (by kernel_rfl) (V.fieldBox rfl rfl Tryd.runUnderlying95 rfl Tryd.sizeOf9 rfl rfl) fun a hf => ?_
   refine H.v hf hs (.string (ba y3.Nozzle)) 19 rfl rfl (by kernel_rfl) (V.loadBox 0 rfl rfl rfl Tryd.isAgg9 Tryd.sizeOf9 rfl rfl) fun a hf => ?_
   refine H.v hf hs (.slice lA l.length lC) 21 rfl rfl (by kernel_rfl) (V.loadAt0 (off := 0) (Ag.args _ _ _) hb_l rfl rfl Tryd.isAgg23 Tryd.sizeOf23 rfl rfl) fun a hf => ?_
   refine H.v hf hs (iv i) 22 rfl rfl (by kernel_rfl) (V.pure rfl) fun a hf => ?_
   refine H.v hf hs (elemPtr lA (i.toNat * 6)) 23 rfl rfl (by kernel_rfl) (V.index rfl rfl rfl Tryd.runUnderlying23 Tryd.sizeOf28 (hv_l.some_ (lt_of_get hx1)) h0x1 (lt_of_get hx1) rfl) fun a hf => ?_
   refine H.v hf hs (elemPtr lA (i.toNat * 6)) 24 rfl rfl (by kernel_rfl) (V.fieldEl rfl rfl (hv_l.some_ (lt_of_get hx1)) Tryd.runUnderlying28 rfl Tryd.sizeOf9 rfl rfl) fun a hf => ?_
   refine H.v hf hs (.string (ba x1.Part)) 25 rfl rfl (by kernel_rfl) (V.loadEl (off := 0) (Ag.args _ _ _) (hv_l.flat hx1) rfl rfl rfl Tryd.isAgg9 Tryd.sizeOf9 rfl rfl) fun a hf => ?_
   refine H.v hf hs (.slice lA l.length lC) 26 rfl rfl (by kernel_rfl) (V.loadAt0 (off := 0) (Ag.args _ _ _) hb_l rfl rfl Tryd.isAgg23 Tryd.sizeOf23 rfl rfl) fun a hf => ?_
   refine H.v hf hs (iv k_) 27 rfl rfl (by kernel_rfl) (V.pure rfl) fun a hf => ?_
   refine H.v hf hs (elemPtr lA (k_.toNat * 6)) 28 rfl rfl (by kernel_rfl) (V.index rfl rfl rfl Tryd.runUnderlying23 Tryd.sizeOf28 (hv_l.some_ (lt_of_get hx2)) h0x2 (lt_of_get hx2) rfl) fun a hf => ?_
   refine H.v hf hs (elemPtr lA (k_.toNat * 6)) 29 rfl rfl (by kernel_rfl) (V.fieldEl rfl rfl (hv_l.some_ (lt_of_get hx2)) Tryd.runUnderlying28 rfl Tryd.sizeOf9 rfl rfl) fun a hf => ?_
   refine H.v hf hs (.string (ba x2.Part)) 30 rfl rfl (by kernel_rfl) (V.loadEl (off := 0) (Ag.args _ _ _) (hv_l.flat hx2) rfl rfl rfl Tryd.isAgg9 Tryd.sizeOf9 rfl rfl) fun a hf => ?_
   refine H.one (i := 4) rfl (by kernel_rfl) ?_
   refine S.call hf rfl rfl rfl (call_fn (vs := [.agg #[.string (ba x1.Part), .string (ba x1.Typ), iv x1.At.X, iv x1.At.Y, iv x1.Quarters, .bool x1.Below]]) rfl rfl rfl Tryd.call64) (R_mount_side x1 _  _ h) (fun v a w' hf hr => ?_)
   obtain ⟨y5, rfl, h2, hs2⟩ := hr
   replace h := h2; replace hs := hs.call hs2; clear h2 hs2
   refine R.nil (X.then_ ?_)
   refine ⟨hs, ?_⟩
   refine H.one (i := 9) rfl (by kernel_rfl) ?_
   refine S.call hf rfl rfl rfl (call_fn (vs := [.agg #[.string (ba x2.Part), .string (ba x2.Typ), iv x2.At.X, iv x2.At.Y, iv x2.Quarters, .bool x2.Below]]) rfl rfl rfl Tryd.call64) (R_mount_side x2 _  _ h) (fun v a w' hf hr => ?_)
   obtain ⟨y6, rfl, h2, hs2⟩ := hr
   replace h := h2; replace hs := hs.call hs2; clear h2 hs2
   refine R.nil (X.then_ ?_)
   refine ⟨hs, ?_⟩
   refine H.one (i := 10) rfl (by kernel_rfl) ?_
   refine S.call hf rfl rfl rfl (call_fn (vs := [iv y5, iv y6]) rfl rfl rfl Tryd.call63) (R_compare_int y5 y6 _  _ h) (fun v a w' hf hr => ?_)
   obtain ⟨y7, rfl, h2, hs2⟩ := hr
   replace h := h2; replace hs := hs.call hs2; clear h2 hs2
   refine R.nil (X.then_ ?_)
   refine ⟨hs, ?_⟩
   refine H.one (i := 15) rfl (by kernel_rfl) ?_
   refine S.call hf rfl rfl rfl (call_fn (vs := [iv y1.Tall, iv y3.Tall]) rfl rfl rfl Tryd.call63) (R_compare_int y1.Tall y3.Tall _  _ h) (fun v a w' hf hr => ?_)
   obtain ⟨y8, rfl, h2, hs2⟩ := hr
   replace h := h2; replace hs := hs.call hs2; clear h2 hs2
   refine R.nil (X.then_ ?_)
   refine ⟨hs, ?_⟩
   refine H.one (i := 20) rfl (by kernel_rfl) ?_
   refine S.callv hf rfl rfl rfl (call_fn (vs := [.string (ba y1.Nozzle), .string (ba y3.Nozzle)]) rfl rfl rfl Tryd.call65) (C_strings_Compare y1.Nozzle y3.Nozzle _ ) (fun a w hf hs' => ?_)
   replace hs := hs.call hs'; clear hs'
   refine R.nil (X.then_ ?_)
   refine ⟨hs, ?_⟩
   refine H.one (i := 31) rfl (by kernel_rfl) ?_
   refine S.callv hf rfl rfl rfl (call_fn (vs := [.string (ba x1.Part), .string (ba x2.Part)]) rfl rfl rfl Tryd.call65) (C_strings_Compare x1.Part x2.Part _ ) (fun a w hf hs' => ?_)
   replace hs := hs.call hs'; clear hs'
   refine R.nil (X.then_ ?_)
   refine ⟨hs, ?_⟩
   refine H.one (i := 32) rfl (by kernel_rfl) ?_
   refine S.buildSlice hf hs rfl rfl rfl (α := Int) [y7, y8, (cmpStr y1.Nozzle y3.Nozzle), (cmpStr x1.Part x2.Part)] rfl rfl Tryd.runUnderlying48 Tryd.sizeOf3 Tryd.zeroValue3 (by kernel_rfl) rfl (by decide) (by decide) (fun A1 a w hf hs => ?_)
   refine R.nil (X.then_ ?_)
   refine ⟨(hs.mask [false, true, true]), ?_⟩
   refine H.one (i := 33) rfl (by kernel_rfl) ?_
   refine S.call hf rfl rfl rfl (call_fn (vs := [.slice A1 ([y7, y8, (cmpStr y1.Nozzle y3.Nozzle), (cmpStr x1.Part x2.Part)] : List Int).length 4]) rfl rfl rfl Tryd.call62) (R_or_int ([y7, y8, (cmpStr y1.Nozzle y3.Nozzle), (cmpStr x1.Part x2.Part)] : List Int) _ A1 4 (hs.ownView 0 rfl) _ h) (fun v a w' hf hr => ?_)
   obtain ⟨y9, rfl, h2, hs2⟩ := hr
   replace h := h2; replace hs := hs.call hs2; clear h2 hs2
   refine R.nil (X.then_ ?_)
   refine ⟨(hs.mask [false, true, true]), ?_⟩
   refine H.val hf (hs.mask [false, true, true]) (v := iv y9) (i := 34) rfl rfl rfl rfl (by kernel_rfl) (by kernel_rfl) (by kernel_rfl) (V.pure rfl) (fun a hf => ?_)
   refine H.done (by kernel_rfl) ?_
   refine X.then_ (wp_ret ?_)
   exact L.ret hf (run_results1 Tryd.results60 (ResIs.tmp hf rfl)) ⟨y9, rfl, h, hs.nil⟩
  ·refine S.alloc hf hs rfl rfl rfl [.string (ba []), iv 0, iv 0, iv 0, .string (ba [])] rfl Tryd.zeroValue95 rfl (fun g2 a w hf hs => ?_)
   refine R.nil (X.then_ ?_)
   refine ⟨(hs.mask [false, true]), ?_⟩
   refine H.one (i := 6) rfl (by kernel_rfl) ?_
   refine S.call hf rfl rfl rfl (call_fn (vs := [.slice bA b.length bC, .string (ba x2.Typ)]) rfl rfl rfl Tryd.call61) (R_mount_bodyOf b x2.Typ _ bA bC ((Ag.args _ _ _).view hv_b hs) _ h) (fun v a w' hf hr => ?_)
   obtain ⟨y3, y4, rfl, h2, hs2⟩ := hr
   replace h := h2; replace hs := hs.call hs2; clear h2 hs2
   refine R.nil (X.then_ ?_)
   refine ⟨(hs.mask [false, true]), ?_⟩
   refine H.val hf (hs.mask [false, true]) (v := .tuple #[.agg #[.string (ba y3.Typ), iv y3.W, iv y3.H, iv y3.Tall, .string (ba y3.Nozzle)], .bool y4]) (i := 7) rfl rfl rfl rfl (by kernel_rfl) (by kernel_rfl) (by kernel_rfl) (V.pure rfl) (fun a hf => ?_)
   refine H.val hf (hs.mask [false, true]) (v := .agg #[.string (ba y3.Typ), iv y3.W, iv y3.H, iv y3.Tall, .string (ba y3.Nozzle)]) (i := 8) rfl rfl rfl rfl (by kernel_rfl) (by kernel_rfl) (by kernel_rfl) (V.pure rfl) (fun a hf => ?_)
   refine H.val hf (hs.mask [false, true]) (v := .bool y4) (i := 9) rfl rfl rfl rfl (by kernel_rfl) (by kernel_rfl) (by kernel_rfl) (V.pure rfl) (fun a hf => ?_)
   refine H.one (i := 11) rfl (by kernel_rfl) ?_
   refine S.storeBox 0 hf hs rfl rfl [.string (ba y3.Typ), iv y3.W, iv y3.H, iv y3.Tall, .string (ba y3.Nozzle)] [.string (ba y3.Typ), iv y3.W, iv y3.H, iv y3.Tall, .string (ba y3.Nozzle)] rfl rfl rfl rfl rfl Tryd.sizeOf95 rfl rfl rfl rfl (fun a w hf hs => ?_)
   refine R.nil (X.then_ ?_)
   refine ⟨(hs.mask [false, true]), ?_⟩
   refine H.val hf (hs.mask [false, true]) (v := .bool y4) (i := 12) rfl rfl rfl rfl (by kernel_rfl) (by kernel_rfl) (by kernel_rfl) (V.pure rfl) (fun a hf => ?_)
   refine H.done (by kernel_rfl) ?_
   refine X.then_ (wp_seq ?_)
   refine H.start (S := Sat w0 none_ [hbox g2 95 [.string (ba y3.Typ), iv y3.W, iv y3.H, iv y3.Tall, .string (ba y3.Nozzle)], hbox g1 95 [.string (ba y1.Typ), iv y1.W, iv y1.H, iv y1.Tall, .string (ba y1.Nozzle)]]) mo ?_
   replace hs := hs.drew
   refine H.v hf hs (.slice lA l.length lC) 0 rfl rfl (by kernel_rfl) (V.loadAt0 (off := 0) (Ag.args _ _ _) hb_l rfl rfl Tryd.isAgg23 Tryd.sizeOf23 rfl rfl) fun a hf => ?_
   refine H.v hf hs (iv i) 1 rfl rfl (by kernel_rfl) (V.pure rfl) fun a hf => ?_
   refine H.v hf hs (elemPtr lA (i.toNat * 6)) 2 rfl rfl (by kernel_rfl) (V.index rfl rfl rfl Tryd.runUnderlying23 Tryd.sizeOf28 (hv_l.some_ (lt_of_get hx1)) h0x1 (lt_of_get hx1) rfl) fun a hf => ?_
   refine H.v hf hs (.agg #[.string (ba x1.Part), .string (ba x1.Typ), iv x1.At.X, iv x1.At.Y, iv x1.Quarters, .bool x1.Below]) 3 rfl rfl (by kernel_rfl) (V.loadEl (off := 0) (Ag.args _ _ _) (hv_l.flat hx1) rfl rfl rfl Tryd.isAgg28 Tryd.sizeOf28 rfl rfl) fun a hf => ?_
   refine H.v hf hs (.slice lA l.length lC) 5 rfl rfl (by kernel_rfl) (V.loadAt0 (off := 0) (Ag.args _ _ _) hb_l rfl rfl Tryd.isAgg23 Tryd.sizeOf23 rfl rfl) fun a hf => ?_
   refine H.v hf hs (iv k_) 6 rfl rfl (by kernel_rfl) (V.pure rfl) fun a hf => ?_
   refine H.v hf hs (elemPtr lA (k_.toNat * 6)) 7 rfl rfl (by kernel_rfl) (V.index rfl rfl rfl Tryd.runUnderlying23 Tryd.sizeOf28 (hv_l.some_ (lt_of_get hx2)) h0x2 (lt_of_get hx2) rfl) fun a hf => ?_
   refine H.v hf hs (.agg #[.string (ba x2.Part), .string (ba x2.Typ), iv x2.At.X, iv x2.At.Y, iv x2.Quarters, .bool x2.Below]) 8 rfl rfl (by kernel_rfl) (V.loadEl (off := 0) (Ag.args _ _ _) (hv_l.flat hx2) rfl rfl rfl Tryd.isAgg28 Tryd.sizeOf28 rfl rfl) fun a hf => ?_
   refine H.v hf hs ((pn g1 3)) 11 rfl rfl (by kernel_rfl) (V.fieldBox rfl rfl Tryd.runUnderlying95 rfl Tryd.sizeOf3 rfl rfl) fun a hf => ?_
   refine H.v hf hs (iv y1.Tall) 12 rfl rfl (by kernel_rfl) (V.loadBox 1 rfl rfl rfl Tryd.isAgg3 Tryd.sizeOf3 rfl rfl) fun a hf => ?_
   refine H.v hf hs ((pn g2 3)) 13 rfl rfl (by kernel_rfl) (V.fieldBox rfl rfl Tryd.runUnderlying95 rfl Tryd.sizeOf3 rfl rfl) fun a hf => ?_
   refine H.v hf hs (iv y3.Tall) 14 rfl rfl (by kernel_rfl) (V.loadBox 0 rfl rfl rfl Tryd.isAgg3 Tryd.sizeOf3 rfl rfl) fun a hf => ?_
   refine H.v hf hs ((pn g1 4)) 16 rfl rfl (by kernel_rfl) (V.fieldBox rfl rfl Tryd.runUnderlying95 rfl Tryd.sizeOf9 rfl rfl) fun a hf => ?_
   refine H.v hf hs (.string (ba y1.Nozzle)) 17 rfl rfl (by kernel_rfl) (V.loadBox 1 rfl rfl rfl Tryd.isAgg9 Tryd.sizeOf9 rfl rfl) fun a hf => ?_
   refine H.v hf hs ((pn g2 4)) 18 rfl rfl (by kernel_rfl) (V.fieldBox rfl rfl Tryd.runUnderlying95 rfl Tryd.sizeOf9 rfl rfl) fun a hf => ?_
   refine H.v hf hs (.string (ba y3.Nozzle)) 19 rfl rfl (by kernel_rfl) (V.loadBox 0 rfl rfl rfl Tryd.isAgg9 Tryd.sizeOf9 rfl rfl) fun a hf => ?_
   refine H.v hf hs (.slice lA l.length lC) 21 rfl rfl (by kernel_rfl) (V.loadAt0 (off := 0) (Ag.args _ _ _) hb_l rfl rfl Tryd.isAgg23 Tryd.sizeOf23 rfl rfl) fun a hf => ?_
   refine H.v hf hs (iv i) 22 rfl rfl (by kernel_rfl) (V.pure rfl) fun a hf => ?_
   refine H.v hf hs (elemPtr lA (i.toNat * 6)) 23 rfl rfl (by kernel_rfl) (V.index rfl rfl rfl Tryd.runUnderlying23 Tryd.sizeOf28 (hv_l.some_ (lt_of_get hx1)) h0x1 (lt_of_get hx1) rfl) fun a hf => ?_
   refine H.v hf hs (elemPtr lA (i.toNat * 6)) 24 rfl rfl (by kernel_rfl) (V.fieldEl rfl rfl (hv_l.some_ (lt_of_get hx1)) Tryd.runUnderlying28 rfl Tryd.sizeOf9 rfl rfl) fun a hf => ?_
   refine H.v hf hs (.string (ba x1.Part)) 25 rfl rfl (by kernel_rfl) (V.loadEl (off := 0) (Ag.args _ _ _) (hv_l.flat hx1) rfl rfl rfl Tryd.isAgg9 Tryd.sizeOf9 rfl rfl) fun a hf => ?_
   refine H.v hf hs (.slice lA l.length lC) 26 rfl rfl (by kernel_rfl) (V.loadAt0 (off := 0) (Ag.args _ _ _) hb_l rfl rfl Tryd.isAgg23 Tryd.sizeOf23 rfl rfl) fun a hf => ?_
   refine H.v hf hs (iv k_) 27 rfl rfl (by kernel_rfl) (V.pure rfl) fun a hf => ?_
   refine H.v hf hs (elemPtr lA (k_.toNat * 6)) 28 rfl rfl (by kernel_rfl) (V.index rfl rfl rfl Tryd.runUnderlying23 Tryd.sizeOf28 (hv_l.some_ (lt_of_get hx2)) h0x2 (lt_of_get hx2) rfl) fun a hf => ?_
   refine H.v hf hs (elemPtr lA (k_.toNat * 6)) 29 rfl rfl (by kernel_rfl) (V.fieldEl rfl rfl (hv_l.some_ (lt_of_get hx2)) Tryd.runUnderlying28 rfl Tryd.sizeOf9 rfl rfl) fun a hf => ?_
   refine H.v hf hs (.string (ba x2.Part)) 30 rfl rfl (by kernel_rfl) (V.loadEl (off := 0) (Ag.args _ _ _) (hv_l.flat hx2) rfl rfl rfl Tryd.isAgg9 Tryd.sizeOf9 rfl rfl) fun a hf => ?_
   refine H.one (i := 4) rfl (by kernel_rfl) ?_
   refine S.call hf rfl rfl rfl (call_fn (vs := [.agg #[.string (ba x1.Part), .string (ba x1.Typ), iv x1.At.X, iv x1.At.Y, iv x1.Quarters, .bool x1.Below]]) rfl rfl rfl Tryd.call64) (R_mount_side x1 _  _ h) (fun v a w' hf hr => ?_)
   obtain ⟨y5, rfl, h2, hs2⟩ := hr
   replace h := h2; replace hs := hs.call hs2; clear h2 hs2
   refine R.nil (X.then_ ?_)
   refine ⟨hs, ?_⟩
   refine H.one (i := 9) rfl (by kernel_rfl) ?_
   refine S.call hf rfl rfl rfl (call_fn (vs := [.agg #[.string (ba x2.Part), .string (ba x2.Typ), iv x2.At.X, iv x2.At.Y, iv x2.Quarters, .bool x2.Below]]) rfl rfl rfl Tryd.call64) (R_mount_side x2 _  _ h) (fun v a w' hf hr => ?_)
   obtain ⟨y6, rfl, h2, hs2⟩ := hr
   replace h := h2; replace hs := hs.call hs2; clear h2 hs2
   refine R.nil (X.then_ ?_)
   refine ⟨hs, ?_⟩
   refine H.one (i := 10) rfl (by kernel_rfl) ?_
   refine S.call hf rfl rfl rfl (call_fn (vs := [iv y5, iv y6]) rfl rfl rfl Tryd.call63) (R_compare_int y5 y6 _  _ h) (fun v a w' hf hr => ?_)
   obtain ⟨y7, rfl, h2, hs2⟩ := hr
   replace h := h2; replace hs := hs.call hs2; clear h2 hs2
   refine R.nil (X.then_ ?_)
   refine ⟨hs, ?_⟩
   refine H.one (i := 15) rfl (by kernel_rfl) ?_
   refine S.call hf rfl rfl rfl (call_fn (vs := [iv y1.Tall, iv y3.Tall]) rfl rfl rfl Tryd.call63) (R_compare_int y1.Tall y3.Tall _  _ h) (fun v a w' hf hr => ?_)
   obtain ⟨y8, rfl, h2, hs2⟩ := hr
   replace h := h2; replace hs := hs.call hs2; clear h2 hs2
   refine R.nil (X.then_ ?_)
   refine ⟨hs, ?_⟩
   refine H.one (i := 20) rfl (by kernel_rfl) ?_
   refine S.callv hf rfl rfl rfl (call_fn (vs := [.string (ba y1.Nozzle), .string (ba y3.Nozzle)]) rfl rfl rfl Tryd.call65) (C_strings_Compare y1.Nozzle y3.Nozzle _ ) (fun a w hf hs' => ?_)
   replace hs := hs.call hs'; clear hs'
   refine R.nil (X.then_ ?_)
   refine ⟨hs, ?_⟩
   refine H.one (i := 31) rfl (by kernel_rfl) ?_
   refine S.callv hf rfl rfl rfl (call_fn (vs := [.string (ba x1.Part), .string (ba x2.Part)]) rfl rfl rfl Tryd.call65) (C_strings_Compare x1.Part x2.Part _ ) (fun a w hf hs' => ?_)
   replace hs := hs.call hs'; clear hs'
   refine R.nil (X.then_ ?_)
   refine ⟨hs, ?_⟩
   refine H.one (i := 32) rfl (by kernel_rfl) ?_
   refine S.buildSlice hf hs rfl rfl rfl (α := Int) [y7, y8, (cmpStr y1.Nozzle y3.Nozzle), (cmpStr x1.Part x2.Part)] rfl rfl Tryd.runUnderlying48 Tryd.sizeOf3 Tryd.zeroValue3 (by kernel_rfl) rfl (by decide) (by decide) (fun A1 a w hf hs => ?_)
   refine R.nil (X.then_ ?_)
   refine ⟨(hs.mask [false, true, true]), ?_⟩
   refine H.one (i := 33) rfl (by kernel_rfl) ?_
   refine S.call hf rfl rfl rfl (call_fn (vs := [.slice A1 ([y7, y8, (cmpStr y1.Nozzle y3.Nozzle), (cmpStr x1.Part x2.Part)] : List Int).length 4]) rfl rfl rfl Tryd.call62) (R_or_int ([y7, y8, (cmpStr y1.Nozzle y3.Nozzle), (cmpStr x1.Part x2.Part)] : List Int) _ A1 4 (hs.ownView 0 rfl) _ h) (fun v a w' hf hr => ?_)
   obtain ⟨y9, rfl, h2, hs2⟩ := hr
   replace h := h2; replace hs := hs.call hs2; clear h2 hs2
   refine R.nil (X.then_ ?_)
   refine ⟨(hs.mask [false, true, true]), ?_⟩
   refine H.val hf (hs.mask [false, true, true]) (v := iv y9) (i := 34) rfl rfl rfl rfl (by kernel_rfl) (by kernel_rfl) (by kernel_rfl) (V.pure rfl) (fun a hf => ?_)
   refine H.done (by kernel_rfl) ?_
   refine X.then_ (wp_ret ?_)
   exact L.ret hf (run_results1 Tryd.results60 (ResIs.tmp hf rfl)) ⟨y9, rfl, h, hs.nil⟩
 ·refine S.alloc hf hs rfl rfl rfl [.string (ba []), iv 0, iv 0, iv 0, .string (ba [])] rfl Tryd.zeroValue95 rfl (fun g1 a w hf hs => ?_)
  refine R.nil (X.then_ ?_)
  refine ⟨hs.nil, ?_⟩
  refine H.one (i := 6) rfl (by kernel_rfl) ?_
  refine S.call hf rfl rfl rfl (call_fn (vs := [.slice bA b.length bC, .string (ba x1.Typ)]) rfl rfl rfl Tryd.call61) (R_mount_bodyOf b x1.Typ _ bA bC ((Ag.args _ _ _).view hv_b hs) _ h) (fun v a w' hf hr => ?_)
  obtain ⟨y1, y2, rfl, h2, hs2⟩ := hr
  replace h := h2; replace hs := hs.call hs2; clear h2 hs2
  refine R.nil (X.then_ ?_)
  refine ⟨hs.nil, ?_⟩
  refine H.val hf hs.nil (v := .tuple #[.agg #[.string (ba y1.Typ), iv y1.W, iv y1.H, iv y1.Tall, .string (ba y1.Nozzle)], .bool y2]) (i := 7) rfl rfl rfl rfl (by kernel_rfl) (by kernel_rfl) (by kernel_rfl) (V.pure rfl) (fun a hf => ?_)
  refine H.val hf hs.nil (v := .agg #[.string (ba y1.Typ), iv y1.W, iv y1.H, iv y1.Tall, .string (ba y1.Nozzle)]) (i := 8) rfl rfl rfl rfl (by kernel_rfl) (by kernel_rfl) (by kernel_rfl) (V.pure rfl) (fun a hf => ?_)
  refine H.val hf hs.nil (v := .bool y2) (i := 9) rfl rfl rfl rfl (by kernel_rfl) (by kernel_rfl) (by kernel_rfl) (V.pure rfl) (fun a hf => ?_)
  refine H.one (i := 11) rfl (by kernel_rfl) ?_
  refine S.storeBox 0 hf hs rfl rfl [.string (ba y1.Typ), iv y1.W, iv y1.H, iv y1.Tall, .string (ba y1.Nozzle)] [.string (ba y1.Typ), iv y1.W, iv y1.H, iv y1.Tall, .string (ba y1.Nozzle)] rfl rfl rfl rfl rfl Tryd.sizeOf95 rfl rfl rfl rfl (fun a w hf hs => ?_)
  refine R.nil (X.then_ ?_)
  refine ⟨hs.nil, ?_⟩
  refine H.val hf hs.nil (v := .bool y2) (i := 12) rfl rfl rfl rfl (by kernel_rfl) (by kernel_rfl) (by kernel_rfl) (V.pure rfl) (fun a hf => ?_)
  refine H.done (by kernel_rfl) ?_
  refine X.then_ (wp_seq ?_)
  refine H.start (S := Sat w0 none_ [hbox g1 95 [.string (ba y1.Typ), iv y1.W, iv y1.H, iv y1.Tall, .string (ba y1.Nozzle)]]) mo ?_
  replace hs := hs.drew
  refine H.v hf hs (.slice bA b.length bC) 0 rfl rfl (by kernel_rfl) (V.loadAt0 (off := 0) (Ag.args _ _ _) hb_b rfl rfl Tryd.isAgg22 Tryd.sizeOf22 rfl rfl) fun a hf => ?_
  refine H.v hf hs (.slice lA l.length lC) 1 rfl rfl (by kernel_rfl) (V.loadAt0 (off := 0) (Ag.args _ _ _) hb_l rfl rfl Tryd.isAgg23 Tryd.sizeOf23 rfl rfl) fun a hf => ?_
  refine H.v hf hs (iv k_) 2 rfl rfl (by kernel_rfl) (V.pure rfl) fun a hf => ?_
  obtain ⟨h0x2, x2, hx2, h⟩ := h
  refine H.v hf hs (elemPtr lA (k_.toNat * 6)) 3 rfl rfl (by kernel_rfl) (V.index rfl rfl rfl Tryd.runUnderlying23 Tryd.sizeOf28 (hv_l.some_ (lt_of_get hx2)) h0x2 (lt_of_get hx2) rfl) fun a hf => ?_
  refine H.v hf hs (elemPtr lA (k_.toNat * 6 + 1)) 4 rfl rfl (by kernel_rfl) (V.fieldEl rfl rfl (hv_l.some_ (lt_of_get hx2)) Tryd.runUnderlying28 rfl Tryd.sizeOf9 rfl rfl) fun a hf => ?_
  refine H.v hf hs (.string (ba x2.Typ)) 5 rfl rfl (by kernel_rfl) (V.loadEl (off := 1) (Ag.args _ _ _) (hv_l.flat hx2) rfl rfl rfl Tryd.isAgg9 Tryd.sizeOf9 rfl rfl) fun a hf => ?_
  refine H.each2 (i0 := 6) (i1 := 10) rfl rfl (by kernel_rfl) ?_ ?_
  ·refine S.call hf rfl rfl rfl (call_fn (vs := [.slice bA b.length bC, .string (ba x2.Typ)]) rfl rfl rfl Tryd.call61) (R_mount_bodyOf b x2.Typ _ bA bC ((Ag.args _ _ _).view hv_b hs) _ h) (fun v a w' hf hr => ?_)
   obtain ⟨y3, y4, rfl, h2, hs2⟩ := hr
   replace h := h2; replace hs := hs.call hs2; clear h2 hs2
   refine R.nil (X.then_ ?_)
   refine ⟨hs, ?_⟩
   refine H.v hf hs (.tuple #[.agg #[.string (ba y3.Typ), iv y3.W, iv y3.H, iv y3.Tall, .string (ba y3.Nozzle)], .bool y4]) 7 rfl rfl (by kernel_rfl) (V.pure rfl) fun a hf => ?_
   refine H.v hf hs (.agg #[.string (ba y3.Typ), iv y3.W, iv y3.H, iv y3.Tall, .string (ba y3.Nozzle)]) 8 rfl rfl (by kernel_rfl) (V.pure rfl) fun a hf => ?_
   refine H.v hf hs (.bool y4) 9 rfl rfl (by kernel_rfl) (V.pure rfl) fun a hf => ?_
   refine H.one (i := 10) rfl (by kernel_rfl) ?_
   refine S.alloc hf hs rfl rfl rfl [.string (ba []), iv 0, iv 0, iv 0, .string (ba [])] rfl Tryd.zeroValue95 rfl (fun g2 a w hf hs => ?_)
   refine R.nil (X.then_ ?_)
   refine ⟨(hs.mask [false, true]), ?_⟩
   refine H.one (i := 11) rfl (by kernel_rfl) ?_
   refine S.storeBox 0 hf hs rfl rfl [.string (ba y3.Typ), iv y3.W, iv y3.H, iv y3.Tall, .string (ba y3.Nozzle)] [.string (ba y3.Typ), iv y3.W, iv y3.H, iv y3.Tall, .string (ba y3.Nozzle)] rfl rfl rfl rfl rfl Tryd.sizeOf95 rfl rfl rfl rfl (fun a w hf hs => ?_)
   refine R.nil (X.then_ ?_)
   refine ⟨(hs.mask [false, true]), ?_⟩
   refine H.val hf (hs.mask [false, true]) (v := .bool y4) (i := 12) rfl rfl rfl rfl (by kernel_rfl) (by kernel_rfl) (by kernel_rfl) (V.pure rfl) (fun a hf => ?_)
   refine H.done (by kernel_rfl) ?_
   refine X.then_ (wp_seq ?_)
   refine H.start (S := Sat w0 none_ [hbox g2 95 [.string (ba y3.Typ), iv y3.W, iv y3.H, iv y3.Tall, .string (ba y3.Nozzle)], hbox g1 95 [.string (ba y1.Typ), iv y1.W, iv y1.H, iv y1.Tall, .string (ba y1.Nozzle)]]) mo ?_
   replace hs := hs.drew
   refine H.v hf hs (.slice lA l.length lC) 0 rfl rfl (by kernel_rfl) (V.loadAt0 (off := 0) (Ag.args _ _ _) hb_l rfl rfl Tryd.isAgg23 Tryd.sizeOf23 rfl rfl) fun a hf => ?_
   refine H.v hf hs (iv i) 1 rfl rfl (by kernel_rfl) (V.pure rfl) fun a hf => ?_
   refine H.v hf hs (elemPtr lA (i.toNat * 6)) 2 rfl rfl (by kernel_rfl) (V.index rfl rfl rfl Tryd.runUnderlying23 Tryd.sizeOf28 (hv_l.some_ (lt_of_get hx1)) h0x1 (lt_of_get hx1) rfl) fun a hf => ?_
   refine H.v hf hs (.agg #[.string (ba x1.Part), .string (ba x1.Typ), iv x1.At.X, iv x1.At.Y, iv x1.Quarters, .bool x1.Below]) 3 rfl rfl (by kernel_rfl) (V.loadEl (off := 0) (Ag.args _ _ _) (hv_l.flat hx1) rfl rfl rfl Tryd.isAgg28 Tryd.sizeOf28 rfl rfl) fun a hf => ?_
   refine H.v hf hs (.slice lA l.length lC) 5 rfl rfl (by kernel_rfl) (V.loadAt0 (off := 0) (Ag.args _ _ _) hb_l rfl rfl Tryd.isAgg23 Tryd.sizeOf23 rfl rfl) fun a hf => ?_
   refine H.v hf hs (iv k_) 6 rfl rfl (by kernel_rfl) (V.pure rfl) fun a hf => ?_
   refine H.v hf hs (elemPtr lA (k_.toNat * 6)) 7 rfl rfl (by kernel_rfl) (V.index rfl rfl rfl Tryd.runUnderlying23 Tryd.sizeOf28 (hv_l.some_ (lt_of_get hx2)) h0x2 (lt_of_get hx2) rfl) fun a hf => ?_
   refine H.v hf hs (.agg #[.string (ba x2.Part), .string (ba x2.Typ), iv x2.At.X, iv x2.At.Y, iv x2.Quarters, .bool x2.Below]) 8 rfl rfl (by kernel_rfl) (V.loadEl (off := 0) (Ag.args _ _ _) (hv_l.flat hx2) rfl rfl rfl Tryd.isAgg28 Tryd.sizeOf28 rfl rfl) fun a hf => ?_
   refine H.v hf hs ((pn g1 3)) 11 rfl rfl (by kernel_rfl) (V.fieldBox rfl rfl Tryd.runUnderlying95 rfl Tryd.sizeOf3 rfl rfl) fun a hf => ?_
   refine H.v hf hs (iv y1.Tall) 12 rfl rfl (by kernel_rfl) (V.loadBox 1 rfl rfl rfl Tryd.isAgg3 Tryd.sizeOf3 rfl rfl) fun a hf => ?_
   refine H.v hf hs ((pn g2 3)) 13 rfl rfl (by kernel_rfl) (V.fieldBox rfl rfl Tryd.runUnderlying95 rfl Tryd.sizeOf3 rfl rfl) fun a hf => ?_
   refine H.v hf hs (iv y3.Tall) 14 rfl rfl (by kernel_rfl) (V.loadBox 0 rfl rfl rfl Tryd.isAgg3 Tryd.sizeOf3 rfl rfl) fun a hf => ?_
   refine H.v hf hs ((pn g1 4)) 16 rfl rfl (by kernel_rfl) (V.fieldBox rfl rfl Tryd.runUnderlying95 rfl Tryd.sizeOf9 rfl rfl) fun a hf => ?_
   refine H.v hf hs (.string (ba y1.Nozzle)) 17 rfl rfl (by kernel_rfl) (V.loadBox 1 rfl rfl rfl Tryd.isAgg9 Tryd.sizeOf9 rfl rfl) fun a hf => ?_
   refine H.v hf hs ((pn g2 4)) 18 rfl rfl (by kernel_rfl) (V.fieldBox rfl rfl Tryd.runUnderlying95 rfl Tryd.sizeOf9 rfl rfl) fun a hf => ?_
   refine H.v hf hs (.string (ba y3.Nozzle)) 19 rfl rfl (by kernel_rfl) (V.loadBox 0 rfl rfl rfl Tryd.isAgg9 Tryd.sizeOf9 rfl rfl) fun a hf => ?_
   refine H.v hf hs (.slice lA l.length lC) 21 rfl rfl (by kernel_rfl) (V.loadAt0 (off := 0) (Ag.args _ _ _) hb_l rfl rfl Tryd.isAgg23 Tryd.sizeOf23 rfl rfl) fun a hf => ?_
   refine H.v hf hs (iv i) 22 rfl rfl (by kernel_rfl) (V.pure rfl) fun a hf => ?_
   refine H.v hf hs (elemPtr lA (i.toNat * 6)) 23 rfl rfl (by kernel_rfl) (V.index rfl rfl rfl Tryd.runUnderlying23 Tryd.sizeOf28 (hv_l.some_ (lt_of_get hx1)) h0x1 (lt_of_get hx1) rfl) fun a hf => ?_
   refine H.v hf hs (elemPtr lA (i.toNat * 6)) 24 rfl rfl (by kernel_rfl) (V.fieldEl rfl rfl (hv_l.some_ (lt_of_get hx1)) Tryd.runUnderlying28 rfl Tryd.sizeOf9 rfl rfl) fun a hf => ?_
   refine H.v hf hs (.string (ba x1.Part)) 25 rfl rfl (by kernel_rfl) (V.loadEl (off := 0) (Ag.args _ _ _) (hv_l.flat hx1) rfl rfl rfl Tryd.isAgg9 Tryd.sizeOf9 rfl rfl) fun a hf => ?_
   refine H.v hf hs (.slice lA l.length lC) 26 rfl rfl (by kernel_rfl) (V.loadAt0 (off := 0) (Ag.args _ _ _) hb_l rfl rfl Tryd.isAgg23 Tryd.sizeOf23 rfl rfl) fun a hf => ?_
   refine H.v hf hs (iv k_) 27 rfl rfl (by kernel_rfl) (V.pure rfl) fun a hf => ?_
   refine H.v hf hs (elemPtr lA (k_.toNat * 6)) 28 rfl rfl (by kernel_rfl) (V.index rfl rfl rfl Tryd.runUnderlying23 Tryd.sizeOf28 (hv_l.some_ (lt_of_get hx2)) h0x2 (lt_of_get hx2) rfl) fun a hf => ?_
   refine H.v hf hs (elemPtr lA (k_.toNat * 6)) 29 rfl rfl (by kernel_rfl) (V.fieldEl rfl rfl (hv_l.some_ (lt_of_get hx2)) Tryd.runUnderlying28 rfl Tryd.sizeOf9 rfl rfl) fun a hf => ?_
   refine H.v hf hs (.string (ba x2.Part)) 30 rfl rfl (by kernel_rfl) (V.loadEl (off := 0) (Ag.args _ _ _) (hv_l.flat hx2) rfl rfl rfl Tryd.isAgg9 Tryd.sizeOf9 rfl rfl) fun a hf => ?_
   refine H.one (i := 4) rfl (by kernel_rfl) ?_
   refine S.call hf rfl rfl rfl (call_fn (vs := [.agg #[.string (ba x1.Part), .string (ba x1.Typ), iv x1.At.X, iv x1.At.Y, iv x1.Quarters, .bool x1.Below]]) rfl rfl rfl Tryd.call64) (R_mount_side x1 _  _ h) (fun v a w' hf hr => ?_)
   obtain ⟨y5, rfl, h2, hs2⟩ := hr
   replace h := h2; replace hs := hs.call hs2; clear h2 hs2
   refine R.nil (X.then_ ?_)
   refine ⟨hs, ?_⟩
   refine H.one (i := 9) rfl (by kernel_rfl) ?_
   refine S.call hf rfl rfl rfl (call_fn (vs := [.agg #[.string (ba x2.Part), .string (ba x2.Typ), iv x2.At.X, iv x2.At.Y, iv x2.Quarters, .bool x2.Below]]) rfl rfl rfl Tryd.call64) (R_mount_side x2 _  _ h) (fun v a w' hf hr => ?_)
   obtain ⟨y6, rfl, h2, hs2⟩ := hr
   replace h := h2; replace hs := hs.call hs2; clear h2 hs2
   refine R.nil (X.then_ ?_)
   refine ⟨hs, ?_⟩
   refine H.one (i := 10) rfl (by kernel_rfl) ?_
   refine S.call hf rfl rfl rfl (call_fn (vs := [iv y5, iv y6]) rfl rfl rfl Tryd.call63) (R_compare_int y5 y6 _  _ h) (fun v a w' hf hr => ?_)
   obtain ⟨y7, rfl, h2, hs2⟩ := hr
   replace h := h2; replace hs := hs.call hs2; clear h2 hs2
   refine R.nil (X.then_ ?_)
   refine ⟨hs, ?_⟩
   refine H.one (i := 15) rfl (by kernel_rfl) ?_
   refine S.call hf rfl rfl rfl (call_fn (vs := [iv y1.Tall, iv y3.Tall]) rfl rfl rfl Tryd.call63) (R_compare_int y1.Tall y3.Tall _  _ h) (fun v a w' hf hr => ?_)
   obtain ⟨y8, rfl, h2, hs2⟩ := hr
   replace h := h2; replace hs := hs.call hs2; clear h2 hs2
   refine R.nil (X.then_ ?_)
   refine ⟨hs, ?_⟩
   refine H.one (i := 20) rfl (by kernel_rfl) ?_
   refine S.callv hf rfl rfl rfl (call_fn (vs := [.string (ba y1.Nozzle), .string (ba y3.Nozzle)]) rfl rfl rfl Tryd.call65) (C_strings_Compare y1.Nozzle y3.Nozzle _ ) (fun a w hf hs' => ?_)
   replace hs := hs.call hs'; clear hs'
   refine R.nil (X.then_ ?_)
   refine ⟨hs, ?_⟩
   refine H.one (i := 31) rfl (by kernel_rfl) ?_
   refine S.callv hf rfl rfl rfl (call_fn (vs := [.string (ba x1.Part), .string (ba x2.Part)]) rfl rfl rfl Tryd.call65) (C_strings_Compare x1.Part x2.Part _ ) (fun a w hf hs' => ?_)
   replace hs := hs.call hs'; clear hs'
   refine R.nil (X.then_ ?_)
   refine ⟨hs, ?_⟩
   refine H.one (i := 32) rfl (by kernel_rfl) ?_
   refine S.buildSlice hf hs rfl rfl rfl (α := Int) [y7, y8, (cmpStr y1.Nozzle y3.Nozzle), (cmpStr x1.Part x2.Part)] rfl rfl Tryd.runUnderlying48 Tryd.sizeOf3 Tryd.zeroValue3 (by kernel_rfl) rfl (by decide) (by decide) (fun A1 a w hf hs => ?_)
   refine R.nil (X.then_ ?_)
   refine ⟨(hs.mask [false, true, true]), ?_⟩
   refine H.one (i := 33) rfl (by kernel_rfl) ?_
   refine S.call hf rfl rfl rfl (call_fn (vs := [.slice A1 ([y7, y8, (cmpStr y1.Nozzle y3.Nozzle), (cmpStr x1.Part x2.Part)] : List Int).length 4]) rfl rfl rfl Tryd.call62) (R_or_int ([y7, y8, (cmpStr y1.Nozzle y3.Nozzle), (cmpStr x1.Part x2.Part)] : List Int) _ A1 4 (hs.ownView 0 rfl) _ h) (fun v a w' hf hr => ?_)
   obtain ⟨y9, rfl, h2, hs2⟩ := hr
   replace h := h2; replace hs := hs.call hs2; clear h2 hs2
   refine R.nil (X.then_ ?_)
   refine ⟨(hs.mask [false, true, true]), ?_⟩
   refine H.val hf (hs.mask [false, true, true]) (v := iv y9) (i := 34) rfl rfl rfl rfl (by kernel_rfl) (by kernel_rfl) (by kernel_rfl) (V.pure rfl) (fun a hf => ?_)
   refine H.done (by kernel_rfl) ?_
   refine X.then_ (wp_ret ?_)
   exact L.ret hf (run_results1 Tryd.results60 (ResIs.tmp hf rfl)) ⟨y9, rfl, h, hs.nil⟩
  ·refine S.alloc hf hs rfl rfl rfl [.string (ba []), iv 0, iv 0, iv 0, .string (ba [])] rfl Tryd.zeroValue95 rfl (fun g2 a w hf hs => ?_)
   refine R.nil (X.then_ ?_)
   refine ⟨(hs.mask [false, true]), ?_⟩
   refine H.one (i := 6) rfl (by kernel_rfl) ?_
   refine S.call hf rfl rfl rfl (call_fn (vs := [.slice bA b.length bC, .string (ba x2.Typ)]) rfl rfl rfl Tryd.call61) (R_mount_bodyOf b x2.Typ _ bA bC ((Ag.args _ _ _).view hv_b hs) _ h) (fun v a w' hf hr => ?_)
   obtain ⟨y3, y4, rfl, h2, hs2⟩ := hr
   replace h := h2; replace hs := hs.call hs2; clear h2 hs2
   refine R.nil (X.then_ ?_)
   refine ⟨(hs.mask [false, true]), ?_⟩
   refine H.val hf (hs.mask [false, true]) (v := .tuple #[.agg #[.string (ba y3.Typ), iv y3.W, iv y3.H, iv y3.Tall, .string (ba y3.Nozzle)], .bool y4]) (i := 7) rfl rfl rfl rfl (by kernel_rfl) (by kernel_rfl) (by kernel_rfl) (V.pure rfl) (fun a hf => ?_)
   refine H.val hf (hs.mask [false, true]) (v := .agg #[.string (ba y3.Typ), iv y3.W, iv y3.H, iv y3.Tall, .string (ba y3.Nozzle)]) (i := 8) rfl rfl rfl rfl (by kernel_rfl) (by kernel_rfl) (by kernel_rfl) (V.pure rfl) (fun a hf => ?_)
   refine H.val hf (hs.mask [false, true]) (v := .bool y4) (i := 9) rfl rfl rfl rfl (by kernel_rfl) (by kernel_rfl) (by kernel_rfl) (V.pure rfl) (fun a hf => ?_)
   refine H.one (i := 11) rfl (by kernel_rfl) ?_
   refine S.storeBox 0 hf hs rfl rfl [.string (ba y3.Typ), iv y3.W, iv y3.H, iv y3.Tall, .string (ba y3.Nozzle)] [.string (ba y3.Typ), iv y3.W, iv y3.H, iv y3.Tall, .string (ba y3.Nozzle)] rfl rfl rfl rfl rfl Tryd.sizeOf95 rfl rfl rfl rfl (fun a w hf hs => ?_)
   refine R.nil (X.then_ ?_)
   refine ⟨(hs.mask [false, true]), ?_⟩
   refine H.val hf (hs.mask [false, true]) (v := .bool y4) (i := 12) rfl rfl rfl rfl (by kernel_rfl) (by kernel_rfl) (by kernel_rfl) (V.pure rfl) (fun a hf => ?_)
   refine H.done (by kernel_rfl) ?_
   refine X.then_ (wp_seq ?_)
   refine H.start (S := Sat w0 none_ [hbox g2 95 [.string (ba y3.Typ), iv y3.W, iv y3.H, iv y3.Tall, .string (ba y3.Nozzle)], hbox g1 95 [.string (ba y1.Typ), iv y1.W, iv y1.H, iv y1.Tall, .string (ba y1.Nozzle)]]) mo ?_
   replace hs := hs.drew
   refine H.v hf hs (.slice lA l.length lC) 0 rfl rfl (by kernel_rfl) (V.loadAt0 (off := 0) (Ag.args _ _ _) hb_l rfl rfl Tryd.isAgg23 Tryd.sizeOf23 rfl rfl) fun a hf => ?_
   refine H.v hf hs (iv i) 1 rfl rfl (by kernel_rfl) (V.pure rfl) fun a hf => ?_
   refine H.v hf hs (elemPtr lA (i.toNat * 6)) 2 rfl rfl (by kernel_rfl) (V.index rfl rfl rfl Tryd.runUnderlying23 Tryd.sizeOf28 (hv_l.some_ (lt_of_get hx1)) h0x1 (lt_of_get hx1) rfl) fun a hf => ?_
   refine H.v hf hs (.agg #[.string (ba x1.Part), .string (ba x1.Typ), iv x1.At.X, iv x1.At.Y, iv x1.Quarters, .bool x1.Below]) 3 rfl rfl (by kernel_rfl) (V.loadEl (off := 0) (Ag.args _ _ _) (hv_l.flat hx1) rfl rfl rfl Tryd.isAgg28 Tryd.sizeOf28 rfl rfl) fun a hf => ?_
   refine H.v hf hs (.slice lA l.length lC) 5 rfl rfl (by kernel_rfl) (V.loadAt0 (off := 0) (Ag.args _ _ _) hb_l rfl rfl Tryd.isAgg23 Tryd.sizeOf23 rfl rfl) fun a hf => ?_
   refine H.v hf hs (iv k_) 6 rfl rfl (by kernel_rfl) (V.pure rfl) fun a hf => ?_
   refine H.v hf hs (elemPtr lA (k_.toNat * 6)) 7 rfl rfl (by kernel_rfl) (V.index rfl rfl rfl Tryd.runUnderlying23 Tryd.sizeOf28 (hv_l.some_ (lt_of_get hx2)) h0x2 (lt_of_get hx2) rfl) fun a hf => ?_
   refine H.v hf hs (.agg #[.string (ba x2.Part), .string (ba x2.Typ), iv x2.At.X, iv x2.At.Y, iv x2.Quarters, .bool x2.Below]) 8 rfl rfl (by kernel_rfl) (V.loadEl (off := 0) (Ag.args _ _ _) (hv_l.flat hx2) rfl rfl rfl Tryd.isAgg28 Tryd.sizeOf28 rfl rfl) fun a hf => ?_
   refine H.v hf hs ((pn g1 3)) 11 rfl rfl (by kernel_rfl) (V.fieldBox rfl rfl Tryd.runUnderlying95 rfl Tryd.sizeOf3 rfl rfl) fun a hf => ?_
   refine H.v hf hs (iv y1.Tall) 12 rfl rfl (by kernel_rfl) (V.loadBox 1 rfl rfl rfl Tryd.isAgg3 Tryd.sizeOf3 rfl rfl) fun a hf => ?_
   refine H.v hf hs ((pn g2 3)) 13 rfl rfl (by kernel_rfl) (V.fieldBox rfl rfl Tryd.runUnderlying95 rfl Tryd.sizeOf3 rfl rfl) fun a hf => ?_
   refine H.v hf hs (iv y3.Tall) 14 rfl rfl (by kernel_rfl) (V.loadBox 0 rfl rfl rfl Tryd.isAgg3 Tryd.sizeOf3 rfl rfl) fun a hf => ?_
   refine H.v hf hs ((pn g1 4)) 16 rfl rfl (by kernel_rfl) (V.fieldBox rfl rfl Tryd.runUnderlying95 rfl Tryd.sizeOf9 rfl rfl) fun a hf => ?_
   refine H.v hf hs (.string (ba y1.Nozzle)) 17 rfl rfl (by kernel_rfl) (V.loadBox 1 rfl rfl rfl Tryd.isAgg9 Tryd.sizeOf9 rfl rfl) fun a hf => ?_
   refine H.v hf hs ((pn g2 4)) 18 rfl rfl (by kernel_rfl) (V.fieldBox rfl rfl Tryd.runUnderlying95 rfl Tryd.sizeOf9 rfl rfl) fun a hf => ?_
   refine H.v hf hs (.string (ba y3.Nozzle)) 19 rfl rfl (by kernel_rfl) (V.loadBox 0 rfl rfl rfl Tryd.isAgg9 Tryd.sizeOf9 rfl rfl) fun a hf => ?_
   refine H.v hf hs (.slice lA l.length lC) 21 rfl rfl (by kernel_rfl) (V.loadAt0 (off := 0) (Ag.args _ _ _) hb_l rfl rfl Tryd.isAgg23 Tryd.sizeOf23 rfl rfl) fun a hf => ?_
   refine H.v hf hs (iv i) 22 rfl rfl (by kernel_rfl) (V.pure rfl) fun a hf => ?_
   refine H.v hf hs (elemPtr lA (i.toNat * 6)) 23 rfl rfl (by kernel_rfl) (V.index rfl rfl rfl Tryd.runUnderlying23 Tryd.sizeOf28 (hv_l.some_ (lt_of_get hx1)) h0x1 (lt_of_get hx1) rfl) fun a hf => ?_
   refine H.v hf hs (elemPtr lA (i.toNat * 6)) 24 rfl rfl (by kernel_rfl) (V.fieldEl rfl rfl (hv_l.some_ (lt_of_get hx1)) Tryd.runUnderlying28 rfl Tryd.sizeOf9 rfl rfl) fun a hf => ?_
   refine H.v hf hs (.string (ba x1.Part)) 25 rfl rfl (by kernel_rfl) (V.loadEl (off := 0) (Ag.args _ _ _) (hv_l.flat hx1) rfl rfl rfl Tryd.isAgg9 Tryd.sizeOf9 rfl rfl) fun a hf => ?_
   refine H.v hf hs (.slice lA l.length lC) 26 rfl rfl (by kernel_rfl) (V.loadAt0 (off := 0) (Ag.args _ _ _) hb_l rfl rfl Tryd.isAgg23 Tryd.sizeOf23 rfl rfl) fun a hf => ?_
   refine H.v hf hs (iv k_) 27 rfl rfl (by kernel_rfl) (V.pure rfl) fun a hf => ?_
   refine H.v hf hs (elemPtr lA (k_.toNat * 6)) 28 rfl rfl (by kernel_rfl) (V.index rfl rfl rfl Tryd.runUnderlying23 Tryd.sizeOf28 (hv_l.some_ (lt_of_get hx2)) h0x2 (lt_of_get hx2) rfl) fun a hf => ?_
   refine H.v hf hs (elemPtr lA (k_.toNat * 6)) 29 rfl rfl (by kernel_rfl) (V.fieldEl rfl rfl (hv_l.some_ (lt_of_get hx2)) Tryd.runUnderlying28 rfl Tryd.sizeOf9 rfl rfl) fun a hf => ?_
   refine H.v hf hs (.string (ba x2.Part)) 30 rfl rfl (by kernel_rfl) (V.loadEl (off := 0) (Ag.args _ _ _) (hv_l.flat hx2) rfl rfl rfl Tryd.isAgg9 Tryd.sizeOf9 rfl rfl) fun a hf => ?_
   refine H.one (i := 4) rfl (by kernel_rfl) ?_
   refine S.call hf rfl rfl rfl (call_fn (vs := [.agg #[.string (ba x1.Part), .string (ba x1.Typ), iv x1.At.X, iv x1.At.Y, iv x1.Quarters, .bool x1.Below]]) rfl rfl rfl Tryd.call64) (R_mount_side x1 _  _ h) (fun v a w' hf hr => ?_)
   obtain ⟨y5, rfl, h2, hs2⟩ := hr
   replace h := h2; replace hs := hs.call hs2; clear h2 hs2
   refine R.nil (X.then_ ?_)
   refine ⟨hs, ?_⟩
   refine H.one (i := 9) rfl (by kernel_rfl) ?_
   refine S.call hf rfl rfl rfl (call_fn (vs := [.agg #[.string (ba x2.Part), .string (ba x2.Typ), iv x2.At.X, iv x2.At.Y, iv x2.Quarters, .bool x2.Below]]) rfl rfl rfl Tryd.call64) (R_mount_side x2 _  _ h) (fun v a w' hf hr => ?_)
   obtain ⟨y6, rfl, h2, hs2⟩ := hr
   replace h := h2; replace hs := hs.call hs2; clear h2 hs2
   refine R.nil (X.then_ ?_)
   refine ⟨hs, ?_⟩
   refine H.one (i := 10) rfl (by kernel_rfl) ?_
   refine S.call hf rfl rfl rfl (call_fn (vs := [iv y5, iv y6]) rfl rfl rfl Tryd.call63) (R_compare_int y5 y6 _  _ h) (fun v a w' hf hr => ?_)
   obtain ⟨y7, rfl, h2, hs2⟩ := hr
   replace h := h2; replace hs := hs.call hs2; clear h2 hs2
   refine R.nil (X.then_ ?_)
   refine ⟨hs, ?_⟩
   refine H.one (i := 15) rfl (by kernel_rfl) ?_
   refine S.call hf rfl rfl rfl (call_fn (vs := [iv y1.Tall, iv y3.Tall]) rfl rfl rfl Tryd.call63) (R_compare_int y1.Tall y3.Tall _  _ h) (fun v a w' hf hr => ?_)
   obtain ⟨y8, rfl, h2, hs2⟩ := hr
   replace h := h2; replace hs := hs.call hs2; clear h2 hs2
   refine R.nil (X.then_ ?_)
   refine ⟨hs, ?_⟩
   refine H.one (i := 20) rfl (by kernel_rfl) ?_
   refine S.callv hf rfl rfl rfl (call_fn (vs := [.string (ba y1.Nozzle), .string (ba y3.Nozzle)]) rfl rfl rfl Tryd.call65) (C_strings_Compare y1.Nozzle y3.Nozzle _ ) (fun a w hf hs' => ?_)
   replace hs := hs.call hs'; clear hs'
   refine R.nil (X.then_ ?_)
   refine ⟨hs, ?_⟩
   refine H.one (i := 31) rfl (by kernel_rfl) ?_
   refine S.callv hf rfl rfl rfl (call_fn (vs := [.string (ba x1.Part), .string (ba x2.Part)]) rfl rfl rfl Tryd.call65) (C_strings_Compare x1.Part x2.Part _ ) (fun a w hf hs' => ?_)
   replace hs := hs.call hs'; clear hs'
   refine R.nil (X.then_ ?_)
   refine ⟨hs, ?_⟩
   refine H.one (i := 32) rfl (by kernel_rfl) ?_
   refine S.buildSlice hf hs rfl rfl rfl (α := Int) [y7, y8, (cmpStr y1.Nozzle y3.Nozzle), (cmpStr x1.Part x2.Part)] rfl rfl Tryd.runUnderlying48 Tryd.sizeOf3 Tryd.zeroValue3 (by kernel_rfl) rfl (by decide) (by decide) (fun A1 a w hf hs => ?_)
   refine R.nil (X.then_ ?_)
   refine ⟨(hs.mask [false, true, true]), ?_⟩
   refine H.one (i := 33) rfl (by kernel_rfl) ?_
   refine S.call hf rfl rfl rfl (call_fn (vs := [.slice A1 ([y7, y8, (cmpStr y1.Nozzle y3.Nozzle), (cmpStr x1.Part x2.Part)] : List Int).length 4]) rfl rfl rfl Tryd.call62) (R_or_int ([y7, y8, (cmpStr y1.Nozzle y3.Nozzle), (cmpStr x1.Part x2.Part)] : List Int) _ A1 4 (hs.ownView 0 rfl) _ h) (fun v a w' hf hr => ?_)
   obtain ⟨y9, rfl, h2, hs2⟩ := hr
   replace h := h2; replace hs := hs.call hs2; clear h2 hs2
   refine R.nil (X.then_ ?_)
   refine ⟨(hs.mask [false, true, true]), ?_⟩
   refine H.val hf (hs.mask [false, true, true]) (v := iv y9) (i := 34) rfl rfl rfl rfl (by kernel_rfl) (by kernel_rfl) (by kernel_rfl) (V.pure rfl) (fun a hf => ?_)
   refine H.done (by kernel_rfl) ?_
   refine X.then_ (wp_ret ?_)
   exact L.ret hf (run_results1 Tryd.results60 (ResIs.tmp hf rfl)) ⟨y9, rfl, h, hs.nil⟩
set_option linter.unusedVariables false
def M_insort_k3 (n2 : Int) (again1 : List Int → Int → Prop) (l4 : List Int) (n4 : Int) (again2 : List Int → Int → Prop) (c1 : Bool) : Prop :=
  cnd c1 (idx l4 (w64 (n4 - 1)) fun x1 => idx l4 n4 fun x2 => idx (l4.set n4.toNat x1) (w64 (n4 - 1)) fun x3 => again2 ((l4.set n4.toNat x1).set ((w64 (n4 - 1)).toNat) x2) (w64 (n4 - 1))) (again1 l4 (w64 (n2 + 1)))
def M_insort_L2 (a_ : Int) (bb : (List Body)) (l : (List Place)) (n2 : Int) (again1 : List Int → Int → Prop) (again2 : List Int → Int → Prop) (l4 : List Int) (n4 : Int) : Prop :=
  cnd (decide (n4 > a_)) (idx l4 n4 fun x4 => idx l4 (w64 (n4 - 1)) fun x5 => M_Ordered1 x4 x5 bb l fun y1 => M_insort_k3 n2 again1 l4 n4 again2 (decide (y1 < 0))) (M_insort_k3 n2 again1 l4 n4 again2 false)
def M_insort_L1 (a_ : Int) (b : Int) (bb : (List Body)) (l : (List Place)) (Q : (List Int) → Prop) (again1 : List Int → Int → Prop) (l2 : List Int) (n2 : Int) : Prop :=
  cnd (decide (n2 < b)) (lp (fun again (s : List Int × Int) => M_insort_L2 a_ bb l n2 again1 (fun l4 n4 => again (l4, n4)) s.1 s.2) (l2, n2)) (Q l2)
def M_insort (data : (List Int)) (a_ : Int) (b : Int) (bb : (List Body)) (l : (List Place)) (Q : (List Int) → Prop) : Prop :=
  lp (fun again (s : List Int × Int) => M_insort_L1 a_ b bb l Q (fun l2 n2 => again (l2, n2)) s.1 s.2) (data, w64 (a_ + 1))
set_option maxHeartbeats 1000000 in
theorem R_insort (data : (List Int)) (a_ : Int) (b : Int) (bb : (List Body)) (l : (List Place)) (w0 : World) (F0 : Nat → Prop) (dataA : Option Addr) (dataC : Nat) (bbA : Option Addr) (bbC : Nat) (hv_bb : View w0 (old w0 F0) bbA bbC bb) (bbg : Nat) (hb_bb : ElemAt w0 (old w0 F0) (some ⟨bbg, 0, none⟩) 0 [.slice bbA bb.length bbC]) (lA : Option Addr) (lC : Nat) (hv_l : View w0 (old w0 F0) lA lC l) (lg : Nat) (hb_l : ElemAt w0 (old w0 F0) (some ⟨lg, 0, none⟩) 0 [.slice lA l.length lC]) (hs0 : Sat w0 F0 [hown 3 dataA dataC data] w0) (Q : (List Int) → Prop) (h : M_insort data a_ b bb l Q) :
  Ret Tryd.prog 106 #[.slice dataA data.length dataC, iv a_, iv b, .func (.func 60) #[] #[(pn bbg 0), (pn lg 0)]] w0 fun v w' => ∃ (data1 : List Int) (hl_data1 : data1.length = data.length), v = .tuple #[] ∧ Q data1 ∧ Sat w0 F0 [hown 3 dataA dataC data1] w' := by
 refine fn_enter Tryd.func106 rfl Tryd.ntmps106 rfl (fs := [(0, .slice dataA data.length dataC), (1, iv a_), (2, iv b), (3, .func (.func 60) #[] #[(pn bbg 0), (pn lg 0)])]) rfl (fun a hf => ?_)
 have hs := hs0
 unfold M_insort at h
 refine wp_seq (R.list ?_)
 refine S.p hf hs (iv a_) rfl rfl fun a hf => ?_
 refine S.p hf hs (iv (w64 (a_ + 1))) rfl rfl fun a hf => ?_
 refine S.p hf hs (iv (w64 (a_ + 1))) rfl rfl fun a hf => ?_
 refine R.nil (X.then_ (wp_block ?_))
 obtain ⟨kk, h⟩ := h
 refine C.loop (fun kk a w => ∃ (l2 : List Int) (hl_l2 : l2.length = data.length) (n2 : Int), iterF (fun again (s : List Int × Int) => M_insort_L1 a_ b bb l Q (fun l2 n2 => again (l2, n2)) s.1 s.2) kk (l2, n2) ∧ FrOk 53 [(0, .slice dataA l2.length dataC), (1, iv a_), (2, iv b), (3, .func (.func 60) #[] #[(pn bbg 0), (pn lg 0)]), (8, iv n2)] a ∧ Sat w0 F0 [hown 3 dataA dataC l2] w) kk ⟨data, rfl, (w64 (a_ + 1)), h, (((((hf.nil.cons (hf.get 8 _ rfl)).cons (hf.get 3 _ rfl)).cons (hf.get 2 _ rfl)).cons (hf.get 1 _ rfl)).cons (hf.get 0 _ rfl)), hs⟩ (fun a w ⟨_, _, _, h, _, _⟩ => h) ?_
 clear h hf hs
 rintro kk a w ⟨l2, hl_l2, n2, h, hf, hs⟩
 obtain ⟨again1, hagain1⟩ : ∃ X : List Int → Int → Prop, X = (fun l2 n2 => iterF (fun again (s : List Int × Int) => M_insort_L1 a_ b bb l Q (fun l2 n2 => again (l2, n2)) s.1 s.2) kk (l2, n2)) := ⟨_, rfl⟩
 replace h : M_insort_L1 a_ b bb l Q again1 l2 n2 := by rw [hagain1]; exact h
 unfold M_insort_L1 at h
 refine wp_seq (wp_seq (R.list ?_))
 refine S.p hf hs (iv n2) rfl rfl fun a hf => ?_
 refine S.p hf hs (iv b) rfl rfl fun a hf => ?_
 refine S.p hf hs (.bool (decide (n2 < b))) rfl rfl fun a hf => ?_
 refine R.nil (X.then_ ?_)
 refine C.cond hf (b := decide (n2 < b)) rfl (fun hc => ?_) (fun hc => ?_)
 ·replace h := h.1 hc
  refine wp_skip (X.then_ (wp_seq (wp_block (wp_seq (R.list ?_)))))
  refine S.p hf hs (iv n2) rfl rfl fun a hf => ?_
  refine S.p hf hs (iv n2) rfl rfl fun a hf => ?_
  refine R.nil (X.then_ (wp_block ?_))
  obtain ⟨kk, h⟩ := h
  refine C.loop (fun kk a w => ∃ (l4 : List Int) (hl_l4 : l4.length = data.length) (n4 : Int), iterF (fun again (s : List Int × Int) => M_insort_L2 a_ bb l n2 again1 (fun l4 n4 => again (l4, n4)) s.1 s.2) kk (l4, n4) ∧ FrOk 53 [(0, .slice dataA l4.length dataC), (1, iv a_), (2, iv b), (3, .func (.func 60) #[] #[(pn bbg 0), (pn lg 0)]), (8, iv n2), (9, iv n4)] a ∧ Sat w0 F0 [hown 3 dataA dataC l4] w) kk ⟨l2, hl_l2, n2, h, ((((((hf.nil.cons (hf.get 9 _ rfl)).cons (hf.get 8 _ rfl)).cons (hf.get 3 _ rfl)).cons (hf.get 2 _ rfl)).cons (hf.get 1 _ rfl)).cons (hf.get 0 _ rfl)), hs⟩ (fun a w ⟨_, _, _, h, _, _⟩ => h) ?_
  clear h hf hs
  rintro kk a w ⟨l4, hl_l4, n4, h, hf, hs⟩
  obtain ⟨again2, hagain2⟩ : ∃ X : List Int → Int → Prop, X = (fun l4 n4 => iterF (fun again (s : List Int × Int) => M_insort_L2 a_ bb l n2 again1 (fun l4 n4 => again (l4, n4)) s.1 s.2) kk (l4, n4)) := ⟨_, rfl⟩
  replace h : M_insort_L2 a_ bb l n2 again1 again2 l4 n4 := by rw [hagain2]; exact h
  unfold M_insort_L2 at h
  refine wp_seq (wp_seq ?_)
  refine C.cut (J := fun a w => ∃ (c1 : Bool), M_insort_k3 n2 again1 l4 n4 again2 c1 ∧ FrOk 53 [(0, .slice dataA l4.length dataC), (1, iv a_), (2, iv b), (3, .func (.func 60) #[] #[(pn bbg 0), (pn lg 0)]), (8, iv n2), (9, iv n4), (34, .bool c1)] a ∧ Sat w0 F0 [hown 3 dataA dataC l4] w) ?_ ?_
  ·rintro a w ⟨c1, h, hf, hs⟩
   unfold M_insort_k3 at h
   refine C.cond hf (b := c1) rfl (fun hc => ?_) (fun hc => ?_)
   ·replace h := h.1 hc
    refine wp_skip (X.then_ (wp_seq (wp_block ?_)))
    refine M.start 15 (Sat w0 F0 [hown 3 dataA dataC l4]) mo ?_
    replace hs := hs.drew
    refine M.v hf hs (.slice dataA l4.length dataC) 0 rfl rfl (by kernel_rfl) (V.pure rfl) fun a hf => ?_
    refine M.v hf hs (iv n4) 1 rfl rfl (by kernel_rfl) (V.pure rfl) fun a hf => ?_
    refine M.valp hf hs (v := .slice dataA l4.length dataC) (i := 2) rfl rfl rfl rfl (by kernel_rfl) (by kernel_rfl) (by kernel_rfl) rfl (fun w1 => V.pure rfl) (fun a hf => ?_)
    refine M.valp hf hs (v := iv n4) (i := 3) rfl rfl rfl rfl (by kernel_rfl) (by kernel_rfl) (by kernel_rfl) rfl (fun w1 => V.pure rfl) (fun a hf => ?_)
    refine M.valp hf hs (v := iv (w64 (n4 - 1))) (i := 4) rfl rfl rfl rfl (by kernel_rfl) (by kernel_rfl) (by kernel_rfl) rfl (fun w1 => V.pure rfl) (fun a hf => ?_)
    refine M.v hf hs (.slice dataA l4.length dataC) 5 rfl rfl (by kernel_rfl) (V.pure rfl) fun a hf => ?_
    refine M.v hf hs (iv n4) 6 rfl rfl (by kernel_rfl) (V.pure rfl) fun a hf => ?_
    refine M.v hf hs (iv (w64 (n4 - 1))) 7 rfl rfl (by kernel_rfl) (V.pure rfl) fun a hf => ?_
    obtain ⟨h0x1, x1, hx1, h⟩ := h
    refine M.v hf hs (elemPtr dataA ((w64 (n4 - 1)).toNat * 1)) 8 rfl rfl (by kernel_rfl) (V.index rfl rfl rfl Tryd.runUnderlying48 Tryd.sizeOf3 (hs.ownSome 0 rfl (lt_of_get hx1)) h0x1 (lt_of_get hx1) rfl) fun a hf => ?_
    refine M.v hf hs (iv x1) 9 rfl rfl (by kernel_rfl) (V.loadOwn (off := 0) 0 rfl hx1 rfl rfl rfl Tryd.isAgg3 Tryd.sizeOf3 rfl rfl) fun a hf => ?_
    refine M.valp hf hs (v := .slice dataA l4.length dataC) (i := 10) rfl rfl rfl rfl (by kernel_rfl) (by kernel_rfl) (by kernel_rfl) rfl (fun w1 => V.pure rfl) (fun a hf => ?_)
    refine M.valp hf hs (v := iv n4) (i := 11) rfl rfl rfl rfl (by kernel_rfl) (by kernel_rfl) (by kernel_rfl) rfl (fun w1 => V.pure rfl) (fun a hf => ?_)
    obtain ⟨h0x2, x2, hx2, h⟩ := h
    refine M.valp hf hs (v := elemPtr dataA (n4.toNat * 1)) (i := 12) rfl rfl rfl rfl (by kernel_rfl) (by kernel_rfl) (by kernel_rfl) rfl (fun w1 => V.index rfl rfl rfl Tryd.runUnderlying48 Tryd.sizeOf3 (hs.ownSome 0 rfl (lt_of_get hx2)) h0x2 (lt_of_get hx2) rfl) (fun a hf => ?_)
    refine M.v hf hs (iv x2) 13 rfl rfl (by kernel_rfl) (V.loadOwn (off := 0) 0 rfl hx2 rfl rfl rfl Tryd.isAgg3 Tryd.sizeOf3 rfl rfl) fun a hf => ?_
    refine M.v hf hs (elemPtr dataA (n4.toNat * 1)) 14 rfl rfl (by kernel_rfl) (V.index rfl rfl rfl Tryd.runUnderlying48 Tryd.sizeOf3 (hs.ownSome 0 rfl (lt_of_get hx2)) h0x2 (lt_of_get hx2) rfl) fun a hf => ?_
    refine M.last (i := 15) rfl (by kernel_rfl) (by kernel_rfl) ?_
    refine S.storeOwn (off := 0) 0 hf hs rfl rfl x1 [iv x1] rfl hx2 rfl rfl rfl rfl rfl Tryd.sizeOf3 rfl (by decide) rfl rfl (fun a w hf hs => ?_)
    replace hf := hf.tell 0 (v := .slice dataA (l4.set n4.toNat x1).length dataC) ((hf.get 0 (.slice dataA l4.length dataC) rfl).trans (congrArg (fun n => Value.slice dataA n dataC) List.length_set.symm))
    replace hf := hf.tell 37 (v := .slice dataA (l4.set n4.toNat x1).length dataC) ((hf.get 37 (.slice dataA l4.length dataC) rfl).trans (congrArg (fun n => Value.slice dataA n dataC) List.length_set.symm))
    replace hf := hf.tell 39 (v := .slice dataA (l4.set n4.toNat x1).length dataC) ((hf.get 39 (.slice dataA l4.length dataC) rfl).trans (congrArg (fun n => Value.slice dataA n dataC) List.length_set.symm))
    replace hf := hf.tell 42 (v := .slice dataA (l4.set n4.toNat x1).length dataC) ((hf.get 42 (.slice dataA l4.length dataC) rfl).trans (congrArg (fun n => Value.slice dataA n dataC) List.length_set.symm))
    replace hf := hf.tell 47 (v := .slice dataA (l4.set n4.toNat x1).length dataC) ((hf.get 47 (.slice dataA l4.length dataC) rfl).trans (congrArg (fun n => Value.slice dataA n dataC) List.length_set.symm))
    refine R.nil (X.then_ ?_)
    refine M.last (i := 16) rfl (by kernel_rfl) (by kernel_rfl) ?_
    obtain ⟨h0x3, x3, hx3, h⟩ := h
    refine S.v hf hs (elemPtr dataA ((w64 (n4 - 1)).toNat * 1)) rfl (V.index rfl rfl rfl Tryd.runUnderlying48 Tryd.sizeOf3 (hs.ownSome 0 rfl (lt_of_get hx3)) h0x3 (lt_of_get hx3) rfl) fun a hf => ?_
    refine R.nil (X.then_ ?_)
    refine M.last (i := 17) rfl (by kernel_rfl) (by kernel_rfl) ?_
    refine S.storeOwn (off := 0) 0 hf hs rfl rfl x2 [iv x2] rfl hx3 rfl rfl rfl rfl rfl Tryd.sizeOf3 rfl (by decide) rfl rfl (fun a w hf hs => ?_)
    replace hf := hf.tell 0 (v := .slice dataA ((l4.set n4.toNat x1).set ((w64 (n4 - 1)).toNat) x2).length dataC) ((hf.get 0 (.slice dataA (l4.set n4.toNat x1).length dataC) rfl).trans (congrArg (fun n => Value.slice dataA n dataC) List.length_set.symm))
    replace hf := hf.tell 37 (v := .slice dataA ((l4.set n4.toNat x1).set ((w64 (n4 - 1)).toNat) x2).length dataC) ((hf.get 37 (.slice dataA (l4.set n4.toNat x1).length dataC) rfl).trans (congrArg (fun n => Value.slice dataA n dataC) List.length_set.symm))
    replace hf := hf.tell 39 (v := .slice dataA ((l4.set n4.toNat x1).set ((w64 (n4 - 1)).toNat) x2).length dataC) ((hf.get 39 (.slice dataA (l4.set n4.toNat x1).length dataC) rfl).trans (congrArg (fun n => Value.slice dataA n dataC) List.length_set.symm))
    replace hf := hf.tell 42 (v := .slice dataA ((l4.set n4.toNat x1).set ((w64 (n4 - 1)).toNat) x2).length dataC) ((hf.get 42 (.slice dataA (l4.set n4.toNat x1).length dataC) rfl).trans (congrArg (fun n => Value.slice dataA n dataC) List.length_set.symm))
    replace hf := hf.tell 47 (v := .slice dataA ((l4.set n4.toNat x1).set ((w64 (n4 - 1)).toNat) x2).length dataC) ((hf.get 47 (.slice dataA (l4.set n4.toNat x1).length dataC) rfl).trans (congrArg (fun n => Value.slice dataA n dataC) List.length_set.symm))
    refine R.nil (X.then_ ?_)
    refine M.done (by kernel_rfl) ?_
    refine X.blk (X.then_ (R.list ?_))
    refine S.p hf hs (iv n4) rfl rfl fun a hf => ?_
    refine S.p hf hs (iv (w64 (n4 - 1))) rfl rfl fun a hf => ?_
    refine S.p hf hs (iv (w64 (n4 - 1))) rfl rfl fun a hf => ?_
    refine R.nil (X.then_ ?_)
    exact ⟨((l4.set n4.toNat x1).set ((w64 (n4 - 1)).toNat) x2), (List.length_set.trans (List.length_set.trans hl_l4)), (w64 (n4 - 1)), (by rw [hagain2] at h; exact h), ((((((hf.nil.cons (hf.get 9 _ rfl)).cons (hf.get 8 _ rfl)).cons (hf.get 3 _ rfl)).cons (hf.get 2 _ rfl)).cons (hf.get 1 _ rfl)).cons (hf.get 0 _ rfl)), hs⟩
   ·replace h := h.2 hc
    refine wp_exit (X.then_exit (X.then_exit (X.blk_exit (X.blk (X.then_ (R.list ?_))))))
    refine S.p hf hs (iv n2) rfl rfl fun a hf => ?_
    refine S.p hf hs (iv (w64 (n2 + 1))) rfl rfl fun a hf => ?_
    refine S.p hf hs (iv (w64 (n2 + 1))) rfl rfl fun a hf => ?_
    refine R.nil (X.then_ ?_)
    exact ⟨l4, hl_l4, (w64 (n2 + 1)), (by rw [hagain1] at h; exact h), (((((hf.nil.cons (hf.get 8 _ rfl)).cons (hf.get 3 _ rfl)).cons (hf.get 2 _ rfl)).cons (hf.get 1 _ rfl)).cons (hf.get 0 _ rfl)), hs⟩
  ·skip
   refine H.start (S := Sat w0 F0 [hown 3 dataA dataC l4]) mo ?_
   replace hs := hs.drew
   refine H.v hf hs (iv n4) 0 rfl rfl (by kernel_rfl) (V.pure rfl) fun a hf => ?_
   refine H.v hf hs (iv a_) 1 rfl rfl (by kernel_rfl) (V.pure rfl) fun a hf => ?_
   refine H.v hf hs (.bool (decide (n4 > a_))) 2 rfl rfl (by kernel_rfl) (V.pure rfl) fun a hf => ?_
   refine H.split hf hs (b := decide (n4 > a_)) (i := 3) rfl rfl rfl rfl (by kernel_rfl) (by kernel_rfl) (by kernel_rfl) (V.pure rfl) (fun hc a hf => ?_) (fun hc a hf => ?_)
   ·replace h := h.1 hc
    refine H.v hf hs (.func (.func 60) #[] #[(pn bbg 0), (pn lg 0)]) 4 rfl rfl (by kernel_rfl) (V.pure rfl) fun a hf => ?_
    refine H.v hf hs (.slice dataA l4.length dataC) 5 rfl rfl (by kernel_rfl) (V.pure rfl) fun a hf => ?_
    refine H.v hf hs (iv n4) 6 rfl rfl (by kernel_rfl) (V.pure rfl) fun a hf => ?_
    obtain ⟨h0x4, x4, hx4, h⟩ := h
    refine H.v hf hs (elemPtr dataA (n4.toNat * 1)) 7 rfl rfl (by kernel_rfl) (V.index rfl rfl rfl Tryd.runUnderlying48 Tryd.sizeOf3 (hs.ownSome 0 rfl (lt_of_get hx4)) h0x4 (lt_of_get hx4) rfl) fun a hf => ?_
    refine H.v hf hs (iv x4) 8 rfl rfl (by kernel_rfl) (V.loadOwn (off := 0) 0 rfl hx4 rfl rfl rfl Tryd.isAgg3 Tryd.sizeOf3 rfl rfl) fun a hf => ?_
    refine H.v hf hs (.slice dataA l4.length dataC) 9 rfl rfl (by kernel_rfl) (V.pure rfl) fun a hf => ?_
    refine H.v hf hs (iv n4) 10 rfl rfl (by kernel_rfl) (V.pure rfl) fun a hf => ?_
    refine H.v hf hs (iv (w64 (n4 - 1))) 11 rfl rfl (by kernel_rfl) (V.pure rfl) fun a hf => ?_
    obtain ⟨h0x5, x5, hx5, h⟩ := h
    refine H.v hf hs (elemPtr dataA ((w64 (n4 - 1)).toNat * 1)) 12 rfl rfl (by kernel_rfl) (V.index rfl rfl rfl Tryd.runUnderlying48 Tryd.sizeOf3 (hs.ownSome 0 rfl (lt_of_get hx5)) h0x5 (lt_of_get hx5) rfl) fun a hf => ?_
    refine H.v hf hs (iv x5) 13 rfl rfl (by kernel_rfl) (V.loadOwn (off := 0) 0 rfl hx5 rfl rfl rfl Tryd.isAgg3 Tryd.sizeOf3 rfl rfl) fun a hf => ?_
    refine H.one (i := 14) rfl (by kernel_rfl) ?_
    refine S.call hf rfl rfl rfl (call_run (args := #[iv x4, iv x5, (pn bbg 0), (pn lg 0)]) rfl rfl rfl Tryd.call60 (by simp)) (R_Ordered1 x4 x5 bb l _ bbA bbC ((Ag.args _ _ _).view hv_bb hs) bbg ((Ag.args _ _ _).elem hb_bb hs) lA lC ((Ag.args _ _ _).view hv_l hs) lg ((Ag.args _ _ _).elem hb_l hs) _ h) (fun v a w' hf hr => ?_)
    obtain ⟨y1, rfl, h2, hs2⟩ := hr
    replace h := h2; replace hs := hs.call hs2; clear h2 hs2
    refine R.nil (X.then_ ?_)
    refine ⟨hs, ?_⟩
    refine H.v hf hs (.bool (decide (y1 < 0))) 15 rfl rfl (by kernel_rfl) (V.pure rfl) fun a hf => ?_
    refine H.v hf hs (.bool (decide (y1 < 0))) 16 rfl rfl (by kernel_rfl) (V.pure rfl) fun a hf => ?_
    refine H.done (by kernel_rfl) ?_
    refine X.then_ ?_
    exact ⟨(decide (y1 < 0)), h, (((((((hf.nil.cons (hf.get 34 _ rfl)).cons (hf.get 9 _ rfl)).cons (hf.get 8 _ rfl)).cons (hf.get 3 _ rfl)).cons (hf.get 2 _ rfl)).cons (hf.get 1 _ rfl)).cons (hf.get 0 _ rfl)), hs⟩
   ·replace h := h.2 hc
    refine H.k hf hs 4 rfl rfl (by kernel_rfl) fun a hf => ?_
    refine H.k hf hs 5 rfl rfl (by kernel_rfl) fun a hf => ?_
    refine H.k hf hs 6 rfl rfl (by kernel_rfl) fun a hf => ?_
    refine H.k hf hs 7 rfl rfl (by kernel_rfl) fun a hf => ?_
    refine H.k hf hs 8 rfl rfl (by kernel_rfl) fun a hf => ?_
    refine H.k hf hs 9 rfl rfl (by kernel_rfl) fun a hf => ?_
    refine H.k hf hs 10 rfl rfl (by kernel_rfl) fun a hf => ?_
    refine H.k hf hs 11 rfl rfl (by kernel_rfl) fun a hf => ?_
    refine H.k hf hs 12 rfl rfl (by kernel_rfl) fun a hf => ?_
    refine H.k hf hs 13 rfl rfl (by kernel_rfl) fun a hf => ?_
    refine H.one (i := 14) rfl (by kernel_rfl) ?_
    refine S.k hf rfl fun a hf => ?_
    refine R.nil (X.then_ ?_)
    refine ⟨hs, ?_⟩
    refine H.k hf hs 15 rfl rfl (by kernel_rfl) fun a hf => ?_
    refine H.v hf hs (.bool false) 16 rfl rfl (by kernel_rfl) (V.pure rfl) fun a hf => ?_
    refine H.done (by kernel_rfl) ?_
    refine X.then_ ?_
    exact ⟨false, h, (((((((hf.nil.cons (hf.get 34 _ rfl)).cons (hf.get 9 _ rfl)).cons (hf.get 8 _ rfl)).cons (hf.get 3 _ rfl)).cons (hf.get 2 _ rfl)).cons (hf.get 1 _ rfl)).cons (hf.get 0 _ rfl)), hs⟩
 ·replace h := h.2 hc
  refine wp_exit (X.then_exit (X.then_exit (X.blk_exit ?_)))
  replace hs := hs.take 1
  exact L.end0 Tryd.results106 hf ⟨l2, hl_l2, rfl, h, hs⟩
set_option linter.unusedVariables false
def M_swapRange_L1 (a_ : Int) (b : Int) (n : Int) (Q : (List Int) → Prop) (again1 : List Int → Int → Prop) (l2 : List Int) (n2 : Int) : Prop :=
  cnd (decide (n2 < n)) (idx l2 (w64 (b + n2)) fun x1 => idx l2 (w64 (a_ + n2)) fun x2 => idx (l2.set ((w64 (a_ + n2)).toNat) x1) (w64 (b + n2)) fun x3 => again1 ((l2.set ((w64 (a_ + n2)).toNat) x1).set ((w64 (b + n2)).toNat) x2) (w64 (n2 + 1))) (Q l2)
def M_swapRange (data : (List Int)) (a_ : Int) (b : Int) (n : Int) (bb : (List Body)) (l : (List Place)) (Q : (List Int) → Prop) : Prop :=
  lp (fun again (s : List Int × Int) => M_swapRange_L1 a_ b n Q (fun l2 n2 => again (l2, n2)) s.1 s.2) (data, 0)
set_option maxHeartbeats 1000000 in
theorem R_swapRange (data : (List Int)) (a_ : Int) (b : Int) (n : Int) (bb : (List Body)) (l : (List Place)) (w0 : World) (F0 : Nat → Prop) (dataA : Option Addr) (dataC : Nat) (bbA : Option Addr) (bbC : Nat) (hv_bb : View w0 (old w0 F0) bbA bbC bb) (bbg : Nat) (hb_bb : ElemAt w0 (old w0 F0) (some ⟨bbg, 0, none⟩) 0 [.slice bbA bb.length bbC]) (lA : Option Addr) (lC : Nat) (hv_l : View w0 (old w0 F0) lA lC l) (lg : Nat) (hb_l : ElemAt w0 (old w0 F0) (some ⟨lg, 0, none⟩) 0 [.slice lA l.length lC]) (hs0 : Sat w0 F0 [hown 3 dataA dataC data] w0) (Q : (List Int) → Prop) (h : M_swapRange data a_ b n bb l Q) :
  Ret Tryd.prog 132 #[.slice dataA data.length dataC, iv a_, iv b, iv n, .func (.func 60) #[] #[(pn bbg 0), (pn lg 0)]] w0 fun v w' => ∃ (data1 : List Int) (hl_data1 : data1.length = data.length), v = .tuple #[] ∧ Q data1 ∧ Sat w0 F0 [hown 3 dataA dataC data1] w' := by
 refine fn_enter Tryd.func132 rfl Tryd.ntmps132 rfl (fs := [(0, .slice dataA data.length dataC), (1, iv a_), (2, iv b), (3, iv n), (4, .func (.func 60) #[] #[(pn bbg 0), (pn lg 0)])]) rfl (fun a hf => ?_)
 have hs := hs0
 unfold M_swapRange at h
 refine wp_seq (R.list ?_)
 refine S.p hf hs (iv 0) rfl rfl fun a hf => ?_
 refine R.nil (X.then_ (wp_block ?_))
 obtain ⟨kk, h⟩ := h
 refine C.loop (fun kk a w => ∃ (l2 : List Int) (hl_l2 : l2.length = data.length) (n2 : Int), iterF (fun again (s : List Int × Int) => M_swapRange_L1 a_ b n Q (fun l2 n2 => again (l2, n2)) s.1 s.2) kk (l2, n2) ∧ FrOk 38 [(0, .slice dataA l2.length dataC), (1, iv a_), (2, iv b), (3, iv n), (10, iv n2)] a ∧ Sat w0 F0 [hown 3 dataA dataC l2] w) kk ⟨data, rfl, 0, h, (((((hf.nil.cons (hf.get 10 _ rfl)).cons (hf.get 3 _ rfl)).cons (hf.get 2 _ rfl)).cons (hf.get 1 _ rfl)).cons (hf.get 0 _ rfl)), hs⟩ (fun a w ⟨_, _, _, h, _, _⟩ => h) ?_
 clear h hf hs
 rintro kk a w ⟨l2, hl_l2, n2, h, hf, hs⟩
 obtain ⟨again1, hagain1⟩ : ∃ X : List Int → Int → Prop, X = (fun l2 n2 => iterF (fun again (s : List Int × Int) => M_swapRange_L1 a_ b n Q (fun l2 n2 => again (l2, n2)) s.1 s.2) kk (l2, n2)) := ⟨_, rfl⟩
 replace h : M_swapRange_L1 a_ b n Q again1 l2 n2 := by rw [hagain1]; exact h
 unfold M_swapRange_L1 at h
 refine wp_seq (wp_seq (R.list ?_))
 refine S.p hf hs (iv n2) rfl rfl fun a hf => ?_
 refine S.p hf hs (iv n) rfl rfl fun a hf => ?_
 refine S.p hf hs (.bool (decide (n2 < n))) rfl rfl fun a hf => ?_
 refine R.nil (X.then_ ?_)
 refine C.cond hf (b := decide (n2 < n)) rfl (fun hc => ?_) (fun hc => ?_)
 ·replace h := h.1 hc
  refine wp_skip (X.then_ (wp_seq (wp_block ?_)))
  refine M.start 21 (Sat w0 F0 [hown 3 dataA dataC l2]) mo ?_
  replace hs := hs.drew
  refine M.v hf hs (.slice dataA l2.length dataC) 0 rfl rfl (by kernel_rfl) (V.pure rfl) fun a hf => ?_
  refine M.v hf hs (iv a_) 1 rfl rfl (by kernel_rfl) (V.pure rfl) fun a hf => ?_
  refine M.v hf hs (iv n2) 2 rfl rfl (by kernel_rfl) (V.pure rfl) fun a hf => ?_
  refine M.v hf hs (iv (w64 (a_ + n2))) 3 rfl rfl (by kernel_rfl) (V.pure rfl) fun a hf => ?_
  refine M.valp hf hs (v := .slice dataA l2.length dataC) (i := 4) rfl rfl rfl rfl (by kernel_rfl) (by kernel_rfl) (by kernel_rfl) rfl (fun w1 => V.pure rfl) (fun a hf => ?_)
  refine M.valp hf hs (v := iv b) (i := 5) rfl rfl rfl rfl (by kernel_rfl) (by kernel_rfl) (by kernel_rfl) rfl (fun w1 => V.pure rfl) (fun a hf => ?_)
  refine M.valp hf hs (v := iv n2) (i := 6) rfl rfl rfl rfl (by kernel_rfl) (by kernel_rfl) (by kernel_rfl) rfl (fun w1 => V.pure rfl) (fun a hf => ?_)
  refine M.valp hf hs (v := iv (w64 (b + n2))) (i := 7) rfl rfl rfl rfl (by kernel_rfl) (by kernel_rfl) (by kernel_rfl) rfl (fun w1 => V.pure rfl) (fun a hf => ?_)
  refine M.v hf hs (.slice dataA l2.length dataC) 8 rfl rfl (by kernel_rfl) (V.pure rfl) fun a hf => ?_
  refine M.v hf hs (iv b) 9 rfl rfl (by kernel_rfl) (V.pure rfl) fun a hf => ?_
  refine M.v hf hs (iv n2) 10 rfl rfl (by kernel_rfl) (V.pure rfl) fun a hf => ?_
  refine M.v hf hs (iv (w64 (b + n2))) 11 rfl rfl (by kernel_rfl) (V.pure rfl) fun a hf => ?_
  obtain ⟨h0x1, x1, hx1, h⟩ := h
  refine M.v hf hs (elemPtr dataA ((w64 (b + n2)).toNat * 1)) 12 rfl rfl (by kernel_rfl) (V.index rfl rfl rfl Tryd.runUnderlying48 Tryd.sizeOf3 (hs.ownSome 0 rfl (lt_of_get hx1)) h0x1 (lt_of_get hx1) rfl) fun a hf => ?_
  refine M.v hf hs (iv x1) 13 rfl rfl (by kernel_rfl) (V.loadOwn (off := 0) 0 rfl hx1 rfl rfl rfl Tryd.isAgg3 Tryd.sizeOf3 rfl rfl) fun a hf => ?_
  refine M.valp hf hs (v := .slice dataA l2.length dataC) (i := 14) rfl rfl rfl rfl (by kernel_rfl) (by kernel_rfl) (by kernel_rfl) rfl (fun w1 => V.pure rfl) (fun a hf => ?_)
  refine M.valp hf hs (v := iv a_) (i := 15) rfl rfl rfl rfl (by kernel_rfl) (by kernel_rfl) (by kernel_rfl) rfl (fun w1 => V.pure rfl) (fun a hf => ?_)
  refine M.valp hf hs (v := iv n2) (i := 16) rfl rfl rfl rfl (by kernel_rfl) (by kernel_rfl) (by kernel_rfl) rfl (fun w1 => V.pure rfl) (fun a hf => ?_)
  refine M.valp hf hs (v := iv (w64 (a_ + n2))) (i := 17) rfl rfl rfl rfl (by kernel_rfl) (by kernel_rfl) (by kernel_rfl) rfl (fun w1 => V.pure rfl) (fun a hf => ?_)
  obtain ⟨h0x2, x2, hx2, h⟩ := h
  refine M.valp hf hs (v := elemPtr dataA ((w64 (a_ + n2)).toNat * 1)) (i := 18) rfl rfl rfl rfl (by kernel_rfl) (by kernel_rfl) (by kernel_rfl) rfl (fun w1 => V.index rfl rfl rfl Tryd.runUnderlying48 Tryd.sizeOf3 (hs.ownSome 0 rfl (lt_of_get hx2)) h0x2 (lt_of_get hx2) rfl) (fun a hf => ?_)
  refine M.v hf hs (iv x2) 19 rfl rfl (by kernel_rfl) (V.loadOwn (off := 0) 0 rfl hx2 rfl rfl rfl Tryd.isAgg3 Tryd.sizeOf3 rfl rfl) fun a hf => ?_
  refine M.v hf hs (elemPtr dataA ((w64 (a_ + n2)).toNat * 1)) 20 rfl rfl (by kernel_rfl) (V.index rfl rfl rfl Tryd.runUnderlying48 Tryd.sizeOf3 (hs.ownSome 0 rfl (lt_of_get hx2)) h0x2 (lt_of_get hx2) rfl) fun a hf => ?_
  refine M.last (i := 21) rfl (by kernel_rfl) (by kernel_rfl) ?_
  refine S.storeOwn (off := 0) 0 hf hs rfl rfl x1 [iv x1] rfl hx2 rfl rfl rfl rfl rfl Tryd.sizeOf3 rfl (by decide) rfl rfl (fun a w hf hs => ?_)
  replace hf := hf.tell 0 (v := .slice dataA (l2.set ((w64 (a_ + n2)).toNat) x1).length dataC) ((hf.get 0 (.slice dataA l2.length dataC) rfl).trans (congrArg (fun n => Value.slice dataA n dataC) List.length_set.symm))
  replace hf := hf.tell 16 (v := .slice dataA (l2.set ((w64 (a_ + n2)).toNat) x1).length dataC) ((hf.get 16 (.slice dataA l2.length dataC) rfl).trans (congrArg (fun n => Value.slice dataA n dataC) List.length_set.symm))
  replace hf := hf.tell 20 (v := .slice dataA (l2.set ((w64 (a_ + n2)).toNat) x1).length dataC) ((hf.get 20 (.slice dataA l2.length dataC) rfl).trans (congrArg (fun n => Value.slice dataA n dataC) List.length_set.symm))
  replace hf := hf.tell 24 (v := .slice dataA (l2.set ((w64 (a_ + n2)).toNat) x1).length dataC) ((hf.get 24 (.slice dataA l2.length dataC) rfl).trans (congrArg (fun n => Value.slice dataA n dataC) List.length_set.symm))
  replace hf := hf.tell 30 (v := .slice dataA (l2.set ((w64 (a_ + n2)).toNat) x1).length dataC) ((hf.get 30 (.slice dataA l2.length dataC) rfl).trans (congrArg (fun n => Value.slice dataA n dataC) List.length_set.symm))
  refine R.nil (X.then_ ?_)
  refine M.last (i := 22) rfl (by kernel_rfl) (by kernel_rfl) ?_
  obtain ⟨h0x3, x3, hx3, h⟩ := h
  refine S.v hf hs (elemPtr dataA ((w64 (b + n2)).toNat * 1)) rfl (V.index rfl rfl rfl Tryd.runUnderlying48 Tryd.sizeOf3 (hs.ownSome 0 rfl (lt_of_get hx3)) h0x3 (lt_of_get hx3) rfl) fun a hf => ?_
  refine R.nil (X.then_ ?_)
  refine M.last (i := 23) rfl (by kernel_rfl) (by kernel_rfl) ?_
  refine S.storeOwn (off := 0) 0 hf hs rfl rfl x2 [iv x2] rfl hx3 rfl rfl rfl rfl rfl Tryd.sizeOf3 rfl (by decide) rfl rfl (fun a w hf hs => ?_)
  replace hf := hf.tell 0 (v := .slice dataA ((l2.set ((w64 (a_ + n2)).toNat) x1).set ((w64 (b + n2)).toNat) x2).length dataC) ((hf.get 0 (.slice dataA (l2.set ((w64 (a_ + n2)).toNat) x1).length dataC) rfl).trans (congrArg (fun n => Value.slice dataA n dataC) List.length_set.symm))
  replace hf := hf.tell 16 (v := .slice dataA ((l2.set ((w64 (a_ + n2)).toNat) x1).set ((w64 (b + n2)).toNat) x2).length dataC) ((hf.get 16 (.slice dataA (l2.set ((w64 (a_ + n2)).toNat) x1).length dataC) rfl).trans (congrArg (fun n => Value.slice dataA n dataC) List.length_set.symm))
  replace hf := hf.tell 20 (v := .slice dataA ((l2.set ((w64 (a_ + n2)).toNat) x1).set ((w64 (b + n2)).toNat) x2).length dataC) ((hf.get 20 (.slice dataA (l2.set ((w64 (a_ + n2)).toNat) x1).length dataC) rfl).trans (congrArg (fun n => Value.slice dataA n dataC) List.length_set.symm))
  replace hf := hf.tell 24 (v := .slice dataA ((l2.set ((w64 (a_ + n2)).toNat) x1).set ((w64 (b + n2)).toNat) x2).length dataC) ((hf.get 24 (.slice dataA (l2.set ((w64 (a_ + n2)).toNat) x1).length dataC) rfl).trans (congrArg (fun n => Value.slice dataA n dataC) List.length_set.symm))
  replace hf := hf.tell 30 (v := .slice dataA ((l2.set ((w64 (a_ + n2)).toNat) x1).set ((w64 (b + n2)).toNat) x2).length dataC) ((hf.get 30 (.slice dataA (l2.set ((w64 (a_ + n2)).toNat) x1).length dataC) rfl).trans (congrArg (fun n => Value.slice dataA n dataC) List.length_set.symm))
  refine R.nil (X.then_ ?_)
  refine M.done (by kernel_rfl) ?_
  refine X.blk (X.then_ (R.list ?_))
  refine S.p hf hs (iv n2) rfl rfl fun a hf => ?_
  refine S.p hf hs (iv (w64 (n2 + 1))) rfl rfl fun a hf => ?_
  refine S.p hf hs (iv (w64 (n2 + 1))) rfl rfl fun a hf => ?_
  refine R.nil (X.then_ ?_)
  exact ⟨((l2.set ((w64 (a_ + n2)).toNat) x1).set ((w64 (b + n2)).toNat) x2), (List.length_set.trans (List.length_set.trans hl_l2)), (w64 (n2 + 1)), (by rw [hagain1] at h; exact h), (((((hf.nil.cons (hf.get 10 _ rfl)).cons (hf.get 3 _ rfl)).cons (hf.get 2 _ rfl)).cons (hf.get 1 _ rfl)).cons (hf.get 0 _ rfl)), hs⟩
 ·replace h := h.2 hc
  refine wp_exit (X.then_exit (X.then_exit (X.blk_exit ?_)))
  replace hs := hs.take 1
  exact L.end0 Tryd.results132 hf ⟨l2, hl_l2, rfl, h, hs⟩
set_option linter.unusedVariables false
def M_rotate_L1 (m : Int) (bb : (List Body)) (l : (List Place)) (Q : (List Int) → Prop) (again1 : List Int → Int → Int → Prop) (l2 : List Int) (n3 : Int) (n4 : Int) : Prop :=
  cnd (n3 != n4) (cnd (decide (n3 > n4)) (M_swapRange l2 (w64 (m - n3)) m n4 bb l fun z1 => again1 z1 (w64 (n3 - n4)) n4) (M_swapRange l2 (w64 (m - n3)) (w64 ((w64 (m + n4)) - n3)) n3 bb l fun z2 => again1 z2 n3 (w64 (n4 - n3)))) (M_swapRange l2 (w64 (m - n3)) m n3 bb l fun z3 => Q z3)
def M_rotate (data : (List Int)) (a_ : Int) (m : Int) (b : Int) (bb : (List Body)) (l : (List Place)) (Q : (List Int) → Prop) : Prop :=
  lp (fun again (s : List Int × Int × Int) => M_rotate_L1 m bb l Q (fun l2 n3 n4 => again (l2, n3, n4)) s.1 s.2.1 s.2.2) (data, w64 (m - a_), w64 (b - m))
set_option maxHeartbeats 1000000 in
theorem R_rotate (data : (List Int)) (a_ : Int) (m : Int) (b : Int) (bb : (List Body)) (l : (List Place)) (w0 : World) (F0 : Nat → Prop) (dataA : Option Addr) (dataC : Nat) (bbA : Option Addr) (bbC : Nat) (hv_bb : View w0 (old w0 F0) bbA bbC bb) (bbg : Nat) (hb_bb : ElemAt w0 (old w0 F0) (some ⟨bbg, 0, none⟩) 0 [.slice bbA bb.length bbC]) (lA : Option Addr) (lC : Nat) (hv_l : View w0 (old w0 F0) lA lC l) (lg : Nat) (hb_l : ElemAt w0 (old w0 F0) (some ⟨lg, 0, none⟩) 0 [.slice lA l.length lC]) (hs0 : Sat w0 F0 [hown 3 dataA dataC data] w0) (Q : (List Int) → Prop) (h : M_rotate data a_ m b bb l Q) :
  Ret Tryd.prog 116 #[.slice dataA data.length dataC, iv a_, iv m, iv b, .func (.func 60) #[] #[(pn bbg 0), (pn lg 0)]] w0 fun v w' => ∃ (data1 : List Int) (hl_data1 : data1.length = data.length), v = .tuple #[] ∧ Q data1 ∧ Sat w0 F0 [hown 3 dataA dataC data1] w' := by
 refine fn_enter Tryd.func116 rfl Tryd.ntmps116 rfl (fs := [(0, .slice dataA data.length dataC), (1, iv a_), (2, iv m), (3, iv b), (4, .func (.func 60) #[] #[(pn bbg 0), (pn lg 0)])]) rfl (fun a hf => ?_)
 have hs := hs0
 unfold M_rotate at h
 refine wp_seq (R.list ?_)
 refine S.p hf hs (iv m) rfl rfl fun a hf => ?_
 refine S.p hf hs (iv a_) rfl rfl fun a hf => ?_
 refine S.p hf hs (iv (w64 (m - a_))) rfl rfl fun a hf => ?_
 refine S.p hf hs (iv (w64 (m - a_))) rfl rfl fun a hf => ?_
 refine R.nil (X.then_ (wp_seq (R.list ?_)))
 refine S.p hf hs (iv b) rfl rfl fun a hf => ?_
 refine S.p hf hs (iv m) rfl rfl fun a hf => ?_
 refine S.p hf hs (iv (w64 (b - m))) rfl rfl fun a hf => ?_
 refine S.p hf hs (iv (w64 (b - m))) rfl rfl fun a hf => ?_
 refine R.nil (X.then_ (wp_seq (wp_block ?_)))
 obtain ⟨kk, h⟩ := h
 refine C.loop (fun kk a w => ∃ (l2 : List Int) (hl_l2 : l2.length = data.length) (n3 : Int) (n4 : Int), iterF (fun again (s : List Int × Int × Int) => M_rotate_L1 m bb l Q (fun l2 n3 n4 => again (l2, n3, n4)) s.1 s.2.1 s.2.2) kk (l2, n3, n4) ∧ FrOk 58 [(0, .slice dataA l2.length dataC), (2, iv m), (4, .func (.func 60) #[] #[(pn bbg 0), (pn lg 0)]), (10, iv n3), (11, iv n4)] a ∧ Sat w0 F0 [hown 3 dataA dataC l2] w) kk ⟨data, rfl, (w64 (m - a_)), (w64 (b - m)), h, (((((hf.nil.cons (hf.get 11 _ rfl)).cons (hf.get 10 _ rfl)).cons (hf.get 4 _ rfl)).cons (hf.get 2 _ rfl)).cons (hf.get 0 _ rfl)), hs⟩ (fun a w ⟨_, _, _, _, h, _, _⟩ => h) ?_
 clear h hf hs
 rintro kk a w ⟨l2, hl_l2, n3, n4, h, hf, hs⟩
 obtain ⟨again1, hagain1⟩ : ∃ X : List Int → Int → Int → Prop, X = (fun l2 n3 n4 => iterF (fun again (s : List Int × Int × Int) => M_rotate_L1 m bb l Q (fun l2 n3 n4 => again (l2, n3, n4)) s.1 s.2.1 s.2.2) kk (l2, n3, n4)) := ⟨_, rfl⟩
 replace h : M_rotate_L1 m bb l Q again1 l2 n3 n4 := by rw [hagain1]; exact h
 unfold M_rotate_L1 at h
 refine wp_seq (wp_seq (R.list ?_))
 refine S.p hf hs (iv n3) rfl rfl fun a hf => ?_
 refine S.p hf hs (iv n4) rfl rfl fun a hf => ?_
 refine S.p hf hs (.bool (n3 != n4)) rfl rfl fun a hf => ?_
 refine R.nil (X.then_ ?_)
 refine C.cond hf (b := n3 != n4) rfl (fun hc => ?_) (fun hc => ?_)
 ·replace h := h.1 hc
  refine wp_skip (X.then_ (wp_block (wp_seq (R.list ?_))))
  refine S.p hf hs (iv n3) rfl rfl fun a hf => ?_
  refine S.p hf hs (iv n4) rfl rfl fun a hf => ?_
  refine S.p hf hs (.bool (decide (n3 > n4))) rfl rfl fun a hf => ?_
  refine R.nil (X.then_ ?_)
  refine C.cond hf (b := decide (n3 > n4)) rfl (fun hc => ?_) (fun hc => ?_)
  ·replace h := h.1 hc
   refine wp_seq (R.list ?_)
   refine S.p hf hs (.slice dataA l2.length dataC) rfl rfl fun a hf => ?_
   refine S.p hf hs (iv m) rfl rfl fun a hf => ?_
   refine S.p hf hs (iv n3) rfl rfl fun a hf => ?_
   refine S.p hf hs (iv (w64 (m - n3))) rfl rfl fun a hf => ?_
   refine S.p hf hs (iv m) rfl rfl fun a hf => ?_
   refine S.p hf hs (iv n4) rfl rfl fun a hf => ?_
   refine S.p hf hs (.func (.func 60) #[] #[(pn bbg 0), (pn lg 0)]) rfl rfl fun a hf => ?_
   obtain ⟨F1, hsF, hback, hold, hrest⟩ := Sat.callOwns [hown 3 dataA dataC l2] (σ := []) hs
   refine S.call hf rfl rfl rfl (call_fn (vs := [.slice dataA l2.length dataC, iv (w64 (m - n3)), iv m, iv n4, .func (.func 60) #[] #[(pn bbg 0), (pn lg 0)]]) rfl rfl rfl Tryd.call132) (R_swapRange l2 (w64 (m - n3)) m n4 bb l _ _ dataA dataC bbA bbC (viewArgsF hs hold hv_bb) bbg (elemArgsF hs hold hb_bb) lA lC (viewArgsF hs hold hv_l) lg (elemArgsF hs hold hb_l) hsF _ h) (fun v a w' hf hr => ?_)
   obtain ⟨z1, hl_z1, rfl, h2, hs2⟩ := hr
   replace h := h2; replace hs := hback _ _ hs2; clear h2 hs2 hback hold hrest hsF
   replace hf := hf.tell 0 (v := .slice dataA z1.length dataC) ((hf.get 0 (.slice dataA l2.length dataC) rfl).trans (congrArg (fun n => Value.slice dataA n dataC) hl_z1.symm))
   replace hf := hf.tell 24 (v := .slice dataA z1.length dataC) ((hf.get 24 (.slice dataA l2.length dataC) rfl).trans (congrArg (fun n => Value.slice dataA n dataC) hl_z1.symm))
   refine R.nil (X.then_ (R.list ?_))
   refine S.p hf hs (iv n3) rfl rfl fun a hf => ?_
   refine S.p hf hs (iv n4) rfl rfl fun a hf => ?_
   refine S.p hf hs (iv (w64 (n3 - n4))) rfl rfl fun a hf => ?_
   refine S.p hf hs (iv (w64 (n3 - n4))) rfl rfl fun a hf => ?_
   refine R.nil (X.blk (X.then_ ?_))
   exact ⟨z1, (hl_z1.trans hl_l2), (w64 (n3 - n4)), n4, (by rw [hagain1] at h; exact h), (((((hf.nil.cons (hf.get 11 _ rfl)).cons (hf.get 10 _ rfl)).cons (hf.get 4 _ rfl)).cons (hf.get 2 _ rfl)).cons (hf.get 0 _ rfl)), hs⟩
  ·replace h := h.2 hc
   refine wp_seq (R.list ?_)
   refine S.p hf hs (.slice dataA l2.length dataC) rfl rfl fun a hf => ?_
   refine S.p hf hs (iv m) rfl rfl fun a hf => ?_
   refine S.p hf hs (iv n3) rfl rfl fun a hf => ?_
   refine S.p hf hs (iv (w64 (m - n3))) rfl rfl fun a hf => ?_
   refine S.p hf hs (iv m) rfl rfl fun a hf => ?_
   refine S.p hf hs (iv n4) rfl rfl fun a hf => ?_
   refine S.p hf hs (iv (w64 (m + n4))) rfl rfl fun a hf => ?_
   refine S.p hf hs (iv n3) rfl rfl fun a hf => ?_
   refine S.p hf hs (iv (w64 ((w64 (m + n4)) - n3))) rfl rfl fun a hf => ?_
   refine S.p hf hs (iv n3) rfl rfl fun a hf => ?_
   refine S.p hf hs (.func (.func 60) #[] #[(pn bbg 0), (pn lg 0)]) rfl rfl fun a hf => ?_
   obtain ⟨F1, hsF, hback, hold, hrest⟩ := Sat.callOwns [hown 3 dataA dataC l2] (σ := []) hs
   refine S.call hf rfl rfl rfl (call_fn (vs := [.slice dataA l2.length dataC, iv (w64 (m - n3)), iv (w64 ((w64 (m + n4)) - n3)), iv n3, .func (.func 60) #[] #[(pn bbg 0), (pn lg 0)]]) rfl rfl rfl Tryd.call132) (R_swapRange l2 (w64 (m - n3)) (w64 ((w64 (m + n4)) - n3)) n3 bb l _ _ dataA dataC bbA bbC (viewArgsF hs hold hv_bb) bbg (elemArgsF hs hold hb_bb) lA lC (viewArgsF hs hold hv_l) lg (elemArgsF hs hold hb_l) hsF _ h) (fun v a w' hf hr => ?_)
   obtain ⟨z2, hl_z2, rfl, h2, hs2⟩ := hr
   replace h := h2; replace hs := hback _ _ hs2; clear h2 hs2 hback hold hrest hsF
   replace hf := hf.tell 0 (v := .slice dataA z2.length dataC) ((hf.get 0 (.slice dataA l2.length dataC) rfl).trans (congrArg (fun n => Value.slice dataA n dataC) hl_z2.symm))
   replace hf := hf.tell 35 (v := .slice dataA z2.length dataC) ((hf.get 35 (.slice dataA l2.length dataC) rfl).trans (congrArg (fun n => Value.slice dataA n dataC) hl_z2.symm))
   refine R.nil (X.then_ (R.list ?_))
   refine S.p hf hs (iv n4) rfl rfl fun a hf => ?_
   refine S.p hf hs (iv n3) rfl rfl fun a hf => ?_
   refine S.p hf hs (iv (w64 (n4 - n3))) rfl rfl fun a hf => ?_
   refine S.p hf hs (iv (w64 (n4 - n3))) rfl rfl fun a hf => ?_
   refine R.nil (X.blk (X.then_ ?_))
   exact ⟨z2, (hl_z2.trans hl_l2), n3, (w64 (n4 - n3)), (by rw [hagain1] at h; exact h), (((((hf.nil.cons (hf.get 11 _ rfl)).cons (hf.get 10 _ rfl)).cons (hf.get 4 _ rfl)).cons (hf.get 2 _ rfl)).cons (hf.get 0 _ rfl)), hs⟩
 ·replace h := h.2 hc
  refine wp_exit (X.then_exit (X.then_exit (X.blk_exit (X.then_ (R.list ?_)))))
  refine S.p hf hs (.slice dataA l2.length dataC) rfl rfl fun a hf => ?_
  refine S.p hf hs (iv m) rfl rfl fun a hf => ?_
  refine S.p hf hs (iv n3) rfl rfl fun a hf => ?_
  refine S.p hf hs (iv (w64 (m - n3))) rfl rfl fun a hf => ?_
  refine S.p hf hs (iv m) rfl rfl fun a hf => ?_
  refine S.p hf hs (iv n3) rfl rfl fun a hf => ?_
  refine S.p hf hs (.func (.func 60) #[] #[(pn bbg 0), (pn lg 0)]) rfl rfl fun a hf => ?_
  obtain ⟨F1, hsF, hback, hold, hrest⟩ := Sat.callOwns [hown 3 dataA dataC l2] (σ := []) hs
  refine S.call hf rfl rfl rfl (call_fn (vs := [.slice dataA l2.length dataC, iv (w64 (m - n3)), iv m, iv n3, .func (.func 60) #[] #[(pn bbg 0), (pn lg 0)]]) rfl rfl rfl Tryd.call132) (R_swapRange l2 (w64 (m - n3)) m n3 bb l _ _ dataA dataC bbA bbC (viewArgsF hs hold hv_bb) bbg (elemArgsF hs hold hb_bb) lA lC (viewArgsF hs hold hv_l) lg (elemArgsF hs hold hb_l) hsF _ h) (fun v a w' hf hr => ?_)
  obtain ⟨z3, hl_z3, rfl, h2, hs2⟩ := hr
  replace h := h2; replace hs := hback _ _ hs2; clear h2 hs2 hback hold hrest hsF
  replace hf := hf.tell 0 (v := .slice dataA z3.length dataC) ((hf.get 0 (.slice dataA l2.length dataC) rfl).trans (congrArg (fun n => Value.slice dataA n dataC) hl_z3.symm))
  replace hf := hf.tell 50 (v := .slice dataA z3.length dataC) ((hf.get 50 (.slice dataA l2.length dataC) rfl).trans (congrArg (fun n => Value.slice dataA n dataC) hl_z3.symm))
  refine R.nil ?_
  replace hs := hs.take 1
  exact L.end0 Tryd.results116 hf ⟨z3, (hl_z3.trans hl_l2), rfl, h, hs⟩
set_option linter.unusedVariables false
def M_symMerge_L2 (Q : (List Int) → Prop) (n3 : Int) (again2 : List Int → Int → Prop) (l2 : List Int) (n6 : Int) : Prop :=
  cnd (decide (n6 < w64 (n3 - 1))) (idx l2 (w64 (n6 + 1)) fun x3 => idx l2 n6 fun x4 => idx (l2.set n6.toNat x3) (w64 (n6 + 1)) fun x5 => again2 ((l2.set n6.toNat x3).set ((w64 (n6 + 1)).toNat) x4) (w64 (n6 + 1))) (Q l2)
def M_symMerge_L1 (data : (List Int)) (a_ : Int) (bb : (List Body)) (l : (List Place)) (Q : (List Int) → Prop) (again1 : Int → Int → Prop) (n3 : Int) (n4 : Int) : Prop :=
  cnd (decide (n3 < n4)) (idx data (cvt .i64 (shrI .u64 (cvt .u64 (w64 (n3 + n4))) 1)) fun x1 => idx data a_ fun x2 => M_Ordered1 x1 x2 bb l fun y1 => cnd (decide (y1 < 0)) (again1 (w64 ((cvt .i64 (shrI .u64 (cvt .u64 (w64 (n3 + n4))) 1)) + 1)) n4) (again1 n3 (cvt .i64 (shrI .u64 (cvt .u64 (w64 (n3 + n4))) 1)))) (lp (fun again (s : List Int × Int) => M_symMerge_L2 Q n3 (fun l2 n6 => again (l2, n6)) s.1 s.2) (data, a_))
def M_symMerge_L4 (Q : (List Int) → Prop) (n9 : Int) (again4 : List Int → Int → Prop) (l4 : List Int) (n12 : Int) : Prop :=
  cnd (decide (n12 > n9)) (idx l4 (w64 (n12 - 1)) fun x8 => idx l4 n12 fun x9 => idx (l4.set n12.toNat x8) (w64 (n12 - 1)) fun x10 => again4 ((l4.set n12.toNat x8).set ((w64 (n12 - 1)).toNat) x9) (w64 (n12 - 1))) (Q l4)
def M_symMerge_L3 (data : (List Int)) (m : Int) (bb : (List Body)) (l : (List Place)) (Q : (List Int) → Prop) (again3 : Int → Int → Prop) (n9 : Int) (n10 : Int) : Prop :=
  cnd (decide (n9 < n10)) (idx data m fun x6 => idx data (cvt .i64 (shrI .u64 (cvt .u64 (w64 (n9 + n10))) 1)) fun x7 => M_Ordered1 x6 x7 bb l fun y2 => cnd (!(decide (y2 < 0))) (again3 (w64 ((cvt .i64 (shrI .u64 (cvt .u64 (w64 (n9 + n10))) 1)) + 1)) n10) (again3 n9 (cvt .i64 (shrI .u64 (cvt .u64 (w64 (n9 + n10))) 1)))) (lp (fun again (s : List Int × Int) => M_symMerge_L4 Q n9 (fun l4 n12 => again (l4, n12)) s.1 s.2) (data, m))
def M_symMerge_k9 (a_ : Int) (m : Int) (b : Int) (bb : (List Body)) (l : (List Place)) (Q : (List Int) → Prop) (rec_ : (List Int) → Int → Int → Int → (List Body) → (List Place) → ((List Int) → Prop) → Prop) (n17 : Int) (l6 : List Int) (c1 : Bool) : Prop :=
  cnd c1 (rec_ l6 (cvt .i64 (shrI .u64 (cvt .u64 (w64 (a_ + b))) 1)) (w64 ((w64 ((cvt .i64 (shrI .u64 (cvt .u64 (w64 (a_ + b))) 1)) + m)) - n17)) b bb l fun z1 => Q z1) (Q l6)
def M_symMerge_k8 (a_ : Int) (m : Int) (b : Int) (bb : (List Body)) (l : (List Place)) (Q : (List Int) → Prop) (rec_ : (List Int) → Int → Int → Int → (List Body) → (List Place) → ((List Int) → Prop) → Prop) (n17 : Int) (l6 : List Int) : Prop :=
  cnd (decide (cvt .i64 (shrI .u64 (cvt .u64 (w64 (a_ + b))) 1) < w64 ((w64 ((cvt .i64 (shrI .u64 (cvt .u64 (w64 (a_ + b))) 1)) + m)) - n17))) (M_symMerge_k9 a_ m b bb l Q rec_ n17 l6 (decide (w64 ((w64 ((cvt .i64 (shrI .u64 (cvt .u64 (w64 (a_ + b))) 1)) + m)) - n17) < b))) (M_symMerge_k9 a_ m b bb l Q rec_ n17 l6 false)
def M_symMerge_k10 (a_ : Int) (m : Int) (b : Int) (bb : (List Body)) (l : (List Place)) (Q : (List Int) → Prop) (rec_ : (List Int) → Int → Int → Int → (List Body) → (List Place) → ((List Int) → Prop) → Prop) (n17 : Int) (l5 : List Int) (c2 : Bool) : Prop :=
  cnd c2 (rec_ l5 a_ n17 (cvt .i64 (shrI .u64 (cvt .u64 (w64 (a_ + b))) 1)) bb l fun z2 => M_symMerge_k8 a_ m b bb l Q rec_ n17 z2) (M_symMerge_k8 a_ m b bb l Q rec_ n17 l5)
def M_symMerge_k7 (a_ : Int) (m : Int) (b : Int) (bb : (List Body)) (l : (List Place)) (Q : (List Int) → Prop) (rec_ : (List Int) → Int → Int → Int → (List Body) → (List Place) → ((List Int) → Prop) → Prop) (n17 : Int) (l5 : List Int) : Prop :=
  cnd (decide (a_ < n17)) (M_symMerge_k10 a_ m b bb l Q rec_ n17 l5 (decide (n17 < cvt .i64 (shrI .u64 (cvt .u64 (w64 (a_ + b))) 1)))) (M_symMerge_k10 a_ m b bb l Q rec_ n17 l5 false)
def M_symMerge_k11 (data : (List Int)) (a_ : Int) (m : Int) (b : Int) (bb : (List Body)) (l : (List Place)) (Q : (List Int) → Prop) (rec_ : (List Int) → Int → Int → Int → (List Body) → (List Place) → ((List Int) → Prop) → Prop) (n17 : Int) (c3 : Bool) : Prop :=
  cnd c3 (M_rotate data n17 m (w64 ((w64 ((cvt .i64 (shrI .u64 (cvt .u64 (w64 (a_ + b))) 1)) + m)) - n17)) bb l fun z3 => M_symMerge_k7 a_ m b bb l Q rec_ n17 z3) (M_symMerge_k7 a_ m b bb l Q rec_ n17 data)
def M_symMerge_L5 (data : (List Int)) (a_ : Int) (m : Int) (b : Int) (bb : (List Body)) (l : (List Place)) (Q : (List Int) → Prop) (rec_ : (List Int) → Int → Int → Int → (List Body) → (List Place) → ((List Int) → Prop) → Prop) (again5 : Int → Int → Prop) (n17 : Int) (n18 : Int) : Prop :=
  cnd (decide (n17 < n18)) (idx data (w64 ((w64 ((w64 ((cvt .i64 (shrI .u64 (cvt .u64 (w64 (a_ + b))) 1)) + m)) - 1)) - (cvt .i64 (shrI .u64 (cvt .u64 (w64 (n17 + n18))) 1)))) fun x11 => idx data (cvt .i64 (shrI .u64 (cvt .u64 (w64 (n17 + n18))) 1)) fun x12 => M_Ordered1 x11 x12 bb l fun y3 => cnd (!(decide (y3 < 0))) (again5 (w64 ((cvt .i64 (shrI .u64 (cvt .u64 (w64 (n17 + n18))) 1)) + 1)) n18) (again5 n17 (cvt .i64 (shrI .u64 (cvt .u64 (w64 (n17 + n18))) 1)))) (cnd (decide (n17 < m)) (M_symMerge_k11 data a_ m b bb l Q rec_ n17 (decide (m < w64 ((w64 ((cvt .i64 (shrI .u64 (cvt .u64 (w64 (a_ + b))) 1)) + m)) - n17)))) (M_symMerge_k11 data a_ m b bb l Q rec_ n17 false))
def M_symMerge_k5 (data : (List Int)) (a_ : Int) (m : Int) (b : Int) (bb : (List Body)) (l : (List Place)) (Q : (List Int) → Prop) (rec_ : (List Int) → Int → Int → Int → (List Body) → (List Place) → ((List Int) → Prop) → Prop) (n13 : Int) (n14 : Int) : Prop :=
  lp (fun again (s : Int × Int) => M_symMerge_L5 data a_ m b bb l Q rec_ (fun n17 n18 => again (n17, n18)) s.1 s.2) (n13, n14)
def M_symMerge_B (rec_ : (List Int) → Int → Int → Int → (List Body) → (List Place) → ((List Int) → Prop) → Prop) (data : (List Int)) (a_ : Int) (m : Int) (b : Int) (bb : (List Body)) (l : (List Place)) (Q : (List Int) → Prop) : Prop :=
  cnd ((w64 (m - a_)) == 1) (lp (fun again (s : Int × Int) => M_symMerge_L1 data a_ bb l Q (fun n3 n4 => again (n3, n4)) s.1 s.2) (m, b)) (cnd ((w64 (b - m)) == 1) (lp (fun again (s : Int × Int) => M_symMerge_L3 data m bb l Q (fun n9 n10 => again (n9, n10)) s.1 s.2) (a_, m)) (cnd (decide (m > cvt .i64 (shrI .u64 (cvt .u64 (w64 (a_ + b))) 1))) (M_symMerge_k5 data a_ m b bb l Q rec_ (w64 ((w64 ((cvt .i64 (shrI .u64 (cvt .u64 (w64 (a_ + b))) 1)) + m)) - b)) (cvt .i64 (shrI .u64 (cvt .u64 (w64 (a_ + b))) 1))) (M_symMerge_k5 data a_ m b bb l Q rec_ a_ m)))
def N_symMerge : Nat → (List Int) → Int → Int → Int → (List Body) → (List Place) → ((List Int) → Prop) → Prop
  | 0 => fun _ _ _ _ _ _ _ => False
  | fuel_ + 1 => fun data a_ m b bb l Q => M_symMerge_B (N_symMerge fuel_) data a_ m b bb l Q
def M_symMerge (data : (List Int)) (a_ : Int) (m : Int) (b : Int) (bb : (List Body)) (l : (List Place)) (Q : (List Int) → Prop) : Prop := ∃ fuel_, N_symMerge fuel_ data a_ m b bb l Q
set_option maxHeartbeats 1000000 in
theorem RN_symMerge (fuel : Nat) : ∀ (data : (List Int)) (a_ : Int) (m : Int) (b : Int) (bb : (List Body)) (l : (List Place)) (w0 : World) (F0 : Nat → Prop) (dataA : Option Addr) (dataC : Nat) (bbA : Option Addr) (bbC : Nat) (hv_bb : View w0 (old w0 F0) bbA bbC bb) (bbg : Nat) (hb_bb : ElemAt w0 (old w0 F0) (some ⟨bbg, 0, none⟩) 0 [.slice bbA bb.length bbC]) (lA : Option Addr) (lC : Nat) (hv_l : View w0 (old w0 F0) lA lC l) (lg : Nat) (hb_l : ElemAt w0 (old w0 F0) (some ⟨lg, 0, none⟩) 0 [.slice lA l.length lC]) (hs0 : Sat w0 F0 [hown 3 dataA dataC data] w0) (Q : (List Int) → Prop) (h : N_symMerge fuel data a_ m b bb l Q),
  Ret Tryd.prog 107 #[.slice dataA data.length dataC, iv a_, iv m, iv b, .func (.func 60) #[] #[(pn bbg 0), (pn lg 0)]] w0 fun v w' => ∃ (data1 : List Int) (hl_data1 : data1.length = data.length), v = .tuple #[] ∧ Q data1 ∧ Sat w0 F0 [hown 3 dataA dataC data1] w' := by
 induction fuel with
 | zero => intro data a_ m b bb l w0 F0 dataA dataC bbA bbC hv_bb bbg hb_bb lA lC hv_l lg hb_l hs0 Q h; exact h.elim
 | succ fuel ih =>
 intro data a_ m b bb l w0 F0 dataA dataC bbA bbC hv_bb bbg hb_bb lA lC hv_l lg hb_l hs0 Q h
 obtain ⟨rec_, hrec⟩ : ∃ X : (List Int) → Int → Int → Int → (List Body) → (List Place) → ((List Int) → Prop) → Prop, X = N_symMerge fuel := ⟨_, rfl⟩
 replace h : M_symMerge_B rec_ data a_ m b bb l Q := by rw [hrec]; exact h
 rw [← hrec] at ih
 clear hrec
 refine fn_enter Tryd.func107 rfl Tryd.ntmps107 rfl (fs := [(0, .slice dataA data.length dataC), (1, iv a_), (2, iv m), (3, iv b), (4, .func (.func 60) #[] #[(pn bbg 0), (pn lg 0)])]) rfl (fun a hf => ?_)
 have hs := hs0
 unfold M_symMerge_B at h
 refine wp_seq (wp_seq (R.list ?_))
 refine S.p hf hs (iv m) rfl rfl fun a hf => ?_
 refine S.p hf hs (iv a_) rfl rfl fun a hf => ?_
 refine S.p hf hs (iv (w64 (m - a_))) rfl rfl fun a hf => ?_
 refine S.p hf hs (.bool ((w64 (m - a_)) == 1)) rfl rfl fun a hf => ?_
 refine R.nil (X.then_ ?_)
 refine C.cond hf (b := (w64 (m - a_)) == 1) rfl (fun hc => ?_) (fun hc => ?_)
 ·replace h := h.1 hc
  refine wp_seq (R.list ?_)
  refine S.p hf hs (iv m) rfl rfl fun a hf => ?_
  refine S.p hf hs (iv m) rfl rfl fun a hf => ?_
  refine R.nil (X.then_ (wp_seq (R.list ?_)))
  refine S.p hf hs (iv b) rfl rfl fun a hf => ?_
  refine S.p hf hs (iv b) rfl rfl fun a hf => ?_
  refine R.nil (X.then_ (wp_seq (wp_block ?_)))
  obtain ⟨kk, h⟩ := h
  refine C.loop (fun kk a w => ∃ (n3 : Int) (n4 : Int), iterF (fun again (s : Int × Int) => M_symMerge_L1 data a_ bb l Q (fun n3 n4 => again (n3, n4)) s.1 s.2) kk (n3, n4) ∧ FrOk 220 [(0, .slice dataA data.length dataC), (1, iv a_), (4, .func (.func 60) #[] #[(pn bbg 0), (pn lg 0)]), (10, iv n3), (11, iv n4)] a ∧ Sat w0 F0 [hown 3 dataA dataC data] w) kk ⟨m, b, h, (((((hf.nil.cons (hf.get 11 _ rfl)).cons (hf.get 10 _ rfl)).cons (hf.get 4 _ rfl)).cons (hf.get 1 _ rfl)).cons (hf.get 0 _ rfl)), hs⟩ (fun a w ⟨_, _, h, _, _⟩ => h) ?_
  clear h hf hs
  rintro kk a w ⟨n3, n4, h, hf, hs⟩
  obtain ⟨again1, hagain1⟩ : ∃ X : Int → Int → Prop, X = (fun n3 n4 => iterF (fun again (s : Int × Int) => M_symMerge_L1 data a_ bb l Q (fun n3 n4 => again (n3, n4)) s.1 s.2) kk (n3, n4)) := ⟨_, rfl⟩
  replace h : M_symMerge_L1 data a_ bb l Q again1 n3 n4 := by rw [hagain1]; exact h
  unfold M_symMerge_L1 at h
  refine wp_seq (wp_seq (R.list ?_))
  refine S.p hf hs (iv n3) rfl rfl fun a hf => ?_
  refine S.p hf hs (iv n4) rfl rfl fun a hf => ?_
  refine S.p hf hs (.bool (decide (n3 < n4))) rfl rfl fun a hf => ?_
  refine R.nil (X.then_ ?_)
  refine C.cond hf (b := decide (n3 < n4)) rfl (fun hc => ?_) (fun hc => ?_)
  ·replace h := h.1 hc
   refine wp_skip (X.then_ (wp_block (wp_seq (R.list ?_))))
   refine S.p hf hs (iv n3) rfl rfl fun a hf => ?_
   refine S.p hf hs (iv n4) rfl rfl fun a hf => ?_
   refine S.p hf hs (iv (w64 (n3 + n4))) rfl rfl fun a hf => ?_
   refine S.v hf hs (.int .u64 (cvt .u64 (w64 (n3 + n4)))) rfl (V.conv rfl rfl Tryd.runUnderlying3 Tryd.runUnderlying140) fun a hf => ?_
   refine S.v hf hs (.int .u64 (shrI .u64 (cvt .u64 (w64 (n3 + n4))) 1)) rfl (V.shr rfl rfl rfl (by decide)) fun a hf => ?_
   refine S.v hf hs (iv (cvt .i64 (shrI .u64 (cvt .u64 (w64 (n3 + n4))) 1))) rfl (V.conv rfl rfl Tryd.runUnderlying140 Tryd.runUnderlying3) fun a hf => ?_
   refine S.p hf hs (iv (cvt .i64 (shrI .u64 (cvt .u64 (w64 (n3 + n4))) 1))) rfl rfl fun a hf => ?_
   refine R.nil (X.then_ (wp_seq ?_))
   refine H.start (S := Sat w0 F0 [hown 3 dataA dataC data]) mo ?_
   replace hs := hs.drew
   refine H.v hf hs (.func (.func 60) #[] #[(pn bbg 0), (pn lg 0)]) 0 rfl rfl (by kernel_rfl) (V.pure rfl) fun a hf => ?_
   refine H.v hf hs (.slice dataA data.length dataC) 1 rfl rfl (by kernel_rfl) (V.pure rfl) fun a hf => ?_
   refine H.v hf hs (iv (cvt .i64 (shrI .u64 (cvt .u64 (w64 (n3 + n4))) 1))) 2 rfl rfl (by kernel_rfl) (V.pure rfl) fun a hf => ?_
   obtain ⟨h0x1, x1, hx1, h⟩ := h
   refine H.v hf hs (elemPtr dataA ((cvt .i64 (shrI .u64 (cvt .u64 (w64 (n3 + n4))) 1)).toNat * 1)) 3 rfl rfl (by kernel_rfl) (V.index rfl rfl rfl Tryd.runUnderlying48 Tryd.sizeOf3 (hs.ownSome 0 rfl (lt_of_get hx1)) h0x1 (lt_of_get hx1) rfl) fun a hf => ?_
   refine H.v hf hs (iv x1) 4 rfl rfl (by kernel_rfl) (V.loadOwn (off := 0) 0 rfl hx1 rfl rfl rfl Tryd.isAgg3 Tryd.sizeOf3 rfl rfl) fun a hf => ?_
   refine H.v hf hs (.slice dataA data.length dataC) 5 rfl rfl (by kernel_rfl) (V.pure rfl) fun a hf => ?_
   refine H.v hf hs (iv a_) 6 rfl rfl (by kernel_rfl) (V.pure rfl) fun a hf => ?_
   obtain ⟨h0x2, x2, hx2, h⟩ := h
   refine H.v hf hs (elemPtr dataA (a_.toNat * 1)) 7 rfl rfl (by kernel_rfl) (V.index rfl rfl rfl Tryd.runUnderlying48 Tryd.sizeOf3 (hs.ownSome 0 rfl (lt_of_get hx2)) h0x2 (lt_of_get hx2) rfl) fun a hf => ?_
   refine H.v hf hs (iv x2) 8 rfl rfl (by kernel_rfl) (V.loadOwn (off := 0) 0 rfl hx2 rfl rfl rfl Tryd.isAgg3 Tryd.sizeOf3 rfl rfl) fun a hf => ?_
   refine H.one (i := 9) rfl (by kernel_rfl) ?_
   refine S.call hf rfl rfl rfl (call_run (args := #[iv x1, iv x2, (pn bbg 0), (pn lg 0)]) rfl rfl rfl Tryd.call60 (by simp)) (R_Ordered1 x1 x2 bb l _ bbA bbC ((Ag.args _ _ _).view hv_bb hs) bbg ((Ag.args _ _ _).elem hb_bb hs) lA lC ((Ag.args _ _ _).view hv_l hs) lg ((Ag.args _ _ _).elem hb_l hs) _ h) (fun v a w' hf hr => ?_)
   obtain ⟨y1, rfl, h2, hs2⟩ := hr
   replace h := h2; replace hs := hs.call hs2; clear h2 hs2
   refine R.nil (X.then_ ?_)
   refine ⟨hs, ?_⟩
   refine H.v hf hs (.bool (decide (y1 < 0))) 10 rfl rfl (by kernel_rfl) (V.pure rfl) fun a hf => ?_
   refine H.done (by kernel_rfl) ?_
   refine X.then_ ?_
   refine C.cond hf (b := decide (y1 < 0)) rfl (fun hc => ?_) (fun hc => ?_)
   ·replace h := h.1 hc
    refine R.list ?_
    refine S.p hf hs (iv (cvt .i64 (shrI .u64 (cvt .u64 (w64 (n3 + n4))) 1))) rfl rfl fun a hf => ?_
    refine S.p hf hs (iv (w64 ((cvt .i64 (shrI .u64 (cvt .u64 (w64 (n3 + n4))) 1)) + 1))) rfl rfl fun a hf => ?_
    refine S.p hf hs (iv (w64 ((cvt .i64 (shrI .u64 (cvt .u64 (w64 (n3 + n4))) 1)) + 1))) rfl rfl fun a hf => ?_
    refine R.nil (X.blk (X.then_ ?_))
    exact ⟨(w64 ((cvt .i64 (shrI .u64 (cvt .u64 (w64 (n3 + n4))) 1)) + 1)), n4, (by rw [hagain1] at h; exact h), (((((hf.nil.cons (hf.get 11 _ rfl)).cons (hf.get 10 _ rfl)).cons (hf.get 4 _ rfl)).cons (hf.get 1 _ rfl)).cons (hf.get 0 _ rfl)), hs⟩
   ·replace h := h.2 hc
    refine R.list ?_
    refine S.p hf hs (iv (cvt .i64 (shrI .u64 (cvt .u64 (w64 (n3 + n4))) 1))) rfl rfl fun a hf => ?_
    refine S.p hf hs (iv (cvt .i64 (shrI .u64 (cvt .u64 (w64 (n3 + n4))) 1))) rfl rfl fun a hf => ?_
    refine R.nil (X.blk (X.then_ ?_))
    exact ⟨n3, (cvt .i64 (shrI .u64 (cvt .u64 (w64 (n3 + n4))) 1)), (by rw [hagain1] at h; exact h), (((((hf.nil.cons (hf.get 11 _ rfl)).cons (hf.get 10 _ rfl)).cons (hf.get 4 _ rfl)).cons (hf.get 1 _ rfl)).cons (hf.get 0 _ rfl)), hs⟩
  ·replace h := h.2 hc
   refine wp_exit (X.then_exit (X.then_exit (X.blk_exit (X.then_ (wp_seq (wp_seq (R.list ?_)))))))
   refine S.p hf hs (iv a_) rfl rfl fun a hf => ?_
   refine S.p hf hs (iv a_) rfl rfl fun a hf => ?_
   refine R.nil (X.then_ (wp_block ?_))
   obtain ⟨kk, h⟩ := h
   refine C.loop (fun kk a w => ∃ (l2 : List Int) (hl_l2 : l2.length = data.length) (n6 : Int), iterF (fun again (s : List Int × Int) => M_symMerge_L2 Q n3 (fun l2 n6 => again (l2, n6)) s.1 s.2) kk (l2, n6) ∧ FrOk 220 [(0, .slice dataA l2.length dataC), (10, iv n3), (13, iv n6)] a ∧ Sat w0 F0 [hown 3 dataA dataC l2] w) kk ⟨data, rfl, a_, h, (((hf.nil.cons (hf.get 13 _ rfl)).cons (hf.get 10 _ rfl)).cons (hf.get 0 _ rfl)), hs⟩ (fun a w ⟨_, _, _, h, _, _⟩ => h) ?_
   clear h hf hs
   rintro kk a w ⟨l2, hl_l2, n6, h, hf, hs⟩
   obtain ⟨again2, hagain2⟩ : ∃ X : List Int → Int → Prop, X = (fun l2 n6 => iterF (fun again (s : List Int × Int) => M_symMerge_L2 Q n3 (fun l2 n6 => again (l2, n6)) s.1 s.2) kk (l2, n6)) := ⟨_, rfl⟩
   replace h : M_symMerge_L2 Q n3 again2 l2 n6 := by rw [hagain2]; exact h
   unfold M_symMerge_L2 at h
   refine wp_seq (wp_seq (R.list ?_))
   refine S.p hf hs (iv n6) rfl rfl fun a hf => ?_
   refine S.p hf hs (iv n3) rfl rfl fun a hf => ?_
   refine S.p hf hs (iv (w64 (n3 - 1))) rfl rfl fun a hf => ?_
   refine S.p hf hs (.bool (decide (n6 < w64 (n3 - 1)))) rfl rfl fun a hf => ?_
   refine R.nil (X.then_ ?_)
   refine C.cond hf (b := decide (n6 < w64 (n3 - 1))) rfl (fun hc => ?_) (fun hc => ?_)
   ·replace h := h.1 hc
    refine wp_skip (X.then_ (wp_seq (wp_block ?_)))
    refine M.start 15 (Sat w0 F0 [hown 3 dataA dataC l2]) mo ?_
    replace hs := hs.drew
    refine M.v hf hs (.slice dataA l2.length dataC) 0 rfl rfl (by kernel_rfl) (V.pure rfl) fun a hf => ?_
    refine M.v hf hs (iv n6) 1 rfl rfl (by kernel_rfl) (V.pure rfl) fun a hf => ?_
    refine M.valp hf hs (v := .slice dataA l2.length dataC) (i := 2) rfl rfl rfl rfl (by kernel_rfl) (by kernel_rfl) (by kernel_rfl) rfl (fun w1 => V.pure rfl) (fun a hf => ?_)
    refine M.valp hf hs (v := iv n6) (i := 3) rfl rfl rfl rfl (by kernel_rfl) (by kernel_rfl) (by kernel_rfl) rfl (fun w1 => V.pure rfl) (fun a hf => ?_)
    refine M.valp hf hs (v := iv (w64 (n6 + 1))) (i := 4) rfl rfl rfl rfl (by kernel_rfl) (by kernel_rfl) (by kernel_rfl) rfl (fun w1 => V.pure rfl) (fun a hf => ?_)
    refine M.v hf hs (.slice dataA l2.length dataC) 5 rfl rfl (by kernel_rfl) (V.pure rfl) fun a hf => ?_
    refine M.v hf hs (iv n6) 6 rfl rfl (by kernel_rfl) (V.pure rfl) fun a hf => ?_
    refine M.v hf hs (iv (w64 (n6 + 1))) 7 rfl rfl (by kernel_rfl) (V.pure rfl) fun a hf => ?_
    obtain ⟨h0x3, x3, hx3, h⟩ := h
    refine M.v hf hs (elemPtr dataA ((w64 (n6 + 1)).toNat * 1)) 8 rfl rfl (by kernel_rfl) (V.index rfl rfl rfl Tryd.runUnderlying48 Tryd.sizeOf3 (hs.ownSome 0 rfl (lt_of_get hx3)) h0x3 (lt_of_get hx3) rfl) fun a hf => ?_
    refine M.v hf hs (iv x3) 9 rfl rfl (by kernel_rfl) (V.loadOwn (off := 0) 0 rfl hx3 rfl rfl rfl Tryd.isAgg3 Tryd.sizeOf3 rfl rfl) fun a hf => ?_
    refine M.valp hf hs (v := .slice dataA l2.length dataC) (i := 10) rfl rfl rfl rfl (by kernel_rfl) (by kernel_rfl) (by kernel_rfl) rfl (fun w1 => V.pure rfl) (fun a hf => ?_)
    refine M.valp hf hs (v := iv n6) (i := 11) rfl rfl rfl rfl (by kernel_rfl) (by kernel_rfl) (by kernel_rfl) rfl (fun w1 => V.pure rfl) (fun a hf => ?_)
    obtain ⟨h0x4, x4, hx4, h⟩ := h
    refine M.valp hf hs (v := elemPtr dataA (n6.toNat * 1)) (i := 12) rfl rfl rfl rfl (by kernel_rfl) (by kernel_rfl) (by kernel_rfl) rfl (fun w1 => V.index rfl rfl rfl Tryd.runUnderlying48 Tryd.sizeOf3 (hs.ownSome 0 rfl (lt_of_get hx4)) h0x4 (lt_of_get hx4) rfl) (fun a hf => ?_)
    refine M.v hf hs (iv x4) 13 rfl rfl (by kernel_rfl) (V.loadOwn (off := 0) 0 rfl hx4 rfl rfl rfl Tryd.isAgg3 Tryd.sizeOf3 rfl rfl) fun a hf => ?_
    refine M.v hf hs (elemPtr dataA (n6.toNat * 1)) 14 rfl rfl (by kernel_rfl) (V.index rfl rfl rfl Tryd.runUnderlying48 Tryd.sizeOf3 (hs.ownSome 0 rfl (lt_of_get hx4)) h0x4 (lt_of_get hx4) rfl) fun a hf => ?_
    refine M.last (i := 15) rfl (by kernel_rfl) (by kernel_rfl) ?_
    refine S.storeOwn (off := 0) 0 hf hs rfl rfl x3 [iv x3] rfl hx4 rfl rfl rfl rfl rfl Tryd.sizeOf3 rfl (by decide) rfl rfl (fun a w hf hs => ?_)
    replace hf := hf.tell 0 (v := .slice dataA (l2.set n6.toNat x3).length dataC) ((hf.get 0 (.slice dataA l2.length dataC) rfl).trans (congrArg (fun n => Value.slice dataA n dataC) List.length_set.symm))
    replace hf := hf.tell 61 (v := .slice dataA (l2.set n6.toNat x3).length dataC) ((hf.get 61 (.slice dataA l2.length dataC) rfl).trans (congrArg (fun n => Value.slice dataA n dataC) List.length_set.symm))
    replace hf := hf.tell 63 (v := .slice dataA (l2.set n6.toNat x3).length dataC) ((hf.get 63 (.slice dataA l2.length dataC) rfl).trans (congrArg (fun n => Value.slice dataA n dataC) List.length_set.symm))
    replace hf := hf.tell 66 (v := .slice dataA (l2.set n6.toNat x3).length dataC) ((hf.get 66 (.slice dataA l2.length dataC) rfl).trans (congrArg (fun n => Value.slice dataA n dataC) List.length_set.symm))
    replace hf := hf.tell 71 (v := .slice dataA (l2.set n6.toNat x3).length dataC) ((hf.get 71 (.slice dataA l2.length dataC) rfl).trans (congrArg (fun n => Value.slice dataA n dataC) List.length_set.symm))
    refine R.nil (X.then_ ?_)
    refine M.last (i := 16) rfl (by kernel_rfl) (by kernel_rfl) ?_
    obtain ⟨h0x5, x5, hx5, h⟩ := h
    refine S.v hf hs (elemPtr dataA ((w64 (n6 + 1)).toNat * 1)) rfl (V.index rfl rfl rfl Tryd.runUnderlying48 Tryd.sizeOf3 (hs.ownSome 0 rfl (lt_of_get hx5)) h0x5 (lt_of_get hx5) rfl) fun a hf => ?_
    refine R.nil (X.then_ ?_)
    refine M.last (i := 17) rfl (by kernel_rfl) (by kernel_rfl) ?_
    refine S.storeOwn (off := 0) 0 hf hs rfl rfl x4 [iv x4] rfl hx5 rfl rfl rfl rfl rfl Tryd.sizeOf3 rfl (by decide) rfl rfl (fun a w hf hs => ?_)
    replace hf := hf.tell 0 (v := .slice dataA ((l2.set n6.toNat x3).set ((w64 (n6 + 1)).toNat) x4).length dataC) ((hf.get 0 (.slice dataA (l2.set n6.toNat x3).length dataC) rfl).trans (congrArg (fun n => Value.slice dataA n dataC) List.length_set.symm))
    replace hf := hf.tell 61 (v := .slice dataA ((l2.set n6.toNat x3).set ((w64 (n6 + 1)).toNat) x4).length dataC) ((hf.get 61 (.slice dataA (l2.set n6.toNat x3).length dataC) rfl).trans (congrArg (fun n => Value.slice dataA n dataC) List.length_set.symm))
    replace hf := hf.tell 63 (v := .slice dataA ((l2.set n6.toNat x3).set ((w64 (n6 + 1)).toNat) x4).length dataC) ((hf.get 63 (.slice dataA (l2.set n6.toNat x3).length dataC) rfl).trans (congrArg (fun n => Value.slice dataA n dataC) List.length_set.symm))
    replace hf := hf.tell 66 (v := .slice dataA ((l2.set n6.toNat x3).set ((w64 (n6 + 1)).toNat) x4).length dataC) ((hf.get 66 (.slice dataA (l2.set n6.toNat x3).length dataC) rfl).trans (congrArg (fun n => Value.slice dataA n dataC) List.length_set.symm))
    replace hf := hf.tell 71 (v := .slice dataA ((l2.set n6.toNat x3).set ((w64 (n6 + 1)).toNat) x4).length dataC) ((hf.get 71 (.slice dataA (l2.set n6.toNat x3).length dataC) rfl).trans (congrArg (fun n => Value.slice dataA n dataC) List.length_set.symm))
    refine R.nil (X.then_ ?_)
    refine M.done (by kernel_rfl) ?_
    refine X.blk (X.then_ (R.list ?_))
    refine S.p hf hs (iv n6) rfl rfl fun a hf => ?_
    refine S.p hf hs (iv (w64 (n6 + 1))) rfl rfl fun a hf => ?_
    refine S.p hf hs (iv (w64 (n6 + 1))) rfl rfl fun a hf => ?_
    refine R.nil (X.then_ ?_)
    exact ⟨((l2.set n6.toNat x3).set ((w64 (n6 + 1)).toNat) x4), (List.length_set.trans (List.length_set.trans hl_l2)), (w64 (n6 + 1)), (by rw [hagain2] at h; exact h), (((hf.nil.cons (hf.get 13 _ rfl)).cons (hf.get 10 _ rfl)).cons (hf.get 0 _ rfl)), hs⟩
   ·replace h := h.2 hc
    refine wp_exit (X.then_exit (X.then_exit (X.blk_exit (X.then_ (wp_ret (X.then_ret ?_))))))
    replace hs := hs.take 1
    exact L.ret0 Tryd.results107 hf ⟨l2, hl_l2, rfl, h, hs⟩
 ·replace h := h.2 hc
  refine wp_skip (X.then_ (wp_seq (wp_seq (R.list ?_))))
  refine S.p hf hs (iv b) rfl rfl fun a hf => ?_
  refine S.p hf hs (iv m) rfl rfl fun a hf => ?_
  refine S.p hf hs (iv (w64 (b - m))) rfl rfl fun a hf => ?_
  refine S.p hf hs (.bool ((w64 (b - m)) == 1)) rfl rfl fun a hf => ?_
  refine R.nil (X.then_ ?_)
  refine C.cond hf (b := (w64 (b - m)) == 1) rfl (fun hc => ?_) (fun hc => ?_)
  ·replace h := h.1 hc
   refine wp_seq (R.list ?_)
   refine S.p hf hs (iv a_) rfl rfl fun a hf => ?_
   refine S.p hf hs (iv a_) rfl rfl fun a hf => ?_
   refine R.nil (X.then_ (wp_seq (R.list ?_)))
   refine S.p hf hs (iv m) rfl rfl fun a hf => ?_
   refine S.p hf hs (iv m) rfl rfl fun a hf => ?_
   refine R.nil (X.then_ (wp_seq (wp_block ?_)))
   obtain ⟨kk, h⟩ := h
   refine C.loop (fun kk a w => ∃ (n9 : Int) (n10 : Int), iterF (fun again (s : Int × Int) => M_symMerge_L3 data m bb l Q (fun n9 n10 => again (n9, n10)) s.1 s.2) kk (n9, n10) ∧ FrOk 220 [(0, .slice dataA data.length dataC), (2, iv m), (4, .func (.func 60) #[] #[(pn bbg 0), (pn lg 0)]), (14, iv n9), (15, iv n10)] a ∧ Sat w0 F0 [hown 3 dataA dataC data] w) kk ⟨a_, m, h, (((((hf.nil.cons (hf.get 15 _ rfl)).cons (hf.get 14 _ rfl)).cons (hf.get 4 _ rfl)).cons (hf.get 2 _ rfl)).cons (hf.get 0 _ rfl)), hs⟩ (fun a w ⟨_, _, h, _, _⟩ => h) ?_
   clear h hf hs
   rintro kk a w ⟨n9, n10, h, hf, hs⟩
   obtain ⟨again3, hagain3⟩ : ∃ X : Int → Int → Prop, X = (fun n9 n10 => iterF (fun again (s : Int × Int) => M_symMerge_L3 data m bb l Q (fun n9 n10 => again (n9, n10)) s.1 s.2) kk (n9, n10)) := ⟨_, rfl⟩
   replace h : M_symMerge_L3 data m bb l Q again3 n9 n10 := by rw [hagain3]; exact h
   unfold M_symMerge_L3 at h
   refine wp_seq (wp_seq (R.list ?_))
   refine S.p hf hs (iv n9) rfl rfl fun a hf => ?_
   refine S.p hf hs (iv n10) rfl rfl fun a hf => ?_
   refine S.p hf hs (.bool (decide (n9 < n10))) rfl rfl fun a hf => ?_
   refine R.nil (X.then_ ?_)
   refine C.cond hf (b := decide (n9 < n10)) rfl (fun hc => ?_) (fun hc => ?_)
   ·replace h := h.1 hc
    refine wp_skip (X.then_ (wp_block (wp_seq (R.list ?_))))
    refine S.p hf hs (iv n9) rfl rfl fun a hf => ?_
    refine S.p hf hs (iv n10) rfl rfl fun a hf => ?_
    refine S.p hf hs (iv (w64 (n9 + n10))) rfl rfl fun a hf => ?_
    refine S.v hf hs (.int .u64 (cvt .u64 (w64 (n9 + n10)))) rfl (V.conv rfl rfl Tryd.runUnderlying3 Tryd.runUnderlying140) fun a hf => ?_
    refine S.v hf hs (.int .u64 (shrI .u64 (cvt .u64 (w64 (n9 + n10))) 1)) rfl (V.shr rfl rfl rfl (by decide)) fun a hf => ?_
    refine S.v hf hs (iv (cvt .i64 (shrI .u64 (cvt .u64 (w64 (n9 + n10))) 1))) rfl (V.conv rfl rfl Tryd.runUnderlying140 Tryd.runUnderlying3) fun a hf => ?_
    refine S.p hf hs (iv (cvt .i64 (shrI .u64 (cvt .u64 (w64 (n9 + n10))) 1))) rfl rfl fun a hf => ?_
    refine R.nil (X.then_ (wp_seq ?_))
    refine H.start (S := Sat w0 F0 [hown 3 dataA dataC data]) mo ?_
    replace hs := hs.drew
    refine H.v hf hs (.func (.func 60) #[] #[(pn bbg 0), (pn lg 0)]) 0 rfl rfl (by kernel_rfl) (V.pure rfl) fun a hf => ?_
    refine H.v hf hs (.slice dataA data.length dataC) 1 rfl rfl (by kernel_rfl) (V.pure rfl) fun a hf => ?_
    refine H.v hf hs (iv m) 2 rfl rfl (by kernel_rfl) (V.pure rfl) fun a hf => ?_
    obtain ⟨h0x6, x6, hx6, h⟩ := h
    refine H.v hf hs (elemPtr dataA (m.toNat * 1)) 3 rfl rfl (by kernel_rfl) (V.index rfl rfl rfl Tryd.runUnderlying48 Tryd.sizeOf3 (hs.ownSome 0 rfl (lt_of_get hx6)) h0x6 (lt_of_get hx6) rfl) fun a hf => ?_
    refine H.v hf hs (iv x6) 4 rfl rfl (by kernel_rfl) (V.loadOwn (off := 0) 0 rfl hx6 rfl rfl rfl Tryd.isAgg3 Tryd.sizeOf3 rfl rfl) fun a hf => ?_
    refine H.v hf hs (.slice dataA data.length dataC) 5 rfl rfl (by kernel_rfl) (V.pure rfl) fun a hf => ?_
    refine H.v hf hs (iv (cvt .i64 (shrI .u64 (cvt .u64 (w64 (n9 + n10))) 1))) 6 rfl rfl (by kernel_rfl) (V.pure rfl) fun a hf => ?_
    obtain ⟨h0x7, x7, hx7, h⟩ := h
    refine H.v hf hs (elemPtr dataA ((cvt .i64 (shrI .u64 (cvt .u64 (w64 (n9 + n10))) 1)).toNat * 1)) 7 rfl rfl (by kernel_rfl) (V.index rfl rfl rfl Tryd.runUnderlying48 Tryd.sizeOf3 (hs.ownSome 0 rfl (lt_of_get hx7)) h0x7 (lt_of_get hx7) rfl) fun a hf => ?_
    refine H.v hf hs (iv x7) 8 rfl rfl (by kernel_rfl) (V.loadOwn (off := 0) 0 rfl hx7 rfl rfl rfl Tryd.isAgg3 Tryd.sizeOf3 rfl rfl) fun a hf => ?_
    refine H.one (i := 9) rfl (by kernel_rfl) ?_
    refine S.call hf rfl rfl rfl (call_run (args := #[iv x6, iv x7, (pn bbg 0), (pn lg 0)]) rfl rfl rfl Tryd.call60 (by simp)) (R_Ordered1 x6 x7 bb l _ bbA bbC ((Ag.args _ _ _).view hv_bb hs) bbg ((Ag.args _ _ _).elem hb_bb hs) lA lC ((Ag.args _ _ _).view hv_l hs) lg ((Ag.args _ _ _).elem hb_l hs) _ h) (fun v a w' hf hr => ?_)
    obtain ⟨y2, rfl, h2, hs2⟩ := hr
    replace h := h2; replace hs := hs.call hs2; clear h2 hs2
    refine R.nil (X.then_ ?_)
    refine ⟨hs, ?_⟩
    refine H.v hf hs (.bool (decide (y2 < 0))) 10 rfl rfl (by kernel_rfl) (V.pure rfl) fun a hf => ?_
    refine H.v hf hs (.bool (!(decide (y2 < 0)))) 11 rfl rfl (by kernel_rfl) (V.pure rfl) fun a hf => ?_
    refine H.done (by kernel_rfl) ?_
    refine X.then_ ?_
    refine C.cond hf (b := !(decide (y2 < 0))) rfl (fun hc => ?_) (fun hc => ?_)
    ·replace h := h.1 hc
     refine R.list ?_
     refine S.p hf hs (iv (cvt .i64 (shrI .u64 (cvt .u64 (w64 (n9 + n10))) 1))) rfl rfl fun a hf => ?_
     refine S.p hf hs (iv (w64 ((cvt .i64 (shrI .u64 (cvt .u64 (w64 (n9 + n10))) 1)) + 1))) rfl rfl fun a hf => ?_
     refine S.p hf hs (iv (w64 ((cvt .i64 (shrI .u64 (cvt .u64 (w64 (n9 + n10))) 1)) + 1))) rfl rfl fun a hf => ?_
     refine R.nil (X.blk (X.then_ ?_))
     exact ⟨(w64 ((cvt .i64 (shrI .u64 (cvt .u64 (w64 (n9 + n10))) 1)) + 1)), n10, (by rw [hagain3] at h; exact h), (((((hf.nil.cons (hf.get 15 _ rfl)).cons (hf.get 14 _ rfl)).cons (hf.get 4 _ rfl)).cons (hf.get 2 _ rfl)).cons (hf.get 0 _ rfl)), hs⟩
    ·replace h := h.2 hc
     refine R.list ?_
     refine S.p hf hs (iv (cvt .i64 (shrI .u64 (cvt .u64 (w64 (n9 + n10))) 1))) rfl rfl fun a hf => ?_
     refine S.p hf hs (iv (cvt .i64 (shrI .u64 (cvt .u64 (w64 (n9 + n10))) 1))) rfl rfl fun a hf => ?_
     refine R.nil (X.blk (X.then_ ?_))
     exact ⟨n9, (cvt .i64 (shrI .u64 (cvt .u64 (w64 (n9 + n10))) 1)), (by rw [hagain3] at h; exact h), (((((hf.nil.cons (hf.get 15 _ rfl)).cons (hf.get 14 _ rfl)).cons (hf.get 4 _ rfl)).cons (hf.get 2 _ rfl)).cons (hf.get 0 _ rfl)), hs⟩
   ·replace h := h.2 hc
    refine wp_exit (X.then_exit (X.then_exit (X.blk_exit (X.then_ (wp_seq (wp_seq (R.list ?_)))))))
    refine S.p hf hs (iv m) rfl rfl fun a hf => ?_
    refine S.p hf hs (iv m) rfl rfl fun a hf => ?_
    refine R.nil (X.then_ (wp_block ?_))
    obtain ⟨kk, h⟩ := h
    refine C.loop (fun kk a w => ∃ (l4 : List Int) (hl_l4 : l4.length = data.length) (n12 : Int), iterF (fun again (s : List Int × Int) => M_symMerge_L4 Q n9 (fun l4 n12 => again (l4, n12)) s.1 s.2) kk (l4, n12) ∧ FrOk 220 [(0, .slice dataA l4.length dataC), (14, iv n9), (17, iv n12)] a ∧ Sat w0 F0 [hown 3 dataA dataC l4] w) kk ⟨data, rfl, m, h, (((hf.nil.cons (hf.get 17 _ rfl)).cons (hf.get 14 _ rfl)).cons (hf.get 0 _ rfl)), hs⟩ (fun a w ⟨_, _, _, h, _, _⟩ => h) ?_
    clear h hf hs
    rintro kk a w ⟨l4, hl_l4, n12, h, hf, hs⟩
    obtain ⟨again4, hagain4⟩ : ∃ X : List Int → Int → Prop, X = (fun l4 n12 => iterF (fun again (s : List Int × Int) => M_symMerge_L4 Q n9 (fun l4 n12 => again (l4, n12)) s.1 s.2) kk (l4, n12)) := ⟨_, rfl⟩
    replace h : M_symMerge_L4 Q n9 again4 l4 n12 := by rw [hagain4]; exact h
    unfold M_symMerge_L4 at h
    refine wp_seq (wp_seq (R.list ?_))
    refine S.p hf hs (iv n12) rfl rfl fun a hf => ?_
    refine S.p hf hs (iv n9) rfl rfl fun a hf => ?_
    refine S.p hf hs (.bool (decide (n12 > n9))) rfl rfl fun a hf => ?_
    refine R.nil (X.then_ ?_)
    refine C.cond hf (b := decide (n12 > n9)) rfl (fun hc => ?_) (fun hc => ?_)
    ·replace h := h.1 hc
     refine wp_skip (X.then_ (wp_seq (wp_block ?_)))
     refine M.start 15 (Sat w0 F0 [hown 3 dataA dataC l4]) mo ?_
     replace hs := hs.drew
     refine M.v hf hs (.slice dataA l4.length dataC) 0 rfl rfl (by kernel_rfl) (V.pure rfl) fun a hf => ?_
     refine M.v hf hs (iv n12) 1 rfl rfl (by kernel_rfl) (V.pure rfl) fun a hf => ?_
     refine M.valp hf hs (v := .slice dataA l4.length dataC) (i := 2) rfl rfl rfl rfl (by kernel_rfl) (by kernel_rfl) (by kernel_rfl) rfl (fun w1 => V.pure rfl) (fun a hf => ?_)
     refine M.valp hf hs (v := iv n12) (i := 3) rfl rfl rfl rfl (by kernel_rfl) (by kernel_rfl) (by kernel_rfl) rfl (fun w1 => V.pure rfl) (fun a hf => ?_)
     refine M.valp hf hs (v := iv (w64 (n12 - 1))) (i := 4) rfl rfl rfl rfl (by kernel_rfl) (by kernel_rfl) (by kernel_rfl) rfl (fun w1 => V.pure rfl) (fun a hf => ?_)
     refine M.v hf hs (.slice dataA l4.length dataC) 5 rfl rfl (by kernel_rfl) (V.pure rfl) fun a hf => ?_
     refine M.v hf hs (iv n12) 6 rfl rfl (by kernel_rfl) (V.pure rfl) fun a hf => ?_
     refine M.v hf hs (iv (w64 (n12 - 1))) 7 rfl rfl (by kernel_rfl) (V.pure rfl) fun a hf => ?_
     obtain ⟨h0x8, x8, hx8, h⟩ := h
     refine M.v hf hs (elemPtr dataA ((w64 (n12 - 1)).toNat * 1)) 8 rfl rfl (by kernel_rfl) (V.index rfl rfl rfl Tryd.runUnderlying48 Tryd.sizeOf3 (hs.ownSome 0 rfl (lt_of_get hx8)) h0x8 (lt_of_get hx8) rfl) fun a hf => ?_
     refine M.v hf hs (iv x8) 9 rfl rfl (by kernel_rfl) (V.loadOwn (off := 0) 0 rfl hx8 rfl rfl rfl Tryd.isAgg3 Tryd.sizeOf3 rfl rfl) fun a hf => ?_
     refine M.valp hf hs (v := .slice dataA l4.length dataC) (i := 10) rfl rfl rfl rfl (by kernel_rfl) (by kernel_rfl) (by kernel_rfl) rfl (fun w1 => V.pure rfl) (fun a hf => ?_)
     refine M.valp hf hs (v := iv n12) (i := 11) rfl rfl rfl rfl (by kernel_rfl) (by kernel_rfl) (by kernel_rfl) rfl (fun w1 => V.pure rfl) (fun a hf => ?_)
     obtain ⟨h0x9, x9, hx9, h⟩ := h
     refine M.valp hf hs (v := elemPtr dataA (n12.toNat * 1)) (i := 12) rfl rfl rfl rfl (by kernel_rfl) (by kernel_rfl) (by kernel_rfl) rfl (fun w1 => V.index rfl rfl rfl Tryd.runUnderlying48 Tryd.sizeOf3 (hs.ownSome 0 rfl (lt_of_get hx9)) h0x9 (lt_of_get hx9) rfl) (fun a hf => ?_)
     refine M.v hf hs (iv x9) 13 rfl rfl (by kernel_rfl) (V.loadOwn (off := 0) 0 rfl hx9 rfl rfl rfl Tryd.isAgg3 Tryd.sizeOf3 rfl rfl) fun a hf => ?_
     refine M.v hf hs (elemPtr dataA (n12.toNat * 1)) 14 rfl rfl (by kernel_rfl) (V.index rfl rfl rfl Tryd.runUnderlying48 Tryd.sizeOf3 (hs.ownSome 0 rfl (lt_of_get hx9)) h0x9 (lt_of_get hx9) rfl) fun a hf => ?_
     refine M.last (i := 15) rfl (by kernel_rfl) (by kernel_rfl) ?_
     refine S.storeOwn (off := 0) 0 hf hs rfl rfl x8 [iv x8] rfl hx9 rfl rfl rfl rfl rfl Tryd.sizeOf3 rfl (by decide) rfl rfl (fun a w hf hs => ?_)
     replace hf := hf.tell 0 (v := .slice dataA (l4.set n12.toNat x8).length dataC) ((hf.get 0 (.slice dataA l4.length dataC) rfl).trans (congrArg (fun n => Value.slice dataA n dataC) List.length_set.symm))
     replace hf := hf.tell 113 (v := .slice dataA (l4.set n12.toNat x8).length dataC) ((hf.get 113 (.slice dataA l4.length dataC) rfl).trans (congrArg (fun n => Value.slice dataA n dataC) List.length_set.symm))
     replace hf := hf.tell 115 (v := .slice dataA (l4.set n12.toNat x8).length dataC) ((hf.get 115 (.slice dataA l4.length dataC) rfl).trans (congrArg (fun n => Value.slice dataA n dataC) List.length_set.symm))
     replace hf := hf.tell 118 (v := .slice dataA (l4.set n12.toNat x8).length dataC) ((hf.get 118 (.slice dataA l4.length dataC) rfl).trans (congrArg (fun n => Value.slice dataA n dataC) List.length_set.symm))
     replace hf := hf.tell 123 (v := .slice dataA (l4.set n12.toNat x8).length dataC) ((hf.get 123 (.slice dataA l4.length dataC) rfl).trans (congrArg (fun n => Value.slice dataA n dataC) List.length_set.symm))
     refine R.nil (X.then_ ?_)
     refine M.last (i := 16) rfl (by kernel_rfl) (by kernel_rfl) ?_
     obtain ⟨h0x10, x10, hx10, h⟩ := h
     refine S.v hf hs (elemPtr dataA ((w64 (n12 - 1)).toNat * 1)) rfl (V.index rfl rfl rfl Tryd.runUnderlying48 Tryd.sizeOf3 (hs.ownSome 0 rfl (lt_of_get hx10)) h0x10 (lt_of_get hx10) rfl) fun a hf => ?_
     refine R.nil (X.then_ ?_)
     refine M.last (i := 17) rfl (by kernel_rfl) (by kernel_rfl) ?_
     refine S.storeOwn (off := 0) 0 hf hs rfl rfl x9 [iv x9] rfl hx10 rfl rfl rfl rfl rfl Tryd.sizeOf3 rfl (by decide) rfl rfl (fun a w hf hs => ?_)
     replace hf := hf.tell 0 (v := .slice dataA ((l4.set n12.toNat x8).set ((w64 (n12 - 1)).toNat) x9).length dataC) ((hf.get 0 (.slice dataA (l4.set n12.toNat x8).length dataC) rfl).trans (congrArg (fun n => Value.slice dataA n dataC) List.length_set.symm))
     replace hf := hf.tell 113 (v := .slice dataA ((l4.set n12.toNat x8).set ((w64 (n12 - 1)).toNat) x9).length dataC) ((hf.get 113 (.slice dataA (l4.set n12.toNat x8).length dataC) rfl).trans (congrArg (fun n => Value.slice dataA n dataC) List.length_set.symm))
     replace hf := hf.tell 115 (v := .slice dataA ((l4.set n12.toNat x8).set ((w64 (n12 - 1)).toNat) x9).length dataC) ((hf.get 115 (.slice dataA (l4.set n12.toNat x8).length dataC) rfl).trans (congrArg (fun n => Value.slice dataA n dataC) List.length_set.symm))
     replace hf := hf.tell 118 (v := .slice dataA ((l4.set n12.toNat x8).set ((w64 (n12 - 1)).toNat) x9).length dataC) ((hf.get 118 (.slice dataA (l4.set n12.toNat x8).length dataC) rfl).trans (congrArg (fun n => Value.slice dataA n dataC) List.length_set.symm))
     replace hf := hf.tell 123 (v := .slice dataA ((l4.set n12.toNat x8).set ((w64 (n12 - 1)).toNat) x9).length dataC) ((hf.get 123 (.slice dataA (l4.set n12.toNat x8).length dataC) rfl).trans (congrArg (fun n => Value.slice dataA n dataC) List.length_set.symm))
     refine R.nil (X.then_ ?_)
     refine M.done (by kernel_rfl) ?_
     refine X.blk (X.then_ (R.list ?_))
     refine S.p hf hs (iv n12) rfl rfl fun a hf => ?_
     refine S.p hf hs (iv (w64 (n12 - 1))) rfl rfl fun a hf => ?_
     refine S.p hf hs (iv (w64 (n12 - 1))) rfl rfl fun a hf => ?_
     refine R.nil (X.then_ ?_)
     exact ⟨((l4.set n12.toNat x8).set ((w64 (n12 - 1)).toNat) x9), (List.length_set.trans (List.length_set.trans hl_l4)), (w64 (n12 - 1)), (by rw [hagain4] at h; exact h), (((hf.nil.cons (hf.get 17 _ rfl)).cons (hf.get 14 _ rfl)).cons (hf.get 0 _ rfl)), hs⟩
    ·replace h := h.2 hc
     refine wp_exit (X.then_exit (X.then_exit (X.blk_exit (X.then_ (wp_ret (X.then_ret ?_))))))
     replace hs := hs.take 1
     exact L.ret0 Tryd.results107 hf ⟨l4, hl_l4, rfl, h, hs⟩
  ·replace h := h.2 hc
   refine wp_skip (X.then_ (wp_seq (R.list ?_)))
   refine S.p hf hs (iv a_) rfl rfl fun a hf => ?_
   refine S.p hf hs (iv b) rfl rfl fun a hf => ?_
   refine S.p hf hs (iv (w64 (a_ + b))) rfl rfl fun a hf => ?_
   refine S.v hf hs (.int .u64 (cvt .u64 (w64 (a_ + b)))) rfl (V.conv rfl rfl Tryd.runUnderlying3 Tryd.runUnderlying140) fun a hf => ?_
   refine S.v hf hs (.int .u64 (shrI .u64 (cvt .u64 (w64 (a_ + b))) 1)) rfl (V.shr rfl rfl rfl (by decide)) fun a hf => ?_
   refine S.v hf hs (iv (cvt .i64 (shrI .u64 (cvt .u64 (w64 (a_ + b))) 1))) rfl (V.conv rfl rfl Tryd.runUnderlying140 Tryd.runUnderlying3) fun a hf => ?_
   refine S.p hf hs (iv (cvt .i64 (shrI .u64 (cvt .u64 (w64 (a_ + b))) 1))) rfl rfl fun a hf => ?_
   refine R.nil (X.then_ (wp_seq (R.list ?_)))
   refine S.p hf hs (iv (cvt .i64 (shrI .u64 (cvt .u64 (w64 (a_ + b))) 1))) rfl rfl fun a hf => ?_
   refine S.p hf hs (iv m) rfl rfl fun a hf => ?_
   refine S.p hf hs (iv (w64 ((cvt .i64 (shrI .u64 (cvt .u64 (w64 (a_ + b))) 1)) + m))) rfl rfl fun a hf => ?_
   refine S.p hf hs (iv (w64 ((cvt .i64 (shrI .u64 (cvt .u64 (w64 (a_ + b))) 1)) + m))) rfl rfl fun a hf => ?_
   refine R.nil (X.then_ (wp_seq (R.list ?_)))
   refine S.p hf hs (iv 0) rfl rfl fun a hf => ?_
   refine S.p hf hs (iv 0) rfl rfl fun a hf => ?_
   refine R.nil (X.then_ (wp_seq ?_))
   refine C.cut (J := fun a w => ∃ (n13 : Int) (n14 : Int), M_symMerge_k5 data a_ m b bb l Q rec_ n13 n14 ∧ FrOk 220 [(0, .slice dataA data.length dataC), (1, iv a_), (2, iv m), (3, iv b), (4, .func (.func 60) #[] #[(pn bbg 0), (pn lg 0)]), (18, iv (cvt .i64 (shrI .u64 (cvt .u64 (w64 (a_ + b))) 1))), (19, iv (w64 ((cvt .i64 (shrI .u64 (cvt .u64 (w64 (a_ + b))) 1)) + m))), (20, iv n13), (21, iv n14)] a ∧ Sat w0 F0 [hown 3 dataA dataC data] w) ?_ ?_
   ·rintro a w ⟨n13, n14, h, hf, hs⟩
    unfold M_symMerge_k5 at h
    refine wp_seq (R.list ?_)
    refine S.p hf hs (iv (w64 ((cvt .i64 (shrI .u64 (cvt .u64 (w64 (a_ + b))) 1)) + m))) rfl rfl fun a hf => ?_
    refine S.p hf hs (iv (w64 ((w64 ((cvt .i64 (shrI .u64 (cvt .u64 (w64 (a_ + b))) 1)) + m)) - 1))) rfl rfl fun a hf => ?_
    refine S.p hf hs (iv (w64 ((w64 ((cvt .i64 (shrI .u64 (cvt .u64 (w64 (a_ + b))) 1)) + m)) - 1))) rfl rfl fun a hf => ?_
    refine R.nil (X.then_ (wp_seq (wp_block ?_)))
    obtain ⟨kk, h⟩ := h
    refine C.loop (fun kk a w => ∃ (n17 : Int) (n18 : Int), iterF (fun again (s : Int × Int) => M_symMerge_L5 data a_ m b bb l Q rec_ (fun n17 n18 => again (n17, n18)) s.1 s.2) kk (n17, n18) ∧ FrOk 220 [(0, .slice dataA data.length dataC), (1, iv a_), (2, iv m), (3, iv b), (4, .func (.func 60) #[] #[(pn bbg 0), (pn lg 0)]), (18, iv (cvt .i64 (shrI .u64 (cvt .u64 (w64 (a_ + b))) 1))), (19, iv (w64 ((cvt .i64 (shrI .u64 (cvt .u64 (w64 (a_ + b))) 1)) + m))), (20, iv n17), (21, iv n18), (22, iv (w64 ((w64 ((cvt .i64 (shrI .u64 (cvt .u64 (w64 (a_ + b))) 1)) + m)) - 1)))] a ∧ Sat w0 F0 [hown 3 dataA dataC data] w) kk ⟨n13, n14, h, ((((((((((hf.nil.cons (hf.get 22 _ rfl)).cons (hf.get 21 _ rfl)).cons (hf.get 20 _ rfl)).cons (hf.get 19 _ rfl)).cons (hf.get 18 _ rfl)).cons (hf.get 4 _ rfl)).cons (hf.get 3 _ rfl)).cons (hf.get 2 _ rfl)).cons (hf.get 1 _ rfl)).cons (hf.get 0 _ rfl)), hs⟩ (fun a w ⟨_, _, h, _, _⟩ => h) ?_
    clear h hf hs
    rintro kk a w ⟨n17, n18, h, hf, hs⟩
    obtain ⟨again5, hagain5⟩ : ∃ X : Int → Int → Prop, X = (fun n17 n18 => iterF (fun again (s : Int × Int) => M_symMerge_L5 data a_ m b bb l Q rec_ (fun n17 n18 => again (n17, n18)) s.1 s.2) kk (n17, n18)) := ⟨_, rfl⟩
    replace h : M_symMerge_L5 data a_ m b bb l Q rec_ again5 n17 n18 := by rw [hagain5]; exact h
    unfold M_symMerge_L5 at h
    refine wp_seq (wp_seq (R.list ?_))
    refine S.p hf hs (iv n17) rfl rfl fun a hf => ?_
    refine S.p hf hs (iv n18) rfl rfl fun a hf => ?_
    refine S.p hf hs (.bool (decide (n17 < n18))) rfl rfl fun a hf => ?_
    refine R.nil (X.then_ ?_)
    refine C.cond hf (b := decide (n17 < n18)) rfl (fun hc => ?_) (fun hc => ?_)
    ·replace h := h.1 hc
     refine wp_skip (X.then_ (wp_block (wp_seq (R.list ?_))))
     refine S.p hf hs (iv n17) rfl rfl fun a hf => ?_
     refine S.p hf hs (iv n18) rfl rfl fun a hf => ?_
     refine S.p hf hs (iv (w64 (n17 + n18))) rfl rfl fun a hf => ?_
     refine S.v hf hs (.int .u64 (cvt .u64 (w64 (n17 + n18)))) rfl (V.conv rfl rfl Tryd.runUnderlying3 Tryd.runUnderlying140) fun a hf => ?_
     refine S.v hf hs (.int .u64 (shrI .u64 (cvt .u64 (w64 (n17 + n18))) 1)) rfl (V.shr rfl rfl rfl (by decide)) fun a hf => ?_
     refine S.v hf hs (iv (cvt .i64 (shrI .u64 (cvt .u64 (w64 (n17 + n18))) 1))) rfl (V.conv rfl rfl Tryd.runUnderlying140 Tryd.runUnderlying3) fun a hf => ?_
     refine S.p hf hs (iv (cvt .i64 (shrI .u64 (cvt .u64 (w64 (n17 + n18))) 1))) rfl rfl fun a hf => ?_
     refine R.nil (X.then_ (wp_seq ?_))
     refine H.start (S := Sat w0 F0 [hown 3 dataA dataC data]) mo ?_
     replace hs := hs.drew
     refine H.v hf hs (.func (.func 60) #[] #[(pn bbg 0), (pn lg 0)]) 0 rfl rfl (by kernel_rfl) (V.pure rfl) fun a hf => ?_
     refine H.v hf hs (.slice dataA data.length dataC) 1 rfl rfl (by kernel_rfl) (V.pure rfl) fun a hf => ?_
     refine H.v hf hs (iv (w64 ((w64 ((cvt .i64 (shrI .u64 (cvt .u64 (w64 (a_ + b))) 1)) + m)) - 1))) 2 rfl rfl (by kernel_rfl) (V.pure rfl) fun a hf => ?_
     refine H.v hf hs (iv (cvt .i64 (shrI .u64 (cvt .u64 (w64 (n17 + n18))) 1))) 3 rfl rfl (by kernel_rfl) (V.pure rfl) fun a hf => ?_
     refine H.v hf hs (iv (w64 ((w64 ((w64 ((cvt .i64 (shrI .u64 (cvt .u64 (w64 (a_ + b))) 1)) + m)) - 1)) - (cvt .i64 (shrI .u64 (cvt .u64 (w64 (n17 + n18))) 1))))) 4 rfl rfl (by kernel_rfl) (V.pure rfl) fun a hf => ?_
     obtain ⟨h0x11, x11, hx11, h⟩ := h
     refine H.v hf hs (elemPtr dataA ((w64 ((w64 ((w64 ((cvt .i64 (shrI .u64 (cvt .u64 (w64 (a_ + b))) 1)) + m)) - 1)) - (cvt .i64 (shrI .u64 (cvt .u64 (w64 (n17 + n18))) 1)))).toNat * 1)) 5 rfl rfl (by kernel_rfl) (V.index rfl rfl rfl Tryd.runUnderlying48 Tryd.sizeOf3 (hs.ownSome 0 rfl (lt_of_get hx11)) h0x11 (lt_of_get hx11) rfl) fun a hf => ?_
     refine H.v hf hs (iv x11) 6 rfl rfl (by kernel_rfl) (V.loadOwn (off := 0) 0 rfl hx11 rfl rfl rfl Tryd.isAgg3 Tryd.sizeOf3 rfl rfl) fun a hf => ?_
     refine H.v hf hs (.slice dataA data.length dataC) 7 rfl rfl (by kernel_rfl) (V.pure rfl) fun a hf => ?_
     refine H.v hf hs (iv (cvt .i64 (shrI .u64 (cvt .u64 (w64 (n17 + n18))) 1))) 8 rfl rfl (by kernel_rfl) (V.pure rfl) fun a hf => ?_
     obtain ⟨h0x12, x12, hx12, h⟩ := h
     refine H.v hf hs (elemPtr dataA ((cvt .i64 (shrI .u64 (cvt .u64 (w64 (n17 + n18))) 1)).toNat * 1)) 9 rfl rfl (by kernel_rfl) (V.index rfl rfl rfl Tryd.runUnderlying48 Tryd.sizeOf3 (hs.ownSome 0 rfl (lt_of_get hx12)) h0x12 (lt_of_get hx12) rfl) fun a hf => ?_
     refine H.v hf hs (iv x12) 10 rfl rfl (by kernel_rfl) (V.loadOwn (off := 0) 0 rfl hx12 rfl rfl rfl Tryd.isAgg3 Tryd.sizeOf3 rfl rfl) fun a hf => ?_
     refine H.one (i := 11) rfl (by kernel_rfl) ?_
     refine S.call hf rfl rfl rfl (call_run (args := #[iv x11, iv x12, (pn bbg 0), (pn lg 0)]) rfl rfl rfl Tryd.call60 (by simp)) (R_Ordered1 x11 x12 bb l _ bbA bbC ((Ag.args _ _ _).view hv_bb hs) bbg ((Ag.args _ _ _).elem hb_bb hs) lA lC ((Ag.args _ _ _).view hv_l hs) lg ((Ag.args _ _ _).elem hb_l hs) _ h) (fun v a w' hf hr => ?_)
     obtain ⟨y3, rfl, h2, hs2⟩ := hr
     replace h := h2; replace hs := hs.call hs2; clear h2 hs2
     refine R.nil (X.then_ ?_)
     refine ⟨hs, ?_⟩
     refine H.v hf hs (.bool (decide (y3 < 0))) 12 rfl rfl (by kernel_rfl) (V.pure rfl) fun a hf => ?_
     refine H.v hf hs (.bool (!(decide (y3 < 0)))) 13 rfl rfl (by kernel_rfl) (V.pure rfl) fun a hf => ?_
     refine H.done (by kernel_rfl) ?_
     refine X.then_ ?_
     refine C.cond hf (b := !(decide (y3 < 0))) rfl (fun hc => ?_) (fun hc => ?_)
     ·replace h := h.1 hc
      refine R.list ?_
      refine S.p hf hs (iv (cvt .i64 (shrI .u64 (cvt .u64 (w64 (n17 + n18))) 1))) rfl rfl fun a hf => ?_
      refine S.p hf hs (iv (w64 ((cvt .i64 (shrI .u64 (cvt .u64 (w64 (n17 + n18))) 1)) + 1))) rfl rfl fun a hf => ?_
      refine S.p hf hs (iv (w64 ((cvt .i64 (shrI .u64 (cvt .u64 (w64 (n17 + n18))) 1)) + 1))) rfl rfl fun a hf => ?_
      refine R.nil (X.blk (X.then_ ?_))
      exact ⟨(w64 ((cvt .i64 (shrI .u64 (cvt .u64 (w64 (n17 + n18))) 1)) + 1)), n18, (by rw [hagain5] at h; exact h), ((((((((((hf.nil.cons (hf.get 22 _ rfl)).cons (hf.get 21 _ rfl)).cons (hf.get 20 _ rfl)).cons (hf.get 19 _ rfl)).cons (hf.get 18 _ rfl)).cons (hf.get 4 _ rfl)).cons (hf.get 3 _ rfl)).cons (hf.get 2 _ rfl)).cons (hf.get 1 _ rfl)).cons (hf.get 0 _ rfl)), hs⟩
     ·replace h := h.2 hc
      refine R.list ?_
      refine S.p hf hs (iv (cvt .i64 (shrI .u64 (cvt .u64 (w64 (n17 + n18))) 1))) rfl rfl fun a hf => ?_
      refine S.p hf hs (iv (cvt .i64 (shrI .u64 (cvt .u64 (w64 (n17 + n18))) 1))) rfl rfl fun a hf => ?_
      refine R.nil (X.blk (X.then_ ?_))
      exact ⟨n17, (cvt .i64 (shrI .u64 (cvt .u64 (w64 (n17 + n18))) 1)), (by rw [hagain5] at h; exact h), ((((((((((hf.nil.cons (hf.get 22 _ rfl)).cons (hf.get 21 _ rfl)).cons (hf.get 20 _ rfl)).cons (hf.get 19 _ rfl)).cons (hf.get 18 _ rfl)).cons (hf.get 4 _ rfl)).cons (hf.get 3 _ rfl)).cons (hf.get 2 _ rfl)).cons (hf.get 1 _ rfl)).cons (hf.get 0 _ rfl)), hs⟩
    ·replace h := h.2 hc
     refine wp_exit (X.then_exit (X.then_exit (X.blk_exit (X.then_ (wp_seq (R.list ?_))))))
     refine S.p hf hs (iv (w64 ((cvt .i64 (shrI .u64 (cvt .u64 (w64 (a_ + b))) 1)) + m))) rfl rfl fun a hf => ?_
     refine S.p hf hs (iv n17) rfl rfl fun a hf => ?_
     refine S.p hf hs (iv (w64 ((w64 ((cvt .i64 (shrI .u64 (cvt .u64 (w64 (a_ + b))) 1)) + m)) - n17))) rfl rfl fun a hf => ?_
     refine S.p hf hs (iv (w64 ((w64 ((cvt .i64 (shrI .u64 (cvt .u64 (w64 (a_ + b))) 1)) + m)) - n17))) rfl rfl fun a hf => ?_
     refine R.nil (X.then_ (wp_seq ?_))
     refine C.cut (J := fun a w => ∃ (l5 : List Int) (hl_l5 : l5.length = data.length), M_symMerge_k7 a_ m b bb l Q rec_ n17 l5 ∧ FrOk 220 [(0, .slice dataA l5.length dataC), (1, iv a_), (3, iv b), (4, .func (.func 60) #[] #[(pn bbg 0), (pn lg 0)]), (18, iv (cvt .i64 (shrI .u64 (cvt .u64 (w64 (a_ + b))) 1))), (20, iv n17), (24, iv (w64 ((w64 ((cvt .i64 (shrI .u64 (cvt .u64 (w64 (a_ + b))) 1)) + m)) - n17)))] a ∧ Sat w0 F0 [hown 3 dataA dataC l5] w) ?_ ?_
     ·rintro a w ⟨l5, hl_l5, h, hf, hs⟩
      unfold M_symMerge_k7 at h
      refine wp_seq ?_
      refine C.cut (J := fun a w => ∃ (l6 : List Int) (hl_l6 : l6.length = data.length), M_symMerge_k8 a_ m b bb l Q rec_ n17 l6 ∧ FrOk 220 [(0, .slice dataA l6.length dataC), (3, iv b), (4, .func (.func 60) #[] #[(pn bbg 0), (pn lg 0)]), (18, iv (cvt .i64 (shrI .u64 (cvt .u64 (w64 (a_ + b))) 1))), (24, iv (w64 ((w64 ((cvt .i64 (shrI .u64 (cvt .u64 (w64 (a_ + b))) 1)) + m)) - n17)))] a ∧ Sat w0 F0 [hown 3 dataA dataC l6] w) ?_ ?_
      ·rintro a w ⟨l6, hl_l6, h, hf, hs⟩
       unfold M_symMerge_k8 at h
       refine wp_seq ?_
       refine C.cut (J := fun a w => ∃ (c1 : Bool), M_symMerge_k9 a_ m b bb l Q rec_ n17 l6 c1 ∧ FrOk 220 [(0, .slice dataA l6.length dataC), (3, iv b), (4, .func (.func 60) #[] #[(pn bbg 0), (pn lg 0)]), (18, iv (cvt .i64 (shrI .u64 (cvt .u64 (w64 (a_ + b))) 1))), (24, iv (w64 ((w64 ((cvt .i64 (shrI .u64 (cvt .u64 (w64 (a_ + b))) 1)) + m)) - n17))), (213, .bool c1)] a ∧ Sat w0 F0 [hown 3 dataA dataC l6] w) ?_ ?_
       ·rintro a w ⟨c1, h, hf, hs⟩
        unfold M_symMerge_k9 at h
        refine C.cond hf (b := c1) rfl (fun hc => ?_) (fun hc => ?_)
        ·replace h := h.1 hc
         refine R.list ?_
         refine S.p hf hs (.slice dataA l6.length dataC) rfl rfl fun a hf => ?_
         refine S.p hf hs (iv (cvt .i64 (shrI .u64 (cvt .u64 (w64 (a_ + b))) 1))) rfl rfl fun a hf => ?_
         refine S.p hf hs (iv (w64 ((w64 ((cvt .i64 (shrI .u64 (cvt .u64 (w64 (a_ + b))) 1)) + m)) - n17))) rfl rfl fun a hf => ?_
         refine S.p hf hs (iv b) rfl rfl fun a hf => ?_
         refine S.p hf hs (.func (.func 60) #[] #[(pn bbg 0), (pn lg 0)]) rfl rfl fun a hf => ?_
         obtain ⟨F1, hsF, hback, hold, hrest⟩ := Sat.callOwns [hown 3 dataA dataC l6] (σ := []) hs
         refine S.call hf rfl rfl rfl (call_fn (vs := [.slice dataA l6.length dataC, iv (cvt .i64 (shrI .u64 (cvt .u64 (w64 (a_ + b))) 1)), iv (w64 ((w64 ((cvt .i64 (shrI .u64 (cvt .u64 (w64 (a_ + b))) 1)) + m)) - n17)), iv b, .func (.func 60) #[] #[(pn bbg 0), (pn lg 0)]]) rfl rfl rfl Tryd.call107) (ih l6 (cvt .i64 (shrI .u64 (cvt .u64 (w64 (a_ + b))) 1)) (w64 ((w64 ((cvt .i64 (shrI .u64 (cvt .u64 (w64 (a_ + b))) 1)) + m)) - n17)) b bb l _ _ dataA dataC bbA bbC (viewArgsF hs hold hv_bb) bbg (elemArgsF hs hold hb_bb) lA lC (viewArgsF hs hold hv_l) lg (elemArgsF hs hold hb_l) hsF _ h) (fun v a w' hf hr => ?_)
         obtain ⟨z1, hl_z1, rfl, h2, hs2⟩ := hr
         replace h := h2; replace hs := hback _ _ hs2; clear h2 hs2 hback hold hrest hsF
         replace hf := hf.tell 0 (v := .slice dataA z1.length dataC) ((hf.get 0 (.slice dataA l6.length dataC) rfl).trans (congrArg (fun n => Value.slice dataA n dataC) hl_z1.symm))
         replace hf := hf.tell 214 (v := .slice dataA z1.length dataC) ((hf.get 214 (.slice dataA l6.length dataC) rfl).trans (congrArg (fun n => Value.slice dataA n dataC) hl_z1.symm))
         refine R.nil ?_
         replace hs := hs.take 1
         exact L.end0 Tryd.results107 hf ⟨z1, (hl_z1.trans hl_l6), rfl, h, hs⟩
        ·replace h := h.2 hc
         refine wp_skip ?_
         replace hs := hs.take 1
         exact L.end0 Tryd.results107 hf ⟨l6, hl_l6, rfl, h, hs⟩
       ·skip
        refine R.list ?_
        refine S.p hf hs (iv (cvt .i64 (shrI .u64 (cvt .u64 (w64 (a_ + b))) 1))) rfl rfl fun a hf => ?_
        refine S.p hf hs (iv (w64 ((w64 ((cvt .i64 (shrI .u64 (cvt .u64 (w64 (a_ + b))) 1)) + m)) - n17))) rfl rfl fun a hf => ?_
        refine S.p hf hs (.bool (decide (cvt .i64 (shrI .u64 (cvt .u64 (w64 (a_ + b))) 1) < w64 ((w64 ((cvt .i64 (shrI .u64 (cvt .u64 (w64 (a_ + b))) 1)) + m)) - n17)))) rfl rfl fun a hf => ?_
        refine S.split hf hs (b := decide (cvt .i64 (shrI .u64 (cvt .u64 (w64 (a_ + b))) 1) < w64 ((w64 ((cvt .i64 (shrI .u64 (cvt .u64 (w64 (a_ + b))) 1)) + m)) - n17))) rfl rfl rfl (V.pure rfl) (fun hc a hf => ?_) (fun hc a hf => ?_)
        ·replace h := h.1 hc
         refine S.p hf hs (iv (w64 ((w64 ((cvt .i64 (shrI .u64 (cvt .u64 (w64 (a_ + b))) 1)) + m)) - n17))) rfl rfl fun a hf => ?_
         refine S.p hf hs (iv b) rfl rfl fun a hf => ?_
         refine S.p hf hs (.bool (decide (w64 ((w64 ((cvt .i64 (shrI .u64 (cvt .u64 (w64 (a_ + b))) 1)) + m)) - n17) < b))) rfl rfl fun a hf => ?_
         refine S.p hf hs (.bool (decide (w64 ((w64 ((cvt .i64 (shrI .u64 (cvt .u64 (w64 (a_ + b))) 1)) + m)) - n17) < b))) rfl rfl fun a hf => ?_
         refine R.nil (X.then_ ?_)
         exact ⟨(decide (w64 ((w64 ((cvt .i64 (shrI .u64 (cvt .u64 (w64 (a_ + b))) 1)) + m)) - n17) < b)), h, ((((((hf.nil.cons (hf.get 213 _ rfl)).cons (hf.get 24 _ rfl)).cons (hf.get 18 _ rfl)).cons (hf.get 4 _ rfl)).cons (hf.get 3 _ rfl)).cons (hf.get 0 _ rfl)), hs⟩
        ·replace h := h.2 hc
         refine S.k hf rfl fun a hf => ?_
         refine S.k hf rfl fun a hf => ?_
         refine S.k hf rfl fun a hf => ?_
         refine S.p hf hs (.bool false) rfl rfl fun a hf => ?_
         refine R.nil (X.then_ ?_)
         exact ⟨false, h, ((((((hf.nil.cons (hf.get 213 _ rfl)).cons (hf.get 24 _ rfl)).cons (hf.get 18 _ rfl)).cons (hf.get 4 _ rfl)).cons (hf.get 3 _ rfl)).cons (hf.get 0 _ rfl)), hs⟩
      ·skip
       refine wp_seq ?_
       refine C.cut (J := fun a w => ∃ (c2 : Bool), M_symMerge_k10 a_ m b bb l Q rec_ n17 l5 c2 ∧ FrOk 220 [(0, .slice dataA l5.length dataC), (1, iv a_), (3, iv b), (4, .func (.func 60) #[] #[(pn bbg 0), (pn lg 0)]), (18, iv (cvt .i64 (shrI .u64 (cvt .u64 (w64 (a_ + b))) 1))), (20, iv n17), (24, iv (w64 ((w64 ((cvt .i64 (shrI .u64 (cvt .u64 (w64 (a_ + b))) 1)) + m)) - n17))), (199, .bool c2)] a ∧ Sat w0 F0 [hown 3 dataA dataC l5] w) ?_ ?_
       ·rintro a w ⟨c2, h, hf, hs⟩
        unfold M_symMerge_k10 at h
        refine C.cond hf (b := c2) rfl (fun hc => ?_) (fun hc => ?_)
        ·replace h := h.1 hc
         refine R.list ?_
         refine S.p hf hs (.slice dataA l5.length dataC) rfl rfl fun a hf => ?_
         refine S.p hf hs (iv a_) rfl rfl fun a hf => ?_
         refine S.p hf hs (iv n17) rfl rfl fun a hf => ?_
         refine S.p hf hs (iv (cvt .i64 (shrI .u64 (cvt .u64 (w64 (a_ + b))) 1))) rfl rfl fun a hf => ?_
         refine S.p hf hs (.func (.func 60) #[] #[(pn bbg 0), (pn lg 0)]) rfl rfl fun a hf => ?_
         obtain ⟨F1, hsF, hback, hold, hrest⟩ := Sat.callOwns [hown 3 dataA dataC l5] (σ := []) hs
         refine S.call hf rfl rfl rfl (call_fn (vs := [.slice dataA l5.length dataC, iv a_, iv n17, iv (cvt .i64 (shrI .u64 (cvt .u64 (w64 (a_ + b))) 1)), .func (.func 60) #[] #[(pn bbg 0), (pn lg 0)]]) rfl rfl rfl Tryd.call107) (ih l5 a_ n17 (cvt .i64 (shrI .u64 (cvt .u64 (w64 (a_ + b))) 1)) bb l _ _ dataA dataC bbA bbC (viewArgsF hs hold hv_bb) bbg (elemArgsF hs hold hb_bb) lA lC (viewArgsF hs hold hv_l) lg (elemArgsF hs hold hb_l) hsF _ h) (fun v a w' hf hr => ?_)
         obtain ⟨z2, hl_z2, rfl, h2, hs2⟩ := hr
         replace h := h2; replace hs := hback _ _ hs2; clear h2 hs2 hback hold hrest hsF
         replace hf := hf.tell 0 (v := .slice dataA z2.length dataC) ((hf.get 0 (.slice dataA l5.length dataC) rfl).trans (congrArg (fun n => Value.slice dataA n dataC) hl_z2.symm))
         replace hf := hf.tell 200 (v := .slice dataA z2.length dataC) ((hf.get 200 (.slice dataA l5.length dataC) rfl).trans (congrArg (fun n => Value.slice dataA n dataC) hl_z2.symm))
         refine R.nil (X.then_ ?_)
         exact ⟨z2, (hl_z2.trans hl_l5), h, (((((hf.nil.cons (hf.get 24 _ rfl)).cons (hf.get 18 _ rfl)).cons (hf.get 4 _ rfl)).cons (hf.get 3 _ rfl)).cons (hf.get 0 _ rfl)), hs⟩
        ·replace h := h.2 hc
         refine wp_skip (X.then_ ?_)
         exact ⟨l5, hl_l5, h, (((((hf.nil.cons (hf.get 24 _ rfl)).cons (hf.get 18 _ rfl)).cons (hf.get 4 _ rfl)).cons (hf.get 3 _ rfl)).cons (hf.get 0 _ rfl)), hs⟩
       ·skip
        refine R.list ?_
        refine S.p hf hs (iv a_) rfl rfl fun a hf => ?_
        refine S.p hf hs (iv n17) rfl rfl fun a hf => ?_
        refine S.p hf hs (.bool (decide (a_ < n17))) rfl rfl fun a hf => ?_
        refine S.split hf hs (b := decide (a_ < n17)) rfl rfl rfl (V.pure rfl) (fun hc a hf => ?_) (fun hc a hf => ?_)
        ·replace h := h.1 hc
         refine S.p hf hs (iv n17) rfl rfl fun a hf => ?_
         refine S.p hf hs (iv (cvt .i64 (shrI .u64 (cvt .u64 (w64 (a_ + b))) 1))) rfl rfl fun a hf => ?_
         refine S.p hf hs (.bool (decide (n17 < cvt .i64 (shrI .u64 (cvt .u64 (w64 (a_ + b))) 1)))) rfl rfl fun a hf => ?_
         refine S.p hf hs (.bool (decide (n17 < cvt .i64 (shrI .u64 (cvt .u64 (w64 (a_ + b))) 1)))) rfl rfl fun a hf => ?_
         refine R.nil (X.then_ ?_)
         exact ⟨(decide (n17 < cvt .i64 (shrI .u64 (cvt .u64 (w64 (a_ + b))) 1))), h, ((((((((hf.nil.cons (hf.get 199 _ rfl)).cons (hf.get 24 _ rfl)).cons (hf.get 20 _ rfl)).cons (hf.get 18 _ rfl)).cons (hf.get 4 _ rfl)).cons (hf.get 3 _ rfl)).cons (hf.get 1 _ rfl)).cons (hf.get 0 _ rfl)), hs⟩
        ·replace h := h.2 hc
         refine S.k hf rfl fun a hf => ?_
         refine S.k hf rfl fun a hf => ?_
         refine S.k hf rfl fun a hf => ?_
         refine S.p hf hs (.bool false) rfl rfl fun a hf => ?_
         refine R.nil (X.then_ ?_)
         exact ⟨false, h, ((((((((hf.nil.cons (hf.get 199 _ rfl)).cons (hf.get 24 _ rfl)).cons (hf.get 20 _ rfl)).cons (hf.get 18 _ rfl)).cons (hf.get 4 _ rfl)).cons (hf.get 3 _ rfl)).cons (hf.get 1 _ rfl)).cons (hf.get 0 _ rfl)), hs⟩
     ·skip
      refine wp_seq ?_
      refine C.cut (J := fun a w => ∃ (c3 : Bool), M_symMerge_k11 data a_ m b bb l Q rec_ n17 c3 ∧ FrOk 220 [(0, .slice dataA data.length dataC), (1, iv a_), (2, iv m), (3, iv b), (4, .func (.func 60) #[] #[(pn bbg 0), (pn lg 0)]), (18, iv (cvt .i64 (shrI .u64 (cvt .u64 (w64 (a_ + b))) 1))), (20, iv n17), (24, iv (w64 ((w64 ((cvt .i64 (shrI .u64 (cvt .u64 (w64 (a_ + b))) 1)) + m)) - n17))), (185, .bool c3)] a ∧ Sat w0 F0 [hown 3 dataA dataC data] w) ?_ ?_
      ·rintro a w ⟨c3, h, hf, hs⟩
       unfold M_symMerge_k11 at h
       refine C.cond hf (b := c3) rfl (fun hc => ?_) (fun hc => ?_)
       ·replace h := h.1 hc
        refine R.list ?_
        refine S.p hf hs (.slice dataA data.length dataC) rfl rfl fun a hf => ?_
        refine S.p hf hs (iv n17) rfl rfl fun a hf => ?_
        refine S.p hf hs (iv m) rfl rfl fun a hf => ?_
        refine S.p hf hs (iv (w64 ((w64 ((cvt .i64 (shrI .u64 (cvt .u64 (w64 (a_ + b))) 1)) + m)) - n17))) rfl rfl fun a hf => ?_
        refine S.p hf hs (.func (.func 60) #[] #[(pn bbg 0), (pn lg 0)]) rfl rfl fun a hf => ?_
        obtain ⟨F1, hsF, hback, hold, hrest⟩ := Sat.callOwns [hown 3 dataA dataC data] (σ := []) hs
        refine S.call hf rfl rfl rfl (call_fn (vs := [.slice dataA data.length dataC, iv n17, iv m, iv (w64 ((w64 ((cvt .i64 (shrI .u64 (cvt .u64 (w64 (a_ + b))) 1)) + m)) - n17)), .func (.func 60) #[] #[(pn bbg 0), (pn lg 0)]]) rfl rfl rfl Tryd.call116) (R_rotate data n17 m (w64 ((w64 ((cvt .i64 (shrI .u64 (cvt .u64 (w64 (a_ + b))) 1)) + m)) - n17)) bb l _ _ dataA dataC bbA bbC (viewArgsF hs hold hv_bb) bbg (elemArgsF hs hold hb_bb) lA lC (viewArgsF hs hold hv_l) lg (elemArgsF hs hold hb_l) hsF _ h) (fun v a w' hf hr => ?_)
        obtain ⟨z3, hl_z3, rfl, h2, hs2⟩ := hr
        replace h := h2; replace hs := hback _ _ hs2; clear h2 hs2 hback hold hrest hsF
        replace hf := hf.tell 0 (v := .slice dataA z3.length dataC) ((hf.get 0 (.slice dataA data.length dataC) rfl).trans (congrArg (fun n => Value.slice dataA n dataC) hl_z3.symm))
        replace hf := hf.tell 186 (v := .slice dataA z3.length dataC) ((hf.get 186 (.slice dataA data.length dataC) rfl).trans (congrArg (fun n => Value.slice dataA n dataC) hl_z3.symm))
        refine R.nil (X.then_ ?_)
        exact ⟨z3, (hl_z3.trans rfl), h, (((((((hf.nil.cons (hf.get 24 _ rfl)).cons (hf.get 20 _ rfl)).cons (hf.get 18 _ rfl)).cons (hf.get 4 _ rfl)).cons (hf.get 3 _ rfl)).cons (hf.get 1 _ rfl)).cons (hf.get 0 _ rfl)), hs⟩
       ·replace h := h.2 hc
        refine wp_skip (X.then_ ?_)
        exact ⟨data, rfl, h, (((((((hf.nil.cons (hf.get 24 _ rfl)).cons (hf.get 20 _ rfl)).cons (hf.get 18 _ rfl)).cons (hf.get 4 _ rfl)).cons (hf.get 3 _ rfl)).cons (hf.get 1 _ rfl)).cons (hf.get 0 _ rfl)), hs⟩
      ·skip
       refine R.list ?_
       refine S.p hf hs (iv n17) rfl rfl fun a hf => ?_
       refine S.p hf hs (iv m) rfl rfl fun a hf => ?_
       refine S.p hf hs (.bool (decide (n17 < m))) rfl rfl fun a hf => ?_
       refine S.split hf hs (b := decide (n17 < m)) rfl rfl rfl (V.pure rfl) (fun hc a hf => ?_) (fun hc a hf => ?_)
       ·replace h := h.1 hc
        refine S.p hf hs (iv m) rfl rfl fun a hf => ?_
        refine S.p hf hs (iv (w64 ((w64 ((cvt .i64 (shrI .u64 (cvt .u64 (w64 (a_ + b))) 1)) + m)) - n17))) rfl rfl fun a hf => ?_
        refine S.p hf hs (.bool (decide (m < w64 ((w64 ((cvt .i64 (shrI .u64 (cvt .u64 (w64 (a_ + b))) 1)) + m)) - n17)))) rfl rfl fun a hf => ?_
        refine S.p hf hs (.bool (decide (m < w64 ((w64 ((cvt .i64 (shrI .u64 (cvt .u64 (w64 (a_ + b))) 1)) + m)) - n17)))) rfl rfl fun a hf => ?_
        refine R.nil (X.then_ ?_)
        exact ⟨(decide (m < w64 ((w64 ((cvt .i64 (shrI .u64 (cvt .u64 (w64 (a_ + b))) 1)) + m)) - n17))), h, (((((((((hf.nil.cons (hf.get 185 _ rfl)).cons (hf.get 24 _ rfl)).cons (hf.get 20 _ rfl)).cons (hf.get 18 _ rfl)).cons (hf.get 4 _ rfl)).cons (hf.get 3 _ rfl)).cons (hf.get 2 _ rfl)).cons (hf.get 1 _ rfl)).cons (hf.get 0 _ rfl)), hs⟩
       ·replace h := h.2 hc
        refine S.k hf rfl fun a hf => ?_
        refine S.k hf rfl fun a hf => ?_
        refine S.k hf rfl fun a hf => ?_
        refine S.p hf hs (.bool false) rfl rfl fun a hf => ?_
        refine R.nil (X.then_ ?_)
        exact ⟨false, h, (((((((((hf.nil.cons (hf.get 185 _ rfl)).cons (hf.get 24 _ rfl)).cons (hf.get 20 _ rfl)).cons (hf.get 18 _ rfl)).cons (hf.get 4 _ rfl)).cons (hf.get 3 _ rfl)).cons (hf.get 2 _ rfl)).cons (hf.get 1 _ rfl)).cons (hf.get 0 _ rfl)), hs⟩
   ·skip
    refine wp_seq (R.list ?_)
    refine S.p hf hs (iv m) rfl rfl fun a hf => ?_
    refine S.p hf hs (iv (cvt .i64 (shrI .u64 (cvt .u64 (w64 (a_ + b))) 1))) rfl rfl fun a hf => ?_
    refine S.p hf hs (.bool (decide (m > cvt .i64 (shrI .u64 (cvt .u64 (w64 (a_ + b))) 1)))) rfl rfl fun a hf => ?_
    refine R.nil (X.then_ ?_)
    refine C.cond hf (b := decide (m > cvt .i64 (shrI .u64 (cvt .u64 (w64 (a_ + b))) 1))) rfl (fun hc => ?_) (fun hc => ?_)
    ·replace h := h.1 hc
     refine wp_seq (R.list ?_)
     refine S.p hf hs (iv (w64 ((cvt .i64 (shrI .u64 (cvt .u64 (w64 (a_ + b))) 1)) + m))) rfl rfl fun a hf => ?_
     refine S.p hf hs (iv b) rfl rfl fun a hf => ?_
     refine S.p hf hs (iv (w64 ((w64 ((cvt .i64 (shrI .u64 (cvt .u64 (w64 (a_ + b))) 1)) + m)) - b))) rfl rfl fun a hf => ?_
     refine S.p hf hs (iv (w64 ((w64 ((cvt .i64 (shrI .u64 (cvt .u64 (w64 (a_ + b))) 1)) + m)) - b))) rfl rfl fun a hf => ?_
     refine R.nil (X.then_ (R.list ?_))
     refine S.p hf hs (iv (cvt .i64 (shrI .u64 (cvt .u64 (w64 (a_ + b))) 1))) rfl rfl fun a hf => ?_
     refine S.p hf hs (iv (cvt .i64 (shrI .u64 (cvt .u64 (w64 (a_ + b))) 1))) rfl rfl fun a hf => ?_
     refine R.nil (X.then_ ?_)
     exact ⟨(w64 ((w64 ((cvt .i64 (shrI .u64 (cvt .u64 (w64 (a_ + b))) 1)) + m)) - b)), (cvt .i64 (shrI .u64 (cvt .u64 (w64 (a_ + b))) 1)), h, (((((((((hf.nil.cons (hf.get 21 _ rfl)).cons (hf.get 20 _ rfl)).cons (hf.get 19 _ rfl)).cons (hf.get 18 _ rfl)).cons (hf.get 4 _ rfl)).cons (hf.get 3 _ rfl)).cons (hf.get 2 _ rfl)).cons (hf.get 1 _ rfl)).cons (hf.get 0 _ rfl)), hs⟩
    ·replace h := h.2 hc
     refine wp_seq (R.list ?_)
     refine S.p hf hs (iv a_) rfl rfl fun a hf => ?_
     refine S.p hf hs (iv a_) rfl rfl fun a hf => ?_
     refine R.nil (X.then_ (R.list ?_))
     refine S.p hf hs (iv m) rfl rfl fun a hf => ?_
     refine S.p hf hs (iv m) rfl rfl fun a hf => ?_
     refine R.nil (X.then_ ?_)
     exact ⟨a_, m, h, (((((((((hf.nil.cons (hf.get 21 _ rfl)).cons (hf.get 20 _ rfl)).cons (hf.get 19 _ rfl)).cons (hf.get 18 _ rfl)).cons (hf.get 4 _ rfl)).cons (hf.get 3 _ rfl)).cons (hf.get 2 _ rfl)).cons (hf.get 1 _ rfl)).cons (hf.get 0 _ rfl)), hs⟩
theorem R_symMerge (data : (List Int)) (a_ : Int) (m : Int) (b : Int) (bb : (List Body)) (l : (List Place)) (w0 : World) (F0 : Nat → Prop) (dataA : Option Addr) (dataC : Nat) (bbA : Option Addr) (bbC : Nat) (hv_bb : View w0 (old w0 F0) bbA bbC bb) (bbg : Nat) (hb_bb : ElemAt w0 (old w0 F0) (some ⟨bbg, 0, none⟩) 0 [.slice bbA bb.length bbC]) (lA : Option Addr) (lC : Nat) (hv_l : View w0 (old w0 F0) lA lC l) (lg : Nat) (hb_l : ElemAt w0 (old w0 F0) (some ⟨lg, 0, none⟩) 0 [.slice lA l.length lC]) (hs0 : Sat w0 F0 [hown 3 dataA dataC data] w0) (Q : (List Int) → Prop) (h : M_symMerge data a_ m b bb l Q) :
  Ret Tryd.prog 107 #[.slice dataA data.length dataC, iv a_, iv m, iv b, .func (.func 60) #[] #[(pn bbg 0), (pn lg 0)]] w0 fun v w' => ∃ (data1 : List Int) (hl_data1 : data1.length = data.length), v = .tuple #[] ∧ Q data1 ∧ Sat w0 F0 [hown 3 dataA dataC data1] w' := by
 obtain ⟨fuel, h⟩ := h
 exact RN_symMerge fuel data a_ m b bb l w0 F0 dataA dataC bbA bbC hv_bb bbg hb_bb lA lC hv_l lg hb_l hs0 Q h
set_option linter.unusedVariables false
def M_stable_L3 (n : Int) (bb : (List Body)) (l : (List Place)) (n6 : Int) (again2 : List Int → Int → Prop) (again3 : List Int → Int → Int → Prop) (l6 : List Int) (n9 : Int) (n10 : Int) : Prop :=
  cnd (decide (n10 ≤ n)) (M_symMerge l6 n9 (w64 (n9 + n6)) n10 bb l fun z3 => again3 z3 n10 (w64 (n10 + (w64 (2 * n6))))) (cnd (decide (w64 (n9 + n6) < n)) (M_symMerge l6 n9 (w64 (n9 + n6)) n bb l fun z4 => again2 z4 (w64 (n6 * 2))) (again2 l6 (w64 (n6 * 2))))
def M_stable_L2 (n : Int) (bb : (List Body)) (l : (List Place)) (Q : (List Int) → Prop) (again2 : List Int → Int → Prop) (l4 : List Int) (n6 : Int) : Prop :=
  cnd (decide (n6 < n)) (lp (fun again (s : List Int × Int × Int) => M_stable_L3 n bb l n6 again2 (fun l6 n9 n10 => again (l6, n9, n10)) s.1 s.2.1 s.2.2) (l4, 0, w64 (2 * n6))) (Q l4)
def M_stable_L1 (n : Int) (bb : (List Body)) (l : (List Place)) (Q : (List Int) → Prop) (again1 : List Int → Int → Int → Prop) (l2 : List Int) (n3 : Int) (n4 : Int) : Prop :=
  cnd (decide (n4 ≤ n)) (M_insort l2 n3 n4 bb l fun z1 => again1 z1 n4 (w64 (n4 + 20))) (M_insort l2 n3 n bb l fun z2 => lp (fun again (s : List Int × Int) => M_stable_L2 n bb l Q (fun l4 n6 => again (l4, n6)) s.1 s.2) (z2, 20))
def M_stable (data : (List Int)) (n : Int) (bb : (List Body)) (l : (List Place)) (Q : (List Int) → Prop) : Prop :=
  lp (fun again (s : List Int × Int × Int) => M_stable_L1 n bb l Q (fun l2 n3 n4 => again (l2, n3, n4)) s.1 s.2.1 s.2.2) (data, 0, 20)
set_option maxHeartbeats 1000000 in
theorem R_stable (data : (List Int)) (n : Int) (bb : (List Body)) (l : (List Place)) (w0 : World) (F0 : Nat → Prop) (dataA : Option Addr) (dataC : Nat) (bbA : Option Addr) (bbC : Nat) (hv_bb : View w0 (old w0 F0) bbA bbC bb) (bbg : Nat) (hb_bb : ElemAt w0 (old w0 F0) (some ⟨bbg, 0, none⟩) 0 [.slice bbA bb.length bbC]) (lA : Option Addr) (lC : Nat) (hv_l : View w0 (old w0 F0) lA lC l) (lg : Nat) (hb_l : ElemAt w0 (old w0 F0) (some ⟨lg, 0, none⟩) 0 [.slice lA l.length lC]) (hs0 : Sat w0 F0 [hown 3 dataA dataC data] w0) (Q : (List Int) → Prop) (h : M_stable data n bb l Q) :
  Ret Tryd.prog 90 #[.slice dataA data.length dataC, iv n, .func (.func 60) #[] #[(pn bbg 0), (pn lg 0)]] w0 fun v w' => ∃ (data1 : List Int) (hl_data1 : data1.length = data.length), v = .tuple #[] ∧ Q data1 ∧ Sat w0 F0 [hown 3 dataA dataC data1] w' := by
 refine fn_enter Tryd.func90 rfl Tryd.ntmps90 rfl (fs := [(0, .slice dataA data.length dataC), (1, iv n), (2, .func (.func 60) #[] #[(pn bbg 0), (pn lg 0)])]) rfl (fun a hf => ?_)
 have hs := hs0
 unfold M_stable at h
 refine wp_seq (R.list ?_)
 refine S.p hf hs (iv 20) rfl rfl fun a hf => ?_
 refine R.nil (X.then_ (wp_seq (R.list ?_)))
 refine S.p hf hs (iv 20) rfl rfl fun a hf => ?_
 refine S.p hf hs (iv 0) rfl rfl fun a hf => ?_
 refine S.p hf hs (iv 20) rfl rfl fun a hf => ?_
 refine R.nil (X.then_ (wp_seq (wp_block ?_)))
 obtain ⟨kk, h⟩ := h
 refine C.loop (fun kk a w => ∃ (l2 : List Int) (hl_l2 : l2.length = data.length) (n3 : Int) (n4 : Int), iterF (fun again (s : List Int × Int × Int) => M_stable_L1 n bb l Q (fun l2 n3 n4 => again (l2, n3, n4)) s.1 s.2.1 s.2.2) kk (l2, n3, n4) ∧ FrOk 63 [(0, .slice dataA l2.length dataC), (1, iv n), (2, .func (.func 60) #[] #[(pn bbg 0), (pn lg 0)]), (6, iv 20), (7, iv n3), (8, iv n4)] a ∧ Sat w0 F0 [hown 3 dataA dataC l2] w) kk ⟨data, rfl, 0, 20, h, ((((((hf.nil.cons (hf.get 8 _ rfl)).cons (hf.get 7 _ rfl)).cons (hf.get 6 _ rfl)).cons (hf.get 2 _ rfl)).cons (hf.get 1 _ rfl)).cons (hf.get 0 _ rfl)), hs⟩ (fun a w ⟨_, _, _, _, h, _, _⟩ => h) ?_
 clear h hf hs
 rintro kk a w ⟨l2, hl_l2, n3, n4, h, hf, hs⟩
 obtain ⟨again1, hagain1⟩ : ∃ X : List Int → Int → Int → Prop, X = (fun l2 n3 n4 => iterF (fun again (s : List Int × Int × Int) => M_stable_L1 n bb l Q (fun l2 n3 n4 => again (l2, n3, n4)) s.1 s.2.1 s.2.2) kk (l2, n3, n4)) := ⟨_, rfl⟩
 replace h : M_stable_L1 n bb l Q again1 l2 n3 n4 := by rw [hagain1]; exact h
 unfold M_stable_L1 at h
 refine wp_seq (wp_seq (R.list ?_))
 refine S.p hf hs (iv n4) rfl rfl fun a hf => ?_
 refine S.p hf hs (iv n) rfl rfl fun a hf => ?_
 refine S.p hf hs (.bool (decide (n4 ≤ n))) rfl rfl fun a hf => ?_
 refine R.nil (X.then_ ?_)
 refine C.cond hf (b := decide (n4 ≤ n)) rfl (fun hc => ?_) (fun hc => ?_)
 ·replace h := h.1 hc
  refine wp_skip (X.then_ (wp_block (wp_seq (R.list ?_))))
  refine S.p hf hs (.slice dataA l2.length dataC) rfl rfl fun a hf => ?_
  refine S.p hf hs (iv n3) rfl rfl fun a hf => ?_
  refine S.p hf hs (iv n4) rfl rfl fun a hf => ?_
  refine S.p hf hs (.func (.func 60) #[] #[(pn bbg 0), (pn lg 0)]) rfl rfl fun a hf => ?_
  obtain ⟨F1, hsF, hback, hold, hrest⟩ := Sat.callOwns [hown 3 dataA dataC l2] (σ := []) hs
  refine S.call hf rfl rfl rfl (call_fn (vs := [.slice dataA l2.length dataC, iv n3, iv n4, .func (.func 60) #[] #[(pn bbg 0), (pn lg 0)]]) rfl rfl rfl Tryd.call106) (R_insort l2 n3 n4 bb l _ _ dataA dataC bbA bbC (viewArgsF hs hold hv_bb) bbg (elemArgsF hs hold hb_bb) lA lC (viewArgsF hs hold hv_l) lg (elemArgsF hs hold hb_l) hsF _ h) (fun v a w' hf hr => ?_)
  obtain ⟨z1, hl_z1, rfl, h2, hs2⟩ := hr
  replace h := h2; replace hs := hback _ _ hs2; clear h2 hs2 hback hold hrest hsF
  replace hf := hf.tell 0 (v := .slice dataA z1.length dataC) ((hf.get 0 (.slice dataA l2.length dataC) rfl).trans (congrArg (fun n => Value.slice dataA n dataC) hl_z1.symm))
  replace hf := hf.tell 14 (v := .slice dataA z1.length dataC) ((hf.get 14 (.slice dataA l2.length dataC) rfl).trans (congrArg (fun n => Value.slice dataA n dataC) hl_z1.symm))
  refine R.nil (X.then_ (wp_seq (R.list ?_)))
  refine S.p hf hs (iv n4) rfl rfl fun a hf => ?_
  refine S.p hf hs (iv n4) rfl rfl fun a hf => ?_
  refine R.nil (X.then_ (R.list ?_))
  refine S.p hf hs (iv n4) rfl rfl fun a hf => ?_
  refine S.p hf hs (iv 20) rfl rfl fun a hf => ?_
  refine S.p hf hs (iv (w64 (n4 + 20))) rfl rfl fun a hf => ?_
  refine S.p hf hs (iv (w64 (n4 + 20))) rfl rfl fun a hf => ?_
  refine R.nil (X.blk (X.then_ ?_))
  exact ⟨z1, (hl_z1.trans hl_l2), n4, (w64 (n4 + 20)), (by rw [hagain1] at h; exact h), ((((((hf.nil.cons (hf.get 8 _ rfl)).cons (hf.get 7 _ rfl)).cons (hf.get 6 _ rfl)).cons (hf.get 2 _ rfl)).cons (hf.get 1 _ rfl)).cons (hf.get 0 _ rfl)), hs⟩
 ·replace h := h.2 hc
  refine wp_exit (X.then_exit (X.then_exit (X.blk_exit (X.then_ (wp_seq (R.list ?_))))))
  refine S.p hf hs (.slice dataA l2.length dataC) rfl rfl fun a hf => ?_
  refine S.p hf hs (iv n3) rfl rfl fun a hf => ?_
  refine S.p hf hs (iv n) rfl rfl fun a hf => ?_
  refine S.p hf hs (.func (.func 60) #[] #[(pn bbg 0), (pn lg 0)]) rfl rfl fun a hf => ?_
  obtain ⟨F1, hsF, hback, hold, hrest⟩ := Sat.callOwns [hown 3 dataA dataC l2] (σ := []) hs
  refine S.call hf rfl rfl rfl (call_fn (vs := [.slice dataA l2.length dataC, iv n3, iv n, .func (.func 60) #[] #[(pn bbg 0), (pn lg 0)]]) rfl rfl rfl Tryd.call106) (R_insort l2 n3 n bb l _ _ dataA dataC bbA bbC (viewArgsF hs hold hv_bb) bbg (elemArgsF hs hold hb_bb) lA lC (viewArgsF hs hold hv_l) lg (elemArgsF hs hold hb_l) hsF _ h) (fun v a w' hf hr => ?_)
  obtain ⟨z2, hl_z2, rfl, h2, hs2⟩ := hr
  replace h := h2; replace hs := hback _ _ hs2; clear h2 hs2 hback hold hrest hsF
  replace hf := hf.tell 0 (v := .slice dataA z2.length dataC) ((hf.get 0 (.slice dataA l2.length dataC) rfl).trans (congrArg (fun n => Value.slice dataA n dataC) hl_z2.symm))
  replace hf := hf.tell 23 (v := .slice dataA z2.length dataC) ((hf.get 23 (.slice dataA l2.length dataC) rfl).trans (congrArg (fun n => Value.slice dataA n dataC) hl_z2.symm))
  refine R.nil (X.then_ (wp_block ?_))
  obtain ⟨kk, h⟩ := h
  refine C.loop (fun kk a w => ∃ (l4 : List Int) (hl_l4 : l4.length = data.length) (n6 : Int), iterF (fun again (s : List Int × Int) => M_stable_L2 n bb l Q (fun l4 n6 => again (l4, n6)) s.1 s.2) kk (l4, n6) ∧ FrOk 63 [(0, .slice dataA l4.length dataC), (1, iv n), (2, .func (.func 60) #[] #[(pn bbg 0), (pn lg 0)]), (6, iv n6)] a ∧ Sat w0 F0 [hown 3 dataA dataC l4] w) kk ⟨z2, (hl_z2.trans hl_l2), 20, h, ((((hf.nil.cons (hf.get 6 _ rfl)).cons (hf.get 2 _ rfl)).cons (hf.get 1 _ rfl)).cons (hf.get 0 _ rfl)), hs⟩ (fun a w ⟨_, _, _, h, _, _⟩ => h) ?_
  clear h hf hs
  rintro kk a w ⟨l4, hl_l4, n6, h, hf, hs⟩
  obtain ⟨again2, hagain2⟩ : ∃ X : List Int → Int → Prop, X = (fun l4 n6 => iterF (fun again (s : List Int × Int) => M_stable_L2 n bb l Q (fun l4 n6 => again (l4, n6)) s.1 s.2) kk (l4, n6)) := ⟨_, rfl⟩
  replace h : M_stable_L2 n bb l Q again2 l4 n6 := by rw [hagain2]; exact h
  unfold M_stable_L2 at h
  refine wp_seq (wp_seq (R.list ?_))
  refine S.p hf hs (iv n6) rfl rfl fun a hf => ?_
  refine S.p hf hs (iv n) rfl rfl fun a hf => ?_
  refine S.p hf hs (.bool (decide (n6 < n))) rfl rfl fun a hf => ?_
  refine R.nil (X.then_ ?_)
  refine C.cond hf (b := decide (n6 < n)) rfl (fun hc => ?_) (fun hc => ?_)
  ·replace h := h.1 hc
   refine wp_skip (X.then_ (wp_block (wp_seq (R.list ?_))))
   refine S.p hf hs (iv n6) rfl rfl fun a hf => ?_
   refine S.p hf hs (iv (w64 (2 * n6))) rfl rfl fun a hf => ?_
   refine S.p hf hs (iv 0) rfl rfl fun a hf => ?_
   refine S.p hf hs (iv (w64 (2 * n6))) rfl rfl fun a hf => ?_
   refine R.nil (X.then_ (wp_seq (wp_block ?_)))
   obtain ⟨kk, h⟩ := h
   refine C.loop (fun kk a w => ∃ (l6 : List Int) (hl_l6 : l6.length = data.length) (n9 : Int) (n10 : Int), iterF (fun again (s : List Int × Int × Int) => M_stable_L3 n bb l n6 again2 (fun l6 n9 n10 => again (l6, n9, n10)) s.1 s.2.1 s.2.2) kk (l6, n9, n10) ∧ FrOk 63 [(0, .slice dataA l6.length dataC), (1, iv n), (2, .func (.func 60) #[] #[(pn bbg 0), (pn lg 0)]), (6, iv n6), (7, iv n9), (8, iv n10)] a ∧ Sat w0 F0 [hown 3 dataA dataC l6] w) kk ⟨l4, hl_l4, 0, (w64 (2 * n6)), h, ((((((hf.nil.cons (hf.get 8 _ rfl)).cons (hf.get 7 _ rfl)).cons (hf.get 6 _ rfl)).cons (hf.get 2 _ rfl)).cons (hf.get 1 _ rfl)).cons (hf.get 0 _ rfl)), hs⟩ (fun a w ⟨_, _, _, _, h, _, _⟩ => h) ?_
   clear h hf hs
   rintro kk a w ⟨l6, hl_l6, n9, n10, h, hf, hs⟩
   obtain ⟨again3, hagain3⟩ : ∃ X : List Int → Int → Int → Prop, X = (fun l6 n9 n10 => iterF (fun again (s : List Int × Int × Int) => M_stable_L3 n bb l n6 again2 (fun l6 n9 n10 => again (l6, n9, n10)) s.1 s.2.1 s.2.2) kk (l6, n9, n10)) := ⟨_, rfl⟩
   replace h : M_stable_L3 n bb l n6 again2 again3 l6 n9 n10 := by rw [hagain3]; exact h
   unfold M_stable_L3 at h
   refine wp_seq (wp_seq (R.list ?_))
   refine S.p hf hs (iv n10) rfl rfl fun a hf => ?_
   refine S.p hf hs (iv n) rfl rfl fun a hf => ?_
   refine S.p hf hs (.bool (decide (n10 ≤ n))) rfl rfl fun a hf => ?_
   refine R.nil (X.then_ ?_)
   refine C.cond hf (b := decide (n10 ≤ n)) rfl (fun hc => ?_) (fun hc => ?_)
   ·replace h := h.1 hc
    refine wp_skip (X.then_ (wp_block (wp_seq (R.list ?_))))
    refine S.p hf hs (.slice dataA l6.length dataC) rfl rfl fun a hf => ?_
    refine S.p hf hs (iv n9) rfl rfl fun a hf => ?_
    refine S.p hf hs (iv n9) rfl rfl fun a hf => ?_
    refine S.p hf hs (iv n6) rfl rfl fun a hf => ?_
    refine S.p hf hs (iv (w64 (n9 + n6))) rfl rfl fun a hf => ?_
    refine S.p hf hs (iv n10) rfl rfl fun a hf => ?_
    refine S.p hf hs (.func (.func 60) #[] #[(pn bbg 0), (pn lg 0)]) rfl rfl fun a hf => ?_
    obtain ⟨F1, hsF, hback, hold, hrest⟩ := Sat.callOwns [hown 3 dataA dataC l6] (σ := []) hs
    refine S.call hf rfl rfl rfl (call_fn (vs := [.slice dataA l6.length dataC, iv n9, iv (w64 (n9 + n6)), iv n10, .func (.func 60) #[] #[(pn bbg 0), (pn lg 0)]]) rfl rfl rfl Tryd.call107) (R_symMerge l6 n9 (w64 (n9 + n6)) n10 bb l _ _ dataA dataC bbA bbC (viewArgsF hs hold hv_bb) bbg (elemArgsF hs hold hb_bb) lA lC (viewArgsF hs hold hv_l) lg (elemArgsF hs hold hb_l) hsF _ h) (fun v a w' hf hr => ?_)
    obtain ⟨z3, hl_z3, rfl, h2, hs2⟩ := hr
    replace h := h2; replace hs := hback _ _ hs2; clear h2 hs2 hback hold hrest hsF
    replace hf := hf.tell 0 (v := .slice dataA z3.length dataC) ((hf.get 0 (.slice dataA l6.length dataC) rfl).trans (congrArg (fun n => Value.slice dataA n dataC) hl_z3.symm))
    replace hf := hf.tell 36 (v := .slice dataA z3.length dataC) ((hf.get 36 (.slice dataA l6.length dataC) rfl).trans (congrArg (fun n => Value.slice dataA n dataC) hl_z3.symm))
    refine R.nil (X.then_ (wp_seq (R.list ?_)))
    refine S.p hf hs (iv n10) rfl rfl fun a hf => ?_
    refine S.p hf hs (iv n10) rfl rfl fun a hf => ?_
    refine R.nil (X.then_ (R.list ?_))
    refine S.p hf hs (iv n10) rfl rfl fun a hf => ?_
    refine S.p hf hs (iv n6) rfl rfl fun a hf => ?_
    refine S.p hf hs (iv (w64 (2 * n6))) rfl rfl fun a hf => ?_
    refine S.p hf hs (iv (w64 (n10 + (w64 (2 * n6))))) rfl rfl fun a hf => ?_
    refine S.p hf hs (iv (w64 (n10 + (w64 (2 * n6))))) rfl rfl fun a hf => ?_
    refine R.nil (X.blk (X.then_ ?_))
    exact ⟨z3, (hl_z3.trans hl_l6), n10, (w64 (n10 + (w64 (2 * n6)))), (by rw [hagain3] at h; exact h), ((((((hf.nil.cons (hf.get 8 _ rfl)).cons (hf.get 7 _ rfl)).cons (hf.get 6 _ rfl)).cons (hf.get 2 _ rfl)).cons (hf.get 1 _ rfl)).cons (hf.get 0 _ rfl)), hs⟩
   ·replace h := h.2 hc
    refine wp_exit (X.then_exit (X.then_exit (X.blk_exit (X.then_ (wp_seq (wp_seq (R.list ?_)))))))
    refine S.p hf hs (iv n9) rfl rfl fun a hf => ?_
    refine S.p hf hs (iv n6) rfl rfl fun a hf => ?_
    refine S.p hf hs (iv (w64 (n9 + n6))) rfl rfl fun a hf => ?_
    refine S.p hf hs (iv (w64 (n9 + n6))) rfl rfl fun a hf => ?_
    refine R.nil (X.then_ (wp_seq (R.list ?_)))
    refine S.p hf hs (iv (w64 (n9 + n6))) rfl rfl fun a hf => ?_
    refine S.p hf hs (iv n) rfl rfl fun a hf => ?_
    refine S.p hf hs (.bool (decide (w64 (n9 + n6) < n))) rfl rfl fun a hf => ?_
    refine R.nil (X.then_ ?_)
    refine C.cond hf (b := decide (w64 (n9 + n6) < n)) rfl (fun hc => ?_) (fun hc => ?_)
    ·replace h := h.1 hc
     refine R.list ?_
     refine S.p hf hs (.slice dataA l6.length dataC) rfl rfl fun a hf => ?_
     refine S.p hf hs (iv n9) rfl rfl fun a hf => ?_
     refine S.p hf hs (iv (w64 (n9 + n6))) rfl rfl fun a hf => ?_
     refine S.p hf hs (iv n) rfl rfl fun a hf => ?_
     refine S.p hf hs (.func (.func 60) #[] #[(pn bbg 0), (pn lg 0)]) rfl rfl fun a hf => ?_
     obtain ⟨F1, hsF, hback, hold, hrest⟩ := Sat.callOwns [hown 3 dataA dataC l6] (σ := []) hs
     refine S.call hf rfl rfl rfl (call_fn (vs := [.slice dataA l6.length dataC, iv n9, iv (w64 (n9 + n6)), iv n, .func (.func 60) #[] #[(pn bbg 0), (pn lg 0)]]) rfl rfl rfl Tryd.call107) (R_symMerge l6 n9 (w64 (n9 + n6)) n bb l _ _ dataA dataC bbA bbC (viewArgsF hs hold hv_bb) bbg (elemArgsF hs hold hb_bb) lA lC (viewArgsF hs hold hv_l) lg (elemArgsF hs hold hb_l) hsF _ h) (fun v a w' hf hr => ?_)
     obtain ⟨z4, hl_z4, rfl, h2, hs2⟩ := hr
     replace h := h2; replace hs := hback _ _ hs2; clear h2 hs2 hback hold hrest hsF
     replace hf := hf.tell 0 (v := .slice dataA z4.length dataC) ((hf.get 0 (.slice dataA l6.length dataC) rfl).trans (congrArg (fun n => Value.slice dataA n dataC) hl_z4.symm))
     replace hf := hf.tell 55 (v := .slice dataA z4.length dataC) ((hf.get 55 (.slice dataA l6.length dataC) rfl).trans (congrArg (fun n => Value.slice dataA n dataC) hl_z4.symm))
     refine R.nil (X.then_ (R.list ?_))
     refine S.p hf hs (iv n6) rfl rfl fun a hf => ?_
     refine S.p hf hs (iv (w64 (n6 * 2))) rfl rfl fun a hf => ?_
     refine S.p hf hs (iv (w64 (n6 * 2))) rfl rfl fun a hf => ?_
     refine R.nil (X.blk (X.then_ ?_))
     exact ⟨z4, (hl_z4.trans hl_l6), (w64 (n6 * 2)), (by rw [hagain2] at h; exact h), ((((hf.nil.cons (hf.get 6 _ rfl)).cons (hf.get 2 _ rfl)).cons (hf.get 1 _ rfl)).cons (hf.get 0 _ rfl)), hs⟩
    ·replace h := h.2 hc
     refine wp_skip (X.then_ (R.list ?_))
     refine S.p hf hs (iv n6) rfl rfl fun a hf => ?_
     refine S.p hf hs (iv (w64 (n6 * 2))) rfl rfl fun a hf => ?_
     refine S.p hf hs (iv (w64 (n6 * 2))) rfl rfl fun a hf => ?_
     refine R.nil (X.blk (X.then_ ?_))
     exact ⟨l6, hl_l6, (w64 (n6 * 2)), (by rw [hagain2] at h; exact h), ((((hf.nil.cons (hf.get 6 _ rfl)).cons (hf.get 2 _ rfl)).cons (hf.get 1 _ rfl)).cons (hf.get 0 _ rfl)), hs⟩
  ·replace h := h.2 hc
   refine wp_exit (X.then_exit (X.then_exit (X.blk_exit ?_)))
   replace hs := hs.take 1
   exact L.end0 Tryd.results90 hf ⟨l4, hl_l4, rfl, h, hs⟩
set_option linter.unusedVariables false
def M_sortStable (x_ : (List Int)) (bb : (List Body)) (l : (List Place)) (Q : (List Int) → Prop) : Prop :=
  M_stable x_ (x_.length : Int) bb l fun z1 => Q z1
set_option maxHeartbeats 1000000 in
theorem R_sortStable (x_ : (List Int)) (bb : (List Body)) (l : (List Place)) (w0 : World) (F0 : Nat → Prop) (x_A : Option Addr) (x_C : Nat) (bbA : Option Addr) (bbC : Nat) (hv_bb : View w0 (old w0 F0) bbA bbC bb) (bbg : Nat) (hb_bb : ElemAt w0 (old w0 F0) (some ⟨bbg, 0, none⟩) 0 [.slice bbA bb.length bbC]) (lA : Option Addr) (lC : Nat) (hv_l : View w0 (old w0 F0) lA lC l) (lg : Nat) (hb_l : ElemAt w0 (old w0 F0) (some ⟨lg, 0, none⟩) 0 [.slice lA l.length lC]) (hs0 : Sat w0 F0 [hown 3 x_A x_C x_] w0) (Q : (List Int) → Prop) (h : M_sortStable x_ bb l Q) :
  Ret Tryd.prog 59 #[.slice x_A x_.length x_C, .func (.func 60) #[] #[(pn bbg 0), (pn lg 0)]] w0 fun v w' => ∃ (x_1 : List Int) (hl_x_1 : x_1.length = x_.length), v = .tuple #[] ∧ Q x_1 ∧ Sat w0 F0 [hown 3 x_A x_C x_1] w' := by
 refine fn_enter Tryd.func59 rfl Tryd.ntmps59 rfl (fs := [(0, .slice x_A x_.length x_C), (1, .func (.func 60) #[] #[(pn bbg 0), (pn lg 0)])]) rfl (fun a hf => ?_)
 have hs := hs0
 unfold M_sortStable at h
 refine R.list ?_
 refine S.p hf hs (.slice x_A x_.length x_C) rfl rfl fun a hf => ?_
 refine S.p hf hs (.slice x_A x_.length x_C) rfl rfl fun a hf => ?_
 refine S.v hf hs (iv (x_.length : Int)) rfl (V.len rfl rfl Tryd.runUnderlying48) fun a hf => ?_
 refine S.p hf hs (.func (.func 60) #[] #[(pn bbg 0), (pn lg 0)]) rfl rfl fun a hf => ?_
 obtain ⟨F1, hsF, hback, hold, hrest⟩ := Sat.callOwns [hown 3 x_A x_C x_] (σ := []) hs
 refine S.call hf rfl rfl rfl (call_fn (vs := [.slice x_A x_.length x_C, iv (x_.length : Int), .func (.func 60) #[] #[(pn bbg 0), (pn lg 0)]]) rfl rfl rfl Tryd.call90) (R_stable x_ (x_.length : Int) bb l _ _ x_A x_C bbA bbC (viewArgsF hs hold hv_bb) bbg (elemArgsF hs hold hb_bb) lA lC (viewArgsF hs hold hv_l) lg (elemArgsF hs hold hb_l) hsF _ h) (fun v a w' hf hr => ?_)
 obtain ⟨z1, hl_z1, rfl, h2, hs2⟩ := hr
 replace h := h2; replace hs := hback _ _ hs2; clear h2 hs2 hback hold hrest hsF
 replace hf := hf.tell 0 (v := .slice x_A z1.length x_C) ((hf.get 0 (.slice x_A x_.length x_C) rfl).trans (congrArg (fun n => Value.slice x_A n x_C) hl_z1.symm))
 replace hf := hf.tell 4 (v := .slice x_A z1.length x_C) ((hf.get 4 (.slice x_A x_.length x_C) rfl).trans (congrArg (fun n => Value.slice x_A n x_C) hl_z1.symm))
 replace hf := hf.tell 5 (v := .slice x_A z1.length x_C) ((hf.get 5 (.slice x_A x_.length x_C) rfl).trans (congrArg (fun n => Value.slice x_A n x_C) hl_z1.symm))
 refine R.nil ?_
 replace hs := hs.take 1
 exact L.end0 Tryd.results59 hf ⟨z1, (hl_z1.trans rfl), rfl, h, hs⟩
set_option linter.unusedVariables false
def M_mount_Ordered_L1  (k1 : Nat) (xk1 : Place) (l2 : List Int) (next1 : List Int → Prop) : Prop :=
  must (room (l2 ++ [(k1 : Int)]).length 8) (next1 (l2 ++ [(k1 : Int)]))
def M_mount_Ordered (b : (List Body)) (l : (List Place)) (Q : (List Int) → Int → Prop) : Prop :=
  M_mount_CheckPlaces b l fun y1 => cnd (y1 != 0) (Q ([] : List Int) y1) (forIn' (fun k x (s : List Int) next => M_mount_Ordered_L1 k x s (fun l2 => next l2)) (fun (s : List Int) => (fun (l2 : List Int) => M_sortStable l2 b l fun z1 => Q z1 0) s) l 0 ([] : List Int))
set_option maxHeartbeats 1000000 in
theorem R_mount_Ordered (b : (List Body)) (l : (List Place)) (w0 : World) (bA : Option Addr) (bC : Nat) (hv_b : View w0 (old w0 none_) bA bC b) (lA : Option Addr) (lC : Nat) (hv_l : View w0 (old w0 none_) lA lC l) (Q : (List Int) → Int → Prop) (h : M_mount_Ordered b l Q) :
  Ret Tryd.prog 24 #[.slice bA b.length bC, .slice lA l.length lC] w0 fun v w' => ∃ (r0 : (List Int)) (r0A : Option Addr) (r0C : Nat) (r1 : Int), v = .tuple #[.slice r0A r0.length r0C, iv r1] ∧ Q r0 r1 ∧ Sat w0 none_ [hown 3 r0A r0C r0] w' := by
 refine fn_enter Tryd.func24 rfl Tryd.ntmps24 rfl (fs := [(0, .slice bA b.length bC), (1, .slice lA l.length lC)]) rfl (fun a hf => ?_)
 have hs := Sat.start w0 none_
 unfold M_mount_Ordered at h
 refine wp_seq (R.list ?_)
 refine S.box hf hs rfl rfl rfl [.slice bA b.length bC] rfl rfl rfl (fun g1 a w hf hs => ?_)
 refine S.box hf hs rfl rfl rfl [.slice lA l.length lC] rfl rfl rfl (fun g2 a w hf hs => ?_)
 refine S.p hf hs (.slice none 0 0) rfl rfl fun a hf => ?_
 refine S.p hf hs (iv 0) rfl rfl fun a hf => ?_
 refine R.nil (X.then_ (wp_seq (wp_seq (R.list ?_))))
 refine S.v hf hs (.slice bA b.length bC) rfl (V.loadBox 1 rfl rfl rfl Tryd.isAgg22 Tryd.sizeOf22 rfl rfl) fun a hf => ?_
 refine S.v hf hs (.slice lA l.length lC) rfl (V.loadBox 0 rfl rfl rfl Tryd.isAgg23 Tryd.sizeOf23 rfl rfl) fun a hf => ?_
 refine S.call hf rfl rfl rfl (call_fn (vs := [.slice bA b.length bC, .slice lA l.length lC]) rfl rfl rfl Tryd.call35) (R_mount_CheckPlaces b l _ bA bC ((Ag.args _ _ _).view hv_b hs) lA lC ((Ag.args _ _ _).view hv_l hs) _ h) (fun v a w' hf hr => ?_)
 obtain ⟨y1, rfl, h2, hs2⟩ := hr
 replace h := h2; replace hs := hs.call hs2; clear h2 hs2
 refine S.p hf hs (iv y1) rfl rfl fun a hf => ?_
 refine R.nil (X.then_ (wp_seq (R.list ?_)))
 refine S.p hf hs (iv y1) rfl rfl fun a hf => ?_
 refine S.p hf hs (.bool (y1 != 0)) rfl rfl fun a hf => ?_
 refine R.nil (X.then_ ?_)
 refine C.cond hf (b := y1 != 0) rfl (fun hc => ?_) (fun hc => ?_)
 ·replace h := h.1 hc
  refine wp_seq (R.list ?_)
  refine S.p hf hs (iv y1) rfl rfl fun a hf => ?_
  refine S.p hf hs (.slice none 0 0) rfl rfl fun a hf => ?_
  refine S.p hf hs (iv y1) rfl rfl fun a hf => ?_
  refine R.nil (X.then_ (wp_ret (X.then_ret ?_)))
  replace hs := hs.nilOwn (α := Int) 3
  replace hs := hs.take 1
  exact L.ret hf (run_results2 Tryd.results24 (ResIs.tmp hf rfl) (ResIs.tmp hf rfl)) ⟨([] : List Int), none, 0, y1, rfl, h, hs⟩
 ·replace h := h.2 hc
  refine wp_skip (X.then_ (wp_seq (R.list ?_)))
  refine S.p hf hs (.slice none 0 0) rfl rfl fun a hf => ?_
  refine R.nil (X.then_ (wp_seq (wp_seq (R.list ?_))))
  refine S.v hf hs (.slice lA l.length lC) rfl (V.loadBox 0 rfl rfl rfl Tryd.isAgg23 Tryd.sizeOf23 rfl rfl) fun a hf => ?_
  refine S.v hf hs (iv (l.length : Int)) rfl (V.len rfl rfl Tryd.runUnderlying23) fun a hf => ?_
  refine S.p hf hs (iv 0) rfl rfl fun a hf => ?_
  refine R.nil (X.then_ (wp_block ?_))
  replace hs := hs.nilOwn (α := Int) 3
  have hlenk1 := hv_l.len64
  refine C.range (fun (ll : List Place) a w => ∃ (k1 : Nat) (l2 : List Int) (l2A : Option Addr) (l2C : Nat), l.drop k1 = ll ∧ k1 + ll.length = l.length ∧ forIn' (fun k x (s : List Int) next => M_mount_Ordered_L1 k x s (fun l2 => next l2)) (fun (s : List Int) => (fun (l2 : List Int) => M_sortStable l2 b l fun z1 => Q z1 0) s) ll k1 l2 ∧ FrOk 29 [(17, iv (k1 : Int)), (2, (pn g1 0)), (3, (pn g2 0)), (7, .slice l2A l2.length l2C), (16, iv (l.length : Int))] a ∧ Sat w0 none_ [hown 3 l2A l2C l2, hbox g2 23 [.slice lA l.length lC], hbox g1 22 [.slice bA b.length bC]] w) l ⟨0, ([] : List Int), none, 0, rfl, Nat.zero_add _, h, (((((hf.nil.cons (hf.get 16 _ rfl)).cons (hf.get 7 _ rfl)).cons (hf.get 3 _ rfl)).cons (hf.get 2 _ rfl)).cons (hf.get 17 _ rfl)), hs⟩ ?_
  clear h hf hs
  rintro llk1 a w ⟨k1, l2, l2A, l2C, hlk1, hkk1, h, hf, hs⟩
  cases llk1 with
  | nil =>
   have hc := range_done hkk1
   replace h : (fun (l2 : List Int) => M_sortStable l2 b l fun z1 => Q z1 0) l2 := h
   refine wp_seq (R.list ?_)
   refine S.v hf hs (.bool false) rfl (V.cmp false rfl rfl rfl rfl hc) fun a hf => ?_
   refine R.nil (X.then_ (wp_seq ?_))
   refine C.no hf rfl ?_
   refine wp_exit (X.then_exit (X.then_exit (X.blk_exit (X.then_ (wp_seq (R.list ?_))))))
   refine S.p hf hs (.slice l2A l2.length l2C) rfl rfl fun a hf => ?_
   refine S.p hf hs (.func (.func 60) #[] #[(pn g1 0), (pn g2 0)]) rfl rfl fun a hf => ?_
   obtain ⟨F1, hsF, hback, hold, hrest⟩ := Sat.callOwns [hown 3 l2A l2C l2] (σ := [hbox g2 23 [.slice lA l.length lC], hbox g1 22 [.slice bA b.length bC]]) hs
   refine S.call hf rfl rfl rfl (call_fn (vs := [.slice l2A l2.length l2C, .func (.func 60) #[] #[(pn g1 0), (pn g2 0)]]) rfl rfl rfl Tryd.call59) (R_sortStable l2 b l _ _ l2A l2C bA bC (viewArgsF hs hold hv_b) g1 (boxAtF hrest 1 rfl) lA lC (viewArgsF hs hold hv_l) g2 (boxAtF hrest 0 rfl) hsF _ h) (fun v a w' hf hr => ?_)
   obtain ⟨z1, hl_z1, rfl, h2, hs2⟩ := hr
   replace h := h2; replace hs := hback _ _ hs2; clear h2 hs2 hback hold hrest hsF
   replace hf := hf.tell 7 (v := .slice l2A z1.length l2C) ((hf.get 7 (.slice l2A l2.length l2C) rfl).trans (congrArg (fun n => Value.slice l2A n l2C) hl_z1.symm))
   replace hf := hf.tell 25 (v := .slice l2A z1.length l2C) ((hf.get 25 (.slice l2A l2.length l2C) rfl).trans (congrArg (fun n => Value.slice l2A n l2C) hl_z1.symm))
   refine R.nil (X.then_ (wp_seq (R.list ?_)))
   refine S.p hf hs (.slice l2A z1.length l2C) rfl rfl fun a hf => ?_
   refine S.p hf hs (.slice l2A z1.length l2C) rfl rfl fun a hf => ?_
   refine S.p hf hs (iv 0) rfl rfl fun a hf => ?_
   refine R.nil (X.then_ (wp_ret ?_))
   replace hs := hs.take 1
   exact L.ret hf (run_results2 Tryd.results24 (ResIs.tmp hf rfl) (ResIs.tmp hf rfl)) ⟨z1, l2A, l2C, 0, rfl, h, hs⟩
  | cons xk1 llk1 =>
   have hltk1 := range_lt hkk1; have hc := range_go hkk1; have hxk1 := range_get hlk1
   obtain ⟨next1, hnext1⟩ : ∃ X : List Int → Prop, X = (fun l2 => forIn' (fun k x (s : List Int) next => M_mount_Ordered_L1 k x s (fun l2 => next l2)) (fun (s : List Int) => (fun (l2 : List Int) => M_sortStable l2 b l fun z1 => Q z1 0) s) llk1 (k1 + 1) l2) := ⟨_, rfl⟩
   replace h : M_mount_Ordered_L1 k1 xk1 l2 next1 := by rw [hnext1]; exact h
   unfold M_mount_Ordered_L1 at h
   refine wp_seq (R.list ?_)
   refine S.v hf hs (.bool true) rfl (V.cmp true rfl rfl rfl rfl hc) fun a hf => ?_
   refine R.nil (X.then_ (wp_seq ?_))
   refine C.yes hf rfl ?_
   refine wp_skip (X.then_ (wp_seq (wp_block (wp_seq (R.list ?_)))))
   refine S.p hf hs (iv (k1 : Int)) rfl rfl fun a hf => ?_
   refine S.p hf hs (iv (k1 : Int)) rfl rfl fun a hf => ?_
   refine R.nil (X.then_ (R.list ?_))
   refine S.p hf hs (.slice l2A l2.length l2C) rfl rfl fun a hf => ?_
   refine S.p hf hs (iv (k1 : Int)) rfl rfl fun a hf => ?_
   refine S.build1 hf hs rfl rfl rfl (α := Int) (k1 : Int) rfl rfl rfl Tryd.runUnderlying48 Tryd.sizeOf3 Tryd.zeroValue3 rfl (by decide) (fun A1 a w hf hs => ?_)
   obtain ⟨hroom, h⟩ := h
   refine S.appendCells 1 hf hs rfl rfl rfl rfl rfl rfl rfl Tryd.underlying48 info3 rfl hroom ((hs.ownView 0 rfl).some_ (i := 0) (by simp)) (hs.ownView 0 rfl) (fun A2 C1 a w hf hs => ?_)
   replace hs := hs.drop
   refine S.p hf hs (.slice A2 (l2 ++ [(k1 : Int)]).length C1) rfl rfl fun a hf => ?_
   refine R.nil (X.blk (X.then_ (R.list ?_)))
   refine S.v hf hs (iv ((k1 + 1 : Nat) : Int)) rfl (V.incr rfl rfl rfl hltk1 hlenk1) fun a hf => ?_
   refine S.p hf hs (iv ((k1 + 1 : Nat) : Int)) rfl rfl fun a hf => ?_
   refine R.nil (X.then_ ?_)
   exact ⟨xk1, llk1, rfl, k1 + 1, (l2 ++ [(k1 : Int)]), A2, C1, range_drop hlk1, range_len hkk1, (by rw [hnext1] at h; exact h), (((((hf.nil.cons (hf.get 16 _ rfl)).cons (hf.get 7 _ rfl)).cons (hf.get 3 _ rfl)).cons (hf.get 2 _ rfl)).cons (hf.get 17 _ rfl)), hs⟩
end Go.Proofs.YtcmlcgjjkccaeaaDoor
