/- Chapter texts of ours, as far as the claim needs them. -/
import Derived.Test.YtcmlcgjjkccaeaaDoorDoorM
namespace Go.Proofs.YtcmlcgjjkccaeaaDoor
open Go Go.RowKit
set_option linter.unusedVariables false
set_option linter.unusedSimpArgs false
set_option linter.unusedVariables false
set_option linter.unusedVariables false
set_option linter.unusedVariables false
set_option linter.unusedVariables false
set_option linter.unusedVariables false
set_option linter.unusedVariables false
set_option linter.unusedVariables false
def M_law_OrderIsOne_k2 (Q : Bool → Prop) (n2 : Int) (again1 : Int → Prop) (c1 : Bool) : Prop :=
  cnd c1 (Q false) (again1 (w64 (n2 + 1)))
def M_law_OrderIsOne_k4 (Q : Bool → Prop) (next2 : Prop) (c2 : Bool) : Prop :=
  cnd c2 (Q false) (next2)
def M_law_OrderIsOne_L2 (heads : Int) (Q : Bool → Prop) (k3 : Nat) (xk3 : (List Int))  (next2 : Prop) : Prop :=
  cnd ((xk3.length : Int) == 0) (M_law_OrderIsOne_k4 Q next2 true) (M_law_OrderIsOne_k4 Q next2 (decide ((xk3.length : Int) > heads)))
def M_law_OrderIsOne_L1 (b : (List Body)) (l : (List Place)) (heads : Int) (Q : Bool → Prop) (y1 : (List Int)) (again1 : Int → Prop) (n2 : Int) : Prop :=
  cnd (decide (n2 < (y1.length : Int))) (idx y1 (w64 (n2 - 1)) fun x1 => idx l x1 fun x2 => idx y1 n2 fun x3 => idx l x3 fun x4 => cnd x2.Below (cnd (!x4.Below) (M_law_OrderIsOne_k2 Q n2 again1 true) (cnd (x2.Below == x4.Below) (M_ref10_TallOf b x2 fun y5 => M_ref10_TallOf b x4 fun y6 => M_law_OrderIsOne_k2 Q n2 again1 (decide (y5 > y6))) (M_law_OrderIsOne_k2 Q n2 again1 false))) (cnd (x2.Below == x4.Below) (M_ref10_TallOf b x2 fun y7 => M_ref10_TallOf b x4 fun y8 => M_law_OrderIsOne_k2 Q n2 again1 (decide (y7 > y8))) (M_law_OrderIsOne_k2 Q n2 again1 false))) (M_mount_Rounds b l y1 heads fun y9 y10 => cnd (y10 != 0) (cnd (y10 == 1) (M_awake  fun y11 => Q y11) (Q false)) (forIn' (fun k x (s : Unit) next => M_law_OrderIsOne_L2 heads Q k x (next ())) (fun (s : Unit) => M_mount_Nozzles b l y9 fun y12 y13 => M_concat_int y9 fun y14 => M_equal_int y14 y1 fun y15 => cnd y15 (cnd (y13 == 0) (M_awake  fun y16 => Q y16) (Q false)) (Q false)) y9 0 ()))
def M_law_OrderIsOne (b : (List Body)) (l : (List Place)) (heads : Int) (Q : Bool → Prop) : Prop :=
  M_mount_Ordered b l fun y1 y2 => cnd (y2 != 0) (cnd ((y1.length : Int) == 0) (M_awake  fun y3 => Q y3) (Q false)) (M_ref10_IsOrder y1 (l.length : Int) fun y4 => cnd (!y4) (Q false) (lp (fun again (s : Int) => M_law_OrderIsOne_L1 b l heads Q y1 (fun n2 => again n2) s) 1))
set_option maxHeartbeats 1000000 in
theorem R_law_OrderIsOne (b : (List Body)) (l : (List Place)) (heads : Int) (w0 : World) (bA : Option Addr) (bC : Nat) (hv_b : View w0 (old w0 none_) bA bC b) (lA : Option Addr) (lC : Nat) (hv_l : View w0 (old w0 none_) lA lC l) (Q : Bool → Prop) (h : M_law_OrderIsOne b l heads Q) :
  Ret Tryd.prog 7 #[.slice bA b.length bC, .slice lA l.length lC, iv heads] w0 fun v w' => ∃ (r0 : Bool), v = .bool r0 ∧ Q r0 ∧ Sat w0 none_ [] w' := by
 refine fn_enter Tryd.func7 rfl Tryd.ntmps7 rfl (fs := [(0, .slice bA b.length bC), (1, .slice lA l.length lC), (2, iv heads)]) rfl (fun a hf => ?_)
 have hs := Sat.start w0 none_
 unfold M_law_OrderIsOne at h
 refine wp_seq (R.list ?_)
 refine S.p hf hs (.bool false) rfl rfl fun a hf => ?_
 refine R.nil (X.then_ (wp_seq (R.list ?_)))
 refine S.p hf hs (.slice bA b.length bC) rfl rfl fun a hf => ?_
 refine S.p hf hs (.slice lA l.length lC) rfl rfl fun a hf => ?_
 refine S.call hf rfl rfl rfl (call_fn (vs := [.slice bA b.length bC, .slice lA l.length lC]) rfl rfl rfl Tryd.call24) (R_mount_Ordered b l _ bA bC ((Ag.args _ _ _).view hv_b hs) lA lC ((Ag.args _ _ _).view hv_l hs) _ h) (fun v a w' hf hr => ?_)
 obtain ⟨y1, y1A, y1C, y2, rfl, h2, hs2⟩ := hr
 replace h := h2; replace hs := hs.call hs2; clear h2 hs2
 refine S.p hf hs (.tuple #[.slice y1A y1.length y1C, iv y2]) rfl rfl fun a hf => ?_
 refine S.p hf hs (.slice y1A y1.length y1C) rfl rfl fun a hf => ?_
 refine S.p hf hs (iv y2) rfl rfl fun a hf => ?_
 refine S.p hf hs (.slice y1A y1.length y1C) rfl rfl fun a hf => ?_
 refine S.p hf hs (iv y2) rfl rfl fun a hf => ?_
 refine R.nil (X.then_ (wp_seq (wp_seq (R.list ?_))))
 refine S.p hf hs (iv y2) rfl rfl fun a hf => ?_
 refine S.p hf hs (.bool (y2 != 0)) rfl rfl fun a hf => ?_
 refine R.nil (X.then_ ?_)
 refine C.cond hf (b := y2 != 0) rfl (fun hc => ?_) (fun hc => ?_)
 ·replace h := h.1 hc
  refine wp_seq (R.list ?_)
  refine S.p hf hs (.slice y1A y1.length y1C) rfl rfl fun a hf => ?_
  refine S.v hf hs (iv (y1.length : Int)) rfl (V.len rfl rfl Tryd.runUnderlying48) fun a hf => ?_
  refine S.p hf hs (.bool ((y1.length : Int) == 0)) rfl rfl fun a hf => ?_
  refine S.split hf hs (b := (y1.length : Int) == 0) rfl rfl rfl (V.pure rfl) (fun hc a hf => ?_) (fun hc a hf => ?_)
  ·replace h := h.1 hc
   refine S.call hf rfl rfl rfl (call_fn (vs := []) rfl rfl rfl Tryd.call13) (R_awake  _  _ h) (fun v a w' hf hr => ?_)
   obtain ⟨y3, rfl, h2, hs2⟩ := hr
   replace h := h2; replace hs := hs.call hs2; clear h2 hs2
   refine S.p hf hs (.bool y3) rfl rfl fun a hf => ?_
   refine S.p hf hs (.bool y3) rfl rfl fun a hf => ?_
   refine R.nil (X.then_ (wp_ret (X.then_ret ?_)))
   exact L.ret hf (run_results1 Tryd.results7 (ResIs.tmp hf rfl)) ⟨y3, rfl, h, hs.nil⟩
  ·replace h := h.2 hc
   refine S.k hf rfl fun a hf => ?_
   refine S.p hf hs (.bool false) rfl rfl fun a hf => ?_
   refine S.p hf hs (.bool false) rfl rfl fun a hf => ?_
   refine R.nil (X.then_ (wp_ret (X.then_ret ?_)))
   exact L.ret hf (run_results1 Tryd.results7 (ResIs.tmp hf rfl)) ⟨false, rfl, h, hs.nil⟩
 ·replace h := h.2 hc
  refine wp_skip (X.then_ (wp_seq (wp_seq (R.list ?_))))
  refine S.p hf hs (.slice y1A y1.length y1C) rfl rfl fun a hf => ?_
  refine S.p hf hs (.slice lA l.length lC) rfl rfl fun a hf => ?_
  refine S.v hf hs (iv (l.length : Int)) rfl (V.len rfl rfl Tryd.runUnderlying23) fun a hf => ?_
  refine S.call hf rfl rfl rfl (call_fn (vs := [.slice y1A y1.length y1C, iv (l.length : Int)]) rfl rfl rfl Tryd.call25) (R_ref10_IsOrder y1 (l.length : Int) _ y1A y1C (hs.ownView 0 rfl) _ h) (fun v a w' hf hr => ?_)
  obtain ⟨y4, rfl, h2, hs2⟩ := hr
  replace h := h2; replace hs := hs.call hs2; clear h2 hs2
  refine S.p hf hs (.bool (!y4)) rfl rfl fun a hf => ?_
  refine R.nil (X.then_ ?_)
  refine C.cond hf (b := !y4) rfl (fun hc => ?_) (fun hc => ?_)
  ·replace h := h.1 hc
   refine wp_seq (R.list ?_)
   refine S.p hf hs (.bool false) rfl rfl fun a hf => ?_
   refine R.nil (X.then_ (wp_ret (X.then_ret ?_)))
   exact L.ret hf (run_results1 Tryd.results7 (ResIs.tmp hf rfl)) ⟨false, rfl, h, hs.nil⟩
  ·replace h := h.2 hc
   refine wp_skip (X.then_ (wp_seq (wp_seq (R.list ?_))))
   refine S.p hf hs (iv 1) rfl rfl fun a hf => ?_
   refine R.nil (X.then_ (wp_block ?_))
   obtain ⟨kk, h⟩ := h
   refine C.loop (fun kk a w => ∃ (n2 : Int), iterF (fun again (s : Int) => M_law_OrderIsOne_L1 b l heads Q y1 (fun n2 => again n2) s) kk n2 ∧ FrOk 127 [(0, .slice bA b.length bC), (1, .slice lA l.length lC), (2, iv heads), (7, .slice y1A y1.length y1C), (9, iv n2)] a ∧ Sat w0 none_ [hown 3 y1A y1C y1] w) kk ⟨1, h, (((((hf.nil.cons (hf.get 9 _ rfl)).cons (hf.get 7 _ rfl)).cons (hf.get 2 _ rfl)).cons (hf.get 1 _ rfl)).cons (hf.get 0 _ rfl)), hs⟩ (fun a w ⟨_, h, _, _⟩ => h) ?_
   clear h hf hs
   rintro kk a w ⟨n2, h, hf, hs⟩
   obtain ⟨again1, hagain1⟩ : ∃ X : Int → Prop, X = (fun n2 => iterF (fun again (s : Int) => M_law_OrderIsOne_L1 b l heads Q y1 (fun n2 => again n2) s) kk n2) := ⟨_, rfl⟩
   replace h : M_law_OrderIsOne_L1 b l heads Q y1 again1 n2 := by rw [hagain1]; exact h
   unfold M_law_OrderIsOne_L1 at h
   refine wp_seq (wp_seq (R.list ?_))
   refine S.p hf hs (iv n2) rfl rfl fun a hf => ?_
   refine S.p hf hs (.slice y1A y1.length y1C) rfl rfl fun a hf => ?_
   refine S.v hf hs (iv (y1.length : Int)) rfl (V.len rfl rfl Tryd.runUnderlying48) fun a hf => ?_
   refine S.p hf hs (.bool (decide (n2 < (y1.length : Int)))) rfl rfl fun a hf => ?_
   refine R.nil (X.then_ ?_)
   refine C.cond hf (b := decide (n2 < (y1.length : Int))) rfl (fun hc => ?_) (fun hc => ?_)
   ·replace h := h.1 hc
    refine wp_skip (X.then_ (wp_seq (wp_block (wp_seq ?_))))
    refine H.start (S := Sat w0 none_ [hown 3 y1A y1C y1]) mo ?_
    replace hs := hs.drew
    refine H.v hf hs (.slice lA l.length lC) 0 rfl rfl (by kernel_rfl) (V.pure rfl) fun a hf => ?_
    refine H.v hf hs (.slice y1A y1.length y1C) 1 rfl rfl (by kernel_rfl) (V.pure rfl) fun a hf => ?_
    refine H.v hf hs (iv n2) 2 rfl rfl (by kernel_rfl) (V.pure rfl) fun a hf => ?_
    refine H.v hf hs (iv (w64 (n2 - 1))) 3 rfl rfl (by kernel_rfl) (V.pure rfl) fun a hf => ?_
    obtain ⟨h0x1, x1, hx1, h⟩ := h
    refine H.v hf hs (elemPtr y1A ((w64 (n2 - 1)).toNat * 1)) 4 rfl rfl (by kernel_rfl) (V.index rfl rfl rfl Tryd.runUnderlying48 Tryd.sizeOf3 (hs.ownSome 0 rfl (lt_of_get hx1)) h0x1 (lt_of_get hx1) rfl) fun a hf => ?_
    refine H.v hf hs (iv x1) 5 rfl rfl (by kernel_rfl) (V.loadOwn (off := 0) 0 rfl hx1 rfl rfl rfl Tryd.isAgg3 Tryd.sizeOf3 rfl rfl) fun a hf => ?_
    obtain ⟨h0x2, x2, hx2, h⟩ := h
    refine H.v hf hs (elemPtr lA (x1.toNat * 6)) 6 rfl rfl (by kernel_rfl) (V.index rfl rfl rfl Tryd.runUnderlying23 Tryd.sizeOf28 (hv_l.some_ (lt_of_get hx2)) h0x2 (lt_of_get hx2) rfl) fun a hf => ?_
    refine H.v hf hs (.agg #[.string (ba x2.Part), .string (ba x2.Typ), iv x2.At.X, iv x2.At.Y, iv x2.Quarters, .bool x2.Below]) 7 rfl rfl (by kernel_rfl) (V.loadEl (off := 0) (Ag.args _ _ _) (hv_l.flat hx2) rfl rfl rfl Tryd.isAgg28 Tryd.sizeOf28 rfl rfl) fun a hf => ?_
    refine H.v hf hs (.slice lA l.length lC) 8 rfl rfl (by kernel_rfl) (V.pure rfl) fun a hf => ?_
    refine H.v hf hs (.slice y1A y1.length y1C) 9 rfl rfl (by kernel_rfl) (V.pure rfl) fun a hf => ?_
    refine H.v hf hs (iv n2) 10 rfl rfl (by kernel_rfl) (V.pure rfl) fun a hf => ?_
    obtain ⟨h0x3, x3, hx3, h⟩ := h
    refine H.v hf hs (elemPtr y1A (n2.toNat * 1)) 11 rfl rfl (by kernel_rfl) (V.index rfl rfl rfl Tryd.runUnderlying48 Tryd.sizeOf3 (hs.ownSome 0 rfl (lt_of_get hx3)) h0x3 (lt_of_get hx3) rfl) fun a hf => ?_
    refine H.v hf hs (iv x3) 12 rfl rfl (by kernel_rfl) (V.loadOwn (off := 0) 0 rfl hx3 rfl rfl rfl Tryd.isAgg3 Tryd.sizeOf3 rfl rfl) fun a hf => ?_
    obtain ⟨h0x4, x4, hx4, h⟩ := h
    refine H.v hf hs (elemPtr lA (x3.toNat * 6)) 13 rfl rfl (by kernel_rfl) (V.index rfl rfl rfl Tryd.runUnderlying23 Tryd.sizeOf28 (hv_l.some_ (lt_of_get hx4)) h0x4 (lt_of_get hx4) rfl) fun a hf => ?_
    refine H.v hf hs (.agg #[.string (ba x4.Part), .string (ba x4.Typ), iv x4.At.X, iv x4.At.Y, iv x4.Quarters, .bool x4.Below]) 14 rfl rfl (by kernel_rfl) (V.loadEl (off := 0) (Ag.args _ _ _) (hv_l.flat hx4) rfl rfl rfl Tryd.isAgg28 Tryd.sizeOf28 rfl rfl) fun a hf => ?_
    refine H.alloc2 (i := 15) (j := 16) hf hs (fun w hs => hs) rfl rfl rfl rfl rfl rfl rfl rfl (fun _ => rfl) rfl (fun _ => rfl) (by kernel_rfl) (by kernel_rfl) (by kernel_rfl) (by kernel_rfl) [.string (ba []), .string (ba []), iv 0, iv 0, iv 0, .bool false] [.string (ba []), .string (ba []), iv 0, iv 0, iv 0, .bool false] rfl rfl Tryd.zeroValue28 rfl Tryd.zeroValue28 rfl (fun g1 g2 a w hf hs => ?_)
    refine H.one (i := 17) rfl (by kernel_rfl) ?_
    refine S.storeBox 1 hf hs rfl rfl [.string (ba x2.Part), .string (ba x2.Typ), iv x2.At.X, iv x2.At.Y, iv x2.Quarters, .bool x2.Below] [.string (ba x2.Part), .string (ba x2.Typ), iv x2.At.X, iv x2.At.Y, iv x2.Quarters, .bool x2.Below] rfl rfl rfl rfl rfl Tryd.sizeOf28 rfl rfl rfl rfl (fun a w hf hs => ?_)
    refine R.nil (X.then_ ?_)
    refine ⟨(hs.mask [false, false, true]), ?_⟩
    refine H.one (i := 18) rfl (by kernel_rfl) ?_
    refine S.storeBox 0 hf hs rfl rfl [.string (ba x4.Part), .string (ba x4.Typ), iv x4.At.X, iv x4.At.Y, iv x4.Quarters, .bool x4.Below] [.string (ba x4.Part), .string (ba x4.Typ), iv x4.At.X, iv x4.At.Y, iv x4.Quarters, .bool x4.Below] rfl rfl rfl rfl rfl Tryd.sizeOf28 rfl rfl rfl rfl (fun a w hf hs => ?_)
    refine R.nil (X.then_ ?_)
    refine ⟨(hs.mask [false, false, true]), ?_⟩
    refine H.done (by kernel_rfl) ?_
    refine X.then_ (wp_seq ?_)
    refine C.cut (J := fun a w => ∃ (c1 : Bool), M_law_OrderIsOne_k2 Q n2 again1 c1 ∧ FrOk 127 [(0, .slice bA b.length bC), (1, .slice lA l.length lC), (2, iv heads), (7, .slice y1A y1.length y1C), (9, iv n2), (77, .bool c1)] a ∧ Sat w0 none_ [hbox g2 28 [.string (ba x4.Part), .string (ba x4.Typ), iv x4.At.X, iv x4.At.Y, iv x4.Quarters, .bool x4.Below], hbox g1 28 [.string (ba x2.Part), .string (ba x2.Typ), iv x2.At.X, iv x2.At.Y, iv x2.Quarters, .bool x2.Below], hown 3 y1A y1C y1] w) ?_ ?_
    ·rintro a w ⟨c1, h, hf, hs⟩
     unfold M_law_OrderIsOne_k2 at h
     refine C.cond hf (b := c1) rfl (fun hc => ?_) (fun hc => ?_)
     ·replace h := h.1 hc
      refine wp_seq (R.list ?_)
      refine S.p hf hs (.bool false) rfl rfl fun a hf => ?_
      refine R.nil (X.then_ (wp_ret (X.blk_ret (X.then_ret (X.then_ret (X.blk_ret (X.then_ret ?_)))))))
      exact L.ret hf (run_results1 Tryd.results7 (ResIs.tmp hf rfl)) ⟨false, rfl, h, hs.nil⟩
     ·replace h := h.2 hc
      refine wp_skip (X.blk (X.then_ (R.list ?_)))
      refine S.p hf hs (iv n2) rfl rfl fun a hf => ?_
      refine S.p hf hs (iv (w64 (n2 + 1))) rfl rfl fun a hf => ?_
      refine S.p hf hs (iv (w64 (n2 + 1))) rfl rfl fun a hf => ?_
      refine R.nil (X.then_ ?_)
      exact ⟨(w64 (n2 + 1)), (by rw [hagain1] at h; exact h), (((((hf.nil.cons (hf.get 9 _ rfl)).cons (hf.get 7 _ rfl)).cons (hf.get 2 _ rfl)).cons (hf.get 1 _ rfl)).cons (hf.get 0 _ rfl)), hs.drop.drop⟩
    ·skip
     refine H.start (S := Sat w0 none_ [hbox g2 28 [.string (ba x4.Part), .string (ba x4.Typ), iv x4.At.X, iv x4.At.Y, iv x4.Quarters, .bool x4.Below], hbox g1 28 [.string (ba x2.Part), .string (ba x2.Typ), iv x2.At.X, iv x2.At.Y, iv x2.Quarters, .bool x2.Below], hown 3 y1A y1C y1]) mo ?_
     replace hs := hs.drew
     refine H.v hf hs ((pn g1 5)) 0 rfl rfl (by kernel_rfl) (V.fieldBox rfl rfl Tryd.runUnderlying28 rfl Tryd.sizeOf4 rfl rfl) fun a hf => ?_
     refine H.v hf hs (.bool x2.Below) 1 rfl rfl (by kernel_rfl) (V.loadBox 1 rfl rfl rfl Tryd.isAgg4 Tryd.sizeOf4 rfl rfl) fun a hf => ?_
     refine H.split hf hs (b := x2.Below) (i := 2) rfl rfl rfl rfl (by kernel_rfl) (by kernel_rfl) (by kernel_rfl) (V.pure rfl) (fun hc a hf => ?_) (fun hc a hf => ?_)
     ·replace h := h.1 hc
      refine H.v hf hs ((pn g2 5)) 3 rfl rfl (by kernel_rfl) (V.fieldBox rfl rfl Tryd.runUnderlying28 rfl Tryd.sizeOf4 rfl rfl) fun a hf => ?_
      refine H.v hf hs (.bool x4.Below) 4 rfl rfl (by kernel_rfl) (V.loadBox 0 rfl rfl rfl Tryd.isAgg4 Tryd.sizeOf4 rfl rfl) fun a hf => ?_
      refine H.v hf hs (.bool (!x4.Below)) 5 rfl rfl (by kernel_rfl) (V.pure rfl) fun a hf => ?_
      refine H.v hf hs (.bool (!x4.Below)) 6 rfl rfl (by kernel_rfl) (V.pure rfl) fun a hf => ?_
      refine H.split hf hs (b := !x4.Below) (i := 7) rfl rfl rfl rfl (by kernel_rfl) (by kernel_rfl) (by kernel_rfl) (V.pure rfl) (fun hc a hf => ?_) (fun hc a hf => ?_)
      ·replace h := h.1 hc
       refine H.k hf hs 8 rfl rfl (by kernel_rfl) fun a hf => ?_
       refine H.k hf hs 9 rfl rfl (by kernel_rfl) fun a hf => ?_
       refine H.k hf hs 10 rfl rfl (by kernel_rfl) fun a hf => ?_
       refine H.k hf hs 11 rfl rfl (by kernel_rfl) fun a hf => ?_
       refine H.k hf hs 12 rfl rfl (by kernel_rfl) fun a hf => ?_
       refine H.k hf hs 13 rfl rfl (by kernel_rfl) fun a hf => ?_
       refine H.k hf hs 14 rfl rfl (by kernel_rfl) fun a hf => ?_
       refine H.k hf hs 15 rfl rfl (by kernel_rfl) fun a hf => ?_
       refine H.k hf hs 17 rfl rfl (by kernel_rfl) fun a hf => ?_
       refine H.k hf hs 18 rfl rfl (by kernel_rfl) fun a hf => ?_
       refine H.one (i := 16) rfl (by kernel_rfl) ?_
       refine S.k hf rfl fun a hf => ?_
       refine R.nil (X.then_ ?_)
       refine ⟨hs, ?_⟩
       refine H.one (i := 19) rfl (by kernel_rfl) ?_
       refine S.k hf rfl fun a hf => ?_
       refine R.nil (X.then_ ?_)
       refine ⟨hs, ?_⟩
       refine H.k hf hs 20 rfl rfl (by kernel_rfl) fun a hf => ?_
       refine H.k hf hs 21 rfl rfl (by kernel_rfl) fun a hf => ?_
       refine H.v hf hs (.bool true) 22 rfl rfl (by kernel_rfl) (V.pure rfl) fun a hf => ?_
       refine H.done (by kernel_rfl) ?_
       refine X.then_ ?_
       exact ⟨true, h, ((((((hf.nil.cons (hf.get 77 _ rfl)).cons (hf.get 9 _ rfl)).cons (hf.get 7 _ rfl)).cons (hf.get 2 _ rfl)).cons (hf.get 1 _ rfl)).cons (hf.get 0 _ rfl)), hs⟩
      ·replace h := h.2 hc
       refine H.v hf hs ((pn g1 5)) 8 rfl rfl (by kernel_rfl) (V.fieldBox rfl rfl Tryd.runUnderlying28 rfl Tryd.sizeOf4 rfl rfl) fun a hf => ?_
       refine H.v hf hs (.bool x2.Below) 9 rfl rfl (by kernel_rfl) (V.loadBox 1 rfl rfl rfl Tryd.isAgg4 Tryd.sizeOf4 rfl rfl) fun a hf => ?_
       refine H.v hf hs ((pn g2 5)) 10 rfl rfl (by kernel_rfl) (V.fieldBox rfl rfl Tryd.runUnderlying28 rfl Tryd.sizeOf4 rfl rfl) fun a hf => ?_
       refine H.v hf hs (.bool x4.Below) 11 rfl rfl (by kernel_rfl) (V.loadBox 0 rfl rfl rfl Tryd.isAgg4 Tryd.sizeOf4 rfl rfl) fun a hf => ?_
       refine H.v hf hs (.bool (x2.Below == x4.Below)) 12 rfl rfl (by kernel_rfl) (V.boolEq rfl rfl rfl Tryd.underlying4 rfl) fun a hf => ?_
       refine H.split hf hs (b := x2.Below == x4.Below) (i := 13) rfl rfl rfl rfl (by kernel_rfl) (by kernel_rfl) (by kernel_rfl) (V.pure rfl) (fun hc a hf => ?_) (fun hc a hf => ?_)
       ·replace h := h.1 hc
        refine H.v hf hs (.slice bA b.length bC) 14 rfl rfl (by kernel_rfl) (V.pure rfl) fun a hf => ?_
        refine H.v hf hs (.agg #[.string (ba x2.Part), .string (ba x2.Typ), iv x2.At.X, iv x2.At.Y, iv x2.Quarters, .bool x2.Below]) 15 rfl rfl (by kernel_rfl) (V.loadBox 1 rfl rfl rfl Tryd.isAgg28 Tryd.sizeOf28 rfl rfl) fun a hf => ?_
        refine H.v hf hs (.slice bA b.length bC) 17 rfl rfl (by kernel_rfl) (V.pure rfl) fun a hf => ?_
        refine H.v hf hs (.agg #[.string (ba x4.Part), .string (ba x4.Typ), iv x4.At.X, iv x4.At.Y, iv x4.Quarters, .bool x4.Below]) 18 rfl rfl (by kernel_rfl) (V.loadBox 0 rfl rfl rfl Tryd.isAgg28 Tryd.sizeOf28 rfl rfl) fun a hf => ?_
        refine H.one (i := 16) rfl (by kernel_rfl) ?_
        refine S.call hf rfl rfl rfl (call_fn (vs := [.slice bA b.length bC, .agg #[.string (ba x2.Part), .string (ba x2.Typ), iv x2.At.X, iv x2.At.Y, iv x2.Quarters, .bool x2.Below]]) rfl rfl rfl Tryd.call26) (R_ref10_TallOf b x2 _ bA bC ((Ag.args _ _ _).view hv_b hs) _ h) (fun v a w' hf hr => ?_)
        obtain ⟨y5, rfl, h2, hs2⟩ := hr
        replace h := h2; replace hs := hs.call hs2; clear h2 hs2
        refine R.nil (X.then_ ?_)
        refine ⟨hs, ?_⟩
        refine H.one (i := 19) rfl (by kernel_rfl) ?_
        refine S.call hf rfl rfl rfl (call_fn (vs := [.slice bA b.length bC, .agg #[.string (ba x4.Part), .string (ba x4.Typ), iv x4.At.X, iv x4.At.Y, iv x4.Quarters, .bool x4.Below]]) rfl rfl rfl Tryd.call26) (R_ref10_TallOf b x4 _ bA bC ((Ag.args _ _ _).view hv_b hs) _ h) (fun v a w' hf hr => ?_)
        obtain ⟨y6, rfl, h2, hs2⟩ := hr
        replace h := h2; replace hs := hs.call hs2; clear h2 hs2
        refine R.nil (X.then_ ?_)
        refine ⟨hs, ?_⟩
        refine H.v hf hs (.bool (decide (y5 > y6))) 20 rfl rfl (by kernel_rfl) (V.pure rfl) fun a hf => ?_
        refine H.v hf hs (.bool (decide (y5 > y6))) 21 rfl rfl (by kernel_rfl) (V.pure rfl) fun a hf => ?_
        refine H.v hf hs (.bool (decide (y5 > y6))) 22 rfl rfl (by kernel_rfl) (V.pure rfl) fun a hf => ?_
        refine H.done (by kernel_rfl) ?_
        refine X.then_ ?_
        exact ⟨(decide (y5 > y6)), h, ((((((hf.nil.cons (hf.get 77 _ rfl)).cons (hf.get 9 _ rfl)).cons (hf.get 7 _ rfl)).cons (hf.get 2 _ rfl)).cons (hf.get 1 _ rfl)).cons (hf.get 0 _ rfl)), hs⟩
       ·replace h := h.2 hc
        refine H.k hf hs 14 rfl rfl (by kernel_rfl) fun a hf => ?_
        refine H.k hf hs 15 rfl rfl (by kernel_rfl) fun a hf => ?_
        refine H.k hf hs 17 rfl rfl (by kernel_rfl) fun a hf => ?_
        refine H.k hf hs 18 rfl rfl (by kernel_rfl) fun a hf => ?_
        refine H.one (i := 16) rfl (by kernel_rfl) ?_
        refine S.k hf rfl fun a hf => ?_
        refine R.nil (X.then_ ?_)
        refine ⟨hs, ?_⟩
        refine H.one (i := 19) rfl (by kernel_rfl) ?_
        refine S.k hf rfl fun a hf => ?_
        refine R.nil (X.then_ ?_)
        refine ⟨hs, ?_⟩
        refine H.k hf hs 20 rfl rfl (by kernel_rfl) fun a hf => ?_
        refine H.v hf hs (.bool false) 21 rfl rfl (by kernel_rfl) (V.pure rfl) fun a hf => ?_
        refine H.v hf hs (.bool false) 22 rfl rfl (by kernel_rfl) (V.pure rfl) fun a hf => ?_
        refine H.done (by kernel_rfl) ?_
        refine X.then_ ?_
        exact ⟨false, h, ((((((hf.nil.cons (hf.get 77 _ rfl)).cons (hf.get 9 _ rfl)).cons (hf.get 7 _ rfl)).cons (hf.get 2 _ rfl)).cons (hf.get 1 _ rfl)).cons (hf.get 0 _ rfl)), hs⟩
     ·replace h := h.2 hc
      refine H.k hf hs 3 rfl rfl (by kernel_rfl) fun a hf => ?_
      refine H.k hf hs 4 rfl rfl (by kernel_rfl) fun a hf => ?_
      refine H.k hf hs 5 rfl rfl (by kernel_rfl) fun a hf => ?_
      refine H.v hf hs (.bool false) 6 rfl rfl (by kernel_rfl) (V.pure rfl) fun a hf => ?_
      refine H.v hf hs (.bool false) 7 rfl rfl (by kernel_rfl) (V.pure rfl) fun a hf => ?_
      refine H.v hf hs ((pn g1 5)) 8 rfl rfl (by kernel_rfl) (V.fieldBox rfl rfl Tryd.runUnderlying28 rfl Tryd.sizeOf4 rfl rfl) fun a hf => ?_
      refine H.v hf hs (.bool x2.Below) 9 rfl rfl (by kernel_rfl) (V.loadBox 1 rfl rfl rfl Tryd.isAgg4 Tryd.sizeOf4 rfl rfl) fun a hf => ?_
      refine H.v hf hs ((pn g2 5)) 10 rfl rfl (by kernel_rfl) (V.fieldBox rfl rfl Tryd.runUnderlying28 rfl Tryd.sizeOf4 rfl rfl) fun a hf => ?_
      refine H.v hf hs (.bool x4.Below) 11 rfl rfl (by kernel_rfl) (V.loadBox 0 rfl rfl rfl Tryd.isAgg4 Tryd.sizeOf4 rfl rfl) fun a hf => ?_
      refine H.v hf hs (.bool (x2.Below == x4.Below)) 12 rfl rfl (by kernel_rfl) (V.boolEq rfl rfl rfl Tryd.underlying4 rfl) fun a hf => ?_
      refine H.split hf hs (b := x2.Below == x4.Below) (i := 13) rfl rfl rfl rfl (by kernel_rfl) (by kernel_rfl) (by kernel_rfl) (V.pure rfl) (fun hc a hf => ?_) (fun hc a hf => ?_)
      ·replace h := h.1 hc
       refine H.v hf hs (.slice bA b.length bC) 14 rfl rfl (by kernel_rfl) (V.pure rfl) fun a hf => ?_
       refine H.v hf hs (.agg #[.string (ba x2.Part), .string (ba x2.Typ), iv x2.At.X, iv x2.At.Y, iv x2.Quarters, .bool x2.Below]) 15 rfl rfl (by kernel_rfl) (V.loadBox 1 rfl rfl rfl Tryd.isAgg28 Tryd.sizeOf28 rfl rfl) fun a hf => ?_
       refine H.v hf hs (.slice bA b.length bC) 17 rfl rfl (by kernel_rfl) (V.pure rfl) fun a hf => ?_
       refine H.v hf hs (.agg #[.string (ba x4.Part), .string (ba x4.Typ), iv x4.At.X, iv x4.At.Y, iv x4.Quarters, .bool x4.Below]) 18 rfl rfl (by kernel_rfl) (V.loadBox 0 rfl rfl rfl Tryd.isAgg28 Tryd.sizeOf28 rfl rfl) fun a hf => ?_
       refine H.one (i := 16) rfl (by kernel_rfl) ?_
       refine S.call hf rfl rfl rfl (call_fn (vs := [.slice bA b.length bC, .agg #[.string (ba x2.Part), .string (ba x2.Typ), iv x2.At.X, iv x2.At.Y, iv x2.Quarters, .bool x2.Below]]) rfl rfl rfl Tryd.call26) (R_ref10_TallOf b x2 _ bA bC ((Ag.args _ _ _).view hv_b hs) _ h) (fun v a w' hf hr => ?_)
       obtain ⟨y7, rfl, h2, hs2⟩ := hr
       replace h := h2; replace hs := hs.call hs2; clear h2 hs2
       refine R.nil (X.then_ ?_)
       refine ⟨hs, ?_⟩
       refine H.one (i := 19) rfl (by kernel_rfl) ?_
       refine S.call hf rfl rfl rfl (call_fn (vs := [.slice bA b.length bC, .agg #[.string (ba x4.Part), .string (ba x4.Typ), iv x4.At.X, iv x4.At.Y, iv x4.Quarters, .bool x4.Below]]) rfl rfl rfl Tryd.call26) (R_ref10_TallOf b x4 _ bA bC ((Ag.args _ _ _).view hv_b hs) _ h) (fun v a w' hf hr => ?_)
       obtain ⟨y8, rfl, h2, hs2⟩ := hr
       replace h := h2; replace hs := hs.call hs2; clear h2 hs2
       refine R.nil (X.then_ ?_)
       refine ⟨hs, ?_⟩
       refine H.v hf hs (.bool (decide (y7 > y8))) 20 rfl rfl (by kernel_rfl) (V.pure rfl) fun a hf => ?_
       refine H.v hf hs (.bool (decide (y7 > y8))) 21 rfl rfl (by kernel_rfl) (V.pure rfl) fun a hf => ?_
       refine H.v hf hs (.bool (decide (y7 > y8))) 22 rfl rfl (by kernel_rfl) (V.pure rfl) fun a hf => ?_
       refine H.done (by kernel_rfl) ?_
       refine X.then_ ?_
       exact ⟨(decide (y7 > y8)), h, ((((((hf.nil.cons (hf.get 77 _ rfl)).cons (hf.get 9 _ rfl)).cons (hf.get 7 _ rfl)).cons (hf.get 2 _ rfl)).cons (hf.get 1 _ rfl)).cons (hf.get 0 _ rfl)), hs⟩
      ·replace h := h.2 hc
       refine H.k hf hs 14 rfl rfl (by kernel_rfl) fun a hf => ?_
       refine H.k hf hs 15 rfl rfl (by kernel_rfl) fun a hf => ?_
       refine H.k hf hs 17 rfl rfl (by kernel_rfl) fun a hf => ?_
       refine H.k hf hs 18 rfl rfl (by kernel_rfl) fun a hf => ?_
       refine H.one (i := 16) rfl (by kernel_rfl) ?_
       refine S.k hf rfl fun a hf => ?_
       refine R.nil (X.then_ ?_)
       refine ⟨hs, ?_⟩
       refine H.one (i := 19) rfl (by kernel_rfl) ?_
       refine S.k hf rfl fun a hf => ?_
       refine R.nil (X.then_ ?_)
       refine ⟨hs, ?_⟩
       refine H.k hf hs 20 rfl rfl (by kernel_rfl) fun a hf => ?_
       refine H.v hf hs (.bool false) 21 rfl rfl (by kernel_rfl) (V.pure rfl) fun a hf => ?_
       refine H.v hf hs (.bool false) 22 rfl rfl (by kernel_rfl) (V.pure rfl) fun a hf => ?_
       refine H.done (by kernel_rfl) ?_
       refine X.then_ ?_
       exact ⟨false, h, ((((((hf.nil.cons (hf.get 77 _ rfl)).cons (hf.get 9 _ rfl)).cons (hf.get 7 _ rfl)).cons (hf.get 2 _ rfl)).cons (hf.get 1 _ rfl)).cons (hf.get 0 _ rfl)), hs⟩
   ·replace h := h.2 hc
    refine wp_exit (X.then_exit (X.then_exit (X.blk_exit (X.then_ (wp_seq (R.list ?_))))))
    refine S.p hf hs (.slice bA b.length bC) rfl rfl fun a hf => ?_
    refine S.p hf hs (.slice lA l.length lC) rfl rfl fun a hf => ?_
    refine S.p hf hs (.slice y1A y1.length y1C) rfl rfl fun a hf => ?_
    refine S.p hf hs (iv heads) rfl rfl fun a hf => ?_
    refine S.call hf rfl rfl rfl (call_fn (vs := [.slice bA b.length bC, .slice lA l.length lC, .slice y1A y1.length y1C, iv heads]) rfl rfl rfl Tryd.call27) (R_mount_Rounds b l y1 heads _ bA bC ((Ag.args _ _ _).view hv_b hs) lA lC ((Ag.args _ _ _).view hv_l hs) y1A y1C (hs.ownView 0 rfl) _ h) (fun v a w' hf hr => ?_)
    obtain ⟨y9, y9A, y9C, y9as, y10, rfl, h2, hs2⟩ := hr
    replace h := h2; replace hs := hs.call hs2; clear h2 hs2
    refine S.p hf hs (.tuple #[.slice y9A y9.length y9C, iv y10]) rfl rfl fun a hf => ?_
    refine S.p hf hs (.slice y9A y9.length y9C) rfl rfl fun a hf => ?_
    refine S.p hf hs (iv y10) rfl rfl fun a hf => ?_
    refine S.p hf hs (.slice y9A y9.length y9C) rfl rfl fun a hf => ?_
    refine S.p hf hs (iv y10) rfl rfl fun a hf => ?_
    refine R.nil (X.then_ (wp_seq (wp_seq (R.list ?_))))
    refine S.p hf hs (iv y10) rfl rfl fun a hf => ?_
    refine S.p hf hs (.bool (y10 != 0)) rfl rfl fun a hf => ?_
    refine R.nil (X.then_ ?_)
    refine C.cond hf (b := y10 != 0) rfl (fun hc => ?_) (fun hc => ?_)
    ·replace h := h.1 hc
     refine wp_seq (R.list ?_)
     refine S.p hf hs (iv y10) rfl rfl fun a hf => ?_
     refine S.p hf hs (.bool (y10 == 1)) rfl rfl fun a hf => ?_
     refine S.split hf hs (b := y10 == 1) rfl rfl rfl (V.pure rfl) (fun hc a hf => ?_) (fun hc a hf => ?_)
     ·replace h := h.1 hc
      refine S.call hf rfl rfl rfl (call_fn (vs := []) rfl rfl rfl Tryd.call13) (R_awake  _  _ h) (fun v a w' hf hr => ?_)
      obtain ⟨y11, rfl, h2, hs2⟩ := hr
      replace h := h2; replace hs := hs.call hs2; clear h2 hs2
      refine S.p hf hs (.bool y11) rfl rfl fun a hf => ?_
      refine S.p hf hs (.bool y11) rfl rfl fun a hf => ?_
      refine R.nil (X.then_ (wp_ret (X.then_ret ?_)))
      exact L.ret hf (run_results1 Tryd.results7 (ResIs.tmp hf rfl)) ⟨y11, rfl, h, hs.nil⟩
     ·replace h := h.2 hc
      refine S.k hf rfl fun a hf => ?_
      refine S.p hf hs (.bool false) rfl rfl fun a hf => ?_
      refine S.p hf hs (.bool false) rfl rfl fun a hf => ?_
      refine R.nil (X.then_ (wp_ret (X.then_ret ?_)))
      exact L.ret hf (run_results1 Tryd.results7 (ResIs.tmp hf rfl)) ⟨false, rfl, h, hs.nil⟩
    ·replace h := h.2 hc
     refine wp_skip (X.then_ (wp_seq (wp_seq (R.list ?_))))
     refine S.p hf hs (.slice y9A y9.length y9C) rfl rfl fun a hf => ?_
     refine S.v hf hs (iv (y9.length : Int)) rfl (V.len rfl rfl Tryd.runUnderlying61) fun a hf => ?_
     refine S.p hf hs (iv 0) rfl rfl fun a hf => ?_
     refine R.nil (X.then_ (wp_block ?_))
     have hlenk3 := (hs.rowsView 0 rfl).len64
     refine C.range (fun (ll : List (List Int)) a w => ∃ (k3 : Nat) , y9.drop k3 = ll ∧ k3 + ll.length = y9.length ∧ forIn' (fun k x (s : Unit) next => M_law_OrderIsOne_L2 heads Q k x (next ())) (fun (s : Unit) => M_mount_Nozzles b l y9 fun y12 y13 => M_concat_int y9 fun y14 => M_equal_int y14 y1 fun y15 => cnd y15 (cnd (y13 == 0) (M_awake  fun y16 => Q y16) (Q false)) (Q false)) ll k3 () ∧ FrOk 127 [(95, iv (k3 : Int)), (0, .slice bA b.length bC), (1, .slice lA l.length lC), (2, iv heads), (7, .slice y1A y1.length y1C), (12, .slice y9A y9.length y9C), (93, .slice y9A y9.length y9C), (94, iv (y9.length : Int))] a ∧ Sat w0 none_ [hrows 48 3 y9A y9C y9as y9, hown 3 y1A y1C y1] w) y9 ⟨0, rfl, Nat.zero_add _, h, ((((((((hf.nil.cons (hf.get 94 _ rfl)).cons (hf.get 93 _ rfl)).cons (hf.get 12 _ rfl)).cons (hf.get 7 _ rfl)).cons (hf.get 2 _ rfl)).cons (hf.get 1 _ rfl)).cons (hf.get 0 _ rfl)).cons (hf.get 95 _ rfl)), hs⟩ ?_
     clear h hf hs
     rintro llk3 a w ⟨k3, hlk3, hkk3, h, hf, hs⟩
     cases llk3 with
     | nil =>
      have hc := range_done hkk3
      replace h : M_mount_Nozzles b l y9 fun y12 y13 => M_concat_int y9 fun y14 => M_equal_int y14 y1 fun y15 => cnd y15 (cnd (y13 == 0) (M_awake  fun y16 => Q y16) (Q false)) (Q false) := h
      refine wp_seq (R.list ?_)
      refine S.v hf hs (.bool false) rfl (V.cmp false rfl rfl rfl rfl hc) fun a hf => ?_
      refine R.nil (X.then_ (wp_seq ?_))
      refine C.no hf rfl ?_
      refine wp_exit (X.then_exit (X.then_exit (X.blk_exit (X.then_ (wp_seq (R.list ?_))))))
      refine S.p hf hs (.slice bA b.length bC) rfl rfl fun a hf => ?_
      refine S.p hf hs (.slice lA l.length lC) rfl rfl fun a hf => ?_
      refine S.p hf hs (.slice y9A y9.length y9C) rfl rfl fun a hf => ?_
      refine S.call hf rfl rfl rfl (call_fn (vs := [.slice bA b.length bC, .slice lA l.length lC, .slice y9A y9.length y9C]) rfl rfl rfl Tryd.call28) (R_mount_Nozzles b l y9 _ bA bC ((Ag.args _ _ _).view hv_b hs) lA lC ((Ag.args _ _ _).view hv_l hs) y9A y9C (hs.rowsView 0 rfl) _ h) (fun v a w' hf hr => ?_)
      obtain ⟨y12, y13, rfl, h2, hs2⟩ := hr
      replace h := h2; replace hs := hs.call hs2; clear h2 hs2
      refine S.p hf hs (.tuple #[iv y12, iv y13]) rfl rfl fun a hf => ?_
      refine S.p hf hs (iv y12) rfl rfl fun a hf => ?_
      refine S.p hf hs (iv y13) rfl rfl fun a hf => ?_
      refine S.p hf hs (iv y13) rfl rfl fun a hf => ?_
      refine R.nil (X.then_ (wp_seq (R.list ?_)))
      refine S.p hf hs (.slice y9A y9.length y9C) rfl rfl fun a hf => ?_
      refine S.call hf rfl rfl rfl (call_fn (vs := [.slice y9A y9.length y9C]) rfl rfl rfl Tryd.call30) (R_concat_int y9 _ y9A y9C (hs.rowsView 0 rfl) _ h) (fun v a w' hf hr => ?_)
      obtain ⟨y14, y14A, y14C, rfl, h2, hs2⟩ := hr
      replace h := h2; replace hs := hs.call hs2; clear h2 hs2
      refine S.p hf hs (.slice y1A y1.length y1C) rfl rfl fun a hf => ?_
      refine S.call hf rfl rfl rfl (call_fn (vs := [.slice y14A y14.length y14C, .slice y1A y1.length y1C]) rfl rfl rfl Tryd.call29) (R_equal_int y14 y1 _ y14A y14C (hs.ownView 0 rfl) y1A y1C (hs.ownView 2 rfl) _ h) (fun v a w' hf hr => ?_)
      obtain ⟨y15, rfl, h2, hs2⟩ := hr
      replace h := h2; replace hs := hs.call hs2; clear h2 hs2
      refine S.split hf hs (b := y15) rfl rfl rfl (V.pure rfl) (fun hc a hf => ?_) (fun hc a hf => ?_)
      ·replace h := h.1 hc
       refine S.p hf hs (iv y13) rfl rfl fun a hf => ?_
       refine S.p hf hs (.bool (y13 == 0)) rfl rfl fun a hf => ?_
       refine S.p hf hs (.bool (y13 == 0)) rfl rfl fun a hf => ?_
       refine S.split hf hs (b := y13 == 0) rfl rfl rfl (V.pure rfl) (fun hc a hf => ?_) (fun hc a hf => ?_)
       ·replace h := h.1 hc
        refine S.call hf rfl rfl rfl (call_fn (vs := []) rfl rfl rfl Tryd.call13) (R_awake  _  _ h) (fun v a w' hf hr => ?_)
        obtain ⟨y16, rfl, h2, hs2⟩ := hr
        replace h := h2; replace hs := hs.call hs2; clear h2 hs2
        refine S.p hf hs (.bool y16) rfl rfl fun a hf => ?_
        refine S.p hf hs (.bool y16) rfl rfl fun a hf => ?_
        refine R.nil (X.then_ (wp_ret ?_))
        exact L.ret hf (run_results1 Tryd.results7 (ResIs.tmp hf rfl)) ⟨y16, rfl, h, hs.nil⟩
       ·replace h := h.2 hc
        refine S.k hf rfl fun a hf => ?_
        refine S.p hf hs (.bool false) rfl rfl fun a hf => ?_
        refine S.p hf hs (.bool false) rfl rfl fun a hf => ?_
        refine R.nil (X.then_ (wp_ret ?_))
        exact L.ret hf (run_results1 Tryd.results7 (ResIs.tmp hf rfl)) ⟨false, rfl, h, hs.nil⟩
      ·replace h := h.2 hc
       refine S.k hf rfl fun a hf => ?_
       refine S.k hf rfl fun a hf => ?_
       refine S.p hf hs (.bool false) rfl rfl fun a hf => ?_
       refine S.p hf hs (.bool false) rfl rfl fun a hf => ?_
       refine S.k hf rfl fun a hf => ?_
       refine S.p hf hs (.bool false) rfl rfl fun a hf => ?_
       refine S.p hf hs (.bool false) rfl rfl fun a hf => ?_
       refine R.nil (X.then_ (wp_ret ?_))
       exact L.ret hf (run_results1 Tryd.results7 (ResIs.tmp hf rfl)) ⟨false, rfl, h, hs.nil⟩
     | cons xk3 llk3 =>
      have hltk3 := range_lt hkk3; have hc := range_go hkk3; have hxk3 := range_get hlk3
      obtain ⟨next2, hnext2⟩ : ∃ X : Prop, X = (forIn' (fun k x (s : Unit) next => M_law_OrderIsOne_L2 heads Q k x (next ())) (fun (s : Unit) => M_mount_Nozzles b l y9 fun y12 y13 => M_concat_int y9 fun y14 => M_equal_int y14 y1 fun y15 => cnd y15 (cnd (y13 == 0) (M_awake  fun y16 => Q y16) (Q false)) (Q false)) llk3 (k3 + 1) ()) := ⟨_, rfl⟩
      replace h : M_law_OrderIsOne_L2 heads Q k3 xk3  next2 := by rw [hnext2]; exact h
      unfold M_law_OrderIsOne_L2 at h
      refine wp_seq (R.list ?_)
      refine S.v hf hs (.bool true) rfl (V.cmp true rfl rfl rfl rfl hc) fun a hf => ?_
      refine R.nil (X.then_ (wp_seq ?_))
      refine C.yes hf rfl ?_
      refine wp_skip (X.then_ (wp_seq (wp_block (wp_seq (R.list ?_)))))
      refine S.v hf hs (elemPtr y9A (k3 * 1)) rfl (V.index rfl rfl rfl Tryd.runUnderlying61 Tryd.sizeOf48 (hs.rowsSome 0 rfl hxk3) (Int.natCast_nonneg _) (lt_of_get hxk3) rfl) fun a hf => ?_
      obtain ⟨B1, D1, hrB1⟩ := hs.rowAt 0 rfl hxk3
      refine S.v hf hs (.slice B1 xk3.length D1) rfl (V.loadRows (off := 0) 0 rfl hxk3 hrB1 rfl rfl rfl Tryd.isAgg48 Tryd.sizeOf48 rfl rfl) fun a hf => ?_
      refine S.p hf hs (.slice B1 xk3.length D1) rfl rfl fun a hf => ?_
      refine R.nil (X.then_ (wp_seq ?_))
      refine C.cut (J := fun a w => ∃ (c2 : Bool), M_law_OrderIsOne_k4 Q next2 c2 ∧ FrOk 127 [(0, .slice bA b.length bC), (1, .slice lA l.length lC), (2, iv heads), (7, .slice y1A y1.length y1C), (12, .slice y9A y9.length y9C), (93, .slice y9A y9.length y9C), (94, iv (y9.length : Int)), (95, iv (k3 : Int)), (107, .bool c2)] a ∧ Sat w0 none_ [hrows 48 3 y9A y9C y9as y9, hown 3 y1A y1C y1] w) ?_ ?_
      ·rintro a w ⟨c2, h, hf, hs⟩
       unfold M_law_OrderIsOne_k4 at h
       refine C.cond hf (b := c2) rfl (fun hc => ?_) (fun hc => ?_)
       ·replace h := h.1 hc
        refine wp_seq (R.list ?_)
        refine S.p hf hs (.bool false) rfl rfl fun a hf => ?_
        refine R.nil (X.then_ (wp_ret (X.blk_ret (X.then_ret (X.then_ret (X.blk_ret (X.then_ret ?_)))))))
        exact L.ret hf (run_results1 Tryd.results7 (ResIs.tmp hf rfl)) ⟨false, rfl, h, hs.nil⟩
       ·replace h := h.2 hc
        refine wp_skip (X.blk (X.then_ (R.list ?_)))
        refine S.v hf hs (iv ((k3 + 1 : Nat) : Int)) rfl (V.incr rfl rfl rfl hltk3 hlenk3) fun a hf => ?_
        refine S.p hf hs (iv ((k3 + 1 : Nat) : Int)) rfl rfl fun a hf => ?_
        refine R.nil (X.then_ ?_)
        exact ⟨xk3, llk3, rfl, k3 + 1, range_drop hlk3, range_len hkk3, (by rw [hnext2] at h; exact h), ((((((((hf.nil.cons (hf.get 94 _ rfl)).cons (hf.get 93 _ rfl)).cons (hf.get 12 _ rfl)).cons (hf.get 7 _ rfl)).cons (hf.get 2 _ rfl)).cons (hf.get 1 _ rfl)).cons (hf.get 0 _ rfl)).cons (hf.get 95 _ rfl)), hs⟩
      ·skip
       refine R.list ?_
       refine S.p hf hs (.slice B1 xk3.length D1) rfl rfl fun a hf => ?_
       refine S.v hf hs (iv (xk3.length : Int)) rfl (V.len rfl rfl Tryd.runUnderlying48) fun a hf => ?_
       refine S.p hf hs (.bool ((xk3.length : Int) == 0)) rfl rfl fun a hf => ?_
       refine S.split hf hs (b := (xk3.length : Int) == 0) rfl rfl rfl (V.pure rfl) (fun hc a hf => ?_) (fun hc a hf => ?_)
       ·replace h := h.1 hc
        refine S.k hf rfl fun a hf => ?_
        refine S.k hf rfl fun a hf => ?_
        refine S.k hf rfl fun a hf => ?_
        refine S.k hf rfl fun a hf => ?_
        refine S.p hf hs (.bool true) rfl rfl fun a hf => ?_
        refine R.nil (X.then_ ?_)
        exact ⟨true, h, (((((((((hf.nil.cons (hf.get 107 _ rfl)).cons (hf.get 95 _ rfl)).cons (hf.get 94 _ rfl)).cons (hf.get 93 _ rfl)).cons (hf.get 12 _ rfl)).cons (hf.get 7 _ rfl)).cons (hf.get 2 _ rfl)).cons (hf.get 1 _ rfl)).cons (hf.get 0 _ rfl)), hs⟩
       ·replace h := h.2 hc
        refine S.p hf hs (.slice B1 xk3.length D1) rfl rfl fun a hf => ?_
        refine S.v hf hs (iv (xk3.length : Int)) rfl (V.len rfl rfl Tryd.runUnderlying48) fun a hf => ?_
        refine S.p hf hs (iv heads) rfl rfl fun a hf => ?_
        refine S.p hf hs (.bool (decide ((xk3.length : Int) > heads))) rfl rfl fun a hf => ?_
        refine S.p hf hs (.bool (decide ((xk3.length : Int) > heads))) rfl rfl fun a hf => ?_
        refine R.nil (X.then_ ?_)
        exact ⟨(decide ((xk3.length : Int) > heads)), h, (((((((((hf.nil.cons (hf.get 107 _ rfl)).cons (hf.get 95 _ rfl)).cons (hf.get 94 _ rfl)).cons (hf.get 93 _ rfl)).cons (hf.get 12 _ rfl)).cons (hf.get 7 _ rfl)).cons (hf.get 2 _ rfl)).cons (hf.get 1 _ rfl)).cons (hf.get 0 _ rfl)), hs⟩
end Go.Proofs.YtcmlcgjjkccaeaaDoor
