/- Chapter texts of ours, as far as the claim needs them. -/
import Derived.Test.YtihjaehkdgdenaaGreatDoorRyA
import Derived.Test.YtihjaehkdgdenaaGreatDoorRtG2
import Derived.Test.YtihjaehkdgdenaaGreatDoorShare
namespace Go.Proofs.YtihjaehkdgdenaaGreatDoor
open Tryz Go Go.RowKit
set_option linter.unusedVariables false
set_option linter.unusedSectionVars false
set_option linter.unusedSimpArgs false
set_option maxHeartbeats 1000000
def M_taskAt1 (x_ : Task) (s_ : Str) (Q : Int → Prop) : Prop :=
  Q (cmpStr x_.Net s_)
theorem R_taskAt1 (x_ : Task) (s_ : Str) (w0 : World) (x__PinsA : Option Addr) (x__PinsC : Nat) (hv_x__Pins : View w0 (old w0 none_) x__PinsA x__PinsC x_.Pins) (Q : Int → Prop) (h : M_taskAt1 x_ s_ Q) :
  Ret Tryz.prog 65 #[.agg #[.string (ba x_.Net), .slice x__PinsA x_.Pins.length x__PinsC], .string (ba s_)] w0 fun v w' => ∃ (r0 : Int), v = iv r0 ∧ Q r0 ∧ Sat w0 none_ [] w' := by
 refine fn_enter func65 rfl ntmps65 rfl (fs := [(0, .agg #[.string (ba x_.Net), .slice x__PinsA x_.Pins.length x__PinsC]), (1, .string (ba s_))]) rfl (fun a hf => ?_)
 have hs := Sat.start w0 none_
 unfold M_taskAt1 at h
 refine X.l (S.box hf hs rfl rfl rfl [.string (ba x_.Net), .slice x__PinsA x_.Pins.length x__PinsC] rfl rfl rfl (fun g1 a w hf hs => S.q hf hs (iv 0) rfl fun a hf => X.n (X.l (S.v hf hs ((pn g1 0)) rfl (V.fieldBox rfl rfl runUnderlying53 rfl sizeOf9 rfl rfl) fun a hf => S.v hf hs (.string (ba x_.Net)) rfl (V.loadBox 0 rfl rfl rfl isAgg9 sizeOf9 rfl rfl) fun a hf => S.q hf hs (.string (ba s_)) rfl fun a hf => S.callv hf rfl rfl rfl (call_fn (vs := [.string (ba x_.Net), .string (ba s_)]) rfl rfl rfl call66) (C_strings_Compare x_.Net s_ _ ) (fun a w hf hs' => ?_)))))
 replace hs := hs.call hs'; clear hs'
 refine S.q hf hs (iv (cmpStr x_.Net s_)) rfl fun a hf => X.n (wp_ret ?_)
 exact L.ret hf (run_results1 results65 (ResIs.tmp hf rfl)) ⟨(cmpStr x_.Net s_), rfl, h, hs.nil⟩
def M_search_task_L1 (x_ : (List Task)) (target : Str) (Q : Int → Bool → Prop) (again1 : Int → Int → Prop) (n3 : Int) (n4 : Int) : Prop :=
  cnd (decide (n3 < n4)) (idx x_ (cvt .i64 (shrI .u64 (cvt .u64 (w64 (n3 + n4))) 1)) fun x1 => M_taskAt1 x1 target fun y1 => cnd (decide (y1 < 0)) (again1 (w64 ((cvt .i64 (shrI .u64 (cvt .u64 (w64 (n3 + n4))) 1)) + 1)) n4) (again1 n3 (cvt .i64 (shrI .u64 (cvt .u64 (w64 (n3 + n4))) 1)))) (cnd (decide (n3 < (x_.length : Int))) (idx x_ n3 fun x2 => M_taskAt1 x2 target fun y2 => Q n3 (y2 == 0)) (Q n3 false))
def M_search_task (x_ : (List Task)) (target : Str) (Q : Int → Bool → Prop) : Prop :=
  lp (fun again (s : Int × Int) => M_search_task_L1 x_ target Q (fun n3 n4 => again (n3, n4)) s.1 s.2) (0, (x_.length : Int))
theorem R_search_task (x_ : (List Task)) (target : Str) (w0 : World) (x_A : Option Addr) (x_C : Nat) (hv_x_ : View w0 (old w0 none_) x_A x_C x_) (Q : Int → Bool → Prop) (h : M_search_task x_ target Q) :
  Ret Tryz.prog 64 #[.slice x_A x_.length x_C, .string (ba target), .func (.func 65) #[] #[]] w0 fun v w' => ∃ (r0 : Int) (r1 : Bool), v = .tuple #[iv r0, .bool r1] ∧ Q r0 r1 ∧ Sat w0 none_ [] w' := by
 refine fn_enter func64 rfl ntmps64 rfl (fs := [(0, .slice x_A x_.length x_C), (1, .string (ba target)), (2, .func (.func 65) #[] #[])]) rfl (fun a hf => ?_)
 have hs := Sat.start w0 none_
 unfold M_search_task at h
 refine X.l (S.q hf hs (iv 0) rfl fun a hf => S.q hf hs (.bool false) rfl fun a hf => X.n (X.l (S.q hf hs (.slice x_A x_.length x_C) rfl fun a hf => S.v hf hs (iv (x_.length : Int)) rfl (V.len rfl rfl runUnderlying27) fun a hf => S.q hf hs (iv (x_.length : Int)) rfl fun a hf => X.n (X.l (S.q hf hs (iv (x_.length : Int)) rfl fun a hf => S.q hf hs (iv 0) rfl fun a hf => S.q hf hs (iv (x_.length : Int)) rfl fun a hf => X.n (wp_seq (wp_block ?_)))))))
 obtain ⟨kk, h⟩ := h
 refine C.loop (fun kk a w => ∃ (n3 : Int) (n4 : Int), iterF (fun again (s : Int × Int) => M_search_task_L1 x_ target Q (fun n3 n4 => again (n3, n4)) s.1 s.2) kk (n3, n4) ∧ FrOk 49 [(0, .slice x_A x_.length x_C), (1, .string (ba target)), (2, .func (.func 65) #[] #[]), (8, iv (x_.length : Int)), (9, iv n3), (10, iv n4)] a ∧ Sat w0 none_ [] w) kk ⟨0, (x_.length : Int), h, ((((((hf.nil.cons (hf.get 10 _ rfl)).cons (hf.get 9 _ rfl)).cons (hf.get 8 _ rfl)).cons (hf.get 2 _ rfl)).cons (hf.get 1 _ rfl)).cons (hf.get 0 _ rfl)), hs⟩ (fun a w ⟨_, _, h, _, _⟩ => h) ?_
 clear h hf hs
 rintro kk a w ⟨n3, n4, h, hf, hs⟩
 obtain ⟨again1, hagain1⟩ : ∃ X : Int → Int → Prop, X = (fun n3 n4 => iterF (fun again (s : Int × Int) => M_search_task_L1 x_ target Q (fun n3 n4 => again (n3, n4)) s.1 s.2) kk (n3, n4)) := ⟨_, rfl⟩
 replace h : M_search_task_L1 x_ target Q again1 n3 n4 := by rw [hagain1]; exact h
 unfold M_search_task_L1 at h
 refine wp_seq (X.l (S.q hf hs (iv n3) rfl fun a hf => S.q hf hs (iv n4) rfl fun a hf => S.q hf hs (.bool (decide (n3 < n4))) rfl fun a hf => X.n ?_))
 refine C.cond hf (b := decide (n3 < n4)) rfl (fun hc => ?_) (fun hc => ?_)
 ·replace h := h.1 hc
  refine wp_skip (X.then_ (wp_block (X.l (S.q hf hs (iv n3) rfl fun a hf => S.q hf hs (iv n4) rfl fun a hf => S.q hf hs (iv (w64 (n3 + n4))) rfl fun a hf => S.v hf hs (.int .u64 (cvt .u64 (w64 (n3 + n4)))) rfl (V.conv rfl rfl runUnderlying3 runUnderlying132) fun a hf => S.v hf hs (.int .u64 (shrI .u64 (cvt .u64 (w64 (n3 + n4))) 1)) rfl (V.shr rfl rfl rfl (by decide)) fun a hf => S.v hf hs (iv (cvt .i64 (shrI .u64 (cvt .u64 (w64 (n3 + n4))) 1))) rfl (V.conv rfl rfl runUnderlying132 runUnderlying3) fun a hf => S.q hf hs (iv (cvt .i64 (shrI .u64 (cvt .u64 (w64 (n3 + n4))) 1))) rfl fun a hf => X.n (X.l (S.q hf hs (.func (.func 65) #[] #[]) rfl fun a hf => S.q hf hs (.slice x_A x_.length x_C) rfl fun a hf => S.q hf hs (iv (cvt .i64 (shrI .u64 (cvt .u64 (w64 (n3 + n4))) 1))) rfl fun a hf => ?_))))))
  obtain ⟨h0x1, x1, hx1, h⟩ := h
  obtain ⟨cs1, he1, hr1⟩ := hv_x_.at_ _ _ hx1
  obtain ⟨u1A, u1C, rfl, hvu1⟩ := hr1
  refine S.v hf hs (elemPtr x_A ((cvt .i64 (shrI .u64 (cvt .u64 (w64 (n3 + n4))) 1)).toNat * 2)) rfl (V.index rfl rfl rfl runUnderlying27 sizeOf53 (hv_x_.some_ (lt_of_get hx1)) h0x1 (lt_of_get hx1) rfl) fun a hf => S.v hf hs (.agg #[.string (ba x1.Net), .slice u1A x1.Pins.length u1C]) rfl (V.loadEl (off := 0) (Ag.args _ _ _) he1 rfl rfl rfl isAgg53 sizeOf53 rfl rfl) fun a hf => S.q hf hs (.string (ba target)) rfl fun a hf => S.call hf rfl rfl rfl (call_fn (vs := [.agg #[.string (ba x1.Net), .slice u1A x1.Pins.length u1C], .string (ba target)]) rfl rfl rfl call65) (R_taskAt1 x1 target _ u1A u1C ((Ag.args _ _ _).view hvu1 hs) _ h) (fun v a w' hf hr => ?_)
  obtain ⟨y1, rfl, h2, hs2⟩ := hr
  replace h := h2; replace hs := hs.call hs2; clear h2 hs2
  refine S.q hf hs (.bool (decide (y1 < 0))) rfl fun a hf => X.n ?_
  refine C.cond hf (b := decide (y1 < 0)) rfl (fun hc => ?_) (fun hc => ?_)
  ·replace h := h.1 hc
   refine R.list (S.q hf hs (iv (cvt .i64 (shrI .u64 (cvt .u64 (w64 (n3 + n4))) 1))) rfl fun a hf => S.q hf hs (iv (w64 ((cvt .i64 (shrI .u64 (cvt .u64 (w64 (n3 + n4))) 1)) + 1))) rfl fun a hf => S.q hf hs (iv (w64 ((cvt .i64 (shrI .u64 (cvt .u64 (w64 (n3 + n4))) 1)) + 1))) rfl fun a hf => R.nil (X.blk (X.then_ ?_)))
   exact ⟨(w64 ((cvt .i64 (shrI .u64 (cvt .u64 (w64 (n3 + n4))) 1)) + 1)), n4, (by rw [hagain1] at h; exact h), ((((((hf.nil.cons (hf.get 10 _ rfl)).cons (hf.get 9 _ rfl)).cons (hf.get 8 _ rfl)).cons (hf.get 2 _ rfl)).cons (hf.get 1 _ rfl)).cons (hf.get 0 _ rfl)), hs⟩
  ·replace h := h.2 hc
   refine R.list (S.q hf hs (iv (cvt .i64 (shrI .u64 (cvt .u64 (w64 (n3 + n4))) 1))) rfl fun a hf => S.q hf hs (iv (cvt .i64 (shrI .u64 (cvt .u64 (w64 (n3 + n4))) 1))) rfl fun a hf => R.nil (X.blk (X.then_ ?_)))
   exact ⟨n3, (cvt .i64 (shrI .u64 (cvt .u64 (w64 (n3 + n4))) 1)), (by rw [hagain1] at h; exact h), ((((((hf.nil.cons (hf.get 10 _ rfl)).cons (hf.get 9 _ rfl)).cons (hf.get 8 _ rfl)).cons (hf.get 2 _ rfl)).cons (hf.get 1 _ rfl)).cons (hf.get 0 _ rfl)), hs⟩
 ·replace h := h.2 hc
  refine wp_exit (X.then_exit (X.then_exit (X.blk_exit (X.then_ (X.l (S.q hf hs (iv n3) rfl fun a hf => S.q hf hs (iv n3) rfl fun a hf => S.q hf hs (iv (x_.length : Int)) rfl fun a hf => S.q hf hs (.bool (decide (n3 < (x_.length : Int)))) rfl fun a hf => ?_))))))
  refine S.split hf hs (b := decide (n3 < (x_.length : Int))) rfl rfl rfl (V.pure rfl) (fun hc a hf => ?_) (fun hc a hf => ?_)
  ·replace h := h.1 hc
   refine S.q hf hs (.func (.func 65) #[] #[]) rfl fun a hf => S.q hf hs (.slice x_A x_.length x_C) rfl fun a hf => S.q hf hs (iv n3) rfl fun a hf => ?_
   obtain ⟨h0x2, x2, hx2, h⟩ := h
   obtain ⟨cs2, he2, hr2⟩ := hv_x_.at_ _ _ hx2
   obtain ⟨u2A, u2C, rfl, hvu2⟩ := hr2
   refine S.v hf hs (elemPtr x_A (n3.toNat * 2)) rfl (V.index rfl rfl rfl runUnderlying27 sizeOf53 (hv_x_.some_ (lt_of_get hx2)) h0x2 (lt_of_get hx2) rfl) fun a hf => S.v hf hs (.agg #[.string (ba x2.Net), .slice u2A x2.Pins.length u2C]) rfl (V.loadEl (off := 0) (Ag.args _ _ _) he2 rfl rfl rfl isAgg53 sizeOf53 rfl rfl) fun a hf => S.q hf hs (.string (ba target)) rfl fun a hf => S.call hf rfl rfl rfl (call_fn (vs := [.agg #[.string (ba x2.Net), .slice u2A x2.Pins.length u2C], .string (ba target)]) rfl rfl rfl call65) (R_taskAt1 x2 target _ u2A u2C ((Ag.args _ _ _).view hvu2 hs) _ h) (fun v a w' hf hr => ?_)
   obtain ⟨y2, rfl, h2, hs2⟩ := hr
   replace h := h2; replace hs := hs.call hs2; clear h2 hs2
   refine S.q hf hs (.bool (y2 == 0)) rfl fun a hf => S.q hf hs (.bool (y2 == 0)) rfl fun a hf => S.q hf hs (iv n3) rfl fun a hf => S.q hf hs (.bool (y2 == 0)) rfl fun a hf => X.n (wp_ret ?_)
   exact L.ret hf (run_results2 results64 (ResIs.tmp hf rfl) (ResIs.tmp hf rfl)) ⟨n3, (y2 == 0), rfl, h, hs.nil⟩
  ·replace h := h.2 hc
   refine S.k hf rfl fun a hf => S.k hf rfl fun a hf => S.k hf rfl fun a hf => S.k hf rfl fun a hf => S.k hf rfl fun a hf => S.k hf rfl fun a hf => S.k hf rfl fun a hf => S.k hf rfl fun a hf => S.q hf hs (.bool false) rfl fun a hf => S.q hf hs (iv n3) rfl fun a hf => S.q hf hs (.bool false) rfl fun a hf => X.n (wp_ret ?_)
   exact L.ret hf (run_results2 results64 (ResIs.tmp hf rfl) (ResIs.tmp hf rfl)) ⟨n3, false, rfl, h, hs.nil⟩
def M_route_taskAt (t : (List Task)) (net : Str) (Q : Int → Prop) : Prop :=
  M_search_task t net fun y1 y2 => cnd (!y2) (Q (-1)) (Q y1)
theorem R_route_taskAt (t : (List Task)) (net : Str) (w0 : World) (tA : Option Addr) (tC : Nat) (hv_t : View w0 (old w0 none_) tA tC t) (Q : Int → Prop) (h : M_route_taskAt t net Q) :
  Ret Tryz.prog 24 #[.slice tA t.length tC, .string (ba net)] w0 fun v w' => ∃ (r0 : Int), v = iv r0 ∧ Q r0 ∧ Sat w0 none_ [] w' := by
 refine fn_enter func24 rfl ntmps24 rfl (fs := [(0, .slice tA t.length tC), (1, .string (ba net))]) rfl (fun a hf => ?_)
 have hs := Sat.start w0 none_
 unfold M_route_taskAt at h
 refine X.l (S.q hf hs (iv 0) rfl fun a hf => X.n (X.l (S.q hf hs (.slice tA t.length tC) rfl fun a hf => S.q hf hs (.string (ba net)) rfl fun a hf => S.call hf rfl rfl rfl (call_fn (vs := [.slice tA t.length tC, .string (ba net), .func (.func 65) #[] #[]]) rfl rfl rfl call64) (R_search_task t net _ tA tC ((Ag.args _ _ _).view hv_t hs) _ h) (fun v a w' hf hr => ?_))))
 obtain ⟨y1, y2, rfl, h2, hs2⟩ := hr
 replace h := h2; replace hs := hs.call hs2; clear h2 hs2
 refine S.q hf hs (.tuple #[iv y1, .bool y2]) rfl fun a hf => S.q hf hs (iv y1) rfl fun a hf => S.q hf hs (.bool y2) rfl fun a hf => S.q hf hs (iv y1) rfl fun a hf => S.q hf hs (.bool y2) rfl fun a hf => X.n (wp_seq (X.l (S.q hf hs (.bool y2) rfl fun a hf => S.q hf hs (.bool (!y2)) rfl fun a hf => X.n ?_)))
 refine C.cond hf (b := !y2) rfl (fun hc => ?_) (fun hc => ?_)
 ·replace h := h.1 hc
  refine X.l (S.q hf hs (iv (-1)) rfl fun a hf => X.n (wp_ret (X.then_ret ?_)))
  exact L.ret hf (run_results1 results24 (ResIs.tmp hf rfl)) ⟨(-1), rfl, h, hs.nil⟩
 ·replace h := h.2 hc
  refine wp_skip (X.then_ (X.l (S.q hf hs (iv y1) rfl fun a hf => S.q hf hs (iv y1) rfl fun a hf => X.n (wp_ret ?_))))
  exact L.ret hf (run_results1 results24 (ResIs.tmp hf rfl)) ⟨y1, rfl, h, hs.nil⟩
def M_NewUnion_L1 (n : Int) (Q : (Option (List Int)) → Prop) (again1 : List Int → Int → Prop) (l2 : List Int) (n2 : Int) : Prop :=
  cnd (decide (n2 < ((List.replicate n.toNat (0 : Int)).length : Int))) (idx l2 n2 fun x1 => again1 (l2.set n2.toNat n2) (w64 (n2 + 1))) (Q (some l2))
def M_NewUnion (n : Int) (Q : (Option (List Int)) → Prop) : Prop :=
  must (0 ≤ n ∧ n * 8 ≤ 281474976710656) (lp (fun again (s : List Int × Int) => M_NewUnion_L1 n Q (fun l2 n2 => again (l2, n2)) s.1 s.2) ((List.replicate n.toNat (0 : Int)), 0))
theorem R_NewUnion (n : Int) (w0 : World)  (Q : (Option (List Int)) → Prop) (h : M_NewUnion n Q) :
  Ret Tryz.prog 70 #[iv n] w0 fun v w' => (v = .pointer none ∧ Q none ∧ Sat w0 none_ [] w') ∨ (∃ (r0 : (List Int)) (r0g : Nat) (r0A0 : Option Addr) (r0C0 : Nat), v = (pn r0g 0) ∧ Q (some r0) ∧ Sat w0 none_ [hbox r0g 134 [.slice r0A0 r0.length r0C0], hown 3 r0A0 r0C0 r0] w') := by
 refine fn_enter func70 rfl ntmps70 rfl (fs := [(0, iv n)]) rfl (fun a hf => ?_)
 have hs := Sat.start w0 none_
 unfold M_NewUnion at h
 refine X.l (S.q hf hs (.pointer none) rfl fun a hf => X.n (X.l (S.q hf hs (iv n) rfl fun a hf => ?_)))
 obtain ⟨hmk, h⟩ := h
 refine S.make hf hs rfl rfl rfl (α := Int) (0 : Int) (z := n) (N := n.toNat) rfl rfl rfl underlying72 info3 hmk rfl (by have := hmk.2; omega) (fun A1 a w hf hs => S.v hf hs (.agg #[.slice A1 (List.replicate n.toNat (0 : Int)).length n.toNat]) rfl (V.build (places := #[(0, 1)]) rfl zeroValue134 runUnderlying134 (by intro w; simp [sizeOf72]) rfl rfl) fun a hf => S.box hf hs rfl rfl rfl [.slice A1 (List.replicate n.toNat (0 : Int)).length n.toNat] rfl rfl rfl (fun g1 a w hf hs => S.q hf hs ((pn g1 0)) rfl fun a hf => X.n (wp_seq (X.l (S.q hf hs ((pn g1 0)) rfl fun a hf => S.q hf hs ((pn g1 0)) rfl fun a hf => S.v hf hs ((pn g1 0)) rfl (V.fieldBox rfl rfl runUnderlying134 rfl sizeOf72 rfl rfl) fun a hf => S.v hf hs (.slice A1 (List.replicate n.toNat (0 : Int)).length n.toNat) rfl (V.loadBox 0 rfl rfl rfl isAgg72 sizeOf72 rfl rfl) fun a hf => S.v hf hs (iv ((List.replicate n.toNat (0 : Int)).length : Int)) rfl (V.len rfl rfl runUnderlying72) fun a hf => S.q hf hs (iv 0) rfl fun a hf => X.n (wp_block ?_))))))
 obtain ⟨kk, h⟩ := h
 refine C.loop (fun kk a w => ∃ (l2 : List Int) (l2A : Option Addr) (l2C : Nat) (n2 : Int), iterF (fun again (s : List Int × Int) => M_NewUnion_L1 n Q (fun l2 n2 => again (l2, n2)) s.1 s.2) kk (l2, n2) ∧ FrOk 26 [(3, (pn g1 0)), (13, iv ((List.replicate n.toNat (0 : Int)).length : Int)), (14, iv n2)] a ∧ Sat w0 none_ [hbox g1 134 [.slice l2A l2.length l2C], hown 3 l2A l2C l2] w) kk ⟨(List.replicate n.toNat (0 : Int)), A1, n.toNat, 0, h, (((hf.nil.cons (hf.get 14 _ rfl)).cons (hf.get 13 _ rfl)).cons (hf.get 3 _ rfl)), hs⟩ (fun a w ⟨_, _, _, _, h, _, _⟩ => h) ?_
 clear h hf hs
 rintro kk a w ⟨l2, l2A, l2C, n2, h, hf, hs⟩
 obtain ⟨again1, hagain1⟩ : ∃ X : List Int → Int → Prop, X = (fun l2 n2 => iterF (fun again (s : List Int × Int) => M_NewUnion_L1 n Q (fun l2 n2 => again (l2, n2)) s.1 s.2) kk (l2, n2)) := ⟨_, rfl⟩
 replace h : M_NewUnion_L1 n Q again1 l2 n2 := by rw [hagain1]; exact h
 unfold M_NewUnion_L1 at h
 refine X.l (S.q hf hs (.bool (decide (n2 < ((List.replicate n.toNat (0 : Int)).length : Int)))) rfl fun a hf => X.n (wp_seq ?_))
 refine C.cond hf (b := decide (n2 < ((List.replicate n.toNat (0 : Int)).length : Int))) rfl (fun hc => ?_) (fun hc => ?_)
 ·replace h := h.1 hc
  refine wp_skip (X.then_ (wp_seq (wp_block (X.l (S.q hf hs (iv n2) rfl fun a hf => S.q hf hs (iv n2) rfl fun a hf => X.n (R.list (S.q hf hs ((pn g1 0)) rfl fun a hf => S.q hf hs ((pn g1 0)) rfl fun a hf => S.v hf hs ((pn g1 0)) rfl (V.fieldBox rfl rfl runUnderlying134 rfl sizeOf72 rfl rfl) fun a hf => S.v hf hs (.slice l2A l2.length l2C) rfl (V.loadBox 0 rfl rfl rfl isAgg72 sizeOf72 rfl rfl) fun a hf => S.q hf hs (iv n2) rfl fun a hf => S.q hf hs (iv n2) rfl fun a hf => ?_)))))))
  obtain ⟨h0x1, x1, hx1, h⟩ := h
  refine S.v hf hs (elemPtr l2A (n2.toNat * 1)) rfl (V.index rfl rfl rfl runUnderlying72 sizeOf3 (hs.ownSome 1 rfl (lt_of_get hx1)) h0x1 (lt_of_get hx1) rfl) fun a hf => S.storeOwn (off := 0) 1 hf hs rfl rfl n2 [iv n2] rfl hx1 rfl rfl rfl rfl rfl sizeOf3 rfl (by decide) rfl rfl (fun a w hf hs => ?_)
  replace hs := hs.rebox 0 (vs' := [.slice l2A (l2.set n2.toNat n2).length l2C]) rfl (congrArg (fun n => [Value.slice l2A n l2C]) List.length_set.symm)
  replace hf := hf.tell 20 (v := .slice l2A (l2.set n2.toNat n2).length l2C) ((hf.get 20 (.slice l2A l2.length l2C) rfl).trans (congrArg (fun n => Value.slice l2A n l2C) List.length_set.symm))
  refine R.nil (X.blk (X.then_ (R.list (S.q hf hs (iv (w64 (n2 + 1))) rfl fun a hf => S.q hf hs (iv (w64 (n2 + 1))) rfl fun a hf => X.n ?_))))
  exact ⟨(l2.set n2.toNat n2), l2A, l2C, (w64 (n2 + 1)), (by rw [hagain1] at h; exact h), (((hf.nil.cons (hf.get 14 _ rfl)).cons (hf.get 13 _ rfl)).cons (hf.get 3 _ rfl)), hs⟩
 ·replace h := h.2 hc
  refine wp_exit (X.then_exit (X.then_exit (X.blk_exit (X.then_ (X.l (S.q hf hs ((pn g1 0)) rfl fun a hf => S.q hf hs ((pn g1 0)) rfl fun a hf => X.n (wp_ret ?_)))))))
  replace hs := hs.front 1 rfl
  replace hs := hs.front 1 rfl
  replace hs := hs.take 2
  exact L.ret hf (run_results1 results70 (ResIs.tmp hf rfl)) (.inr ⟨l2, g1, l2A, l2C, rfl, h, hs⟩)
def M_union_Top_L1 (Q : Int → NetlistUnion → Prop) (again1 : List Int → Int → Prop) (l2 : List Int) (n2 : Int) : Prop :=
  idx l2 n2 fun x1 => cnd (x1 != n2) (idx l2 x1 fun x2 => idx (l2.set n2.toNat x2) n2 fun x3 => again1 (l2.set n2.toNat x2) x3) (Q n2 (⟨l2⟩ : NetlistUnion))
def M_union_Top (u : NetlistUnion) (i : Int) (Q : Int → NetlistUnion → Prop) : Prop :=
  lp (fun again (s : List Int × Int) => M_union_Top_L1 Q (fun l2 n2 => again (l2, n2)) s.1 s.2) (u.up, i)
theorem R_union_Top (u : NetlistUnion) (i : Int) (w0 : World) (F0 : Nat → Prop) (ug : Nat) (u_upA : Option Addr) (u_upC : Nat) (hs0 : Sat w0 F0 [hbox ug 134 [.slice u_upA u.up.length u_upC], hown 3 u_upA u_upC u.up] w0) (Q : Int → NetlistUnion → Prop) (h : M_union_Top u i Q) :
  Ret Tryz.prog 94 #[(pn ug 0), iv i] w0 fun v w' => ∃ (r0 : Int) (u1 : NetlistUnion) (u1_upA : Option Addr) (u1_upC : Nat), v = iv r0 ∧ Q r0 u1 ∧ Sat w0 F0 [hbox ug 134 [.slice u1_upA u1.up.length u1_upC], hown 3 u1_upA u1_upC u1.up] w' := by
 refine fn_enter func94 rfl ntmps94 rfl (fs := [(0, (pn ug 0)), (1, iv i)]) rfl (fun a hf => ?_)
 have hs := hs0
 unfold M_union_Top at h
 refine X.l (S.q hf hs (iv 0) rfl fun a hf => X.n (wp_seq (wp_block ?_)))
 obtain ⟨kk, h⟩ := h
 refine C.loop (fun kk a w => ∃ (l2 : List Int) (l2A : Option Addr) (l2C : Nat) (n2 : Int), iterF (fun again (s : List Int × Int) => M_union_Top_L1 Q (fun l2 n2 => again (l2, n2)) s.1 s.2) kk (l2, n2) ∧ FrOk 41 [(0, (pn ug 0)), (1, iv n2)] a ∧ Sat w0 F0 [hbox ug 134 [.slice l2A l2.length l2C], hown 3 l2A l2C l2] w) kk ⟨u.up, u_upA, u_upC, i, h, ((hf.nil.cons (hf.get 1 _ rfl)).cons (hf.get 0 _ rfl)), hs⟩ (fun a w ⟨_, _, _, _, h, _, _⟩ => h) ?_
 clear h hf hs
 rintro kk a w ⟨l2, l2A, l2C, n2, h, hf, hs⟩
 obtain ⟨again1, hagain1⟩ : ∃ X : List Int → Int → Prop, X = (fun l2 n2 => iterF (fun again (s : List Int × Int) => M_union_Top_L1 Q (fun l2 n2 => again (l2, n2)) s.1 s.2) kk (l2, n2)) := ⟨_, rfl⟩
 replace h : M_union_Top_L1 Q again1 l2 n2 := by rw [hagain1]; exact h
 unfold M_union_Top_L1 at h
 refine wp_seq (X.l (S.q hf hs ((pn ug 0)) rfl fun a hf => S.q hf hs ((pn ug 0)) rfl fun a hf => S.v hf hs ((pn ug 0)) rfl (V.fieldBox rfl rfl runUnderlying134 rfl sizeOf72 rfl rfl) fun a hf => S.v hf hs (.slice l2A l2.length l2C) rfl (V.loadBox 0 rfl rfl rfl isAgg72 sizeOf72 rfl rfl) fun a hf => S.q hf hs (iv n2) rfl fun a hf => ?_))
 obtain ⟨h0x1, x1, hx1, h⟩ := h
 refine S.v hf hs (elemPtr l2A (n2.toNat * 1)) rfl (V.index rfl rfl rfl runUnderlying72 sizeOf3 (hs.ownSome 1 rfl (lt_of_get hx1)) h0x1 (lt_of_get hx1) rfl) fun a hf => S.v hf hs (iv x1) rfl (V.loadOwn (off := 0) 1 rfl hx1 rfl rfl rfl isAgg3 sizeOf3 rfl rfl) fun a hf => S.q hf hs (iv n2) rfl fun a hf => S.q hf hs (.bool (x1 != n2)) rfl fun a hf => X.n ?_
 refine C.cond hf (b := x1 != n2) rfl (fun hc => ?_) (fun hc => ?_)
 ·replace h := h.1 hc
  refine wp_skip (X.then_ (wp_block (wp_seq (M.start 19 (Sat w0 F0 [hbox ug 134 [.slice l2A l2.length l2C], hown 3 l2A l2C l2]) mo ?_))))
  replace hs := hs.drew
  refine M.v hf hs ((pn ug 0)) 0 rfl rfl (by kernel_rfl) (V.pure rfl) fun a hf => M.v hf hs ((pn ug 0)) 1 rfl rfl (by kernel_rfl) (V.pure rfl) fun a hf => M.v hf hs ((pn ug 0)) 2 rfl rfl (by kernel_rfl) (V.fieldBox rfl rfl runUnderlying134 rfl sizeOf72 rfl rfl) fun a hf => M.v hf hs (.slice l2A l2.length l2C) 3 rfl rfl (by kernel_rfl) (V.loadBox 0 rfl rfl rfl isAgg72 sizeOf72 rfl rfl) fun a hf => M.v hf hs (iv n2) 4 rfl rfl (by kernel_rfl) (V.pure rfl) fun a hf => M.v hf hs ((pn ug 0)) 5 rfl rfl (by kernel_rfl) (V.pure rfl) fun a hf => M.v hf hs ((pn ug 0)) 6 rfl rfl (by kernel_rfl) (V.pure rfl) fun a hf => M.v hf hs ((pn ug 0)) 7 rfl rfl (by kernel_rfl) (V.fieldBox rfl rfl runUnderlying134 rfl sizeOf72 rfl rfl) fun a hf => M.v hf hs (.slice l2A l2.length l2C) 8 rfl rfl (by kernel_rfl) (V.loadBox 0 rfl rfl rfl isAgg72 sizeOf72 rfl rfl) fun a hf => M.v hf hs ((pn ug 0)) 9 rfl rfl (by kernel_rfl) (V.pure rfl) fun a hf => M.v hf hs ((pn ug 0)) 10 rfl rfl (by kernel_rfl) (V.pure rfl) fun a hf => M.v hf hs ((pn ug 0)) 11 rfl rfl (by kernel_rfl) (V.fieldBox rfl rfl runUnderlying134 rfl sizeOf72 rfl rfl) fun a hf => ?_
  refine M.v hf hs (.slice l2A l2.length l2C) 12 rfl rfl (by kernel_rfl) (V.loadBox 0 rfl rfl rfl isAgg72 sizeOf72 rfl rfl) fun a hf => M.v hf hs (iv n2) 13 rfl rfl (by kernel_rfl) (V.pure rfl) fun a hf => M.v hf hs (elemPtr l2A (n2.toNat * 1)) 14 rfl rfl (by kernel_rfl) (V.index rfl rfl rfl runUnderlying72 sizeOf3 (hs.ownSome 1 rfl (lt_of_get hx1)) h0x1 (lt_of_get hx1) rfl) fun a hf => M.v hf hs (iv x1) 15 rfl rfl (by kernel_rfl) (V.loadOwn (off := 0) 1 rfl hx1 rfl rfl rfl isAgg3 sizeOf3 rfl rfl) fun a hf => ?_
  obtain ⟨h0x2, x2, hx2, h⟩ := h
  refine M.v hf hs (elemPtr l2A (x1.toNat * 1)) 16 rfl rfl (by kernel_rfl) (V.index rfl rfl rfl runUnderlying72 sizeOf3 (hs.ownSome 1 rfl (lt_of_get hx2)) h0x2 (lt_of_get hx2) rfl) fun a hf => M.v hf hs (iv x2) 17 rfl rfl (by kernel_rfl) (V.loadOwn (off := 0) 1 rfl hx2 rfl rfl rfl isAgg3 sizeOf3 rfl rfl) fun a hf => M.v hf hs (elemPtr l2A (n2.toNat * 1)) 18 rfl rfl (by kernel_rfl) (V.index rfl rfl rfl runUnderlying72 sizeOf3 (hs.ownSome 1 rfl (lt_of_get hx1)) h0x1 (lt_of_get hx1) rfl) fun a hf => M.last (i := 19) rfl (by kernel_rfl) (by kernel_rfl) (S.storeOwn (off := 0) 1 hf hs rfl rfl x2 [iv x2] rfl hx1 rfl rfl rfl rfl rfl sizeOf3 rfl (by decide) rfl rfl (fun a w hf hs => ?_))
  replace hs := hs.rebox 0 (vs' := [.slice l2A (l2.set n2.toNat x2).length l2C]) rfl (congrArg (fun n => [Value.slice l2A n l2C]) List.length_set.symm)
  replace hf := hf.tell 8 (v := .slice l2A (l2.set n2.toNat x2).length l2C) ((hf.get 8 (.slice l2A l2.length l2C) rfl).trans (congrArg (fun n => Value.slice l2A n l2C) List.length_set.symm))
  replace hf := hf.tell 17 (v := .slice l2A (l2.set n2.toNat x2).length l2C) ((hf.get 17 (.slice l2A l2.length l2C) rfl).trans (congrArg (fun n => Value.slice l2A n l2C) List.length_set.symm))
  replace hf := hf.tell 22 (v := .slice l2A (l2.set n2.toNat x2).length l2C) ((hf.get 22 (.slice l2A l2.length l2C) rfl).trans (congrArg (fun n => Value.slice l2A n l2C) List.length_set.symm))
  replace hf := hf.tell 26 (v := .slice l2A (l2.set n2.toNat x2).length l2C) ((hf.get 26 (.slice l2A l2.length l2C) rfl).trans (congrArg (fun n => Value.slice l2A n l2C) List.length_set.symm))
  refine X.n (M.done (by kernel_rfl) (X.then_ (R.list (S.q hf hs ((pn ug 0)) rfl fun a hf => S.q hf hs ((pn ug 0)) rfl fun a hf => S.v hf hs ((pn ug 0)) rfl (V.fieldBox rfl rfl runUnderlying134 rfl sizeOf72 rfl rfl) fun a hf => S.v hf hs (.slice l2A (l2.set n2.toNat x2).length l2C) rfl (V.loadBox 0 rfl rfl rfl isAgg72 sizeOf72 rfl rfl) fun a hf => S.q hf hs (iv n2) rfl fun a hf => ?_))))
  obtain ⟨h0x3, x3, hx3, h⟩ := h
  refine S.v hf hs (elemPtr l2A (n2.toNat * 1)) rfl (V.index rfl rfl rfl runUnderlying72 sizeOf3 (hs.ownSome 1 rfl (lt_of_get hx3)) h0x3 (lt_of_get hx3) rfl) fun a hf => S.v hf hs (iv x3) rfl (V.loadOwn (off := 0) 1 rfl hx3 rfl rfl rfl isAgg3 sizeOf3 rfl rfl) fun a hf => S.q hf hs (iv x3) rfl fun a hf => R.nil (X.blk (X.then_ ?_))
  exact ⟨(l2.set n2.toNat x2), l2A, l2C, x3, (by rw [hagain1] at h; exact h), ((hf.nil.cons (hf.get 1 _ rfl)).cons (hf.get 0 _ rfl)), hs⟩
 ·replace h := h.2 hc
  refine wp_exit (X.then_exit (X.then_exit (X.blk_exit (X.then_ (X.l (S.q hf hs (iv n2) rfl fun a hf => S.q hf hs (iv n2) rfl fun a hf => X.n (wp_ret ?_)))))))
  replace hs := hs.front 1 rfl
  replace hs := hs.front 1 rfl
  replace hs := hs.take 2
  exact L.ret hf (run_results1 results94 (ResIs.tmp hf rfl)) ⟨n2, (⟨l2⟩ : NetlistUnion), l2A, l2C, rfl, h, hs⟩
def M_union_Join (u : NetlistUnion) (i : Int) (k_ : Int) (Q : NetlistUnion → Prop) : Prop :=
  M_union_Top u i fun y1 z1 => M_union_Top z1 k_ fun y2 z2 => idx z2.up (max y1 y2) fun x1 => Q (⟨(z2.up.set ((max y1 y2).toNat) (min y1 y2))⟩ : NetlistUnion)
theorem R_union_Join (u : NetlistUnion) (i : Int) (k_ : Int) (w0 : World) (F0 : Nat → Prop) (ug : Nat) (u_upA : Option Addr) (u_upC : Nat) (hs0 : Sat w0 F0 [hbox ug 134 [.slice u_upA u.up.length u_upC], hown 3 u_upA u_upC u.up] w0) (Q : NetlistUnion → Prop) (h : M_union_Join u i k_ Q) :
  Ret Tryz.prog 71 #[(pn ug 0), iv i, iv k_] w0 fun v w' => ∃ (u1 : NetlistUnion) (u1_upA : Option Addr) (u1_upC : Nat), v = .tuple #[] ∧ Q u1 ∧ Sat w0 F0 [hbox ug 134 [.slice u1_upA u1.up.length u1_upC], hown 3 u1_upA u1_upC u1.up] w' := by
 refine fn_enter func71 rfl ntmps71 rfl (fs := [(0, (pn ug 0)), (1, iv i), (2, iv k_)]) rfl (fun a hf => ?_)
 have hs := hs0
 unfold M_union_Join at h
 refine X.l (S.q hf hs ((pn ug 0)) rfl fun a hf => S.q hf hs (iv i) rfl fun a hf => ?_)
 replace hs := hs.front 1 rfl
 replace hs := hs.front 1 rfl
 obtain ⟨F1, hsF, hback, hold, hrest⟩ := Sat.callOwns [hbox ug 134 [.slice u_upA u.up.length u_upC], hown 3 u_upA u_upC u.up] (σ := []) hs
 refine S.call hf rfl rfl rfl (call_fn (vs := [(pn ug 0), iv i]) rfl rfl rfl call94) (R_union_Top u i _ _ ug u_upA u_upC hsF _ h) (fun v a w' hf hr => ?_)
 obtain ⟨y1, z1, z1_upA, z1_upC, rfl, h2, hs2⟩ := hr
 replace h := h2; replace hs := hback _ _ hs2; clear h2 hs2 hback hold hrest hsF
 refine S.q hf hs ((pn ug 0)) rfl fun a hf => S.q hf hs (iv k_) rfl fun a hf => ?_
 replace hs := hs.front 1 rfl
 replace hs := hs.front 1 rfl
 obtain ⟨F1, hsF, hback, hold, hrest⟩ := Sat.callOwns [hbox ug 134 [.slice z1_upA z1.up.length z1_upC], hown 3 z1_upA z1_upC z1.up] (σ := []) hs
 refine S.call hf rfl rfl rfl (call_fn (vs := [(pn ug 0), iv k_]) rfl rfl rfl call94) (R_union_Top z1 k_ _ _ ug z1_upA z1_upC hsF _ h) (fun v a w' hf hr => ?_)
 obtain ⟨y2, z2, z2_upA, z2_upC, rfl, h2, hs2⟩ := hr
 replace h := h2; replace hs := hback _ _ hs2; clear h2 hs2 hback hold hrest hsF
 refine S.q hf hs (iv y1) rfl fun a hf => S.q hf hs (iv y2) rfl fun a hf => X.n (R.list (S.q hf hs ((pn ug 0)) rfl fun a hf => S.q hf hs ((pn ug 0)) rfl fun a hf => S.v hf hs ((pn ug 0)) rfl (V.fieldBox rfl rfl runUnderlying134 rfl sizeOf72 rfl rfl) fun a hf => S.v hf hs (.slice z2_upA z2.up.length z2_upC) rfl (V.loadBox 0 rfl rfl rfl isAgg72 sizeOf72 rfl rfl) fun a hf => S.q hf hs (iv y1) rfl fun a hf => S.q hf hs (iv y2) rfl fun a hf => S.v hf hs (iv (max y1 y2)) rfl (V.max2 rfl rfl rfl) fun a hf => S.q hf hs (iv y1) rfl fun a hf => S.q hf hs (iv y2) rfl fun a hf => ?_))
 refine S.v hf hs (iv (min y1 y2)) rfl (V.min2 rfl rfl rfl) fun a hf => ?_
 obtain ⟨h0x1, x1, hx1, h⟩ := h
 refine S.v hf hs (elemPtr z2_upA ((max y1 y2).toNat * 1)) rfl (V.index rfl rfl rfl runUnderlying72 sizeOf3 (hs.ownSome 1 rfl (lt_of_get hx1)) h0x1 (lt_of_get hx1) rfl) fun a hf => S.storeOwn (off := 0) 1 hf hs rfl rfl (min y1 y2) [iv (min y1 y2)] rfl hx1 rfl rfl rfl rfl rfl sizeOf3 rfl (by decide) rfl rfl (fun a w hf hs => ?_)
 replace hs := hs.rebox 0 (vs' := [.slice z2_upA (z2.up.set ((max y1 y2).toNat) (min y1 y2)).length z2_upC]) rfl (congrArg (fun n => [Value.slice z2_upA n z2_upC]) List.length_set.symm)
 replace hf := hf.tell 17 (v := .slice z2_upA (z2.up.set ((max y1 y2).toNat) (min y1 y2)).length z2_upC) ((hf.get 17 (.slice z2_upA z2.up.length z2_upC) rfl).trans (congrArg (fun n => Value.slice z2_upA n z2_upC) List.length_set.symm))
 refine R.nil ?_
 replace hs := hs.front 1 rfl
 replace hs := hs.front 1 rfl
 replace hs := hs.take 2
 exact L.end0 results71 hf ⟨(⟨(z2.up.set ((max y1 y2).toNat) (min y1 y2))⟩ : NetlistUnion), z2_upA, z2_upC, rfl, h, hs⟩
def M_union_Sets_k2 (n2 : Int) (again1 : List Int → List (List Int) → List (Int × Int) → Int → Prop) (y1 : Int) (z1 : NetlistUnion) (l5 : List (List Int)) (m3 : List (Int × Int)) : Prop :=
  idx l5 ((mget m3 y1).getD 0) fun x1 => must (room (x1 ++ [n2]).length 8) (again1 z1.up (l5.set (((mget m3 y1).getD 0).toNat) (x1 ++ [n2])) m3 (w64 (n2 + 1)))
def M_union_Sets_L1 (u : NetlistUnion) (Q : (List (List Int)) → NetlistUnion → Prop) (again1 : List Int → List (List Int) → List (Int × Int) → Int → Prop) (l3 : List Int) (l4 : List (List Int)) (m2 : List (Int × Int)) (n2 : Int) : Prop :=
  cnd (decide (n2 < (u.up.length : Int))) (M_union_Top (⟨l3⟩ : NetlistUnion) n2 fun y1 z1 => cnd (y1 == n2) (must (room (l4 ++ [([] : List Int)]).length 24) (M_union_Sets_k2 n2 again1 y1 z1 (l4 ++ [([] : List Int)]) (mput m2 n2 (l4.length : Int)))) (M_union_Sets_k2 n2 again1 y1 z1 l4 m2)) (Q l4 (⟨l3⟩ : NetlistUnion))
def M_union_Sets (u : NetlistUnion) (Q : (List (List Int)) → NetlistUnion → Prop) : Prop :=
  lp (fun again (s : List Int × List (List Int) × List (Int × Int) × Int) => M_union_Sets_L1 u Q (fun l3 l4 m2 n2 => again (l3, l4, m2, n2)) s.1 s.2.1 s.2.2.1 s.2.2.2) (u.up, ([] : List (List Int)), ([] : List (Int × Int)), 0)
theorem R_union_Sets (u : NetlistUnion) (w0 : World) (F0 : Nat → Prop) (ug : Nat) (u_upA : Option Addr) (u_upC : Nat) (hs0 : Sat w0 F0 [hbox ug 134 [.slice u_upA u.up.length u_upC], hown 3 u_upA u_upC u.up] w0) (Q : (List (List Int)) → NetlistUnion → Prop) (h : M_union_Sets u Q) :
  Ret Tryz.prog 72 #[(pn ug 0)] w0 fun v w' => ∃ (r0 : (List (List Int))) (r0A : Option Addr) (r0C : Nat) (r0as : List (Option Addr × Nat)) (u1 : NetlistUnion) (u1_upA : Option Addr) (u1_upC : Nat), v = .slice r0A r0.length r0C ∧ Q r0 u1 ∧ Sat w0 F0 [hrows 72 3 r0A r0C r0as r0, hbox ug 134 [.slice u1_upA u1.up.length u1_upC], hown 3 u1_upA u1_upC u1.up] w' := by
 refine fn_enter func72 rfl ntmps72 rfl (fs := [(0, (pn ug 0))]) rfl (fun a hf => ?_)
 have hs := hs0
 unfold M_union_Sets at h
 refine X.l (S.q hf hs (.slice none 0 0) rfl fun a hf => X.n (X.l (S.q hf hs (.slice none 0 0) rfl fun a hf => X.n (X.l (S.makeMap hf hs rfl rfl rfl ek3 ek3 rfl (fun g1 a w hf hs => S.q hf hs (.map (some g1)) rfl fun a hf => X.n (wp_seq (X.l (S.q hf hs ((pn ug 0)) rfl fun a hf => S.q hf hs ((pn ug 0)) rfl fun a hf => S.v hf hs ((pn ug 0)) rfl (V.fieldBox rfl rfl runUnderlying134 rfl sizeOf72 rfl rfl) fun a hf => S.v hf hs (.slice u_upA u.up.length u_upC) rfl (V.loadBox 1 rfl rfl rfl isAgg72 sizeOf72 rfl rfl) fun a hf => ?_)))))))))
 refine S.v hf hs (iv (u.up.length : Int)) rfl (V.len rfl rfl runUnderlying72) fun a hf => S.q hf hs (iv 0) rfl fun a hf => X.n (wp_block ?_)
 replace hs := hs.nilRows (α := (List Int)) 72 3
 replace hs := hs.front 1 rfl
 replace hs := hs.front 1 rfl
 replace hs := hs.front 3 rfl
 replace hs := hs.front 3 rfl
 obtain ⟨kk, h⟩ := h
 refine C.loop (fun kk a w => ∃ (l3 : List Int) (l3A : Option Addr) (l3C : Nat) (l4 : List (List Int)) (l4A : Option Addr) (l4C : Nat) (l4as : List (Option Addr × Nat)) (m2 : List (Int × Int)) (n2 : Int), iterF (fun again (s : List Int × List (List Int) × List (Int × Int) × Int) => M_union_Sets_L1 u Q (fun l3 l4 m2 n2 => again (l3, l4, m2, n2)) s.1 s.2.1 s.2.2.1 s.2.2.2) kk (l3, l4, m2, n2) ∧ FrOk 45 [(0, (pn ug 0)), (3, .slice l4A l4.length l4C), (4, .map (some g1)), (12, iv (u.up.length : Int)), (13, iv n2)] a ∧ Sat w0 F0 [hbox ug 134 [.slice l3A l3.length l3C], hown 3 l3A l3C l3, hrows 72 3 l4A l4C l4as l4, hmap g1 ek3 ek3 m2] w) kk ⟨u.up, u_upA, u_upC, ([] : List (List Int)), none, 0, ([] : List (Option Addr × Nat)), ([] : List (Int × Int)), 0, h, (((((hf.nil.cons (hf.get 13 _ rfl)).cons (hf.get 12 _ rfl)).cons (hf.get 4 _ rfl)).cons (hf.get 3 _ rfl)).cons (hf.get 0 _ rfl)), hs⟩ (fun a w ⟨_, _, _, _, _, _, _, _, _, h, _, _⟩ => h) ?_
 clear h hf hs
 rintro kk a w ⟨l3, l3A, l3C, l4, l4A, l4C, l4as, m2, n2, h, hf, hs⟩
 obtain ⟨again1, hagain1⟩ : ∃ X : List Int → List (List Int) → List (Int × Int) → Int → Prop, X = (fun l3 l4 m2 n2 => iterF (fun again (s : List Int × List (List Int) × List (Int × Int) × Int) => M_union_Sets_L1 u Q (fun l3 l4 m2 n2 => again (l3, l4, m2, n2)) s.1 s.2.1 s.2.2.1 s.2.2.2) kk (l3, l4, m2, n2)) := ⟨_, rfl⟩
 replace h : M_union_Sets_L1 u Q again1 l3 l4 m2 n2 := by rw [hagain1]; exact h
 unfold M_union_Sets_L1 at h
 refine X.l (S.q hf hs (.bool (decide (n2 < (u.up.length : Int)))) rfl fun a hf => X.n (wp_seq ?_))
 refine C.cond hf (b := decide (n2 < (u.up.length : Int))) rfl (fun hc => ?_) (fun hc => ?_)
 ·replace h := h.1 hc
  refine wp_skip (X.then_ (wp_seq (wp_block (X.l (S.q hf hs (iv n2) rfl fun a hf => S.q hf hs (iv n2) rfl fun a hf => X.n (X.l (S.q hf hs ((pn ug 0)) rfl fun a hf => S.q hf hs (iv n2) rfl fun a hf => ?_)))))))
  replace hs := hs.front 1 rfl
  replace hs := hs.front 1 rfl
  obtain ⟨F1, hsF, hback, hold, hrest⟩ := Sat.callOwns [hbox ug 134 [.slice l3A l3.length l3C], hown 3 l3A l3C l3] (σ := [hrows 72 3 l4A l4C l4as l4, hmap g1 ek3 ek3 m2]) hs
  refine S.call hf rfl rfl rfl (call_fn (vs := [(pn ug 0), iv n2]) rfl rfl rfl call94) (R_union_Top (⟨l3⟩ : NetlistUnion) n2 _ _ ug l3A l3C hsF _ h) (fun v a w' hf hr => ?_)
  obtain ⟨y1, z1, z1_upA, z1_upC, rfl, h2, hs2⟩ := hr
  replace h := h2; replace hs := hback _ _ hs2; clear h2 hs2 hback hold hrest hsF
  refine S.q hf hs (iv y1) rfl fun a hf => X.n (wp_seq ?_)
  refine C.cut (J := fun a w => ∃ (l5 : List (List Int)) (l5A : Option Addr) (l5C : Nat) (l5as : List (Option Addr × Nat)) (m3 : List (Int × Int)), M_union_Sets_k2 n2 again1 y1 z1 l5 m3 ∧ FrOk 45 [(0, (pn ug 0)), (3, .slice l5A l5.length l5C), (4, .map (some g1)), (5, iv n2), (6, iv y1), (12, iv (u.up.length : Int)), (13, iv n2)] a ∧ Sat w0 F0 [hbox ug 134 [.slice z1_upA z1.up.length z1_upC], hown 3 z1_upA z1_upC z1.up, hrows 72 3 l5A l5C l5as l5, hmap g1 ek3 ek3 m3] w) ?_ ?_
  ·rintro a w ⟨l5, l5A, l5C, l5as, m3, h, hf, hs⟩
   unfold M_union_Sets_k2 at h
   refine H.start (S := Sat w0 F0 [hbox ug 134 [.slice z1_upA z1.up.length z1_upC], hown 3 z1_upA z1_upC z1.up, hmap g1 ek3 ek3 m3]) mo ?_
   replace hs := hs.drew
   refine H.val hf (hs.mask [true, true, false, true]) (v := .slice l5A l5.length l5C) (i := 0) rfl rfl rfl rfl (by kernel_rfl) (by kernel_rfl) (by kernel_rfl) (V.pure rfl) (fun a hf => H.val hf (hs.mask [true, true, false, true]) (v := .map (some g1)) (i := 1) rfl rfl rfl rfl (by kernel_rfl) (by kernel_rfl) (by kernel_rfl) (V.pure rfl) (fun a hf => H.val hf (hs.mask [true, true, false, true]) (v := iv y1) (i := 2) rfl rfl rfl rfl (by kernel_rfl) (by kernel_rfl) (by kernel_rfl) (V.pure rfl) (fun a hf => H.val hf (hs.mask [true, true, false, true]) (v := iv ((mget m3 y1).getD 0)) (i := 3) rfl rfl rfl rfl (by kernel_rfl) (by kernel_rfl) (by kernel_rfl) (V.lookup 2 rfl (k := y1) (u := ((mget m3 y1).getD 0)) (z := 0) rfl rfl rfl runUnderlying136 key3 zeroValue3 rfl rfl) (fun a hf => H.val hf (hs.mask [true, true, false, true]) (v := .slice l5A l5.length l5C) (i := 4) rfl rfl rfl rfl (by kernel_rfl) (by kernel_rfl) (by kernel_rfl) (V.pure rfl) (fun a hf => H.val hf (hs.mask [true, true, false, true]) (v := .map (some g1)) (i := 5) rfl rfl rfl rfl (by kernel_rfl) (by kernel_rfl) (by kernel_rfl) (V.pure rfl) (fun a hf => H.val hf (hs.mask [true, true, false, true]) (v := iv y1) (i := 6) rfl rfl rfl rfl (by kernel_rfl) (by kernel_rfl) (by kernel_rfl) (V.pure rfl) (fun a hf => H.val hf (hs.mask [true, true, false, true]) (v := iv ((mget m3 y1).getD 0)) (i := 7) rfl rfl rfl rfl (by kernel_rfl) (by kernel_rfl) (by kernel_rfl) (V.lookup 2 rfl (k := y1) (u := ((mget m3 y1).getD 0)) (z := 0) rfl rfl rfl runUnderlying136 key3 zeroValue3 rfl rfl) (fun a hf => ?_))))))))
   obtain ⟨h0x1, x1, hx1, h⟩ := h
   refine H.val hf (hs.mask [true, true, false, true]) (v := elemPtr l5A (((mget m3 y1).getD 0).toNat * 1)) (i := 8) rfl rfl rfl rfl (by kernel_rfl) (by kernel_rfl) (by kernel_rfl) (V.index rfl rfl rfl runUnderlying108 sizeOf72 (hs.rowsSome 2 rfl hx1) h0x1 (lt_of_get hx1) rfl) (fun a hf => H.val hf (hs.mask [true, true, false, true]) (v := iv n2) (i := 10) rfl rfl rfl rfl (by kernel_rfl) (by kernel_rfl) (by kernel_rfl) (V.pure rfl) (fun a hf => ?_))
   refine H.each2 (i0 := 9) (i1 := 11) rfl rfl (by kernel_rfl) ?_ ?_
   ·obtain ⟨B1, D1, hrB1⟩ := hs.rowAt 2 rfl hx1
    refine S.v hf hs (.slice B1 x1.length D1) rfl (V.loadRows (off := 0) 2 rfl hx1 hrB1 rfl rfl rfl isAgg72 sizeOf72 rfl rfl) fun a hf => X.n (⟨(hs.mask [true, true, false, true]), (H.one (i := 11) rfl (by kernel_rfl) (S.build1 hf hs rfl rfl rfl (α := Int) n2 rfl rfl rfl runUnderlying72 sizeOf3 zeroValue3 rfl (by decide) (fun A1 a w hf hs => X.n (⟨(hs.mask [false, true, true, false, true]), (H.one (i := 12) rfl (by kernel_rfl) ?_)⟩))))⟩)
    replace hs := hs.takeRow 3 rfl hx1 hrB1
    obtain ⟨hroom, h⟩ := h
    refine S.appendCells 0 hf hs rfl rfl rfl rfl rfl rfl rfl underlying72 info3 rfl hroom ((hs.ownView 1 rfl).some_ (i := 0) (by simp)) (hs.ownView 1 rfl) (fun A2 C1 a w hf hs => X.n (⟨(hs.mask [false, false, true, true, false, true]), (H.val hf (hs.mask [false, false, true, true, false, true]) (v := elemPtr l5A (((mget m3 y1).getD 0).toNat * 1)) (i := 13) rfl rfl rfl rfl (by kernel_rfl) (by kernel_rfl) (by kernel_rfl) (V.index rfl rfl rfl runUnderlying108 sizeOf72 (hs.rowsSomeX 4 rfl hx1) h0x1 (lt_of_get hx1) rfl) (fun a hf => H.one (i := 14) rfl (by kernel_rfl) (S.putBack (off := 0) 3 hf hs rfl rfl (x1 ++ [n2]) [.slice A2 (x1 ++ [n2]).length C1] rfl hx1 hrB1 rfl rfl rfl rfl rfl rfl sizeOf72 rfl (by decide) rfl rfl (fun a w hf hs => ?_))))⟩))
    replace hf := hf.tell 3 (v := .slice l5A (l5.set (((mget m3 y1).getD 0).toNat) (x1 ++ [n2])).length l5C) ((hf.get 3 (.slice l5A l5.length l5C) rfl).trans (congrArg (fun n => Value.slice l5A n l5C) List.length_set.symm))
    replace hf := hf.tell 29 (v := .slice l5A (l5.set (((mget m3 y1).getD 0).toNat) (x1 ++ [n2])).length l5C) ((hf.get 29 (.slice l5A l5.length l5C) rfl).trans (congrArg (fun n => Value.slice l5A n l5C) List.length_set.symm))
    replace hf := hf.tell 33 (v := .slice l5A (l5.set (((mget m3 y1).getD 0).toNat) (x1 ++ [n2])).length l5C) ((hf.get 33 (.slice l5A l5.length l5C) rfl).trans (congrArg (fun n => Value.slice l5A n l5C) List.length_set.symm))
    have hx1 : (l5.set (((mget m3 y1).getD 0).toNat) (x1 ++ [n2]))[((mget m3 y1).getD 0).toNat]? = some (x1 ++ [n2]) := List.getElem?_set_self (lt_of_get hx1)
    have hr1 : (l5as.set (((mget m3 y1).getD 0).toNat) (A2, C1))[((mget m3 y1).getD 0).toNat]? = some (A2, C1) := List.getElem?_set_self (lt_of_get hrB1)
    refine X.n (⟨(hs.mask [false, true, true, false, true]), (H.done (by kernel_rfl) (X.blk (X.then_ (R.list (S.q hf hs (iv (w64 (n2 + 1))) rfl fun a hf => S.q hf hs (iv (w64 (n2 + 1))) rfl fun a hf => X.n ?_)))))⟩)
    replace hs := hs.front 4 rfl
    replace hs := hs.front 4 rfl
    replace hs := hs.front 4 rfl
    replace hs := hs.front 4 rfl
    replace hs := hs.take 4
    exact ⟨z1.up, z1_upA, z1_upC, (l5.set (((mget m3 y1).getD 0).toNat) (x1 ++ [n2])), l5A, l5C, (l5as.set (((mget m3 y1).getD 0).toNat) (A2, C1)), m3, (w64 (n2 + 1)), (by rw [hagain1] at h; exact h), (((((hf.nil.cons (hf.get 13 _ rfl)).cons (hf.get 12 _ rfl)).cons (hf.get 4 _ rfl)).cons (hf.get 3 _ rfl)).cons (hf.get 0 _ rfl)), hs⟩
   ·refine S.build1 hf hs rfl rfl rfl (α := Int) n2 rfl rfl rfl runUnderlying72 sizeOf3 zeroValue3 rfl (by decide) (fun A1 a w hf hs => X.n (⟨(hs.mask [false, true, true, false, true]), (H.one (i := 9) rfl (by kernel_rfl) ?_)⟩))
    obtain ⟨B1, D1, hrB1⟩ := hs.rowAt 3 rfl hx1
    refine S.v hf hs (.slice B1 x1.length D1) rfl (V.loadRows (off := 0) 3 rfl hx1 hrB1 rfl rfl rfl isAgg72 sizeOf72 rfl rfl) fun a hf => X.n (⟨(hs.mask [false, true, true, false, true]), (H.one (i := 12) rfl (by kernel_rfl) ?_)⟩)
    replace hs := hs.takeRow 3 rfl hx1 hrB1
    obtain ⟨hroom, h⟩ := h
    refine S.appendCells 0 hf hs rfl rfl rfl rfl rfl rfl rfl underlying72 info3 rfl hroom ((hs.ownView 1 rfl).some_ (i := 0) (by simp)) (hs.ownView 1 rfl) (fun A2 C1 a w hf hs => X.n (⟨(hs.mask [false, false, true, true, false, true]), (H.val hf (hs.mask [false, false, true, true, false, true]) (v := elemPtr l5A (((mget m3 y1).getD 0).toNat * 1)) (i := 13) rfl rfl rfl rfl (by kernel_rfl) (by kernel_rfl) (by kernel_rfl) (V.index rfl rfl rfl runUnderlying108 sizeOf72 (hs.rowsSomeX 4 rfl hx1) h0x1 (lt_of_get hx1) rfl) (fun a hf => H.one (i := 14) rfl (by kernel_rfl) (S.putBack (off := 0) 3 hf hs rfl rfl (x1 ++ [n2]) [.slice A2 (x1 ++ [n2]).length C1] rfl hx1 hrB1 rfl rfl rfl rfl rfl rfl sizeOf72 rfl (by decide) rfl rfl (fun a w hf hs => ?_))))⟩))
    replace hf := hf.tell 3 (v := .slice l5A (l5.set (((mget m3 y1).getD 0).toNat) (x1 ++ [n2])).length l5C) ((hf.get 3 (.slice l5A l5.length l5C) rfl).trans (congrArg (fun n => Value.slice l5A n l5C) List.length_set.symm))
    replace hf := hf.tell 29 (v := .slice l5A (l5.set (((mget m3 y1).getD 0).toNat) (x1 ++ [n2])).length l5C) ((hf.get 29 (.slice l5A l5.length l5C) rfl).trans (congrArg (fun n => Value.slice l5A n l5C) List.length_set.symm))
    replace hf := hf.tell 33 (v := .slice l5A (l5.set (((mget m3 y1).getD 0).toNat) (x1 ++ [n2])).length l5C) ((hf.get 33 (.slice l5A l5.length l5C) rfl).trans (congrArg (fun n => Value.slice l5A n l5C) List.length_set.symm))
    have hx1 : (l5.set (((mget m3 y1).getD 0).toNat) (x1 ++ [n2]))[((mget m3 y1).getD 0).toNat]? = some (x1 ++ [n2]) := List.getElem?_set_self (lt_of_get hx1)
    have hr1 : (l5as.set (((mget m3 y1).getD 0).toNat) (A2, C1))[((mget m3 y1).getD 0).toNat]? = some (A2, C1) := List.getElem?_set_self (lt_of_get hrB1)
    refine X.n (⟨(hs.mask [false, true, true, false, true]), (H.done (by kernel_rfl) (X.blk (X.then_ (R.list (S.q hf hs (iv (w64 (n2 + 1))) rfl fun a hf => S.q hf hs (iv (w64 (n2 + 1))) rfl fun a hf => X.n ?_)))))⟩)
    replace hs := hs.front 4 rfl
    replace hs := hs.front 4 rfl
    replace hs := hs.front 4 rfl
    replace hs := hs.front 4 rfl
    replace hs := hs.take 4
    exact ⟨z1.up, z1_upA, z1_upC, (l5.set (((mget m3 y1).getD 0).toNat) (x1 ++ [n2])), l5A, l5C, (l5as.set (((mget m3 y1).getD 0).toNat) (A2, C1)), m3, (w64 (n2 + 1)), (by rw [hagain1] at h; exact h), (((((hf.nil.cons (hf.get 13 _ rfl)).cons (hf.get 12 _ rfl)).cons (hf.get 4 _ rfl)).cons (hf.get 3 _ rfl)).cons (hf.get 0 _ rfl)), hs⟩
  ·skip
   refine X.l (S.q hf hs (iv y1) rfl fun a hf => S.q hf hs (iv n2) rfl fun a hf => S.q hf hs (.bool (y1 == n2)) rfl fun a hf => X.n ?_)
   refine C.cond hf (b := y1 == n2) rfl (fun hc => ?_) (fun hc => ?_)
   ·replace h := h.1 hc
    refine X.l (S.q hf hs (.map (some g1)) rfl fun a hf => S.q hf hs (iv n2) rfl fun a hf => S.q hf hs (.slice l4A l4.length l4C) rfl fun a hf => S.v hf hs (iv (l4.length : Int)) rfl (V.len rfl rfl runUnderlying108) fun a hf => S.mapUpdate 3 hf hs rfl rfl rfl n2 (l4.length : Int) rfl rfl rfl rfl runUnderlying136 key3 (fun a w hf hs => X.n (R.list (S.q hf hs (.slice l4A l4.length l4C) rfl fun a hf => ?_))))
    replace hs := hs.nilOwn (α := Int) 3
    refine S.build1 hf hs rfl rfl rfl (α := Sl) (⟨none, ([] : List Int).length, 0⟩ : Sl) rfl rfl rfl runUnderlying108 sizeOf72 zeroValue72 rfl (by decide) (fun A3 a w hf hs => ?_)
    replace hs := hs.front 1 rfl
    obtain ⟨hroom, h⟩ := h
    refine S.appendRow 3 hf hs rfl rfl rfl ([] : List Int) rfl rfl rfl rfl rfl underlying108 info72 rfl hroom ((hs.ownView 1 rfl).some_ (i := 0) (by simp)) (hs.ownView 1 rfl) (fun A4 C2 a w hf hs => ?_)
    replace hs := hs.drop
    refine S.q hf hs (.slice A4 (l4 ++ [([] : List Int)]).length C2) rfl fun a hf => X.n ?_
    exact ⟨(l4 ++ [([] : List Int)]), A4, C2, (l4as ++ [(none, 0)]), (mput m2 n2 (l4.length : Int)), h, (((((((hf.nil.cons (hf.get 13 _ rfl)).cons (hf.get 12 _ rfl)).cons (hf.get 6 _ rfl)).cons (hf.get 5 _ rfl)).cons (hf.get 4 _ rfl)).cons (hf.get 3 _ rfl)).cons (hf.get 0 _ rfl)), hs⟩
   ·replace h := h.2 hc
    refine wp_skip (X.then_ ?_)
    exact ⟨l4, l4A, l4C, l4as, m2, h, (((((((hf.nil.cons (hf.get 13 _ rfl)).cons (hf.get 12 _ rfl)).cons (hf.get 6 _ rfl)).cons (hf.get 5 _ rfl)).cons (hf.get 4 _ rfl)).cons (hf.get 3 _ rfl)).cons (hf.get 0 _ rfl)), hs⟩
 ·replace h := h.2 hc
  refine wp_exit (X.then_exit (X.then_exit (X.blk_exit (X.then_ (X.l (S.q hf hs (.slice l4A l4.length l4C) rfl fun a hf => S.q hf hs (.slice l4A l4.length l4C) rfl fun a hf => X.n (wp_ret ?_)))))))
  replace hs := hs.front 1 rfl
  replace hs := hs.front 1 rfl
  replace hs := hs.front 2 rfl
  replace hs := hs.take 3
  exact L.ret hf (run_results1 results72 (ResIs.tmp hf rfl)) ⟨l4, l4A, l4C, l4as, (⟨l3⟩ : NetlistUnion), l3A, l3C, rfl, h, hs⟩
def M_together1 (c : Cell) (at_ : (List (Cell × Int))) (Q : Int → (List (Cell × Int)) → Prop) : Prop :=
  cnd (!((mget at_ c).isSome)) (Q (at_.length : Int) (mput at_ c (at_.length : Int))) (Q ((mget at_ c).getD 0) at_)
theorem R_together1 (c : Cell) (at_ : (List (Cell × Int))) (w0 : World) (F0 : Nat → Prop) (at_m : Nat) (at_g : Nat) (hb_at_ : ElemAt w0 (old w0 F0) (some ⟨at_g, 0, none⟩) 0 [.map (some at_m)]) (hs0 : Sat w0 F0 [hmap at_m ek55 ek3 at_] w0) (Q : Int → (List (Cell × Int)) → Prop) (h : M_together1 c at_ Q) :
  Ret Tryz.prog 69 #[.agg #[iv c.X, iv c.Y, iv c.Layer], (pn at_g 0)] w0 fun v w' => ∃ (r0 : Int) (at_1 : (List (Cell × Int))), v = iv r0 ∧ Q r0 at_1 ∧ Sat w0 F0 [hmap at_m ek55 ek3 at_1] w' := by
 refine fn_enter func69 rfl ntmps69 rfl (fs := [(0, .agg #[iv c.X, iv c.Y, iv c.Layer]), (1, (pn at_g 0))]) rfl (fun a hf => ?_)
 have hs := hs0
 unfold M_together1 at h
 refine X.l (S.box hf hs rfl rfl rfl [iv c.X, iv c.Y, iv c.Layer] rfl rfl rfl (fun g1 a w hf hs => S.q hf hs (iv 0) rfl fun a hf => X.n (X.l (S.v hf hs (.map (some at_m)) rfl (V.loadAt0 (off := 0) (Ag.args _ _ _) hb_at_ rfl rfl isAgg51 sizeOf51 rfl rfl) fun a hf => S.v hf hs (.agg #[iv c.X, iv c.Y, iv c.Layer]) rfl (V.loadBox 0 rfl rfl rfl isAgg55 sizeOf55 rfl rfl) fun a hf => S.v hf hs (.tuple #[iv ((mget at_ c).getD 0), .bool ((mget at_ c).isSome)]) rfl (V.lookupOk 1 rfl (k := c) (u := ((mget at_ c).getD 0)) (z := 0) (b := (mget at_ c).isSome) rfl rfl rfl runUnderlying51 key55 zeroValue3 rfl rfl rfl) fun a hf => S.q hf hs (.tuple #[iv ((mget at_ c).getD 0), .bool ((mget at_ c).isSome)]) rfl fun a hf => S.q hf hs (iv ((mget at_ c).getD 0)) rfl fun a hf => S.q hf hs (.bool ((mget at_ c).isSome)) rfl fun a hf => S.q hf hs (iv ((mget at_ c).getD 0)) rfl fun a hf => S.q hf hs (.bool ((mget at_ c).isSome)) rfl fun a hf => ?_))))
 refine X.n (wp_seq (X.l (S.q hf hs (.bool ((mget at_ c).isSome)) rfl fun a hf => S.q hf hs (.bool (!((mget at_ c).isSome))) rfl fun a hf => X.n ?_)))
 refine C.cond hf (b := !((mget at_ c).isSome)) rfl (fun hc => ?_) (fun hc => ?_)
 ·replace h := h.1 hc
  refine X.l (S.v hf hs (.map (some at_m)) rfl (V.loadAt0 (off := 0) (Ag.args _ _ _) hb_at_ rfl rfl isAgg51 sizeOf51 rfl rfl) fun a hf => S.v hf hs (iv (at_.length : Int)) rfl (V.lenMap 1 rfl rfl rfl runUnderlying51) fun a hf => S.q hf hs (iv (at_.length : Int)) rfl fun a hf => X.n (R.list (S.v hf hs (.map (some at_m)) rfl (V.loadAt0 (off := 0) (Ag.args _ _ _) hb_at_ rfl rfl isAgg51 sizeOf51 rfl rfl) fun a hf => S.v hf hs (.agg #[iv c.X, iv c.Y, iv c.Layer]) rfl (V.loadBox 0 rfl rfl rfl isAgg55 sizeOf55 rfl rfl) fun a hf => S.q hf hs (iv (at_.length : Int)) rfl fun a hf => S.mapUpdate 1 hf hs rfl rfl rfl c (at_.length : Int) rfl rfl rfl rfl runUnderlying51 key55 (fun a w hf hs => X.n (X.l (S.q hf hs (iv (at_.length : Int)) rfl fun a hf => S.q hf hs (iv (at_.length : Int)) rfl fun a hf => ?_))))))
  refine X.n (wp_ret ?_)
  replace hs := hs.front 1 rfl
  replace hs := hs.take 1
  exact L.ret hf (run_results1 results69 (ResIs.tmp hf rfl)) ⟨(at_.length : Int), (mput at_ c (at_.length : Int)), rfl, h, hs⟩
 ·replace h := h.2 hc
  refine wp_skip (X.then_ (X.l (S.q hf hs (iv ((mget at_ c).getD 0)) rfl fun a hf => S.q hf hs (iv ((mget at_ c).getD 0)) rfl fun a hf => X.n (wp_ret ?_))))
  replace hs := hs.front 1 rfl
  replace hs := hs.take 1
  exact L.ret hf (run_results1 results69 (ResIs.tmp hf rfl)) ⟨((mget at_ c).getD 0), at_, rfl, h, hs⟩
def M_route_together_L3 (l2 : List Arr2) (again3 : Prop)  : Prop :=
  cnd (decide (0 < (l2.length : Int))) (False) (False)
def M_route_together_L4  (k4 : Nat) (xk4 : Arr2) (l4 : List Int) (next4 : List Int → Prop) : Prop :=
  M_union_Join (⟨l4⟩ : NetlistUnion) xk4.e0 xk4.e1 fun z2 => next4 z2.up
def M_route_together_L5 (y3 : Int) (k5 : Nat) (xk5 : Cell) (m6 : List (Cell × Int)) (l6 : List Arr2) (next5 : List (Cell × Int) → List Arr2 → Prop) : Prop :=
  M_together1 xk5 m6 fun y4 z4 => must (room (l6 ++ [(⟨y3, y4⟩ : Arr2)]).length 16) (next5 z4 (l6 ++ [(⟨y3, y4⟩ : Arr2)]))
def M_route_together_L2  (k2 : Nat) (xk2 : (List Cell)) (m4 : List (Cell × Int)) (l2 : List Arr2) (next2 : List (Cell × Int) → List Arr2 → Prop) : Prop :=
  idx xk2 0 fun x1 => M_together1 x1 m4 fun y3 z3 => forIn' (fun k x (s : List (Cell × Int) × List Arr2) next => M_route_together_L5 y3 k x s.1 s.2 (fun m6 l6 => next (m6, l6))) (fun (s : List (Cell × Int) × List Arr2) => (fun (m6 : List (Cell × Int)) (l6 : List Arr2) => next2 m6 l6) s.1 s.2) xk2 0 (z3, l2)
def M_route_together_L1  (k1 : Nat) (xk1 : Cell) (m2 : List (Cell × Int)) (next1 : List (Cell × Int) → Prop) : Prop :=
  M_together1 xk1 m2 fun y5 z5 => next1 z5
def M_route_together (pins : (List Cell)) (ways : (List (List Cell))) (Q : Bool → Prop) : Prop :=
  forIn' (fun k x (s : List (Cell × Int)) next => M_route_together_L1 k x s (fun m2 => next m2)) (fun (s : List (Cell × Int)) => (fun (m2 : List (Cell × Int)) => forIn' (fun k x (s : List (Cell × Int) × List Arr2) next => M_route_together_L2 k x s.1 s.2 (fun m4 l2 => next (m4, l2))) (fun (s : List (Cell × Int) × List Arr2) => (fun (m4 : List (Cell × Int)) (l2 : List Arr2) => M_NewUnion (m4.length : Int) fun y1o => optq y1o (lp (fun again (s : Unit) => M_route_together_L3 l2 (again ())) ()) (fun y1 => forIn' (fun k x (s : List Int) next => M_route_together_L4 k x s (fun l4 => next l4)) (fun (s : List Int) => (fun (l4 : List Int) => M_union_Sets (⟨l4⟩ : NetlistUnion) fun y2 z1 => Q (decide ((y2.length : Int) < 2))) s) l2 0 y1)) s.1 s.2) ways 0 (m2, ([] : List Arr2))) s) pins 0 ([] : List (Cell × Int))
theorem R_route_together (pins : (List Cell)) (ways : (List (List Cell))) (w0 : World) (pinsA : Option Addr) (pinsC : Nat) (hv_pins : View w0 (old w0 none_) pinsA pinsC pins) (waysA : Option Addr) (waysC : Nat) (hv_ways : View w0 (old w0 none_) waysA waysC ways) (Q : Bool → Prop) (h : M_route_together pins ways Q) :
  Ret Tryz.prog 27 #[.slice pinsA pins.length pinsC, .slice waysA ways.length waysC] w0 fun v w' => ∃ (r0 : Bool), v = .bool r0 ∧ Q r0 ∧ Sat w0 none_ [] w' := by
 refine fn_enter func27 rfl ntmps27 rfl (fs := [(0, .slice pinsA pins.length pinsC), (1, .slice waysA ways.length waysC)]) rfl (fun a hf => ?_)
 have hs := Sat.start w0 none_
 unfold M_route_together at h
 refine X.l (S.q hf hs (.bool false) rfl fun a hf => X.n (X.l (S.makeMap hf hs rfl rfl rfl ek55 ek3 rfl (fun g1 a w hf hs => S.alloc hf hs rfl rfl rfl [.map none] rfl zeroValue51 rfl (fun g2 a w hf hs => S.storeBox 0 hf hs rfl rfl [.map (some g1)] [.map (some g1)] rfl rfl rfl rfl rfl sizeOf51 rfl rfl rfl rfl (fun a w hf hs => X.n (X.l (S.q hf hs (.func (.func 69) #[] #[(pn g2 0)]) rfl fun a hf => S.q hf hs (.func (.func 69) #[] #[(pn g2 0)]) rfl fun a hf => X.n (X.l (S.q hf hs (.slice none 0 0) rfl fun a hf => X.n (wp_seq (X.l ?_))))))))))))
 refine S.q hf hs (.slice pinsA pins.length pinsC) rfl fun a hf => S.v hf hs (iv (pins.length : Int)) rfl (V.len rfl rfl runUnderlying22) fun a hf => S.q hf hs (iv 0) rfl fun a hf => X.n (wp_block ?_)
 have hlenk1 := hv_pins.len64
 refine C.range (fun (ll : List Cell) a w => ∃ (k1 : Nat) (m2 : List (Cell × Int)), pins.drop k1 = ll ∧ k1 + ll.length = pins.length ∧ forIn' (fun k x (s : List (Cell × Int)) next => M_route_together_L1 k x s (fun m2 => next m2)) (fun (s : List (Cell × Int)) => (fun (m2 : List (Cell × Int)) => forIn' (fun k x (s : List (Cell × Int) × List Arr2) next => M_route_together_L2 k x s.1 s.2 (fun m4 l2 => next (m4, l2))) (fun (s : List (Cell × Int) × List Arr2) => (fun (m4 : List (Cell × Int)) (l2 : List Arr2) => M_NewUnion (m4.length : Int) fun y1o => optq y1o (lp (fun again (s : Unit) => M_route_together_L3 l2 (again ())) ()) (fun y1 => forIn' (fun k x (s : List Int) next => M_route_together_L4 k x s (fun l4 => next l4)) (fun (s : List Int) => (fun (l4 : List Int) => M_union_Sets (⟨l4⟩ : NetlistUnion) fun y2 z1 => Q (decide ((y2.length : Int) < 2))) s) l2 0 y1)) s.1 s.2) ways 0 (m2, ([] : List Arr2))) s) ll k1 m2 ∧ FrOk 77 [(22, iv (k1 : Int)), (1, .slice waysA ways.length waysC), (5, (pn g2 0)), (6, .func (.func 69) #[] #[(pn g2 0)]), (7, .slice none 0 0), (20, .slice pinsA pins.length pinsC), (21, iv (pins.length : Int))] a ∧ Sat w0 none_ [hbox g2 51 [.map (some g1)], hmap g1 ek55 ek3 m2] w) pins ⟨0, ([] : List (Cell × Int)), rfl, Nat.zero_add _, h, (((((((hf.nil.cons (hf.get 21 _ rfl)).cons (hf.get 20 _ rfl)).cons (hf.get 7 _ rfl)).cons (hf.get 6 _ rfl)).cons (hf.get 5 _ rfl)).cons (hf.get 1 _ rfl)).cons (hf.get 22 _ rfl)), hs⟩ ?_
 clear h hf hs
 rintro llk1 a w ⟨k1, m2, hlk1, hkk1, h, hf, hs⟩
 cases llk1 with
 | nil =>
  have hc := range_done hkk1
  replace h : (fun (m2 : List (Cell × Int)) => forIn' (fun k x (s : List (Cell × Int) × List Arr2) next => M_route_together_L2 k x s.1 s.2 (fun m4 l2 => next (m4, l2))) (fun (s : List (Cell × Int) × List Arr2) => (fun (m4 : List (Cell × Int)) (l2 : List Arr2) => M_NewUnion (m4.length : Int) fun y1o => optq y1o (lp (fun again (s : Unit) => M_route_together_L3 l2 (again ())) ()) (fun y1 => forIn' (fun k x (s : List Int) next => M_route_together_L4 k x s (fun l4 => next l4)) (fun (s : List Int) => (fun (l4 : List Int) => M_union_Sets (⟨l4⟩ : NetlistUnion) fun y2 z1 => Q (decide ((y2.length : Int) < 2))) s) l2 0 y1)) s.1 s.2) ways 0 (m2, ([] : List Arr2))) m2 := h
  refine X.l (S.v hf hs (.bool false) rfl (V.cmp false rfl rfl rfl rfl hc) fun a hf => X.n (wp_seq (C.no hf rfl (wp_exit (X.then_exit (X.then_exit (X.blk_exit (X.then_ (wp_seq (X.l (S.q hf hs (.slice waysA ways.length waysC) rfl fun a hf => S.v hf hs (iv (ways.length : Int)) rfl (V.len rfl rfl runUnderlying45) fun a hf => S.q hf hs (iv 0) rfl fun a hf => X.n (wp_block ?_))))))))))))
  replace hs := hs.nilOwn (α := Arr2) 104
  replace hs := hs.front 2 rfl
  replace hs := hs.front 2 rfl
  have hlenk2 := hv_ways.len64
  refine C.range (fun (ll : List (List Cell)) a w => ∃ (k2 : Nat) (m4 : List (Cell × Int)) (l2 : List Arr2) (l2A : Option Addr) (l2C : Nat), ways.drop k2 = ll ∧ k2 + ll.length = ways.length ∧ forIn' (fun k x (s : List (Cell × Int) × List Arr2) next => M_route_together_L2 k x s.1 s.2 (fun m4 l2 => next (m4, l2))) (fun (s : List (Cell × Int) × List Arr2) => (fun (m4 : List (Cell × Int)) (l2 : List Arr2) => M_NewUnion (m4.length : Int) fun y1o => optq y1o (lp (fun again (s : Unit) => M_route_together_L3 l2 (again ())) ()) (fun y1 => forIn' (fun k x (s : List Int) next => M_route_together_L4 k x s (fun l4 => next l4)) (fun (s : List Int) => (fun (l4 : List Int) => M_union_Sets (⟨l4⟩ : NetlistUnion) fun y2 z1 => Q (decide ((y2.length : Int) < 2))) s) l2 0 y1)) s.1 s.2) ll k2 (m4, l2) ∧ FrOk 77 [(32, iv (k2 : Int)), (5, (pn g2 0)), (6, .func (.func 69) #[] #[(pn g2 0)]), (7, .slice l2A l2.length l2C), (30, .slice waysA ways.length waysC), (31, iv (ways.length : Int))] a ∧ Sat w0 none_ [hbox g2 51 [.map (some g1)], hmap g1 ek55 ek3 m4, hown 104 l2A l2C l2] w) ways ⟨0, m2, ([] : List Arr2), none, 0, rfl, Nat.zero_add _, h, ((((((hf.nil.cons (hf.get 31 _ rfl)).cons (hf.get 30 _ rfl)).cons (hf.get 7 _ rfl)).cons (hf.get 6 _ rfl)).cons (hf.get 5 _ rfl)).cons (hf.get 32 _ rfl)), hs⟩ ?_
  clear h hf hs
  rintro llk2 a w ⟨k2, m4, l2, l2A, l2C, hlk2, hkk2, h, hf, hs⟩
  cases llk2 with
  | nil =>
   have hc := range_done hkk2
   replace h : (fun (m4 : List (Cell × Int)) (l2 : List Arr2) => M_NewUnion (m4.length : Int) fun y1o => optq y1o (lp (fun again (s : Unit) => M_route_together_L3 l2 (again ())) ()) (fun y1 => forIn' (fun k x (s : List Int) next => M_route_together_L4 k x s (fun l4 => next l4)) (fun (s : List Int) => (fun (l4 : List Int) => M_union_Sets (⟨l4⟩ : NetlistUnion) fun y2 z1 => Q (decide ((y2.length : Int) < 2))) s) l2 0 y1)) m4 l2 := h
   refine X.l (S.v hf hs (.bool false) rfl (V.cmp false rfl rfl rfl rfl hc) fun a hf => X.n (wp_seq (C.no hf rfl (wp_exit (X.then_exit (X.then_exit (X.blk_exit (X.then_ (X.l (S.v hf hs (.map (some g1)) rfl (V.loadBox 0 rfl rfl rfl isAgg51 sizeOf51 rfl rfl) fun a hf => S.v hf hs (iv (m4.length : Int)) rfl (V.lenMap 1 rfl rfl rfl runUnderlying51) fun a hf => S.call hf rfl rfl rfl (call_fn (vs := [iv (m4.length : Int)]) rfl rfl rfl call70) (R_NewUnion (m4.length : Int) _  _ h) (fun v a w' hf hr => ?_)))))))))))
   rcases hr with ⟨rfl, h2, hs2⟩ | ⟨y1, y1g, y1A0, y1C0, rfl, h2, hs2⟩
   ·replace h := h2.1 rfl; replace hs := hs.call hs2; clear h2 hs2
    refine S.q hf hs (.pointer none) rfl fun a hf => X.n (wp_seq (X.l (S.q hf hs (.slice l2A l2.length l2C) rfl fun a hf => S.v hf hs (iv (l2.length : Int)) rfl (V.len rfl rfl runUnderlying103) fun a hf => S.q hf hs (iv 0) rfl fun a hf => X.n (wp_block ?_))))
    obtain ⟨kk, h⟩ := h
    refine C.loop (fun kk a w => iterF (fun again (s : Unit) => M_route_together_L3 l2 (again ())) kk () ∧ FrOk 77 [(15, .pointer none), (60, .slice l2A l2.length l2C), (61, iv (l2.length : Int)), (62, iv 0)] a ∧ Sat w0 none_ [hbox g2 51 [.map (some g1)], hmap g1 ek55 ek3 m4, hown 104 l2A l2C l2] w) kk ⟨h, ((((hf.nil.cons (hf.get 62 _ rfl)).cons (hf.get 61 _ rfl)).cons (hf.get 60 _ rfl)).cons (hf.get 15 _ rfl)), hs⟩ (fun a w ⟨h, _, _⟩ => h) ?_
    clear h hf hs
    rintro kk a w ⟨h, hf, hs⟩
    obtain ⟨again3, hagain3⟩ : ∃ X : Prop, X = (iterF (fun again (s : Unit) => M_route_together_L3 l2 (again ())) kk ()) := ⟨_, rfl⟩
    replace h : M_route_together_L3 l2 again3  := by rw [hagain3]; exact h
    unfold M_route_together_L3 at h
    refine X.l (S.q hf hs (.bool (decide (0 < (l2.length : Int)))) rfl fun a hf => X.n (wp_seq ?_))
    refine C.cond hf (b := decide (0 < (l2.length : Int))) rfl (fun hc => ?_) (fun hc => ?_)
    ·replace h := h.1 hc
     exact h.elim
    ·replace h := h.2 hc
     exact h.elim
   ·replace h := h2.2 _ rfl; replace hs := hs.call hs2; clear h2 hs2
    refine S.q hf hs ((pn y1g 0)) rfl fun a hf => X.n (wp_seq (X.l (S.q hf hs (.slice l2A l2.length l2C) rfl fun a hf => S.v hf hs (iv (l2.length : Int)) rfl (V.len rfl rfl runUnderlying103) fun a hf => S.q hf hs (iv 0) rfl fun a hf => X.n (wp_block ?_))))
    replace hs := hs.front 4 rfl
    replace hs := hs.front 2 rfl
    replace hs := hs.front 2 rfl
    replace hs := hs.take 3
    have hlenk4 := (hs.ownView 2 rfl).len64
    refine C.range (fun (ll : List Arr2) a w => ∃ (k4 : Nat) (l4 : List Int) (l4A : Option Addr) (l4C : Nat), l2.drop k4 = ll ∧ k4 + ll.length = l2.length ∧ forIn' (fun k x (s : List Int) next => M_route_together_L4 k x s (fun l4 => next l4)) (fun (s : List Int) => (fun (l4 : List Int) => M_union_Sets (⟨l4⟩ : NetlistUnion) fun y2 z1 => Q (decide ((y2.length : Int) < 2))) s) ll k4 l4 ∧ FrOk 77 [(62, iv (k4 : Int)), (15, (pn y1g 0)), (60, .slice l2A l2.length l2C), (61, iv (l2.length : Int))] a ∧ Sat w0 none_ [hbox y1g 134 [.slice l4A l4.length l4C], hown 3 l4A l4C l4, hown 104 l2A l2C l2] w) l2 ⟨0, y1, y1A0, y1C0, rfl, Nat.zero_add _, h, ((((hf.nil.cons (hf.get 61 _ rfl)).cons (hf.get 60 _ rfl)).cons (hf.get 15 _ rfl)).cons (hf.get 62 _ rfl)), hs⟩ ?_
    clear h hf hs
    rintro llk4 a w ⟨k4, l4, l4A, l4C, hlk4, hkk4, h, hf, hs⟩
    cases llk4 with
    | nil =>
     have hc := range_done hkk4
     replace h : (fun (l4 : List Int) => M_union_Sets (⟨l4⟩ : NetlistUnion) fun y2 z1 => Q (decide ((y2.length : Int) < 2))) l4 := h
     refine X.l (S.v hf hs (.bool false) rfl (V.cmp false rfl rfl rfl rfl hc) fun a hf => X.n (wp_seq (C.no hf rfl (wp_exit (X.then_exit (X.then_exit (X.blk_exit (X.then_ (X.l (S.q hf hs ((pn y1g 0)) rfl fun a hf => ?_))))))))))
     replace hs := hs.front 1 rfl
     replace hs := hs.front 1 rfl
     obtain ⟨F1, hsF, hback, hold, hrest⟩ := Sat.callOwns [hbox y1g 134 [.slice l4A l4.length l4C], hown 3 l4A l4C l4] (σ := [hown 104 l2A l2C l2]) hs
     refine S.call hf rfl rfl rfl (call_fn (vs := [(pn y1g 0)]) rfl rfl rfl call72) (R_union_Sets (⟨l4⟩ : NetlistUnion) _ _ y1g l4A l4C hsF _ h) (fun v a w' hf hr => ?_)
     obtain ⟨y2, y2A, y2C, y2as, z1, z1_upA, z1_upC, rfl, h2, hs2⟩ := hr
     replace h := h2; replace hs := hback _ _ hs2; clear h2 hs2 hback hold hrest hsF
     refine S.v hf hs (iv (y2.length : Int)) rfl (V.len rfl rfl runUnderlying108) fun a hf => S.q hf hs (.bool (decide ((y2.length : Int) < 2))) rfl fun a hf => S.q hf hs (.bool (decide ((y2.length : Int) < 2))) rfl fun a hf => X.n (wp_ret ?_)
     exact L.ret hf (run_results1 results27 (ResIs.tmp hf rfl)) ⟨(decide ((y2.length : Int) < 2)), rfl, h, hs.nil⟩
    | cons xk4 llk4 =>
     have hltk4 := range_lt hkk4; have hc := range_go hkk4; have hxk4 := range_get hlk4
     obtain ⟨next4, hnext4⟩ : ∃ X : List Int → Prop, X = (fun l4 => forIn' (fun k x (s : List Int) next => M_route_together_L4 k x s (fun l4 => next l4)) (fun (s : List Int) => (fun (l4 : List Int) => M_union_Sets (⟨l4⟩ : NetlistUnion) fun y2 z1 => Q (decide ((y2.length : Int) < 2))) s) llk4 (k4 + 1) l4) := ⟨_, rfl⟩
     replace h : M_route_together_L4 k4 xk4 l4 next4 := by rw [hnext4]; exact h
     unfold M_route_together_L4 at h
     refine X.l (S.v hf hs (.bool true) rfl (V.cmp true rfl rfl rfl rfl hc) fun a hf => X.n (wp_seq (C.yes hf rfl (wp_skip (X.then_ (wp_seq (wp_block (X.l (S.v hf hs (elemPtr l2A (k4 * 2)) rfl (V.index rfl rfl rfl runUnderlying103 sizeOf104 (hs.ownSome 2 rfl (lt_of_get hxk4)) (Int.natCast_nonneg _) (lt_of_get hxk4) rfl) fun a hf => S.v hf hs (.agg #[iv xk4.e0, iv xk4.e1]) rfl (V.loadOwn (off := 0) 2 rfl hxk4 rfl rfl rfl isAgg104 sizeOf104 rfl rfl) fun a hf => S.alloc hf hs rfl rfl rfl [iv 0, iv 0] rfl zeroValue104 rfl (fun g3 a w hf hs => S.storeBox 0 hf hs rfl rfl [iv xk4.e0, iv xk4.e1] [iv xk4.e0, iv xk4.e1] rfl rfl rfl rfl rfl sizeOf104 rfl rfl rfl rfl (fun a w hf hs => X.n (R.list (S.q hf hs ((pn y1g 0)) rfl fun a hf => S.v hf hs ((pn g3 0)) rfl (V.indexArr (z := 0) rfl rfl rfl runUnderlying104 sizeOf3 (by decide) (by decide)) fun a hf => ?_)))))))))))))
     refine S.v hf hs (iv xk4.e0) rfl (V.loadBox 0 rfl rfl rfl isAgg3 sizeOf3 rfl rfl) fun a hf => S.v hf hs ((pn g3 1)) rfl (V.indexArr (z := 1) rfl rfl rfl runUnderlying104 sizeOf3 (by decide) (by decide)) fun a hf => S.v hf hs (iv xk4.e1) rfl (V.loadBox 0 rfl rfl rfl isAgg3 sizeOf3 rfl rfl) fun a hf => ?_
     replace hs := hs.front 2 rfl
     replace hs := hs.front 2 rfl
     obtain ⟨F1, hsF, hback, hold, hrest⟩ := Sat.callOwns [hbox y1g 134 [.slice l4A l4.length l4C], hown 3 l4A l4C l4] (σ := [hbox g3 104 [iv xk4.e0, iv xk4.e1], hown 104 l2A l2C l2]) hs
     refine S.call hf rfl rfl rfl (call_fn (vs := [(pn y1g 0), iv xk4.e0, iv xk4.e1]) rfl rfl rfl call71) (R_union_Join (⟨l4⟩ : NetlistUnion) xk4.e0 xk4.e1 _ _ y1g l4A l4C hsF _ h) (fun v a w' hf hr => ?_)
     obtain ⟨z2, z2_upA, z2_upC, rfl, h2, hs2⟩ := hr
     replace h := h2; replace hs := hback _ _ hs2; clear h2 hs2 hback hold hrest hsF
     refine R.nil (X.blk (X.then_ (R.list (S.v hf hs (iv ((k4 + 1 : Nat) : Int)) rfl (V.incr rfl rfl rfl hltk4 hlenk4) fun a hf => S.q hf hs (iv ((k4 + 1 : Nat) : Int)) rfl fun a hf => X.n ?_))))
     replace hs := hs.front 3 rfl
     replace hs := hs.front 2 rfl
     replace hs := hs.front 2 rfl
     replace hs := hs.take 3
     exact ⟨xk4, llk4, rfl, k4 + 1, z2.up, z2_upA, z2_upC, range_drop hlk4, range_len hkk4, (by rw [hnext4] at h; exact h), ((((hf.nil.cons (hf.get 61 _ rfl)).cons (hf.get 60 _ rfl)).cons (hf.get 15 _ rfl)).cons (hf.get 62 _ rfl)), hs⟩
  | cons xk2 llk2 =>
   have hltk2 := range_lt hkk2; have hc := range_go hkk2; have hxk2 := range_get hlk2
   obtain ⟨next2, hnext2⟩ : ∃ X : List (Cell × Int) → List Arr2 → Prop, X = (fun m4 l2 => forIn' (fun k x (s : List (Cell × Int) × List Arr2) next => M_route_together_L2 k x s.1 s.2 (fun m4 l2 => next (m4, l2))) (fun (s : List (Cell × Int) × List Arr2) => (fun (m4 : List (Cell × Int)) (l2 : List Arr2) => M_NewUnion (m4.length : Int) fun y1o => optq y1o (lp (fun again (s : Unit) => M_route_together_L3 l2 (again ())) ()) (fun y1 => forIn' (fun k x (s : List Int) next => M_route_together_L4 k x s (fun l4 => next l4)) (fun (s : List Int) => (fun (l4 : List Int) => M_union_Sets (⟨l4⟩ : NetlistUnion) fun y2 z1 => Q (decide ((y2.length : Int) < 2))) s) l2 0 y1)) s.1 s.2) llk2 (k2 + 1) (m4, l2)) := ⟨_, rfl⟩
   replace h : M_route_together_L2 k2 xk2 m4 l2 next2 := by rw [hnext2]; exact h
   unfold M_route_together_L2 at h
   refine X.l (S.v hf hs (.bool true) rfl (V.cmp true rfl rfl rfl rfl hc) fun a hf => X.n (wp_seq (C.yes hf rfl (wp_skip (X.then_ (wp_seq (wp_block (X.l ?_))))))))
   obtain ⟨cs1, he1, hr1⟩ := hv_ways.at_ _ _ hxk2
   obtain ⟨u1A, u1C, rfl, hvu1⟩ := hr1
   refine S.v hf hs (elemPtr waysA (k2 * 1)) rfl (V.index rfl rfl rfl runUnderlying45 sizeOf22 (hv_ways.some_ (lt_of_get hxk2)) (Int.natCast_nonneg _) (lt_of_get hxk2) rfl) fun a hf => S.v hf hs (.slice u1A xk2.length u1C) rfl (V.loadEl (off := 0) (Ag.args _ _ _) he1 rfl rfl rfl isAgg22 sizeOf22 rfl rfl) fun a hf => S.q hf hs (.slice u1A xk2.length u1C) rfl fun a hf => X.n (X.l (S.q hf hs (.func (.func 69) #[] #[(pn g2 0)]) rfl fun a hf => S.q hf hs (.slice u1A xk2.length u1C) rfl fun a hf => ?_))
   obtain ⟨h0x1, x1, hx1, h⟩ := h
   refine S.v hf hs (elemPtr u1A (0 * 3)) rfl (V.index rfl rfl rfl runUnderlying22 sizeOf55 (hvu1.some_ (lt_of_get hx1)) h0x1 (lt_of_get hx1) rfl) fun a hf => S.v hf hs (.agg #[iv x1.X, iv x1.Y, iv x1.Layer]) rfl (V.loadEl (off := 0) (Ag.args _ _ _) (hvu1.flat hx1) rfl rfl rfl isAgg55 sizeOf55 rfl rfl) fun a hf => ?_
   replace hs := hs.front 1 rfl
   obtain ⟨F1, hsF, hback, hold, hrest⟩ := Sat.callOwns [hmap g1 ek55 ek3 m4] (σ := [hbox g2 51 [.map (some g1)], hown 104 l2A l2C l2]) hs
   refine S.call hf rfl rfl rfl (call_run (args := #[.agg #[iv x1.X, iv x1.Y, iv x1.Layer], (pn g2 0)]) rfl rfl rfl call69 (by simp)) (R_together1 x1 m4 _ _ g1 g2 (boxAtF hrest 0 rfl) hsF _ h) (fun v a w' hf hr => ?_)
   obtain ⟨y3, z3, rfl, h2, hs2⟩ := hr
   replace h := h2; replace hs := hback _ _ hs2; clear h2 hs2 hback hold hrest hsF
   refine S.q hf hs (iv y3) rfl fun a hf => X.n (X.l (S.q hf hs (.slice u1A xk2.length u1C) rfl fun a hf => S.v hf hs (iv (xk2.length : Int)) rfl (V.len rfl rfl runUnderlying22) fun a hf => S.q hf hs (iv 0) rfl fun a hf => X.n (wp_block ?_)))
   replace hs := hs.front 2 rfl
   replace hs := hs.front 1 rfl
   replace hs := hs.front 2 rfl
   have hlenk5 := hvu1.len64
   refine C.range (fun (ll : List Cell) a w => ∃ (k5 : Nat) (m6 : List (Cell × Int)) (l6 : List Arr2) (l6A : Option Addr) (l6C : Nat), xk2.drop k5 = ll ∧ k5 + ll.length = xk2.length ∧ forIn' (fun k x (s : List (Cell × Int) × List Arr2) next => M_route_together_L5 y3 k x s.1 s.2 (fun m6 l6 => next (m6, l6))) (fun (s : List (Cell × Int) × List Arr2) => (fun (m6 : List (Cell × Int)) (l6 : List Arr2) => next2 m6 l6) s.1 s.2) ll k5 (m6, l6) ∧ FrOk 77 [(43, iv (k5 : Int)), (5, (pn g2 0)), (6, .func (.func 69) #[] #[(pn g2 0)]), (7, .slice l6A l6.length l6C), (12, iv y3), (30, .slice waysA ways.length waysC), (31, iv (ways.length : Int)), (32, iv (k2 : Int)), (41, .slice u1A xk2.length u1C), (42, iv (xk2.length : Int))] a ∧ Sat w0 none_ [hbox g2 51 [.map (some g1)], hmap g1 ek55 ek3 m6, hown 104 l6A l6C l6] w) xk2 ⟨0, z3, l2, l2A, l2C, rfl, Nat.zero_add _, h, ((((((((((hf.nil.cons (hf.get 42 _ rfl)).cons (hf.get 41 _ rfl)).cons (hf.get 32 _ rfl)).cons (hf.get 31 _ rfl)).cons (hf.get 30 _ rfl)).cons (hf.get 12 _ rfl)).cons (hf.get 7 _ rfl)).cons (hf.get 6 _ rfl)).cons (hf.get 5 _ rfl)).cons (hf.get 43 _ rfl)), hs⟩ ?_
   clear h hf hs
   rintro llk5 a w ⟨k5, m6, l6, l6A, l6C, hlk5, hkk5, h, hf, hs⟩
   cases llk5 with
   | nil =>
    have hc := range_done hkk5
    replace h : (fun (m6 : List (Cell × Int)) (l6 : List Arr2) => next2 m6 l6) m6 l6 := h
    refine X.l (S.v hf hs (.bool false) rfl (V.cmp false rfl rfl rfl rfl hc) fun a hf => X.n (wp_seq (C.no hf rfl (wp_exit (X.then_exit (X.then_exit (X.blk_exit (X.blk (X.then_ (R.list (S.v hf hs (iv ((k2 + 1 : Nat) : Int)) rfl (V.incr rfl rfl rfl hltk2 hlenk2) fun a hf => S.q hf hs (iv ((k2 + 1 : Nat) : Int)) rfl fun a hf => X.n ?_)))))))))))
    exact ⟨xk2, llk2, rfl, k2 + 1, m6, l6, l6A, l6C, range_drop hlk2, range_len hkk2, (by rw [hnext2] at h; exact h), ((((((hf.nil.cons (hf.get 31 _ rfl)).cons (hf.get 30 _ rfl)).cons (hf.get 7 _ rfl)).cons (hf.get 6 _ rfl)).cons (hf.get 5 _ rfl)).cons (hf.get 32 _ rfl)), hs⟩
   | cons xk5 llk5 =>
    have hltk5 := range_lt hkk5; have hc := range_go hkk5; have hxk5 := range_get hlk5
    obtain ⟨next5, hnext5⟩ : ∃ X : List (Cell × Int) → List Arr2 → Prop, X = (fun m6 l6 => forIn' (fun k x (s : List (Cell × Int) × List Arr2) next => M_route_together_L5 y3 k x s.1 s.2 (fun m6 l6 => next (m6, l6))) (fun (s : List (Cell × Int) × List Arr2) => (fun (m6 : List (Cell × Int)) (l6 : List Arr2) => next2 m6 l6) s.1 s.2) llk5 (k5 + 1) (m6, l6)) := ⟨_, rfl⟩
    replace h : M_route_together_L5 y3 k5 xk5 m6 l6 next5 := by rw [hnext5]; exact h
    unfold M_route_together_L5 at h
    refine X.l (S.v hf hs (.bool true) rfl (V.cmp true rfl rfl rfl rfl hc) fun a hf => X.n (wp_seq (C.yes hf rfl (wp_skip (X.then_ (wp_seq (wp_block (X.l (S.v hf hs (elemPtr u1A (k5 * 3)) rfl (V.index rfl rfl rfl runUnderlying22 sizeOf55 (hvu1.some_ (lt_of_get hxk5)) (Int.natCast_nonneg _) (lt_of_get hxk5) rfl) fun a hf => S.v hf hs (.agg #[iv xk5.X, iv xk5.Y, iv xk5.Layer]) rfl (V.loadEl (off := 0) (Ag.args _ _ _) (hvu1.flat hxk5) rfl rfl rfl isAgg55 sizeOf55 rfl rfl) fun a hf => S.alloc hf hs rfl rfl rfl [iv 0, iv 0, iv 0] rfl zeroValue55 rfl (fun g4 a w hf hs => S.storeBox 0 hf hs rfl rfl [iv xk5.X, iv xk5.Y, iv xk5.Layer] [iv xk5.X, iv xk5.Y, iv xk5.Layer] rfl rfl rfl rfl rfl sizeOf55 rfl rfl rfl rfl (fun a w hf hs => X.n (R.list (S.q hf hs (.slice l6A l6.length l6C) rfl fun a hf => S.q hf hs (iv y3) rfl fun a hf => ?_)))))))))))))
    refine S.q hf hs (.func (.func 69) #[] #[(pn g2 0)]) rfl fun a hf => S.v hf hs (.agg #[iv xk5.X, iv xk5.Y, iv xk5.Layer]) rfl (V.loadBox 0 rfl rfl rfl isAgg55 sizeOf55 rfl rfl) fun a hf => ?_
    replace hs := hs.front 2 rfl
    obtain ⟨F1, hsF, hback, hold, hrest⟩ := Sat.callOwns [hmap g1 ek55 ek3 m6] (σ := [hbox g4 55 [iv xk5.X, iv xk5.Y, iv xk5.Layer], hbox g2 51 [.map (some g1)], hown 104 l6A l6C l6]) hs
    refine S.call hf rfl rfl rfl (call_run (args := #[.agg #[iv xk5.X, iv xk5.Y, iv xk5.Layer], (pn g2 0)]) rfl rfl rfl call69 (by simp)) (R_together1 xk5 m6 _ _ g1 g2 (boxAtF hrest 1 rfl) hsF _ h) (fun v a w' hf hr => ?_)
    obtain ⟨y4, z4, rfl, h2, hs2⟩ := hr
    replace h := h2; replace hs := hback _ _ hs2; clear h2 hs2 hback hold hrest hsF
    refine S.v hf hs (.agg #[iv y3, iv y4]) rfl (V.buildArr rfl zeroValue104 runUnderlying104 sizeOf3 rfl (by kernel_rfl)) fun a hf => S.build1 hf hs rfl rfl rfl (α := Arr2) (⟨y3, y4⟩ : Arr2) rfl rfl rfl runUnderlying103 sizeOf104 zeroValue104 rfl (by decide) (fun A1 a w hf hs => ?_)
    obtain ⟨hroom, h⟩ := h
    refine S.appendCells 4 hf hs rfl rfl rfl rfl rfl rfl rfl underlying103 info104 rfl hroom ((hs.ownView 0 rfl).some_ (i := 0) (by simp)) (hs.ownView 0 rfl) (fun A2 C1 a w hf hs => ?_)
    replace hs := hs.drop
    refine S.q hf hs (.slice A2 (l6 ++ [(⟨y3, y4⟩ : Arr2)]).length C1) rfl fun a hf => R.nil (X.blk (X.then_ (R.list (S.v hf hs (iv ((k5 + 1 : Nat) : Int)) rfl (V.incr rfl rfl rfl hltk5 hlenk5) fun a hf => S.q hf hs (iv ((k5 + 1 : Nat) : Int)) rfl fun a hf => X.n ?_))))
    replace hs := hs.front 3 rfl
    replace hs := hs.front 1 rfl
    replace hs := hs.front 3 rfl
    replace hs := hs.take 3
    exact ⟨xk5, llk5, rfl, k5 + 1, z4, (l6 ++ [(⟨y3, y4⟩ : Arr2)]), A2, C1, range_drop hlk5, range_len hkk5, (by rw [hnext5] at h; exact h), ((((((((((hf.nil.cons (hf.get 42 _ rfl)).cons (hf.get 41 _ rfl)).cons (hf.get 32 _ rfl)).cons (hf.get 31 _ rfl)).cons (hf.get 30 _ rfl)).cons (hf.get 12 _ rfl)).cons (hf.get 7 _ rfl)).cons (hf.get 6 _ rfl)).cons (hf.get 5 _ rfl)).cons (hf.get 43 _ rfl)), hs⟩
 | cons xk1 llk1 =>
  have hltk1 := range_lt hkk1; have hc := range_go hkk1; have hxk1 := range_get hlk1
  obtain ⟨next1, hnext1⟩ : ∃ X : List (Cell × Int) → Prop, X = (fun m2 => forIn' (fun k x (s : List (Cell × Int)) next => M_route_together_L1 k x s (fun m2 => next m2)) (fun (s : List (Cell × Int)) => (fun (m2 : List (Cell × Int)) => forIn' (fun k x (s : List (Cell × Int) × List Arr2) next => M_route_together_L2 k x s.1 s.2 (fun m4 l2 => next (m4, l2))) (fun (s : List (Cell × Int) × List Arr2) => (fun (m4 : List (Cell × Int)) (l2 : List Arr2) => M_NewUnion (m4.length : Int) fun y1o => optq y1o (lp (fun again (s : Unit) => M_route_together_L3 l2 (again ())) ()) (fun y1 => forIn' (fun k x (s : List Int) next => M_route_together_L4 k x s (fun l4 => next l4)) (fun (s : List Int) => (fun (l4 : List Int) => M_union_Sets (⟨l4⟩ : NetlistUnion) fun y2 z1 => Q (decide ((y2.length : Int) < 2))) s) l2 0 y1)) s.1 s.2) ways 0 (m2, ([] : List Arr2))) s) llk1 (k1 + 1) m2) := ⟨_, rfl⟩
  replace h : M_route_together_L1 k1 xk1 m2 next1 := by rw [hnext1]; exact h
  unfold M_route_together_L1 at h
  refine X.l (S.v hf hs (.bool true) rfl (V.cmp true rfl rfl rfl rfl hc) fun a hf => X.n (wp_seq (C.yes hf rfl (wp_skip (X.then_ (wp_seq (wp_block (X.l (S.v hf hs (elemPtr pinsA (k1 * 3)) rfl (V.index rfl rfl rfl runUnderlying22 sizeOf55 (hv_pins.some_ (lt_of_get hxk1)) (Int.natCast_nonneg _) (lt_of_get hxk1) rfl) fun a hf => S.v hf hs (.agg #[iv xk1.X, iv xk1.Y, iv xk1.Layer]) rfl (V.loadEl (off := 0) (Ag.args _ _ _) (hv_pins.flat hxk1) rfl rfl rfl isAgg55 sizeOf55 rfl rfl) fun a hf => S.alloc hf hs rfl rfl rfl [iv 0, iv 0, iv 0] rfl zeroValue55 rfl (fun g5 a w hf hs => S.storeBox 0 hf hs rfl rfl [iv xk1.X, iv xk1.Y, iv xk1.Layer] [iv xk1.X, iv xk1.Y, iv xk1.Layer] rfl rfl rfl rfl rfl sizeOf55 rfl rfl rfl rfl (fun a w hf hs => X.n (R.list (S.q hf hs (.func (.func 69) #[] #[(pn g2 0)]) rfl fun a hf => S.v hf hs (.agg #[iv xk1.X, iv xk1.Y, iv xk1.Layer]) rfl (V.loadBox 0 rfl rfl rfl isAgg55 sizeOf55 rfl rfl) fun a hf => ?_)))))))))))))
  replace hs := hs.front 2 rfl
  obtain ⟨F1, hsF, hback, hold, hrest⟩ := Sat.callOwns [hmap g1 ek55 ek3 m2] (σ := [hbox g5 55 [iv xk1.X, iv xk1.Y, iv xk1.Layer], hbox g2 51 [.map (some g1)]]) hs
  refine S.call hf rfl rfl rfl (call_run (args := #[.agg #[iv xk1.X, iv xk1.Y, iv xk1.Layer], (pn g2 0)]) rfl rfl rfl call69 (by simp)) (R_together1 xk1 m2 _ _ g1 g2 (boxAtF hrest 1 rfl) hsF _ h) (fun v a w' hf hr => ?_)
  obtain ⟨y5, z5, rfl, h2, hs2⟩ := hr
  replace h := h2; replace hs := hback _ _ hs2; clear h2 hs2 hback hold hrest hsF
  refine R.nil (X.blk (X.then_ (R.list (S.v hf hs (iv ((k1 + 1 : Nat) : Int)) rfl (V.incr rfl rfl rfl hltk1 hlenk1) fun a hf => S.q hf hs (iv ((k1 + 1 : Nat) : Int)) rfl fun a hf => X.n ?_))))
  replace hs := hs.front 2 rfl
  replace hs := hs.take 2
  exact ⟨xk1, llk1, rfl, k1 + 1, z5, range_drop hlk1, range_len hkk1, (by rw [hnext1] at h; exact h), (((((((hf.nil.cons (hf.get 21 _ rfl)).cons (hf.get 20 _ rfl)).cons (hf.get 7 _ rfl)).cons (hf.get 6 _ rfl)).cons (hf.get 5 _ rfl)).cons (hf.get 1 _ rfl)).cons (hf.get 22 _ rfl)), hs⟩
def M_route_CheckRouted_L5  (k6 : Nat) (xk6 : Cell) (m6 : List (Cell × Bool)) (next5 : List (Cell × Bool) → Prop) : Prop :=
  next5 (mput m6 xk6 true)
def M_route_CheckRouted_k7 (Q : Int → Prop) (next4 : Prop) (c2 : Bool) : Prop :=
  cnd c2 (Q 12) (next4)
def M_route_CheckRouted_L4 (Q : Int → Prop) (m2 : List (Cell × Int)) (m4 : List (Cell × Bool)) (y3 : Int) (k5 : Nat) (xk5 : Cell)  (next4 : Prop) : Prop :=
  cnd ((mget m4 xk5).getD false) (M_route_CheckRouted_k7 Q next4 true) (cnd ((mget m2 xk5).isSome) (M_route_CheckRouted_k7 Q next4 (((mget m2 xk5).getD 0) != y3)) (M_route_CheckRouted_k7 Q next4 false))
def M_route_CheckRouted_L3 (g : Grid) (Q : Int → Prop) (y2 : (List Bool)) (k4 : Nat) (xk4 : (List Cell))  (next3 : Prop) : Prop :=
  M_route_checkWay g y2 xk4 fun y6 => cnd (y6 != 0) (Q y6) (next3)
def M_route_CheckRouted_k3 (g : Grid) (t : (List Task)) (Q : Int → Prop) (y2 : (List Bool)) (m2 : List (Cell × Int)) (xk2 : Routed) (m4 : List (Cell × Bool)) (next2 : List (Cell × Bool) → Prop) (y3 : Int) (c1 : Bool) : Prop :=
  cnd c1 (Q 8) (cnd (decide ((xk2.Ways.length : Int) > 50)) (Q 2) (forIn' (fun k x (s : Unit) next => M_route_CheckRouted_L3 g Q y2 k x (next ())) (fun (s : Unit) => idx t y3 fun x1 => must (room ([x1.Pins] ++ xk2.Ways).length 24) (M_concat_cell ([x1.Pins] ++ xk2.Ways) fun y4 => forIn' (fun k x (s : Unit) next => M_route_CheckRouted_L4 Q m2 m4 y3 k x (next ())) (fun (s : Unit) => forIn' (fun k x (s : List (Cell × Bool)) next => M_route_CheckRouted_L5 k x s (fun m6 => next m6)) (fun (s : List (Cell × Bool)) => (fun (m6 : List (Cell × Bool)) => M_route_together x1.Pins xk2.Ways fun y5 => cnd (!y5) (Q 3) (next2 m6)) s) y4 0 m4) y4 0 ())) xk2.Ways 0 ()))
def M_route_CheckRouted_L2 (g : Grid) (t : (List Task)) (r : (List Routed)) (Q : Int → Prop) (y2 : (List Bool)) (m2 : List (Cell × Int)) (k2 : Nat) (xk2 : Routed) (m4 : List (Cell × Bool)) (next2 : List (Cell × Bool) → Prop) : Prop :=
  M_route_taskAt t xk2.Net fun y3 => cnd (decide (y3 < 0)) (Q 9) (cnd (decide ((k2 : Int) > 0)) (idx r (w64 ((k2 : Int) - 1)) fun x2 => M_route_CheckRouted_k3 g t Q y2 m2 xk2 m4 next2 y3 (strLt xk2.Net x2.Net || xk2.Net == x2.Net)) (M_route_CheckRouted_k3 g t Q y2 m2 xk2 m4 next2 y3 false))
def M_route_CheckRouted_L6 (k1 : Nat) (k8 : Nat) (xk8 : Cell) (m8 : List (Cell × Int)) (next6 : List (Cell × Int) → Prop) : Prop :=
  next6 (mput m8 xk8 (k1 : Int))
def M_route_CheckRouted_L1  (k1 : Nat) (xk1 : Task) (m2 : List (Cell × Int)) (next1 : List (Cell × Int) → Prop) : Prop :=
  forIn' (fun k x (s : List (Cell × Int)) next => M_route_CheckRouted_L6 k1 k x s (fun m8 => next m8)) (fun (s : List (Cell × Int)) => (fun (m8 : List (Cell × Int)) => next1 m8) s) xk1.Pins 0 m2
def M_route_CheckRouted (g : Grid) (t : (List Task)) (r : (List Routed)) (Q : Int → Prop) : Prop :=
  M_route_CheckTasks g t fun y1 => cnd (y1 != 0) (Q y1) (cnd (decide ((r.length : Int) > 100)) (Q 2) (M_route_blocked g fun y2 => forIn' (fun k x (s : List (Cell × Int)) next => M_route_CheckRouted_L1 k x s (fun m2 => next m2)) (fun (s : List (Cell × Int)) => (fun (m2 : List (Cell × Int)) => forIn' (fun k x (s : List (Cell × Bool)) next => M_route_CheckRouted_L2 g t r Q y2 m2 k x s (fun m4 => next m4)) (fun (s : List (Cell × Bool)) => (fun (m4 : List (Cell × Bool)) => Q 0) s) r 0 ([] : List (Cell × Bool))) s) t 0 ([] : List (Cell × Int))))
theorem R_route_CheckRouted (g : Grid) (t : (List Task)) (r : (List Routed)) (w0 : World) (g_BlockedA : Option Addr) (g_BlockedC : Nat) (hv_g_Blocked : View w0 (old w0 none_) g_BlockedA g_BlockedC g.Blocked) (tA : Option Addr) (tC : Nat) (hv_t : View w0 (old w0 none_) tA tC t) (rA : Option Addr) (rC : Nat) (hv_r : View w0 (old w0 none_) rA rC r) (Q : Int → Prop) (h : M_route_CheckRouted g t r Q) :
  Ret Tryz.prog 8 #[.agg #[iv g.W, iv g.H, iv g.Layers, .slice g_BlockedA g.Blocked.length g_BlockedC], .slice tA t.length tC, .slice rA r.length rC] w0 fun v w' => ∃ (r0 : Int), v = iv r0 ∧ Q r0 ∧ Sat w0 none_ [] w' := by
 refine fn_enter func8 rfl ntmps8 rfl (fs := [(0, .agg #[iv g.W, iv g.H, iv g.Layers, .slice g_BlockedA g.Blocked.length g_BlockedC]), (1, .slice tA t.length tC), (2, .slice rA r.length rC)]) rfl (fun a hf => ?_)
 have hs := Sat.start w0 none_
 unfold M_route_CheckRouted at h
 refine X.l (S.box hf hs rfl rfl rfl [iv g.W, iv g.H, iv g.Layers, .slice g_BlockedA g.Blocked.length g_BlockedC] rfl rfl rfl (fun g1 a w hf hs => S.q hf hs (iv 0) rfl fun a hf => X.n (wp_seq (X.l (S.v hf hs (.agg #[iv g.W, iv g.H, iv g.Layers, .slice g_BlockedA g.Blocked.length g_BlockedC]) rfl (V.loadBox 0 rfl rfl rfl isAgg24 sizeOf24 rfl rfl) fun a hf => S.q hf hs (.slice tA t.length tC) rfl fun a hf => S.call hf rfl rfl rfl (call_fn (vs := [.agg #[iv g.W, iv g.H, iv g.Layers, .slice g_BlockedA g.Blocked.length g_BlockedC], .slice tA t.length tC]) rfl rfl rfl call16) (R_route_CheckTasks g t _ g_BlockedA g_BlockedC ((Ag.args _ _ _).view hv_g_Blocked hs) tA tC ((Ag.args _ _ _).view hv_t hs) _ h) (fun v a w' hf hr => ?_))))))
 obtain ⟨y1, rfl, h2, hs2⟩ := hr
 replace h := h2; replace hs := hs.call hs2; clear h2 hs2
 refine S.q hf hs (iv y1) rfl fun a hf => X.n (X.l (S.q hf hs (iv y1) rfl fun a hf => S.q hf hs (.bool (y1 != 0)) rfl fun a hf => X.n ?_))
 refine C.cond hf (b := y1 != 0) rfl (fun hc => ?_) (fun hc => ?_)
 ·replace h := h.1 hc
  refine X.l (S.q hf hs (iv y1) rfl fun a hf => S.q hf hs (iv y1) rfl fun a hf => X.n (wp_ret (X.then_ret ?_)))
  exact L.ret hf (run_results1 results8 (ResIs.tmp hf rfl)) ⟨y1, rfl, h, hs.nil⟩
 ·replace h := h.2 hc
  refine wp_skip (X.then_ (wp_seq (X.l (S.q hf hs (.slice rA r.length rC) rfl fun a hf => S.v hf hs (iv (r.length : Int)) rfl (V.len rfl rfl runUnderlying28) fun a hf => S.q hf hs (.bool (decide ((r.length : Int) > 100))) rfl fun a hf => X.n ?_))))
  refine C.cond hf (b := decide ((r.length : Int) > 100)) rfl (fun hc => ?_) (fun hc => ?_)
  ·replace h := h.1 hc
   refine X.l (S.q hf hs (iv 2) rfl fun a hf => X.n (wp_ret (X.then_ret ?_)))
   exact L.ret hf (run_results1 results8 (ResIs.tmp hf rfl)) ⟨2, rfl, h, hs.nil⟩
  ·replace h := h.2 hc
   refine wp_skip (X.then_ (X.l (S.v hf hs (.agg #[iv g.W, iv g.H, iv g.Layers, .slice g_BlockedA g.Blocked.length g_BlockedC]) rfl (V.loadBox 0 rfl rfl rfl isAgg24 sizeOf24 rfl rfl) fun a hf => S.call hf rfl rfl rfl (call_fn (vs := [.agg #[iv g.W, iv g.H, iv g.Layers, .slice g_BlockedA g.Blocked.length g_BlockedC]]) rfl rfl rfl call23) (R_route_blocked g _ g_BlockedA g_BlockedC ((Ag.args _ _ _).view hv_g_Blocked hs) _ h) (fun v a w' hf hr => ?_))))
   obtain ⟨y2, y2A, y2C, rfl, h2, hs2⟩ := hr
   replace h := h2; replace hs := hs.call hs2; clear h2 hs2
   refine S.q hf hs (.slice y2A y2.length y2C) rfl fun a hf => X.n (X.l (S.makeMap hf hs rfl rfl rfl ek55 ek3 rfl (fun g2 a w hf hs => S.q hf hs (.map (some g2)) rfl fun a hf => X.n (wp_seq (X.l (S.q hf hs (.slice tA t.length tC) rfl fun a hf => S.v hf hs (iv (t.length : Int)) rfl (V.len rfl rfl runUnderlying27) fun a hf => S.q hf hs (iv 0) rfl fun a hf => X.n (wp_block ?_)))))))
   have hlenk1 := hv_t.len64
   refine C.range (fun (ll : List Task) a w => ∃ (k1 : Nat) (m2 : List (Cell × Int)), t.drop k1 = ll ∧ k1 + ll.length = t.length ∧ forIn' (fun k x (s : List (Cell × Int)) next => M_route_CheckRouted_L1 k x s (fun m2 => next m2)) (fun (s : List (Cell × Int)) => (fun (m2 : List (Cell × Int)) => forIn' (fun k x (s : List (Cell × Bool)) next => M_route_CheckRouted_L2 g t r Q y2 m2 k x s (fun m4 => next m4)) (fun (s : List (Cell × Bool)) => (fun (m4 : List (Cell × Bool)) => Q 0) s) r 0 ([] : List (Cell × Bool))) s) ll k1 m2 ∧ FrOk 161 [(42, iv (k1 : Int)), (1, .slice tA t.length tC), (2, .slice rA r.length rC), (3, (pn g1 0)), (8, .slice y2A y2.length y2C), (9, .map (some g2)), (40, .slice tA t.length tC), (41, iv (t.length : Int))] a ∧ Sat w0 none_ [hmap g2 ek55 ek3 m2, hown 4 y2A y2C y2, hbox g1 24 [iv g.W, iv g.H, iv g.Layers, .slice g_BlockedA g.Blocked.length g_BlockedC]] w) t ⟨0, ([] : List (Cell × Int)), rfl, Nat.zero_add _, h, ((((((((hf.nil.cons (hf.get 41 _ rfl)).cons (hf.get 40 _ rfl)).cons (hf.get 9 _ rfl)).cons (hf.get 8 _ rfl)).cons (hf.get 3 _ rfl)).cons (hf.get 2 _ rfl)).cons (hf.get 1 _ rfl)).cons (hf.get 42 _ rfl)), hs⟩ ?_
   clear h hf hs
   rintro llk1 a w ⟨k1, m2, hlk1, hkk1, h, hf, hs⟩
   cases llk1 with
   | nil =>
    have hc := range_done hkk1
    replace h : (fun (m2 : List (Cell × Int)) => forIn' (fun k x (s : List (Cell × Bool)) next => M_route_CheckRouted_L2 g t r Q y2 m2 k x s (fun m4 => next m4)) (fun (s : List (Cell × Bool)) => (fun (m4 : List (Cell × Bool)) => Q 0) s) r 0 ([] : List (Cell × Bool))) m2 := h
    refine X.l (S.v hf hs (.bool false) rfl (V.cmp false rfl rfl rfl rfl hc) fun a hf => X.n (wp_seq (C.no hf rfl (wp_exit (X.then_exit (X.then_exit (X.blk_exit (X.then_ (X.l (S.makeMap hf hs rfl rfl rfl ek55 ek4 rfl (fun g3 a w hf hs => S.q hf hs (.map (some g3)) rfl fun a hf => X.n (wp_seq (X.l (S.q hf hs (.slice rA r.length rC) rfl fun a hf => S.v hf hs (iv (r.length : Int)) rfl (V.len rfl rfl runUnderlying28) fun a hf => S.q hf hs (iv 0) rfl fun a hf => X.n (wp_block ?_)))))))))))))))
    have hlenk2 := hv_r.len64
    refine C.range (fun (ll : List Routed) a w => ∃ (k2 : Nat) (m4 : List (Cell × Bool)), r.drop k2 = ll ∧ k2 + ll.length = r.length ∧ forIn' (fun k x (s : List (Cell × Bool)) next => M_route_CheckRouted_L2 g t r Q y2 m2 k x s (fun m4 => next m4)) (fun (s : List (Cell × Bool)) => (fun (m4 : List (Cell × Bool)) => Q 0) s) ll k2 m4 ∧ FrOk 161 [(62, iv (k2 : Int)), (1, .slice tA t.length tC), (2, .slice rA r.length rC), (3, (pn g1 0)), (8, .slice y2A y2.length y2C), (9, .map (some g2)), (14, .map (some g3)), (60, .slice rA r.length rC), (61, iv (r.length : Int))] a ∧ Sat w0 none_ [hmap g3 ek55 ek4 m4, hmap g2 ek55 ek3 m2, hown 4 y2A y2C y2, hbox g1 24 [iv g.W, iv g.H, iv g.Layers, .slice g_BlockedA g.Blocked.length g_BlockedC]] w) r ⟨0, ([] : List (Cell × Bool)), rfl, Nat.zero_add _, h, (((((((((hf.nil.cons (hf.get 61 _ rfl)).cons (hf.get 60 _ rfl)).cons (hf.get 14 _ rfl)).cons (hf.get 9 _ rfl)).cons (hf.get 8 _ rfl)).cons (hf.get 3 _ rfl)).cons (hf.get 2 _ rfl)).cons (hf.get 1 _ rfl)).cons (hf.get 62 _ rfl)), hs⟩ ?_
    clear h hf hs
    rintro llk2 a w ⟨k2, m4, hlk2, hkk2, h, hf, hs⟩
    cases llk2 with
    | nil =>
     have hc := range_done hkk2
     replace h : (fun (m4 : List (Cell × Bool)) => Q 0) m4 := h
     refine X.l (S.v hf hs (.bool false) rfl (V.cmp false rfl rfl rfl rfl hc) fun a hf => X.n (wp_seq (C.no hf rfl (wp_exit (X.then_exit (X.then_exit (X.blk_exit (X.then_ (X.l (S.q hf hs (iv 0) rfl fun a hf => X.n (wp_ret ?_)))))))))))
     exact L.ret hf (run_results1 results8 (ResIs.tmp hf rfl)) ⟨0, rfl, h, hs.nil⟩
    | cons xk2 llk2 =>
     have hltk2 := range_lt hkk2; have hc := range_go hkk2; have hxk2 := range_get hlk2
     obtain ⟨next2, hnext2⟩ : ∃ X : List (Cell × Bool) → Prop, X = (fun m4 => forIn' (fun k x (s : List (Cell × Bool)) next => M_route_CheckRouted_L2 g t r Q y2 m2 k x s (fun m4 => next m4)) (fun (s : List (Cell × Bool)) => (fun (m4 : List (Cell × Bool)) => Q 0) s) llk2 (k2 + 1) m4) := ⟨_, rfl⟩
     replace h : M_route_CheckRouted_L2 g t r Q y2 m2 k2 xk2 m4 next2 := by rw [hnext2]; exact h
     unfold M_route_CheckRouted_L2 at h
     refine X.l (S.v hf hs (.bool true) rfl (V.cmp true rfl rfl rfl rfl hc) fun a hf => X.n (wp_seq (C.yes hf rfl (wp_skip (X.then_ (wp_seq (wp_block (X.l (S.q hf hs (iv (k2 : Int)) rfl fun a hf => ?_)))))))))
     obtain ⟨cs1, he1, hr1⟩ := hv_r.at_ _ _ hxk2
     obtain ⟨u1A, u1C, rfl, hvu1⟩ := hr1
     refine S.v hf hs (elemPtr rA (k2 * 2)) rfl (V.index rfl rfl rfl runUnderlying28 sizeOf47 (hv_r.some_ (lt_of_get hxk2)) (Int.natCast_nonneg _) (lt_of_get hxk2) rfl) fun a hf => S.v hf hs (.agg #[.string (ba xk2.Net), .slice u1A xk2.Ways.length u1C]) rfl (V.loadEl (off := 0) (Ag.args _ _ _) he1 rfl rfl rfl isAgg47 sizeOf47 rfl rfl) fun a hf => S.alloc hf hs rfl rfl rfl [.string (ba []), .slice none 0 0] rfl zeroValue47 rfl (fun g4 a w hf hs => S.q hf hs (iv (k2 : Int)) rfl fun a hf => S.storeBox 0 hf hs rfl rfl [.string (ba xk2.Net), .slice u1A xk2.Ways.length u1C] [.string (ba xk2.Net), .slice u1A xk2.Ways.length u1C] rfl rfl rfl rfl rfl sizeOf47 rfl rfl rfl rfl (fun a w hf hs => X.n (X.l (S.q hf hs (.slice tA t.length tC) rfl fun a hf => S.v hf hs ((pn g4 0)) rfl (V.fieldBox rfl rfl runUnderlying47 rfl sizeOf9 rfl rfl) fun a hf => S.v hf hs (.string (ba xk2.Net)) rfl (V.loadBox 0 rfl rfl rfl isAgg9 sizeOf9 rfl rfl) fun a hf => S.call hf rfl rfl rfl (call_fn (vs := [.slice tA t.length tC, .string (ba xk2.Net)]) rfl rfl rfl call24) (R_route_taskAt t xk2.Net _ tA tC ((Ag.args _ _ _).view hv_t hs) _ h) (fun v a w' hf hr => ?_)))))
     obtain ⟨y3, rfl, h2, hs2⟩ := hr
     replace h := h2; replace hs := hs.call hs2; clear h2 hs2
     refine S.q hf hs (iv y3) rfl fun a hf => X.n (wp_seq (wp_block (X.l (S.q hf hs (iv y3) rfl fun a hf => S.q hf hs (.bool (decide (y3 < 0))) rfl fun a hf => S.q hf hs (.bool (decide (y3 < 0))) rfl fun a hf => X.n ?_))))
     refine C.cond hf (b := decide (y3 < 0)) rfl (fun hc => ?_) (fun hc => ?_)
     ·replace h := h.1 hc
      refine X.l (S.q hf hs (iv 9) rfl fun a hf => X.n (wp_ret (X.blk_ret (X.then_ret (X.blk_ret (X.then_ret (X.then_ret (X.blk_ret (X.then_ret ?_)))))))))
      exact L.ret hf (run_results1 results8 (ResIs.tmp hf rfl)) ⟨9, rfl, h, hs.nil⟩
     ·replace h := h.2 hc
      refine wp_seq ?_
      refine C.cut (J := fun a w => ∃ (c1 : Bool), M_route_CheckRouted_k3 g t Q y2 m2 xk2 m4 next2 y3 c1 ∧ FrOk 161 [(1, .slice tA t.length tC), (2, .slice rA r.length rC), (3, (pn g1 0)), (8, .slice y2A y2.length y2C), (9, .map (some g2)), (14, .map (some g3)), (16, (pn g4 0)), (17, iv y3), (60, .slice rA r.length rC), (61, iv (r.length : Int)), (62, iv (k2 : Int)), (74, .bool c1)] a ∧ Sat w0 none_ [hbox g4 47 [.string (ba xk2.Net), .slice u1A xk2.Ways.length u1C], hmap g3 ek55 ek4 m4, hmap g2 ek55 ek3 m2, hown 4 y2A y2C y2, hbox g1 24 [iv g.W, iv g.H, iv g.Layers, .slice g_BlockedA g.Blocked.length g_BlockedC]] w) ?_ ?_
      ·rintro a w ⟨c1, h, hf, hs⟩
       unfold M_route_CheckRouted_k3 at h
       refine C.cond hf (b := c1) rfl (fun hc => ?_) (fun hc => ?_)
       ·replace h := h.1 hc
        refine X.l (S.q hf hs (iv 8) rfl fun a hf => X.n (wp_ret (X.blk_ret (X.then_ret (X.blk_ret (X.then_ret (X.then_ret (X.blk_ret (X.then_ret ?_)))))))))
        exact L.ret hf (run_results1 results8 (ResIs.tmp hf rfl)) ⟨8, rfl, h, hs.nil⟩
       ·replace h := h.2 hc
        refine X.l (S.v hf hs ((pn g4 1)) rfl (V.fieldBox rfl rfl runUnderlying47 rfl sizeOf45 rfl rfl) fun a hf => S.v hf hs (.slice u1A xk2.Ways.length u1C) rfl (V.loadBox 0 rfl rfl rfl isAgg45 sizeOf45 rfl rfl) fun a hf => S.v hf hs (iv (xk2.Ways.length : Int)) rfl (V.len rfl rfl runUnderlying45) fun a hf => S.q hf hs (.bool (decide ((xk2.Ways.length : Int) > 50))) rfl fun a hf => S.q hf hs (.bool (decide ((xk2.Ways.length : Int) > 50))) rfl fun a hf => X.n ?_)
        refine C.cond hf (b := decide ((xk2.Ways.length : Int) > 50)) rfl (fun hc => ?_) (fun hc => ?_)
        ·replace h := h.1 hc
         refine X.l (S.q hf hs (iv 2) rfl fun a hf => X.n (wp_ret (X.blk_ret (X.then_ret (X.blk_ret (X.then_ret (X.then_ret (X.blk_ret (X.then_ret ?_)))))))))
         exact L.ret hf (run_results1 results8 (ResIs.tmp hf rfl)) ⟨2, rfl, h, hs.nil⟩
        ·replace h := h.2 hc
         refine wp_skip (X.blk (X.then_ (wp_seq (X.l (S.v hf hs ((pn g4 1)) rfl (V.fieldBox rfl rfl runUnderlying47 rfl sizeOf45 rfl rfl) fun a hf => S.v hf hs (.slice u1A xk2.Ways.length u1C) rfl (V.loadBox 0 rfl rfl rfl isAgg45 sizeOf45 rfl rfl) fun a hf => S.v hf hs (iv (xk2.Ways.length : Int)) rfl (V.len rfl rfl runUnderlying45) fun a hf => S.q hf hs (iv 0) rfl fun a hf => X.n (wp_block ?_))))))
         have hlenk4 := hvu1.len64
         refine C.range (fun (ll : List (List Cell)) a w => ∃ (k4 : Nat) , xk2.Ways.drop k4 = ll ∧ k4 + ll.length = xk2.Ways.length ∧ forIn' (fun k x (s : Unit) next => M_route_CheckRouted_L3 g Q y2 k x (next ())) (fun (s : Unit) => idx t y3 fun x1 => must (room ([x1.Pins] ++ xk2.Ways).length 24) (M_concat_cell ([x1.Pins] ++ xk2.Ways) fun y4 => forIn' (fun k x (s : Unit) next => M_route_CheckRouted_L4 Q m2 m4 y3 k x (next ())) (fun (s : Unit) => forIn' (fun k x (s : List (Cell × Bool)) next => M_route_CheckRouted_L5 k x s (fun m6 => next m6)) (fun (s : List (Cell × Bool)) => (fun (m6 : List (Cell × Bool)) => M_route_together x1.Pins xk2.Ways fun y5 => cnd (!y5) (Q 3) (next2 m6)) s) y4 0 m4) y4 0 ())) ll k4 () ∧ FrOk 161 [(96, iv (k4 : Int)), (1, .slice tA t.length tC), (2, .slice rA r.length rC), (3, (pn g1 0)), (8, .slice y2A y2.length y2C), (9, .map (some g2)), (14, .map (some g3)), (16, (pn g4 0)), (17, iv y3), (60, .slice rA r.length rC), (61, iv (r.length : Int)), (62, iv (k2 : Int)), (94, .slice u1A xk2.Ways.length u1C), (95, iv (xk2.Ways.length : Int))] a ∧ Sat w0 none_ [hbox g4 47 [.string (ba xk2.Net), .slice u1A xk2.Ways.length u1C], hmap g3 ek55 ek4 m4, hmap g2 ek55 ek3 m2, hown 4 y2A y2C y2, hbox g1 24 [iv g.W, iv g.H, iv g.Layers, .slice g_BlockedA g.Blocked.length g_BlockedC]] w) xk2.Ways ⟨0, rfl, Nat.zero_add _, h, ((((((((((((((hf.nil.cons (hf.get 95 _ rfl)).cons (hf.get 94 _ rfl)).cons (hf.get 62 _ rfl)).cons (hf.get 61 _ rfl)).cons (hf.get 60 _ rfl)).cons (hf.get 17 _ rfl)).cons (hf.get 16 _ rfl)).cons (hf.get 14 _ rfl)).cons (hf.get 9 _ rfl)).cons (hf.get 8 _ rfl)).cons (hf.get 3 _ rfl)).cons (hf.get 2 _ rfl)).cons (hf.get 1 _ rfl)).cons (hf.get 96 _ rfl)), hs⟩ ?_
         clear h hf hs
         rintro llk4 a w ⟨k4, hlk4, hkk4, h, hf, hs⟩
         cases llk4 with
         | nil =>
          have hc := range_done hkk4
          replace h : idx t y3 fun x1 => must (room ([x1.Pins] ++ xk2.Ways).length 24) (M_concat_cell ([x1.Pins] ++ xk2.Ways) fun y4 => forIn' (fun k x (s : Unit) next => M_route_CheckRouted_L4 Q m2 m4 y3 k x (next ())) (fun (s : Unit) => forIn' (fun k x (s : List (Cell × Bool)) next => M_route_CheckRouted_L5 k x s (fun m6 => next m6)) (fun (s : List (Cell × Bool)) => (fun (m6 : List (Cell × Bool)) => M_route_together x1.Pins xk2.Ways fun y5 => cnd (!y5) (Q 3) (next2 m6)) s) y4 0 m4) y4 0 ()) := h
          refine X.l (S.v hf hs (.bool false) rfl (V.cmp false rfl rfl rfl rfl hc) fun a hf => X.n (wp_seq (C.no hf rfl (wp_exit (X.then_exit (X.then_exit (X.blk_exit (X.then_ (wp_seq (H.start (S := Sat w0 none_ [hbox g4 47 [.string (ba xk2.Net), .slice u1A xk2.Ways.length u1C], hmap g3 ek55 ek4 m4, hmap g2 ek55 ek3 m2, hown 4 y2A y2C y2, hbox g1 24 [iv g.W, iv g.H, iv g.Layers, .slice g_BlockedA g.Blocked.length g_BlockedC]]) mo ?_))))))))))
          replace hs := hs.drew
          refine H.v hf hs (.slice tA t.length tC) 0 rfl rfl (by kernel_rfl) (V.pure rfl) fun a hf => H.v hf hs (iv y3) 1 rfl rfl (by kernel_rfl) (V.pure rfl) fun a hf => ?_
          obtain ⟨h0x1, x1, hx1, h⟩ := h
          obtain ⟨cs2, he2, hr2⟩ := hv_t.at_ _ _ hx1
          obtain ⟨u2A, u2C, rfl, hvu2⟩ := hr2
          refine H.v hf hs (elemPtr tA (y3.toNat * 2)) 2 rfl rfl (by kernel_rfl) (V.index rfl rfl rfl runUnderlying27 sizeOf53 (hv_t.some_ (lt_of_get hx1)) h0x1 (lt_of_get hx1) rfl) fun a hf => H.v hf hs (elemPtr tA (y3.toNat * 2 + 1)) 3 rfl rfl (by kernel_rfl) (V.fieldEl rfl rfl (hv_t.some_ (lt_of_get hx1)) runUnderlying53 rfl sizeOf22 rfl rfl) fun a hf => H.v hf hs (.slice u2A x1.Pins.length u2C) 4 rfl rfl (by kernel_rfl) (V.loadEl (off := 1) (Ag.args _ _ _) he2 rfl rfl rfl isAgg22 sizeOf22 rfl rfl) fun a hf => H.v hf hs ((pn g4 1)) 6 rfl rfl (by kernel_rfl) (V.fieldBox rfl rfl runUnderlying47 rfl sizeOf45 rfl rfl) fun a hf => H.v hf hs (.slice u1A xk2.Ways.length u1C) 7 rfl rfl (by kernel_rfl) (V.loadBox 0 rfl rfl rfl isAgg45 sizeOf45 rfl rfl) fun a hf => H.one (i := 5) rfl (by kernel_rfl) (S.buildSlice hf hs rfl rfl rfl (α := (Shared (List Cell) Cell Sl w0 (old w0 none_))) ([⟨x1.Pins, u2A, u2C, hvu2⟩] : List (Shared (List Cell) Cell Sl w0 (old w0 none_))) rfl rfl runUnderlying45 sizeOf22 zeroValue22 (by kernel_rfl) rfl (by decide) (show 1 * 1 ≤ 16777216 by decide) (fun A1 a w hf hs => X.n (⟨(hs.mask [false, true, true, true, true, true]), (H.one (i := 8) rfl (by kernel_rfl) ?_)⟩)))
          obtain ⟨hroom, h⟩ := h
          obtain ⟨va1, hzva1, hvva1⟩ := viewShared (T := Sl) (w := w0) (F := old w0 none_) (zs := xk2.Ways) (fun cs z h => by obtain ⟨B, D, h1, h2⟩ := h; exact ⟨B, D, h1, h2⟩) hvu1
          have hlva1 : va1.length = xk2.Ways.length := by rw [← hzva1, List.length_map]
          replace hf := hf.tell 115 (v := .slice u1A va1.length u1C) ((hf.get 115 (.slice u1A xk2.Ways.length u1C) rfl).trans (congrArg (fun n => Value.slice u1A n u1C) hlva1.symm))
          refine S.appendAny 0 hf hs rfl rfl rfl rfl rfl rfl rfl underlying45 info22 rfl (room_eq hroom (by rw [List.length_append, List.length_append, hlva1]; rfl)) ((Ag.args _ _ _).view hvva1 hs) (fun A2 C1 a w hf hs => ?_)
          have hy1 : (([x1.Pins] ++ xk2.Ways) : List (List Cell)) = (([⟨x1.Pins, u2A, u2C, hvu2⟩] : List (Shared (List Cell) Cell Sl w0 (old w0 none_))) ++ va1).map (·.z) := by rw [List.map_append, hzva1]; rfl
          replace hf := hf.tell 116 (v := .slice A2 ([x1.Pins] ++ xk2.Ways).length C1) ((hf.get 116 (.slice A2 (([⟨x1.Pins, u2A, u2C, hvu2⟩] : List (Shared (List Cell) Cell Sl w0 (old w0 none_))) ++ va1).length C1) rfl).trans (congrArg (fun n => Value.slice A2 n C1) (by rw [hy1, List.length_map])))
          refine X.n (⟨(hs.mask [false, true, true, true, true, true]), (H.one (i := 9) rfl (by kernel_rfl) (S.call hf rfl rfl rfl (call_fn (vs := [.slice A2 ([x1.Pins] ++ xk2.Ways).length C1]) rfl rfl rfl call26) (R_concat_cell ([x1.Pins] ++ xk2.Ways) _ A2 C1 (hs.sharedView2 0 rfl hy1) _ h) (fun v a w' hf hr => ?_)))⟩)
          obtain ⟨y4, y4A, y4C, rfl, h2, hs2⟩ := hr
          replace h := h2; replace hs := hs.call hs2; clear h2 hs2
          refine X.n (⟨(hs.mask [false, false, true, true, true, true, true]), (H.val hf (hs.mask [false, false, true, true, true, true, true]) (v := .slice y4A y4.length y4C) (i := 10) rfl rfl rfl rfl (by kernel_rfl) (by kernel_rfl) (by kernel_rfl) (V.pure rfl) (fun a hf => H.done (by kernel_rfl) (X.then_ (wp_seq (X.l (S.q hf hs (.slice y4A y4.length y4C) rfl fun a hf => S.v hf hs (iv (y4.length : Int)) rfl (V.len rfl rfl runUnderlying22) fun a hf => S.q hf hs (iv 0) rfl fun a hf => X.n (wp_block ?_)))))))⟩)
          have hlenk5 := (hs.ownView 0 rfl).len64
          refine C.range (fun (ll : List Cell) a w => ∃ (k5 : Nat) , y4.drop k5 = ll ∧ k5 + ll.length = y4.length ∧ forIn' (fun k x (s : Unit) next => M_route_CheckRouted_L4 Q m2 m4 y3 k x (next ())) (fun (s : Unit) => forIn' (fun k x (s : List (Cell × Bool)) next => M_route_CheckRouted_L5 k x s (fun m6 => next m6)) (fun (s : List (Cell × Bool)) => (fun (m6 : List (Cell × Bool)) => M_route_together x1.Pins xk2.Ways fun y5 => cnd (!y5) (Q 3) (next2 m6)) s) y4 0 m4) ll k5 () ∧ FrOk 161 [(120, iv (k5 : Int)), (1, .slice tA t.length tC), (2, .slice rA r.length rC), (3, (pn g1 0)), (8, .slice y2A y2.length y2C), (9, .map (some g2)), (14, .map (some g3)), (16, (pn g4 0)), (17, iv y3), (21, .slice y4A y4.length y4C), (60, .slice rA r.length rC), (61, iv (r.length : Int)), (62, iv (k2 : Int)), (118, .slice y4A y4.length y4C), (119, iv (y4.length : Int))] a ∧ Sat w0 none_ [hown 55 y4A y4C y4, hown 22 A2 C1 (([⟨x1.Pins, u2A, u2C, hvu2⟩] : List (Shared (List Cell) Cell Sl w0 (old w0 none_))) ++ va1), hbox g4 47 [.string (ba xk2.Net), .slice u1A xk2.Ways.length u1C], hmap g3 ek55 ek4 m4, hmap g2 ek55 ek3 m2, hown 4 y2A y2C y2, hbox g1 24 [iv g.W, iv g.H, iv g.Layers, .slice g_BlockedA g.Blocked.length g_BlockedC]] w) y4 ⟨0, rfl, Nat.zero_add _, h, (((((((((((((((hf.nil.cons (hf.get 119 _ rfl)).cons (hf.get 118 _ rfl)).cons (hf.get 62 _ rfl)).cons (hf.get 61 _ rfl)).cons (hf.get 60 _ rfl)).cons (hf.get 21 _ rfl)).cons (hf.get 17 _ rfl)).cons (hf.get 16 _ rfl)).cons (hf.get 14 _ rfl)).cons (hf.get 9 _ rfl)).cons (hf.get 8 _ rfl)).cons (hf.get 3 _ rfl)).cons (hf.get 2 _ rfl)).cons (hf.get 1 _ rfl)).cons (hf.get 120 _ rfl)), hs⟩ ?_
          clear h hf hs
          rintro llk5 a w ⟨k5, hlk5, hkk5, h, hf, hs⟩
          cases llk5 with
          | nil =>
           have hc := range_done hkk5
           replace h : forIn' (fun k x (s : List (Cell × Bool)) next => M_route_CheckRouted_L5 k x s (fun m6 => next m6)) (fun (s : List (Cell × Bool)) => (fun (m6 : List (Cell × Bool)) => M_route_together x1.Pins xk2.Ways fun y5 => cnd (!y5) (Q 3) (next2 m6)) s) y4 0 m4 := h
           refine X.l (S.v hf hs (.bool false) rfl (V.cmp false rfl rfl rfl rfl hc) fun a hf => X.n (wp_seq (C.no hf rfl (wp_exit (X.then_exit (X.then_exit (X.blk_exit (X.then_ (wp_seq (X.l (S.q hf hs (.slice y4A y4.length y4C) rfl fun a hf => S.v hf hs (iv (y4.length : Int)) rfl (V.len rfl rfl runUnderlying22) fun a hf => S.q hf hs (iv 0) rfl fun a hf => X.n (wp_block ?_))))))))))))
           have hlenk6 := (hs.ownView 0 rfl).len64
           refine C.range (fun (ll : List Cell) a w => ∃ (k6 : Nat) (m6 : List (Cell × Bool)), y4.drop k6 = ll ∧ k6 + ll.length = y4.length ∧ forIn' (fun k x (s : List (Cell × Bool)) next => M_route_CheckRouted_L5 k x s (fun m6 => next m6)) (fun (s : List (Cell × Bool)) => (fun (m6 : List (Cell × Bool)) => M_route_together x1.Pins xk2.Ways fun y5 => cnd (!y5) (Q 3) (next2 m6)) s) ll k6 m6 ∧ FrOk 161 [(144, iv (k6 : Int)), (1, .slice tA t.length tC), (2, .slice rA r.length rC), (3, (pn g1 0)), (8, .slice y2A y2.length y2C), (9, .map (some g2)), (14, .map (some g3)), (16, (pn g4 0)), (17, iv y3), (60, .slice rA r.length rC), (61, iv (r.length : Int)), (62, iv (k2 : Int)), (142, .slice y4A y4.length y4C), (143, iv (y4.length : Int))] a ∧ Sat w0 none_ [hown 55 y4A y4C y4, hown 22 A2 C1 (([⟨x1.Pins, u2A, u2C, hvu2⟩] : List (Shared (List Cell) Cell Sl w0 (old w0 none_))) ++ va1), hbox g4 47 [.string (ba xk2.Net), .slice u1A xk2.Ways.length u1C], hmap g3 ek55 ek4 m6, hmap g2 ek55 ek3 m2, hown 4 y2A y2C y2, hbox g1 24 [iv g.W, iv g.H, iv g.Layers, .slice g_BlockedA g.Blocked.length g_BlockedC]] w) y4 ⟨0, m4, rfl, Nat.zero_add _, h, ((((((((((((((hf.nil.cons (hf.get 143 _ rfl)).cons (hf.get 142 _ rfl)).cons (hf.get 62 _ rfl)).cons (hf.get 61 _ rfl)).cons (hf.get 60 _ rfl)).cons (hf.get 17 _ rfl)).cons (hf.get 16 _ rfl)).cons (hf.get 14 _ rfl)).cons (hf.get 9 _ rfl)).cons (hf.get 8 _ rfl)).cons (hf.get 3 _ rfl)).cons (hf.get 2 _ rfl)).cons (hf.get 1 _ rfl)).cons (hf.get 144 _ rfl)), hs⟩ ?_
           clear h hf hs
           rintro llk6 a w ⟨k6, m6, hlk6, hkk6, h, hf, hs⟩
           cases llk6 with
           | nil =>
            have hc := range_done hkk6
            replace h : (fun (m6 : List (Cell × Bool)) => M_route_together x1.Pins xk2.Ways fun y5 => cnd (!y5) (Q 3) (next2 m6)) m6 := h
            refine X.l (S.v hf hs (.bool false) rfl (V.cmp false rfl rfl rfl rfl hc) fun a hf => X.n (wp_seq (C.no hf rfl (wp_exit (X.then_exit (X.then_exit (X.blk_exit (X.then_ (wp_seq (H.start (S := Sat w0 none_ [hown 55 y4A y4C y4, hown 22 A2 C1 (([⟨x1.Pins, u2A, u2C, hvu2⟩] : List (Shared (List Cell) Cell Sl w0 (old w0 none_))) ++ va1), hbox g4 47 [.string (ba xk2.Net), .slice u1A xk2.Ways.length u1C], hmap g3 ek55 ek4 m6, hmap g2 ek55 ek3 m2, hown 4 y2A y2C y2, hbox g1 24 [iv g.W, iv g.H, iv g.Layers, .slice g_BlockedA g.Blocked.length g_BlockedC]]) mo ?_))))))))))
            replace hs := hs.drew
            refine H.v hf hs (.slice tA t.length tC) 0 rfl rfl (by kernel_rfl) (V.pure rfl) fun a hf => H.v hf hs (iv y3) 1 rfl rfl (by kernel_rfl) (V.pure rfl) fun a hf => H.v hf hs (elemPtr tA (y3.toNat * 2)) 2 rfl rfl (by kernel_rfl) (V.index rfl rfl rfl runUnderlying27 sizeOf53 (hv_t.some_ (lt_of_get hx1)) h0x1 (lt_of_get hx1) rfl) fun a hf => H.v hf hs (elemPtr tA (y3.toNat * 2 + 1)) 3 rfl rfl (by kernel_rfl) (V.fieldEl rfl rfl (hv_t.some_ (lt_of_get hx1)) runUnderlying53 rfl sizeOf22 rfl rfl) fun a hf => H.v hf hs (.slice u2A x1.Pins.length u2C) 4 rfl rfl (by kernel_rfl) (V.loadEl (off := 1) (Ag.args _ _ _) he2 rfl rfl rfl isAgg22 sizeOf22 rfl rfl) fun a hf => H.v hf hs ((pn g4 1)) 5 rfl rfl (by kernel_rfl) (V.fieldBox rfl rfl runUnderlying47 rfl sizeOf45 rfl rfl) fun a hf => H.v hf hs (.slice u1A xk2.Ways.length u1C) 6 rfl rfl (by kernel_rfl) (V.loadBox 2 rfl rfl rfl isAgg45 sizeOf45 rfl rfl) fun a hf => H.one (i := 7) rfl (by kernel_rfl) (S.call hf rfl rfl rfl (call_fn (vs := [.slice u2A x1.Pins.length u2C, .slice u1A xk2.Ways.length u1C]) rfl rfl rfl call27) (R_route_together x1.Pins xk2.Ways _ u2A u2C ((Ag.args _ _ _).view hvu2 hs) u1A u1C ((Ag.args _ _ _).view hvu1 hs) _ h) (fun v a w' hf hr => ?_))
            obtain ⟨y5, rfl, h2, hs2⟩ := hr
            replace h := h2; replace hs := hs.call hs2; clear h2 hs2
            refine X.n (⟨hs, (H.v hf hs (.bool (!y5)) 8 rfl rfl (by kernel_rfl) (V.pure rfl) fun a hf => H.done (by kernel_rfl) (X.then_ ?_))⟩)
            refine C.cond hf (b := !y5) rfl (fun hc => ?_) (fun hc => ?_)
            ·replace h := h.1 hc
             refine X.l (S.q hf hs (iv 3) rfl fun a hf => X.n (wp_ret (X.blk_ret (X.then_ret (X.then_ret (X.blk_ret (X.then_ret ?_)))))))
             exact L.ret hf (run_results1 results8 (ResIs.tmp hf rfl)) ⟨3, rfl, h, hs.nil⟩
            ·replace h := h.2 hc
             refine wp_skip (X.blk (X.then_ (R.list (S.v hf hs (iv ((k2 + 1 : Nat) : Int)) rfl (V.incr rfl rfl rfl hltk2 hlenk2) fun a hf => S.q hf hs (iv ((k2 + 1 : Nat) : Int)) rfl fun a hf => X.n ?_))))
             exact ⟨xk2, llk2, rfl, k2 + 1, m6, range_drop hlk2, range_len hkk2, (by rw [hnext2] at h; exact h), (((((((((hf.nil.cons (hf.get 61 _ rfl)).cons (hf.get 60 _ rfl)).cons (hf.get 14 _ rfl)).cons (hf.get 9 _ rfl)).cons (hf.get 8 _ rfl)).cons (hf.get 3 _ rfl)).cons (hf.get 2 _ rfl)).cons (hf.get 1 _ rfl)).cons (hf.get 62 _ rfl)), hs.drop.drop.drop⟩
           | cons xk6 llk6 =>
            have hltk6 := range_lt hkk6; have hc := range_go hkk6; have hxk6 := range_get hlk6
            obtain ⟨next5, hnext5⟩ : ∃ X : List (Cell × Bool) → Prop, X = (fun m6 => forIn' (fun k x (s : List (Cell × Bool)) next => M_route_CheckRouted_L5 k x s (fun m6 => next m6)) (fun (s : List (Cell × Bool)) => (fun (m6 : List (Cell × Bool)) => M_route_together x1.Pins xk2.Ways fun y5 => cnd (!y5) (Q 3) (next2 m6)) s) llk6 (k6 + 1) m6) := ⟨_, rfl⟩
            replace h : M_route_CheckRouted_L5 k6 xk6 m6 next5 := by rw [hnext5]; exact h
            unfold M_route_CheckRouted_L5 at h
            refine X.l (S.v hf hs (.bool true) rfl (V.cmp true rfl rfl rfl rfl hc) fun a hf => X.n (wp_seq (C.yes hf rfl (wp_skip (X.then_ (wp_seq (wp_block (X.l (S.v hf hs (elemPtr y4A (k6 * 3)) rfl (V.index rfl rfl rfl runUnderlying22 sizeOf55 (hs.ownSome 0 rfl (lt_of_get hxk6)) (Int.natCast_nonneg _) (lt_of_get hxk6) rfl) fun a hf => S.v hf hs (.agg #[iv xk6.X, iv xk6.Y, iv xk6.Layer]) rfl (V.loadOwn (off := 0) 0 rfl hxk6 rfl rfl rfl isAgg55 sizeOf55 rfl rfl) fun a hf => S.alloc hf hs rfl rfl rfl [iv 0, iv 0, iv 0] rfl zeroValue55 rfl (fun g5 a w hf hs => S.storeBox 0 hf hs rfl rfl [iv xk6.X, iv xk6.Y, iv xk6.Layer] [iv xk6.X, iv xk6.Y, iv xk6.Layer] rfl rfl rfl rfl rfl sizeOf55 rfl rfl rfl rfl (fun a w hf hs => X.n (R.list (S.q hf hs (.map (some g3)) rfl fun a hf => S.v hf hs (.agg #[iv xk6.X, iv xk6.Y, iv xk6.Layer]) rfl (V.loadBox 0 rfl rfl rfl isAgg55 sizeOf55 rfl rfl) fun a hf => ?_)))))))))))))
            refine S.mapUpdate 4 hf hs rfl rfl rfl xk6 true rfl rfl rfl rfl runUnderlying56 key55 (fun a w hf hs => R.nil (X.blk (X.then_ (R.list (S.v hf hs (iv ((k6 + 1 : Nat) : Int)) rfl (V.incr rfl rfl rfl hltk6 hlenk6) fun a hf => S.q hf hs (iv ((k6 + 1 : Nat) : Int)) rfl fun a hf => X.n ?_)))))
            exact ⟨xk6, llk6, rfl, k6 + 1, (mput m6 xk6 true), range_drop hlk6, range_len hkk6, (by rw [hnext5] at h; exact h), ((((((((((((((hf.nil.cons (hf.get 143 _ rfl)).cons (hf.get 142 _ rfl)).cons (hf.get 62 _ rfl)).cons (hf.get 61 _ rfl)).cons (hf.get 60 _ rfl)).cons (hf.get 17 _ rfl)).cons (hf.get 16 _ rfl)).cons (hf.get 14 _ rfl)).cons (hf.get 9 _ rfl)).cons (hf.get 8 _ rfl)).cons (hf.get 3 _ rfl)).cons (hf.get 2 _ rfl)).cons (hf.get 1 _ rfl)).cons (hf.get 144 _ rfl)), hs.drop⟩
          | cons xk5 llk5 =>
           have hltk5 := range_lt hkk5; have hc := range_go hkk5; have hxk5 := range_get hlk5
           obtain ⟨next4, hnext4⟩ : ∃ X : Prop, X = (forIn' (fun k x (s : Unit) next => M_route_CheckRouted_L4 Q m2 m4 y3 k x (next ())) (fun (s : Unit) => forIn' (fun k x (s : List (Cell × Bool)) next => M_route_CheckRouted_L5 k x s (fun m6 => next m6)) (fun (s : List (Cell × Bool)) => (fun (m6 : List (Cell × Bool)) => M_route_together x1.Pins xk2.Ways fun y5 => cnd (!y5) (Q 3) (next2 m6)) s) y4 0 m4) llk5 (k5 + 1) ()) := ⟨_, rfl⟩
           replace h : M_route_CheckRouted_L4 Q m2 m4 y3 k5 xk5  next4 := by rw [hnext4]; exact h
           unfold M_route_CheckRouted_L4 at h
           refine X.l (S.v hf hs (.bool true) rfl (V.cmp true rfl rfl rfl rfl hc) fun a hf => X.n (wp_seq (C.yes hf rfl (wp_skip (X.then_ (wp_seq (wp_block (X.l (S.v hf hs (elemPtr y4A (k5 * 3)) rfl (V.index rfl rfl rfl runUnderlying22 sizeOf55 (hs.ownSome 0 rfl (lt_of_get hxk5)) (Int.natCast_nonneg _) (lt_of_get hxk5) rfl) fun a hf => S.v hf hs (.agg #[iv xk5.X, iv xk5.Y, iv xk5.Layer]) rfl (V.loadOwn (off := 0) 0 rfl hxk5 rfl rfl rfl isAgg55 sizeOf55 rfl rfl) fun a hf => S.alloc hf hs rfl rfl rfl [iv 0, iv 0, iv 0] rfl zeroValue55 rfl (fun g6 a w hf hs => S.storeBox 0 hf hs rfl rfl [iv xk5.X, iv xk5.Y, iv xk5.Layer] [iv xk5.X, iv xk5.Y, iv xk5.Layer] rfl rfl rfl rfl rfl sizeOf55 rfl rfl rfl rfl (fun a w hf hs => X.n (X.l (S.q hf hs (.map (some g2)) rfl fun a hf => S.v hf hs (.agg #[iv xk5.X, iv xk5.Y, iv xk5.Layer]) rfl (V.loadBox 0 rfl rfl rfl isAgg55 sizeOf55 rfl rfl) fun a hf => ?_)))))))))))))
           refine S.v hf hs (.tuple #[iv ((mget m2 xk5).getD 0), .bool ((mget m2 xk5).isSome)]) rfl (V.lookupOk 5 rfl (k := xk5) (u := ((mget m2 xk5).getD 0)) (z := 0) (b := (mget m2 xk5).isSome) rfl rfl rfl runUnderlying51 key55 zeroValue3 rfl rfl rfl) fun a hf => S.q hf hs (.tuple #[iv ((mget m2 xk5).getD 0), .bool ((mget m2 xk5).isSome)]) rfl fun a hf => S.q hf hs (iv ((mget m2 xk5).getD 0)) rfl fun a hf => S.q hf hs (.bool ((mget m2 xk5).isSome)) rfl fun a hf => S.q hf hs (iv ((mget m2 xk5).getD 0)) rfl fun a hf => S.q hf hs (.bool ((mget m2 xk5).isSome)) rfl fun a hf => X.n (wp_seq ?_)
           refine C.cut (J := fun a w => ∃ (c2 : Bool), M_route_CheckRouted_k7 Q next4 c2 ∧ FrOk 161 [(1, .slice tA t.length tC), (2, .slice rA r.length rC), (3, (pn g1 0)), (8, .slice y2A y2.length y2C), (9, .map (some g2)), (14, .map (some g3)), (16, (pn g4 0)), (17, iv y3), (21, .slice y4A y4.length y4C), (60, .slice rA r.length rC), (61, iv (r.length : Int)), (62, iv (k2 : Int)), (118, .slice y4A y4.length y4C), (119, iv (y4.length : Int)), (120, iv (k5 : Int)), (140, .bool c2)] a ∧ Sat w0 none_ [hbox g6 55 [iv xk5.X, iv xk5.Y, iv xk5.Layer], hown 55 y4A y4C y4, hown 22 A2 C1 (([⟨x1.Pins, u2A, u2C, hvu2⟩] : List (Shared (List Cell) Cell Sl w0 (old w0 none_))) ++ va1), hbox g4 47 [.string (ba xk2.Net), .slice u1A xk2.Ways.length u1C], hmap g3 ek55 ek4 m4, hmap g2 ek55 ek3 m2, hown 4 y2A y2C y2, hbox g1 24 [iv g.W, iv g.H, iv g.Layers, .slice g_BlockedA g.Blocked.length g_BlockedC]] w) ?_ ?_
           ·rintro a w ⟨c2, h, hf, hs⟩
            unfold M_route_CheckRouted_k7 at h
            refine C.cond hf (b := c2) rfl (fun hc => ?_) (fun hc => ?_)
            ·replace h := h.1 hc
             refine X.l (S.q hf hs (iv 12) rfl fun a hf => X.n (wp_ret (X.blk_ret (X.then_ret (X.then_ret (X.blk_ret (X.then_ret (X.blk_ret (X.then_ret (X.then_ret (X.blk_ret (X.then_ret ?_))))))))))))
             exact L.ret hf (run_results1 results8 (ResIs.tmp hf rfl)) ⟨12, rfl, h, hs.nil⟩
            ·replace h := h.2 hc
             refine wp_skip (X.blk (X.then_ (R.list (S.v hf hs (iv ((k5 + 1 : Nat) : Int)) rfl (V.incr rfl rfl rfl hltk5 hlenk5) fun a hf => S.q hf hs (iv ((k5 + 1 : Nat) : Int)) rfl fun a hf => X.n ?_))))
             exact ⟨xk5, llk5, rfl, k5 + 1, range_drop hlk5, range_len hkk5, (by rw [hnext4] at h; exact h), (((((((((((((((hf.nil.cons (hf.get 119 _ rfl)).cons (hf.get 118 _ rfl)).cons (hf.get 62 _ rfl)).cons (hf.get 61 _ rfl)).cons (hf.get 60 _ rfl)).cons (hf.get 21 _ rfl)).cons (hf.get 17 _ rfl)).cons (hf.get 16 _ rfl)).cons (hf.get 14 _ rfl)).cons (hf.get 9 _ rfl)).cons (hf.get 8 _ rfl)).cons (hf.get 3 _ rfl)).cons (hf.get 2 _ rfl)).cons (hf.get 1 _ rfl)).cons (hf.get 120 _ rfl)), hs.drop⟩
           ·skip
            refine R.list (S.q hf hs (.map (some g3)) rfl fun a hf => S.v hf hs (.agg #[iv xk5.X, iv xk5.Y, iv xk5.Layer]) rfl (V.loadBox 0 rfl rfl rfl isAgg55 sizeOf55 rfl rfl) fun a hf => S.v hf hs (.bool ((mget m4 xk5).getD false)) rfl (V.lookup 4 rfl (k := xk5) (u := ((mget m4 xk5).getD false)) (z := false) rfl rfl rfl runUnderlying56 key55 zeroValue4 rfl rfl) fun a hf => ?_)
            refine S.split hf hs (b := ((mget m4 xk5).getD false)) rfl rfl rfl (V.pure rfl) (fun hc a hf => ?_) (fun hc a hf => ?_)
            ·replace h := h.1 hc
             refine S.k hf rfl fun a hf => S.k hf rfl fun a hf => S.k hf rfl fun a hf => S.k hf rfl fun a hf => S.k hf rfl fun a hf => S.k hf rfl fun a hf => S.q hf hs (.bool true) rfl fun a hf => X.n ?_
             exact ⟨true, h, ((((((((((((((((hf.nil.cons (hf.get 140 _ rfl)).cons (hf.get 120 _ rfl)).cons (hf.get 119 _ rfl)).cons (hf.get 118 _ rfl)).cons (hf.get 62 _ rfl)).cons (hf.get 61 _ rfl)).cons (hf.get 60 _ rfl)).cons (hf.get 21 _ rfl)).cons (hf.get 17 _ rfl)).cons (hf.get 16 _ rfl)).cons (hf.get 14 _ rfl)).cons (hf.get 9 _ rfl)).cons (hf.get 8 _ rfl)).cons (hf.get 3 _ rfl)).cons (hf.get 2 _ rfl)).cons (hf.get 1 _ rfl)), hs⟩
            ·replace h := h.2 hc
             refine S.q hf hs (.bool ((mget m2 xk5).isSome)) rfl fun a hf => ?_
             refine S.split hf hs (b := (mget m2 xk5).isSome) rfl rfl rfl (V.pure rfl) (fun hc a hf => ?_) (fun hc a hf => ?_)
             ·replace h := h.1 hc
              refine S.q hf hs (iv ((mget m2 xk5).getD 0)) rfl fun a hf => S.q hf hs (iv y3) rfl fun a hf => S.q hf hs (.bool (((mget m2 xk5).getD 0) != y3)) rfl fun a hf => S.q hf hs (.bool (((mget m2 xk5).getD 0) != y3)) rfl fun a hf => S.q hf hs (.bool (((mget m2 xk5).getD 0) != y3)) rfl fun a hf => X.n ?_
              exact ⟨(((mget m2 xk5).getD 0) != y3), h, ((((((((((((((((hf.nil.cons (hf.get 140 _ rfl)).cons (hf.get 120 _ rfl)).cons (hf.get 119 _ rfl)).cons (hf.get 118 _ rfl)).cons (hf.get 62 _ rfl)).cons (hf.get 61 _ rfl)).cons (hf.get 60 _ rfl)).cons (hf.get 21 _ rfl)).cons (hf.get 17 _ rfl)).cons (hf.get 16 _ rfl)).cons (hf.get 14 _ rfl)).cons (hf.get 9 _ rfl)).cons (hf.get 8 _ rfl)).cons (hf.get 3 _ rfl)).cons (hf.get 2 _ rfl)).cons (hf.get 1 _ rfl)), hs⟩
             ·replace h := h.2 hc
              refine S.k hf rfl fun a hf => S.k hf rfl fun a hf => S.k hf rfl fun a hf => S.q hf hs (.bool false) rfl fun a hf => S.q hf hs (.bool false) rfl fun a hf => X.n ?_
              exact ⟨false, h, ((((((((((((((((hf.nil.cons (hf.get 140 _ rfl)).cons (hf.get 120 _ rfl)).cons (hf.get 119 _ rfl)).cons (hf.get 118 _ rfl)).cons (hf.get 62 _ rfl)).cons (hf.get 61 _ rfl)).cons (hf.get 60 _ rfl)).cons (hf.get 21 _ rfl)).cons (hf.get 17 _ rfl)).cons (hf.get 16 _ rfl)).cons (hf.get 14 _ rfl)).cons (hf.get 9 _ rfl)).cons (hf.get 8 _ rfl)).cons (hf.get 3 _ rfl)).cons (hf.get 2 _ rfl)).cons (hf.get 1 _ rfl)), hs⟩
         | cons xk4 llk4 =>
          have hltk4 := range_lt hkk4; have hc := range_go hkk4; have hxk4 := range_get hlk4
          obtain ⟨next3, hnext3⟩ : ∃ X : Prop, X = (forIn' (fun k x (s : Unit) next => M_route_CheckRouted_L3 g Q y2 k x (next ())) (fun (s : Unit) => idx t y3 fun x1 => must (room ([x1.Pins] ++ xk2.Ways).length 24) (M_concat_cell ([x1.Pins] ++ xk2.Ways) fun y4 => forIn' (fun k x (s : Unit) next => M_route_CheckRouted_L4 Q m2 m4 y3 k x (next ())) (fun (s : Unit) => forIn' (fun k x (s : List (Cell × Bool)) next => M_route_CheckRouted_L5 k x s (fun m6 => next m6)) (fun (s : List (Cell × Bool)) => (fun (m6 : List (Cell × Bool)) => M_route_together x1.Pins xk2.Ways fun y5 => cnd (!y5) (Q 3) (next2 m6)) s) y4 0 m4) y4 0 ())) llk4 (k4 + 1) ()) := ⟨_, rfl⟩
          replace h : M_route_CheckRouted_L3 g Q y2 k4 xk4  next3 := by rw [hnext3]; exact h
          unfold M_route_CheckRouted_L3 at h
          refine X.l (S.v hf hs (.bool true) rfl (V.cmp true rfl rfl rfl rfl hc) fun a hf => X.n (wp_seq (C.yes hf rfl (wp_skip (X.then_ (wp_seq (wp_block (X.l ?_))))))))
          obtain ⟨cs3, he3, hr3⟩ := hvu1.at_ _ _ hxk4
          obtain ⟨u3A, u3C, rfl, hvu3⟩ := hr3
          refine S.v hf hs (elemPtr u1A (k4 * 1)) rfl (V.index rfl rfl rfl runUnderlying45 sizeOf22 (hvu1.some_ (lt_of_get hxk4)) (Int.natCast_nonneg _) (lt_of_get hxk4) rfl) fun a hf => S.v hf hs (.slice u3A xk4.length u3C) rfl (V.loadEl (off := 0) (Ag.args _ _ _) he3 rfl rfl rfl isAgg22 sizeOf22 rfl rfl) fun a hf => S.q hf hs (.slice u3A xk4.length u3C) rfl fun a hf => X.n (X.l (S.v hf hs (.agg #[iv g.W, iv g.H, iv g.Layers, .slice g_BlockedA g.Blocked.length g_BlockedC]) rfl (V.loadBox 4 rfl rfl rfl isAgg24 sizeOf24 rfl rfl) fun a hf => S.q hf hs (.slice y2A y2.length y2C) rfl fun a hf => S.q hf hs (.slice u3A xk4.length u3C) rfl fun a hf => S.call hf rfl rfl rfl (call_fn (vs := [.agg #[iv g.W, iv g.H, iv g.Layers, .slice g_BlockedA g.Blocked.length g_BlockedC], .slice y2A y2.length y2C, .slice u3A xk4.length u3C]) rfl rfl rfl call25) (R_route_checkWay g y2 xk4 _ g_BlockedA g_BlockedC ((Ag.args _ _ _).view hv_g_Blocked hs) y2A y2C (hs.ownView 3 rfl) u3A u3C ((Ag.args _ _ _).view hvu3 hs) _ h) (fun v a w' hf hr => ?_)))
          obtain ⟨y6, rfl, h2, hs2⟩ := hr
          replace h := h2; replace hs := hs.call hs2; clear h2 hs2
          refine S.q hf hs (iv y6) rfl fun a hf => X.n (X.l (S.q hf hs (iv y6) rfl fun a hf => S.q hf hs (.bool (y6 != 0)) rfl fun a hf => X.n ?_))
          refine C.cond hf (b := y6 != 0) rfl (fun hc => ?_) (fun hc => ?_)
          ·replace h := h.1 hc
           refine X.l (S.q hf hs (iv y6) rfl fun a hf => S.q hf hs (iv y6) rfl fun a hf => X.n (wp_ret (X.blk_ret (X.then_ret (X.then_ret (X.blk_ret (X.then_ret (X.blk_ret (X.then_ret (X.then_ret (X.blk_ret (X.then_ret ?_))))))))))))
           exact L.ret hf (run_results1 results8 (ResIs.tmp hf rfl)) ⟨y6, rfl, h, hs.nil⟩
          ·replace h := h.2 hc
           refine wp_skip (X.blk (X.then_ (R.list (S.v hf hs (iv ((k4 + 1 : Nat) : Int)) rfl (V.incr rfl rfl rfl hltk4 hlenk4) fun a hf => S.q hf hs (iv ((k4 + 1 : Nat) : Int)) rfl fun a hf => X.n ?_))))
           exact ⟨xk4, llk4, rfl, k4 + 1, range_drop hlk4, range_len hkk4, (by rw [hnext3] at h; exact h), ((((((((((((((hf.nil.cons (hf.get 95 _ rfl)).cons (hf.get 94 _ rfl)).cons (hf.get 62 _ rfl)).cons (hf.get 61 _ rfl)).cons (hf.get 60 _ rfl)).cons (hf.get 17 _ rfl)).cons (hf.get 16 _ rfl)).cons (hf.get 14 _ rfl)).cons (hf.get 9 _ rfl)).cons (hf.get 8 _ rfl)).cons (hf.get 3 _ rfl)).cons (hf.get 2 _ rfl)).cons (hf.get 1 _ rfl)).cons (hf.get 96 _ rfl)), hs⟩
      ·skip
       refine R.draw mo (by kernel_rfl) hs (D.p hf (iv (k2 : Int)) rfl rfl fun a hf => D.p hf (.bool (decide ((k2 : Int) > 0))) rfl rfl fun a hf => ?_)
       refine D.split hf (b := decide ((k2 : Int) > 0)) rfl rfl rfl (V.pure rfl) (fun hc a hf => ?_) (fun hc a hf => ?_)
       ·replace h := h.1 hc
        refine D.v hf ((pn g4 0)) rfl (V.fieldBox rfl rfl runUnderlying47 rfl sizeOf9 rfl rfl) fun a hf => D.v hf (.string (ba xk2.Net)) rfl (V.loadBox 0 rfl rfl rfl isAgg9 sizeOf9 rfl rfl) fun a hf => D.p hf (.slice rA r.length rC) rfl rfl fun a hf => D.p hf (iv (k2 : Int)) rfl rfl fun a hf => D.p hf (iv (w64 ((k2 : Int) - 1))) rfl rfl fun a hf => ?_
        obtain ⟨h0x2, x2, hx2, h⟩ := h
        obtain ⟨cs4, he4, hr4⟩ := hv_r.at_ _ _ hx2
        obtain ⟨u4A, u4C, rfl, hvu4⟩ := hr4
        refine D.v hf (elemPtr rA ((w64 ((k2 : Int) - 1)).toNat * 2)) rfl (V.index rfl rfl rfl runUnderlying28 sizeOf47 (hv_r.some_ (lt_of_get hx2)) h0x2 (lt_of_get hx2) rfl) fun a hf => D.v hf (elemPtr rA ((w64 ((k2 : Int) - 1)).toNat * 2)) rfl (V.fieldEl rfl rfl (hv_r.some_ (lt_of_get hx2)) runUnderlying47 rfl sizeOf9 rfl rfl) fun a hf => D.v hf (.string (ba x2.Net)) rfl (V.loadEl (off := 0) (Ag.args _ _ _) he4 rfl rfl rfl isAgg9 sizeOf9 rfl rfl) fun a hf => D.v hf (.bool (strLt xk2.Net x2.Net || xk2.Net == x2.Net)) rfl (V.strCmp (strLt xk2.Net x2.Net || xk2.Net == x2.Net) rfl rfl rfl rfl) fun a hf => D.p hf (.bool (strLt xk2.Net x2.Net || xk2.Net == x2.Net)) rfl rfl fun a hf => D.p hf (.bool (strLt xk2.Net x2.Net || xk2.Net == x2.Net)) rfl rfl fun a hf => D.done (fun w hs => X.then_ ?_)
        exact ⟨(strLt xk2.Net x2.Net || xk2.Net == x2.Net), h, ((((((((((((hf.nil.cons (hf.get 74 _ rfl)).cons (hf.get 62 _ rfl)).cons (hf.get 61 _ rfl)).cons (hf.get 60 _ rfl)).cons (hf.get 17 _ rfl)).cons (hf.get 16 _ rfl)).cons (hf.get 14 _ rfl)).cons (hf.get 9 _ rfl)).cons (hf.get 8 _ rfl)).cons (hf.get 3 _ rfl)).cons (hf.get 2 _ rfl)).cons (hf.get 1 _ rfl)), hs⟩
       ·replace h := h.2 hc
        refine D.k hf rfl fun a hf => D.k hf rfl fun a hf => D.k hf rfl fun a hf => D.k hf rfl fun a hf => D.k hf rfl fun a hf => D.k hf rfl fun a hf => D.k hf rfl fun a hf => D.k hf rfl fun a hf => D.k hf rfl fun a hf => D.p hf (.bool false) rfl rfl fun a hf => D.p hf (.bool false) rfl rfl fun a hf => D.done (fun w hs => ?_)
        refine X.then_ ?_
        exact ⟨false, h, ((((((((((((hf.nil.cons (hf.get 74 _ rfl)).cons (hf.get 62 _ rfl)).cons (hf.get 61 _ rfl)).cons (hf.get 60 _ rfl)).cons (hf.get 17 _ rfl)).cons (hf.get 16 _ rfl)).cons (hf.get 14 _ rfl)).cons (hf.get 9 _ rfl)).cons (hf.get 8 _ rfl)).cons (hf.get 3 _ rfl)).cons (hf.get 2 _ rfl)).cons (hf.get 1 _ rfl)), hs⟩
   | cons xk1 llk1 =>
    have hltk1 := range_lt hkk1; have hc := range_go hkk1; have hxk1 := range_get hlk1
    obtain ⟨next1, hnext1⟩ : ∃ X : List (Cell × Int) → Prop, X = (fun m2 => forIn' (fun k x (s : List (Cell × Int)) next => M_route_CheckRouted_L1 k x s (fun m2 => next m2)) (fun (s : List (Cell × Int)) => (fun (m2 : List (Cell × Int)) => forIn' (fun k x (s : List (Cell × Bool)) next => M_route_CheckRouted_L2 g t r Q y2 m2 k x s (fun m4 => next m4)) (fun (s : List (Cell × Bool)) => (fun (m4 : List (Cell × Bool)) => Q 0) s) r 0 ([] : List (Cell × Bool))) s) llk1 (k1 + 1) m2) := ⟨_, rfl⟩
    replace h : M_route_CheckRouted_L1 k1 xk1 m2 next1 := by rw [hnext1]; exact h
    unfold M_route_CheckRouted_L1 at h
    refine X.l (S.v hf hs (.bool true) rfl (V.cmp true rfl rfl rfl rfl hc) fun a hf => X.n (wp_seq (C.yes hf rfl (wp_skip (X.then_ (wp_seq (wp_block (X.l (S.q hf hs (iv (k1 : Int)) rfl fun a hf => ?_)))))))))
    obtain ⟨cs5, he5, hr5⟩ := hv_t.at_ _ _ hxk1
    obtain ⟨u5A, u5C, rfl, hvu5⟩ := hr5
    refine S.v hf hs (elemPtr tA (k1 * 2)) rfl (V.index rfl rfl rfl runUnderlying27 sizeOf53 (hv_t.some_ (lt_of_get hxk1)) (Int.natCast_nonneg _) (lt_of_get hxk1) rfl) fun a hf => S.v hf hs (.agg #[.string (ba xk1.Net), .slice u5A xk1.Pins.length u5C]) rfl (V.loadEl (off := 0) (Ag.args _ _ _) he5 rfl rfl rfl isAgg53 sizeOf53 rfl rfl) fun a hf => S.alloc hf hs rfl rfl rfl [.string (ba []), .slice none 0 0] rfl zeroValue53 rfl (fun g7 a w hf hs => S.q hf hs (iv (k1 : Int)) rfl fun a hf => S.storeBox 0 hf hs rfl rfl [.string (ba xk1.Net), .slice u5A xk1.Pins.length u5C] [.string (ba xk1.Net), .slice u5A xk1.Pins.length u5C] rfl rfl rfl rfl rfl sizeOf53 rfl rfl rfl rfl (fun a w hf hs => X.n (X.l (S.v hf hs ((pn g7 1)) rfl (V.fieldBox rfl rfl runUnderlying53 rfl sizeOf22 rfl rfl) fun a hf => S.v hf hs (.slice u5A xk1.Pins.length u5C) rfl (V.loadBox 0 rfl rfl rfl isAgg22 sizeOf22 rfl rfl) fun a hf => S.v hf hs (iv (xk1.Pins.length : Int)) rfl (V.len rfl rfl runUnderlying22) fun a hf => S.q hf hs (iv 0) rfl fun a hf => X.n (wp_block ?_)))))
    have hlenk8 := hvu5.len64
    refine C.range (fun (ll : List Cell) a w => ∃ (k8 : Nat) (m8 : List (Cell × Int)), xk1.Pins.drop k8 = ll ∧ k8 + ll.length = xk1.Pins.length ∧ forIn' (fun k x (s : List (Cell × Int)) next => M_route_CheckRouted_L6 k1 k x s (fun m8 => next m8)) (fun (s : List (Cell × Int)) => (fun (m8 : List (Cell × Int)) => next1 m8) s) ll k8 m8 ∧ FrOk 161 [(50, iv (k8 : Int)), (1, .slice tA t.length tC), (2, .slice rA r.length rC), (3, (pn g1 0)), (8, .slice y2A y2.length y2C), (9, .map (some g2)), (10, iv (k1 : Int)), (40, .slice tA t.length tC), (41, iv (t.length : Int)), (42, iv (k1 : Int)), (48, .slice u5A xk1.Pins.length u5C), (49, iv (xk1.Pins.length : Int))] a ∧ Sat w0 none_ [hbox g7 53 [.string (ba xk1.Net), .slice u5A xk1.Pins.length u5C], hmap g2 ek55 ek3 m8, hown 4 y2A y2C y2, hbox g1 24 [iv g.W, iv g.H, iv g.Layers, .slice g_BlockedA g.Blocked.length g_BlockedC]] w) xk1.Pins ⟨0, m2, rfl, Nat.zero_add _, h, ((((((((((((hf.nil.cons (hf.get 49 _ rfl)).cons (hf.get 48 _ rfl)).cons (hf.get 42 _ rfl)).cons (hf.get 41 _ rfl)).cons (hf.get 40 _ rfl)).cons (hf.get 10 _ rfl)).cons (hf.get 9 _ rfl)).cons (hf.get 8 _ rfl)).cons (hf.get 3 _ rfl)).cons (hf.get 2 _ rfl)).cons (hf.get 1 _ rfl)).cons (hf.get 50 _ rfl)), hs⟩ ?_
    clear h hf hs
    rintro llk8 a w ⟨k8, m8, hlk8, hkk8, h, hf, hs⟩
    cases llk8 with
    | nil =>
     have hc := range_done hkk8
     replace h : (fun (m8 : List (Cell × Int)) => next1 m8) m8 := h
     refine X.l (S.v hf hs (.bool false) rfl (V.cmp false rfl rfl rfl rfl hc) fun a hf => X.n (wp_seq (C.no hf rfl (wp_exit (X.then_exit (X.then_exit (X.blk_exit (X.blk (X.then_ (R.list (S.v hf hs (iv ((k1 + 1 : Nat) : Int)) rfl (V.incr rfl rfl rfl hltk1 hlenk1) fun a hf => S.q hf hs (iv ((k1 + 1 : Nat) : Int)) rfl fun a hf => X.n ?_)))))))))))
     exact ⟨xk1, llk1, rfl, k1 + 1, m8, range_drop hlk1, range_len hkk1, (by rw [hnext1] at h; exact h), ((((((((hf.nil.cons (hf.get 41 _ rfl)).cons (hf.get 40 _ rfl)).cons (hf.get 9 _ rfl)).cons (hf.get 8 _ rfl)).cons (hf.get 3 _ rfl)).cons (hf.get 2 _ rfl)).cons (hf.get 1 _ rfl)).cons (hf.get 42 _ rfl)), hs.drop⟩
    | cons xk8 llk8 =>
     have hltk8 := range_lt hkk8; have hc := range_go hkk8; have hxk8 := range_get hlk8
     obtain ⟨next6, hnext6⟩ : ∃ X : List (Cell × Int) → Prop, X = (fun m8 => forIn' (fun k x (s : List (Cell × Int)) next => M_route_CheckRouted_L6 k1 k x s (fun m8 => next m8)) (fun (s : List (Cell × Int)) => (fun (m8 : List (Cell × Int)) => next1 m8) s) llk8 (k8 + 1) m8) := ⟨_, rfl⟩
     replace h : M_route_CheckRouted_L6 k1 k8 xk8 m8 next6 := by rw [hnext6]; exact h
     unfold M_route_CheckRouted_L6 at h
     refine X.l (S.v hf hs (.bool true) rfl (V.cmp true rfl rfl rfl rfl hc) fun a hf => X.n (wp_seq (C.yes hf rfl (wp_skip (X.then_ (wp_seq (wp_block (X.l (S.v hf hs (elemPtr u5A (k8 * 3)) rfl (V.index rfl rfl rfl runUnderlying22 sizeOf55 (hvu5.some_ (lt_of_get hxk8)) (Int.natCast_nonneg _) (lt_of_get hxk8) rfl) fun a hf => S.v hf hs (.agg #[iv xk8.X, iv xk8.Y, iv xk8.Layer]) rfl (V.loadEl (off := 0) (Ag.args _ _ _) (hvu5.flat hxk8) rfl rfl rfl isAgg55 sizeOf55 rfl rfl) fun a hf => S.alloc hf hs rfl rfl rfl [iv 0, iv 0, iv 0] rfl zeroValue55 rfl (fun g8 a w hf hs => S.storeBox 0 hf hs rfl rfl [iv xk8.X, iv xk8.Y, iv xk8.Layer] [iv xk8.X, iv xk8.Y, iv xk8.Layer] rfl rfl rfl rfl rfl sizeOf55 rfl rfl rfl rfl (fun a w hf hs => X.n (R.list (S.q hf hs (.map (some g2)) rfl fun a hf => S.v hf hs (.agg #[iv xk8.X, iv xk8.Y, iv xk8.Layer]) rfl (V.loadBox 0 rfl rfl rfl isAgg55 sizeOf55 rfl rfl) fun a hf => ?_)))))))))))))
     refine S.q hf hs (iv (k1 : Int)) rfl fun a hf => S.mapUpdate 2 hf hs rfl rfl rfl xk8 (k1 : Int) rfl rfl rfl rfl runUnderlying51 key55 (fun a w hf hs => R.nil (X.blk (X.then_ (R.list (S.v hf hs (iv ((k8 + 1 : Nat) : Int)) rfl (V.incr rfl rfl rfl hltk8 hlenk8) fun a hf => S.q hf hs (iv ((k8 + 1 : Nat) : Int)) rfl fun a hf => X.n ?_)))))
     exact ⟨xk8, llk8, rfl, k8 + 1, (mput m8 xk8 (k1 : Int)), range_drop hlk8, range_len hkk8, (by rw [hnext6] at h; exact h), ((((((((((((hf.nil.cons (hf.get 49 _ rfl)).cons (hf.get 48 _ rfl)).cons (hf.get 42 _ rfl)).cons (hf.get 41 _ rfl)).cons (hf.get 40 _ rfl)).cons (hf.get 10 _ rfl)).cons (hf.get 9 _ rfl)).cons (hf.get 8 _ rfl)).cons (hf.get 3 _ rfl)).cons (hf.get 2 _ rfl)).cons (hf.get 1 _ rfl)).cons (hf.get 50 _ rfl)), hs.drop⟩
end Go.Proofs.YtihjaehkdgdenaaGreatDoor
