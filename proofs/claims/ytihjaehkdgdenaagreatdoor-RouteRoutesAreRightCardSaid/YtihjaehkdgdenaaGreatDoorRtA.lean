/- Chapter texts of ours, as far as the claim needs them. -/
import Derived.Test.YtihjaehkdgdenaaGreatDoorRtG
import Derived.Test.YtihjaehkdgdenaaGreatDoorShort
namespace Go.Proofs.YtihjaehkdgdenaaGreatDoor
open Tryz Go Go.RowKit
set_option linter.unusedVariables false
set_option linter.unusedSectionVars false
set_option linter.unusedSimpArgs false
set_option maxHeartbeats 1000000
def M_queue_Len (q : (List RouteItem)) (Q : Int → Prop) : Prop :=
  Q (q.length : Int)
theorem R_queue_Len (q : (List RouteItem)) (w0 : World) (qA : Option Addr) (qC : Nat) (hv_q : View w0 (old w0 none_) qA qC q) (Q : Int → Prop) (h : M_queue_Len q Q) :
  Ret Tryz.prog 188 #[.slice qA q.length qC] w0 fun v w' => ∃ (r0 : Int), v = iv r0 ∧ Q r0 ∧ Sat w0 none_ [] w' := by
 refine fn_enter func188 rfl ntmps188 rfl (fs := [(0, .slice qA q.length qC)]) rfl (fun a hf => ?_)
 have hs := Sat.start w0 none_
 unfold M_queue_Len at h
 refine X.l (S.q hf hs (iv 0) rfl fun a hf => X.n (X.l (S.q hf hs (.slice qA q.length qC) rfl fun a hf => S.v hf hs (iv (q.length : Int)) rfl (V.len rfl rfl runUnderlying156) fun a hf => S.q hf hs (iv (q.length : Int)) rfl fun a hf => X.n (wp_ret ?_))))
 exact L.ret hf (run_results1 results188 (ResIs.tmp hf rfl)) ⟨(q.length : Int), rfl, h, hs.nil⟩
def M_queue_Less (q : (List RouteItem)) (i : Int) (j : Int) (Q : Bool → Prop) : Prop :=
  idx q i fun x1 => idx q j fun x2 => Q (decide (x1.key < x2.key))
theorem R_queue_Less (q : (List RouteItem)) (i : Int) (j : Int) (w0 : World) (qA : Option Addr) (qC : Nat) (hv_q : View w0 (old w0 none_) qA qC q) (Q : Bool → Prop) (h : M_queue_Less q i j Q) :
  Ret Tryz.prog 189 #[.slice qA q.length qC, iv i, iv j] w0 fun v w' => ∃ (r0 : Bool), v = .bool r0 ∧ Q r0 ∧ Sat w0 none_ [] w' := by
 refine fn_enter func189 rfl ntmps189 rfl (fs := [(0, .slice qA q.length qC), (1, iv i), (2, iv j)]) rfl (fun a hf => ?_)
 have hs := Sat.start w0 none_
 unfold M_queue_Less at h
 refine X.l (S.q hf hs (.bool false) rfl fun a hf => X.n (wp_seq (R.draw mo (by kernel_rfl) hs (D.p hf (.slice qA q.length qC) rfl rfl fun a hf => D.p hf (iv i) rfl rfl fun a hf => ?_))))
 obtain ⟨h0x1, x1, hx1, h⟩ := h
 refine D.v hf (elemPtr qA (i.toNat * 2)) rfl (V.index rfl rfl rfl runUnderlying156 sizeOf158 (hv_q.some_ (lt_of_get hx1)) h0x1 (lt_of_get hx1) rfl) fun a hf => D.v hf (elemPtr qA (i.toNat * 2)) rfl (V.fieldEl rfl rfl (hv_q.some_ (lt_of_get hx1)) runUnderlying158 rfl sizeOf3 rfl rfl) fun a hf => D.v hf (iv x1.key) rfl (V.loadEl (off := 0) (Ag.args _ _ _) (hv_q.flat hx1) rfl rfl rfl isAgg3 sizeOf3 rfl rfl) fun a hf => D.p hf (.slice qA q.length qC) rfl rfl fun a hf => D.p hf (iv j) rfl rfl fun a hf => ?_
 obtain ⟨h0x2, x2, hx2, h⟩ := h
 refine D.v hf (elemPtr qA (j.toNat * 2)) rfl (V.index rfl rfl rfl runUnderlying156 sizeOf158 (hv_q.some_ (lt_of_get hx2)) h0x2 (lt_of_get hx2) rfl) fun a hf => D.v hf (elemPtr qA (j.toNat * 2)) rfl (V.fieldEl rfl rfl (hv_q.some_ (lt_of_get hx2)) runUnderlying158 rfl sizeOf3 rfl rfl) fun a hf => D.v hf (iv x2.key) rfl (V.loadEl (off := 0) (Ag.args _ _ _) (hv_q.flat hx2) rfl rfl rfl isAgg3 sizeOf3 rfl rfl) fun a hf => D.p hf (.bool (decide (x1.key < x2.key))) rfl rfl fun a hf => D.p hf (.bool (decide (x1.key < x2.key))) rfl rfl fun a hf => D.done (fun w hs => X.then_ (wp_ret ?_))
 exact L.ret hf (run_results1 results189 (ResIs.tmp hf rfl)) ⟨(decide (x1.key < x2.key)), rfl, h, hs.nil⟩
def M_queue_Swap (q : (List RouteItem)) (i : Int) (j : Int) (Q : (List RouteItem) → Prop) : Prop :=
  idx q j fun x1 => idx q i fun x2 => idx (q.set i.toNat x1) j fun x3 => Q ((q.set i.toNat x1).set j.toNat x2)
theorem R_queue_Swap (q : (List RouteItem)) (i : Int) (j : Int) (w0 : World) (F0 : Nat → Prop) (qA : Option Addr) (qC : Nat) (hs0 : Sat w0 F0 [hown 158 qA qC q] w0) (Q : (List RouteItem) → Prop) (h : M_queue_Swap q i j Q) :
  Ret Tryz.prog 190 #[.slice qA q.length qC, iv i, iv j] w0 fun v w' => ∃ (q1 : List RouteItem) (hl_q1 : q1.length = q.length), v = .tuple #[] ∧ Q q1 ∧ Sat w0 F0 [hown 158 qA qC q1] w' := by
 refine fn_enter func190 rfl ntmps190 rfl (fs := [(0, .slice qA q.length qC), (1, iv i), (2, iv j)]) rfl (fun a hf => ?_)
 have hs := hs0
 unfold M_queue_Swap at h
 refine M.start 13 (Sat w0 F0 [hown 158 qA qC q]) mo ?_
 replace hs := hs.drew
 refine M.v hf hs (.slice qA q.length qC) 0 rfl rfl (by kernel_rfl) (V.pure rfl) fun a hf => M.v hf hs (iv i) 1 rfl rfl (by kernel_rfl) (V.pure rfl) fun a hf => M.valp hf hs (v := .slice qA q.length qC) (i := 2) rfl rfl rfl rfl (by kernel_rfl) (by kernel_rfl) (by kernel_rfl) rfl (fun w1 => V.pure rfl) (fun a hf => M.valp hf hs (v := iv j) (i := 3) rfl rfl rfl rfl (by kernel_rfl) (by kernel_rfl) (by kernel_rfl) rfl (fun w1 => V.pure rfl) (fun a hf => M.v hf hs (.slice qA q.length qC) 4 rfl rfl (by kernel_rfl) (V.pure rfl) fun a hf => M.v hf hs (iv j) 5 rfl rfl (by kernel_rfl) (V.pure rfl) fun a hf => ?_))
 obtain ⟨h0x1, x1, hx1, h⟩ := h
 refine M.v hf hs (elemPtr qA (j.toNat * 2)) 6 rfl rfl (by kernel_rfl) (V.index rfl rfl rfl runUnderlying156 sizeOf158 (hs.ownSome 0 rfl (lt_of_get hx1)) h0x1 (lt_of_get hx1) rfl) fun a hf => M.v hf hs (.agg #[iv x1.key, iv x1.state]) 7 rfl rfl (by kernel_rfl) (V.loadOwn (off := 0) 0 rfl hx1 rfl rfl rfl isAgg158 sizeOf158 rfl rfl) fun a hf => M.valp hf hs (v := .slice qA q.length qC) (i := 8) rfl rfl rfl rfl (by kernel_rfl) (by kernel_rfl) (by kernel_rfl) rfl (fun w1 => V.pure rfl) (fun a hf => M.valp hf hs (v := iv i) (i := 9) rfl rfl rfl rfl (by kernel_rfl) (by kernel_rfl) (by kernel_rfl) rfl (fun w1 => V.pure rfl) (fun a hf => ?_))
 obtain ⟨h0x2, x2, hx2, h⟩ := h
 refine M.valp hf hs (v := elemPtr qA (i.toNat * 2)) (i := 10) rfl rfl rfl rfl (by kernel_rfl) (by kernel_rfl) (by kernel_rfl) rfl (fun w1 => V.index rfl rfl rfl runUnderlying156 sizeOf158 (hs.ownSome 0 rfl (lt_of_get hx2)) h0x2 (lt_of_get hx2) rfl) (fun a hf => M.v hf hs (.agg #[iv x2.key, iv x2.state]) 11 rfl rfl (by kernel_rfl) (V.loadOwn (off := 0) 0 rfl hx2 rfl rfl rfl isAgg158 sizeOf158 rfl rfl) fun a hf => M.v hf hs (elemPtr qA (i.toNat * 2)) 12 rfl rfl (by kernel_rfl) (V.index rfl rfl rfl runUnderlying156 sizeOf158 (hs.ownSome 0 rfl (lt_of_get hx2)) h0x2 (lt_of_get hx2) rfl) fun a hf => M.last (i := 13) rfl (by kernel_rfl) (by kernel_rfl) (S.storeOwn (off := 0) 0 hf hs rfl rfl x1 [iv x1.key, iv x1.state] rfl hx2 rfl rfl rfl rfl rfl sizeOf158 rfl (by decide) rfl rfl (fun a w hf hs => ?_)))
 replace hf := hf.tell 0 (v := .slice qA (q.set i.toNat x1).length qC) ((hf.get 0 (.slice qA q.length qC) rfl).trans (congrArg (fun n => Value.slice qA n qC) List.length_set.symm))
 replace hf := hf.tell 6 (v := .slice qA (q.set i.toNat x1).length qC) ((hf.get 6 (.slice qA q.length qC) rfl).trans (congrArg (fun n => Value.slice qA n qC) List.length_set.symm))
 replace hf := hf.tell 8 (v := .slice qA (q.set i.toNat x1).length qC) ((hf.get 8 (.slice qA q.length qC) rfl).trans (congrArg (fun n => Value.slice qA n qC) List.length_set.symm))
 replace hf := hf.tell 10 (v := .slice qA (q.set i.toNat x1).length qC) ((hf.get 10 (.slice qA q.length qC) rfl).trans (congrArg (fun n => Value.slice qA n qC) List.length_set.symm))
 replace hf := hf.tell 14 (v := .slice qA (q.set i.toNat x1).length qC) ((hf.get 14 (.slice qA q.length qC) rfl).trans (congrArg (fun n => Value.slice qA n qC) List.length_set.symm))
 refine X.n (M.last (i := 14) rfl (by kernel_rfl) (by kernel_rfl) ?_)
 obtain ⟨h0x3, x3, hx3, h⟩ := h
 refine S.v hf hs (elemPtr qA (j.toNat * 2)) rfl (V.index rfl rfl rfl runUnderlying156 sizeOf158 (hs.ownSome 0 rfl (lt_of_get hx3)) h0x3 (lt_of_get hx3) rfl) fun a hf => X.n (M.last (i := 15) rfl (by kernel_rfl) (by kernel_rfl) (S.storeOwn (off := 0) 0 hf hs rfl rfl x2 [iv x2.key, iv x2.state] rfl hx3 rfl rfl rfl rfl rfl sizeOf158 rfl (by decide) rfl rfl (fun a w hf hs => ?_)))
 replace hf := hf.tell 0 (v := .slice qA ((q.set i.toNat x1).set j.toNat x2).length qC) ((hf.get 0 (.slice qA (q.set i.toNat x1).length qC) rfl).trans (congrArg (fun n => Value.slice qA n qC) List.length_set.symm))
 replace hf := hf.tell 6 (v := .slice qA ((q.set i.toNat x1).set j.toNat x2).length qC) ((hf.get 6 (.slice qA (q.set i.toNat x1).length qC) rfl).trans (congrArg (fun n => Value.slice qA n qC) List.length_set.symm))
 replace hf := hf.tell 8 (v := .slice qA ((q.set i.toNat x1).set j.toNat x2).length qC) ((hf.get 8 (.slice qA (q.set i.toNat x1).length qC) rfl).trans (congrArg (fun n => Value.slice qA n qC) List.length_set.symm))
 replace hf := hf.tell 10 (v := .slice qA ((q.set i.toNat x1).set j.toNat x2).length qC) ((hf.get 10 (.slice qA (q.set i.toNat x1).length qC) rfl).trans (congrArg (fun n => Value.slice qA n qC) List.length_set.symm))
 replace hf := hf.tell 14 (v := .slice qA ((q.set i.toNat x1).set j.toNat x2).length qC) ((hf.get 14 (.slice qA (q.set i.toNat x1).length qC) rfl).trans (congrArg (fun n => Value.slice qA n qC) List.length_set.symm))
 refine X.n (M.done (by kernel_rfl) ?_)
 replace hs := hs.take 1
 exact L.end0 results190 hf ⟨((q.set i.toNat x1).set j.toNat x2), (List.length_set.trans (List.length_set.trans rfl)), rfl, h, hs⟩
def M_queue_Push (q : (List RouteItem)) (x_ : RouteItem) (Q : (List RouteItem) → Prop) : Prop :=
  must (room (q ++ [x_]).length 16) (Q (q ++ [x_]))
theorem R_queue_Push (q : (List RouteItem)) (x_ : RouteItem) (w0 : World) (F0 : Nat → Prop) (qg : Nat) (qA : Option Addr) (qC : Nat) (hs0 : Sat w0 F0 [hbox qg 156 [.slice qA q.length qC], hown 158 qA qC q] w0) (Q : (List RouteItem) → Prop) (h : M_queue_Push q x_ Q) :
  Ret Tryz.prog 192 #[(pn qg 0), .iface 158 (.agg #[iv x_.key, iv x_.state])] w0 fun v w' => ∃ (q1 : (List RouteItem)) (q1A : Option Addr) (q1C : Nat), v = .tuple #[] ∧ Q q1 ∧ Sat w0 F0 [hbox qg 156 [.slice q1A q1.length q1C], hown 158 q1A q1C q1] w' := by
 refine fn_enter func192 rfl ntmps192 rfl (fs := [(0, (pn qg 0)), (1, .iface 158 (.agg #[iv x_.key, iv x_.state]))]) rfl (fun a hf => ?_)
 have hs := hs0
 unfold M_queue_Push at h
 refine M.start 7 (Sat w0 F0 [hbox qg 156 [.slice qA q.length qC], hown 158 qA qC q]) mo ?_
 replace hs := hs.drew
 refine M.valp hf hs (v := (pn qg 0)) (i := 0) rfl rfl rfl rfl (by kernel_rfl) (by kernel_rfl) (by kernel_rfl) rfl (fun w1 => V.pure rfl) (fun a hf => M.valp hf hs (v := (pn qg 0)) (i := 1) rfl rfl rfl rfl (by kernel_rfl) (by kernel_rfl) (by kernel_rfl) rfl (fun w1 => V.pure rfl) (fun a hf => M.valp hf hs (v := (pn qg 0)) (i := 2) rfl rfl rfl rfl (by kernel_rfl) (by kernel_rfl) (by kernel_rfl) rfl (fun w1 => V.pure rfl) (fun a hf => M.v hf hs (.slice qA q.length qC) 3 rfl rfl (by kernel_rfl) (V.loadBox 0 rfl rfl rfl isAgg156 sizeOf156 rfl rfl) fun a hf => M.valp hf hs (v := .iface 158 (.agg #[iv x_.key, iv x_.state])) (i := 4) rfl rfl rfl rfl (by kernel_rfl) (by kernel_rfl) (by kernel_rfl) rfl (fun w1 => V.pure rfl) (fun a hf => M.one (i := 5) rfl (by kernel_rfl) (S.v hf hs (.agg #[iv x_.key, iv x_.state]) rfl (V.assert rfl rfl (fun w => ⟨_, runUnderlying158 w, rfl⟩)) fun a hf => X.n (⟨hs, (M.one (i := 6) rfl (by kernel_rfl) (S.build1 hf hs rfl rfl rfl (α := RouteItem) x_ rfl rfl rfl runUnderlying156 sizeOf158 zeroValue158 rfl (by decide) (fun A1 a w hf hs => X.n ?_)))⟩))))))
 refine ⟨(hs.mask [false, true, true]), (M.last (i := 7) rfl (by kernel_rfl) (by kernel_rfl) ?_)⟩
 obtain ⟨hroom, h⟩ := h
 refine S.appendCells 2 hf hs rfl rfl rfl rfl rfl rfl rfl underlying156 info158 rfl hroom ((hs.ownView 0 rfl).some_ (i := 0) (by simp)) (hs.ownView 0 rfl) (fun A2 C1 a w hf hs => ?_)
 replace hs := hs.drop
 refine X.n (M.last (i := 8) rfl (by kernel_rfl) (by kernel_rfl) (S.q hf hs ((pn qg 0)) rfl fun a hf => X.n (M.last (i := 9) rfl (by kernel_rfl) (by kernel_rfl) (S.storeBox 0 hf hs rfl rfl [.slice A2 (q ++ [x_]).length C1] [.slice A2 (q ++ [x_]).length C1] rfl rfl rfl rfl rfl sizeOf156 rfl rfl rfl rfl (fun a w hf hs => X.n (M.done (by kernel_rfl) ?_))))))
 replace hs := hs.front 1 rfl
 replace hs := hs.front 1 rfl
 replace hs := hs.take 2
 exact L.end0 results192 hf ⟨(q ++ [x_]), A2, C1, rfl, h, hs⟩
def M_queue_Pop (q : (List RouteItem)) (Q : RouteItem → (List RouteItem) → Prop) : Prop :=
  idx q (w64 ((q.length : Int) - 1)) fun x1 => must (0 ≤ w64 ((q.length : Int) - 1) ∧ w64 ((q.length : Int) - 1) ≤ (q.length : Int)) (Q x1 (q.take (w64 ((q.length : Int) - 1)).toNat))
theorem R_queue_Pop (q : (List RouteItem)) (w0 : World) (F0 : Nat → Prop) (qg : Nat) (qA : Option Addr) (qC : Nat) (hs0 : Sat w0 F0 [hbox qg 156 [.slice qA q.length qC], hown 158 qA qC q] w0) (Q : RouteItem → (List RouteItem) → Prop) (h : M_queue_Pop q Q) :
  Ret Tryz.prog 191 #[(pn qg 0)] w0 fun v w' => ∃ (r0 : RouteItem) (q1 : (List RouteItem)) (q1A : Option Addr) (q1C : Nat), v = .iface 158 (.agg #[iv r0.key, iv r0.state]) ∧ Q r0 q1 ∧ Sat w0 F0 [hbox qg 156 [.slice q1A q1.length q1C], hown 158 q1A q1C q1] w' := by
 refine fn_enter func191 rfl ntmps191 rfl (fs := [(0, (pn qg 0))]) rfl (fun a hf => ?_)
 have hs := hs0
 unfold M_queue_Pop at h
 refine X.l (S.q hf hs .nilIface rfl fun a hf => X.n (X.l (S.q hf hs ((pn qg 0)) rfl fun a hf => S.q hf hs ((pn qg 0)) rfl fun a hf => S.v hf hs (.slice qA q.length qC) rfl (V.loadBox 0 rfl rfl rfl isAgg156 sizeOf156 rfl rfl) fun a hf => S.q hf hs (.slice qA q.length qC) rfl fun a hf => X.n (X.l (S.q hf hs (.slice qA q.length qC) rfl fun a hf => S.q hf hs (.slice qA q.length qC) rfl fun a hf => S.v hf hs (iv (q.length : Int)) rfl (V.len rfl rfl runUnderlying156) fun a hf => S.q hf hs (iv (w64 ((q.length : Int) - 1))) rfl fun a hf => ?_)))))
 obtain ⟨h0x1, x1, hx1, h⟩ := h
 refine S.v hf hs (elemPtr qA ((w64 ((q.length : Int) - 1)).toNat * 2)) rfl (V.index rfl rfl rfl runUnderlying156 sizeOf158 (hs.ownSome 1 rfl (lt_of_get hx1)) h0x1 (lt_of_get hx1) rfl) fun a hf => S.v hf hs (.agg #[iv x1.key, iv x1.state]) rfl (V.loadOwn (off := 0) 1 rfl hx1 rfl rfl rfl isAgg158 sizeOf158 rfl rfl) fun a hf => S.alloc hf hs rfl rfl rfl [iv 0, iv 0] rfl zeroValue158 rfl (fun g1 a w hf hs => S.storeBox 0 hf hs rfl rfl [iv x1.key, iv x1.state] [iv x1.key, iv x1.state] rfl rfl rfl rfl rfl sizeOf158 rfl rfl rfl rfl (fun a w hf hs => X.n (X.l (S.q hf hs ((pn qg 0)) rfl fun a hf => S.q hf hs (.slice qA q.length qC) rfl fun a hf => S.q hf hs (.slice qA q.length qC) rfl fun a hf => S.v hf hs (iv (q.length : Int)) rfl (V.len rfl rfl runUnderlying156) fun a hf => S.q hf hs (iv (w64 ((q.length : Int) - 1))) rfl fun a hf => ?_))))
 obtain ⟨hp1, h⟩ := h
 refine S.v hf hs (.slice qA (q.take (w64 ((q.length : Int) - 1)).toNat).length qC) rfl (V.slicePre (xs := q) rfl rfl rfl rfl runUnderlying156 sizeOf158 rfl hp1 (hs.ownView 2 rfl).cap) fun a hf => S.q hf hs ((pn qg 0)) rfl fun a hf => S.storeBox 1 hf hs rfl rfl [.slice qA (q.take (w64 ((q.length : Int) - 1)).toNat).length qC] [.slice qA (q.take (w64 ((q.length : Int) - 1)).toNat).length qC] rfl rfl rfl rfl rfl sizeOf156 rfl rfl rfl rfl (fun a w hf hs => X.n (X.l (S.v hf hs (.agg #[iv x1.key, iv x1.state]) rfl (V.loadBox 0 rfl rfl rfl isAgg158 sizeOf158 rfl rfl) fun a hf => S.v hf hs (.iface 158 (.agg #[iv x1.key, iv x1.state])) rfl (V.makeIface rfl rfl (fun w => ⟨_, runUnderlying158 w, rfl⟩)) fun a hf => S.q hf hs (.iface 158 (.agg #[iv x1.key, iv x1.state])) rfl fun a hf => X.n (wp_ret ?_))))
 replace hs := hs.shorten (xs := q) 2 rfl ((w64 ((q.length : Int) - 1)).toNat) (by have := hp1; omega)
 replace hs := hs.front 2 rfl
 replace hs := hs.front 2 rfl
 replace hs := hs.take 2
 exact L.ret hf (run_results1 results191 (ResIs.tmp hf rfl)) ⟨x1, (q.take (w64 ((q.length : Int) - 1)).toNat), qA, qC, rfl, h, hs⟩
def M_heap_up_k2 (Q : (List RouteItem) → Prop) (l2 : List RouteItem) (n2 : Int) (again1 : List RouteItem → Int → Prop) (c1 : Bool) : Prop :=
  cnd c1 (Q l2) (M_queue_Swap l2 (w64 ((w64 (n2 - 1)).tdiv 2)) n2 fun z1 => again1 z1 (w64 ((w64 (n2 - 1)).tdiv 2)))
def M_heap_up_L1 (Q : (List RouteItem) → Prop) (again1 : List RouteItem → Int → Prop) (l2 : List RouteItem) (n2 : Int) : Prop :=
  cnd ((w64 ((w64 (n2 - 1)).tdiv 2)) == n2) (M_heap_up_k2 Q l2 n2 again1 true) (M_queue_Less l2 n2 (w64 ((w64 (n2 - 1)).tdiv 2)) fun y1 => M_heap_up_k2 Q l2 n2 again1 (!y1))
def M_heap_up (q : (List RouteItem)) (j : Int) (Q : (List RouteItem) → Prop) : Prop :=
  lp (fun again (s : List RouteItem × Int) => M_heap_up_L1 Q (fun l2 n2 => again (l2, n2)) s.1 s.2) (q, j)
theorem R_heap_up (q : (List RouteItem)) (j : Int) (w0 : World) (F0 : Nat → Prop) (qg : Nat) (qA : Option Addr) (qC : Nat) (hs0 : Sat w0 F0 [hbox qg 156 [.slice qA q.length qC], hown 158 qA qC q] w0) (Q : (List RouteItem) → Prop) (h : M_heap_up q j Q) :
  Ret Tryz.prog 140 #[.iface 160 ((pn qg 0)), iv j] w0 fun v w' => ∃ (q1 : (List RouteItem)) (q1A : Option Addr) (q1C : Nat), v = .tuple #[] ∧ Q q1 ∧ Sat w0 F0 [hbox qg 156 [.slice q1A q1.length q1C], hown 158 q1A q1C q1] w' := by
 refine fn_enter func140 rfl ntmps140 rfl (fs := [(0, .iface 160 ((pn qg 0))), (1, iv j)]) rfl (fun a hf => ?_)
 have hs := hs0
 unfold M_heap_up at h
 refine wp_block ?_
 obtain ⟨kk, h⟩ := h
 refine C.loop (fun kk a w => ∃ (l2 : List RouteItem) (l2A : Option Addr) (l2C : Nat) (n2 : Int), iterF (fun again (s : List RouteItem × Int) => M_heap_up_L1 Q (fun l2 n2 => again (l2, n2)) s.1 s.2) kk (l2, n2) ∧ FrOk 23 [(0, .iface 160 ((pn qg 0))), (1, iv n2)] a ∧ Sat w0 F0 [hbox qg 156 [.slice l2A l2.length l2C], hown 158 l2A l2C l2] w) kk ⟨q, qA, qC, j, h, ((hf.nil.cons (hf.get 1 _ rfl)).cons (hf.get 0 _ rfl)), hs⟩ (fun a w ⟨_, _, _, _, h, _, _⟩ => h) ?_
 clear h hf hs
 rintro kk a w ⟨l2, l2A, l2C, n2, h, hf, hs⟩
 obtain ⟨again1, hagain1⟩ : ∃ X : List RouteItem → Int → Prop, X = (fun l2 n2 => iterF (fun again (s : List RouteItem × Int) => M_heap_up_L1 Q (fun l2 n2 => again (l2, n2)) s.1 s.2) kk (l2, n2)) := ⟨_, rfl⟩
 replace h : M_heap_up_L1 Q again1 l2 n2 := by rw [hagain1]; exact h
 unfold M_heap_up_L1 at h
 refine wp_block (X.l (S.q hf hs (iv n2) rfl fun a hf => S.q hf hs (iv (w64 (n2 - 1))) rfl fun a hf => S.v hf hs (iv (w64 ((w64 (n2 - 1)).tdiv 2))) rfl (V.quo rfl rfl rfl (by decide)) fun a hf => S.q hf hs (iv (w64 ((w64 (n2 - 1)).tdiv 2))) rfl fun a hf => X.n (wp_seq (wp_seq ?_))))
 refine C.cut (J := fun a w => ∃ (c1 : Bool), M_heap_up_k2 Q l2 n2 again1 c1 ∧ FrOk 23 [(0, .iface 160 ((pn qg 0))), (1, iv n2), (4, iv (w64 ((w64 (n2 - 1)).tdiv 2))), (17, .bool c1)] a ∧ Sat w0 F0 [hbox qg 156 [.slice l2A l2.length l2C], hown 158 l2A l2C l2] w) ?_ ?_
 ·rintro a w ⟨c1, h, hf, hs⟩
  unfold M_heap_up_k2 at h
  refine C.cond hf (b := c1) rfl (fun hc => ?_) (fun hc => ?_)
  ·replace h := h.1 hc
   refine wp_exit (X.then_exit (X.blk_other rfl (X.then_exit (X.blk_exit ?_))))
   replace hs := hs.front 1 rfl
   replace hs := hs.front 1 rfl
   replace hs := hs.take 2
   exact L.end0 results140 hf ⟨l2, l2A, l2C, rfl, h, hs⟩
  ·replace h := h.2 hc
   refine wp_skip (X.then_ (X.l (S.q hf hs (.iface 160 ((pn qg 0))) rfl fun a hf => S.q hf hs (iv (w64 ((w64 (n2 - 1)).tdiv 2))) rfl fun a hf => S.q hf hs (iv n2) rfl fun a hf => ?_)))
   have hld := load_box (P := Tryz.prog) (v := .slice l2A l2.length l2C) 0 hs (vs := [.slice l2A l2.length l2C]) rfl isAgg156 sizeOf156 rfl rfl
   replace hs := hs.front 1 rfl
   obtain ⟨F1, hsF, hback, hold, hrest⟩ := Sat.callOwns [hown 158 l2A l2C l2] (σ := [hbox qg 156 [.slice l2A l2.length l2C]]) hs
   refine S.callW hf rfl rfl rfl (run_invoke (vs := [iv (w64 ((w64 (n2 - 1)).tdiv 2)), iv n2]) (full := [.slice l2A l2.length l2C, iv (w64 ((w64 (n2 - 1)).tdiv 2)), iv n2]) rfl rfl rfl (meth_val (vs := [iv (w64 ((w64 (n2 - 1)).tdiv 2)), iv n2]) (i := Tryz.t160) (sig := 107) (by kernel_rfl) (by kernel_rfl) underlying160 hld call190)) (R_queue_Swap l2 (w64 ((w64 (n2 - 1)).tdiv 2)) n2 _ _ l2A l2C hsF _ h) (fun v a w' hf hr => ?_)
   obtain ⟨z1, hl_z1, rfl, h2, hs2⟩ := hr
   replace h := h2; replace hs := hback _ _ hs2; clear h2 hs2 hback hold hrest hsF
   replace hs := hs.rebox 1 (vs' := [.slice l2A z1.length l2C]) rfl (congrArg (fun n => [Value.slice l2A n l2C]) hl_z1.symm)
   refine X.n (R.list (S.q hf hs (iv (w64 ((w64 (n2 - 1)).tdiv 2))) rfl fun a hf => S.q hf hs (iv (w64 ((w64 (n2 - 1)).tdiv 2))) rfl fun a hf => R.nil (X.blk (X.then_ ?_))))
   replace hs := hs.front 1 rfl
   exact ⟨z1, l2A, l2C, (w64 ((w64 (n2 - 1)).tdiv 2)), (by rw [hagain1] at h; exact h), ((hf.nil.cons (hf.get 1 _ rfl)).cons (hf.get 0 _ rfl)), hs⟩
 ·skip
  refine R.list (S.q hf hs (iv (w64 ((w64 (n2 - 1)).tdiv 2))) rfl fun a hf => S.q hf hs (iv n2) rfl fun a hf => S.q hf hs (.bool ((w64 ((w64 (n2 - 1)).tdiv 2)) == n2)) rfl fun a hf => ?_)
  refine S.split hf hs (b := (w64 ((w64 (n2 - 1)).tdiv 2)) == n2) rfl rfl rfl (V.pure rfl) (fun hc a hf => ?_) (fun hc a hf => ?_)
  ·replace h := h.1 hc
   refine S.k hf rfl fun a hf => S.k hf rfl fun a hf => S.k hf rfl fun a hf => S.k hf rfl fun a hf => S.k hf rfl fun a hf => S.q hf hs (.bool true) rfl fun a hf => X.n ?_
   exact ⟨true, h, ((((hf.nil.cons (hf.get 17 _ rfl)).cons (hf.get 4 _ rfl)).cons (hf.get 1 _ rfl)).cons (hf.get 0 _ rfl)), hs⟩
  ·replace h := h.2 hc
   refine S.q hf hs (.iface 160 ((pn qg 0))) rfl fun a hf => S.q hf hs (iv n2) rfl fun a hf => S.q hf hs (iv (w64 ((w64 (n2 - 1)).tdiv 2))) rfl fun a hf => ?_
   have hld := load_box (P := Tryz.prog) (v := .slice l2A l2.length l2C) 0 hs (vs := [.slice l2A l2.length l2C]) rfl isAgg156 sizeOf156 rfl rfl
   refine S.callW hf rfl rfl rfl (run_invoke (vs := [iv n2, iv (w64 ((w64 (n2 - 1)).tdiv 2))]) (full := [.slice l2A l2.length l2C, iv n2, iv (w64 ((w64 (n2 - 1)).tdiv 2))]) rfl rfl rfl (meth_val (vs := [iv n2, iv (w64 ((w64 (n2 - 1)).tdiv 2))]) (i := Tryz.t160) (sig := 194) (by kernel_rfl) (by kernel_rfl) underlying160 hld call189)) (R_queue_Less l2 n2 (w64 ((w64 (n2 - 1)).tdiv 2)) _ l2A l2C (hs.ownView 1 rfl) _ h) (fun v a w' hf hr => ?_)
   obtain ⟨y1, rfl, h2, hs2⟩ := hr
   replace h := h2; replace hs := hs.call hs2; clear h2 hs2
   refine S.q hf hs (.bool (!y1)) rfl fun a hf => S.q hf hs (.bool (!y1)) rfl fun a hf => X.n ?_
   exact ⟨(!y1), h, ((((hf.nil.cons (hf.get 17 _ rfl)).cons (hf.get 4 _ rfl)).cons (hf.get 1 _ rfl)).cons (hf.get 0 _ rfl)), hs⟩
def M_heap_down_k1 (i : Int) (Q : Bool → (List RouteItem) → Prop) (l1 : List RouteItem) (n1 : Int) : Prop :=
  Q (decide (n1 > i)) l1
def M_heap_down_k4 (i : Int) (Q : Bool → (List RouteItem) → Prop) (l3 : List RouteItem) (n3 : Int) (again1 : List RouteItem → Int → Prop) (n4 : Int) : Prop :=
  M_queue_Less l3 n4 n3 fun y1 => cnd (!y1) (M_heap_down_k1 i Q l3 n3) (M_queue_Swap l3 n3 n4 fun z1 => again1 z1 n4)
def M_heap_down_k5 (i : Int) (Q : Bool → (List RouteItem) → Prop) (l3 : List RouteItem) (n3 : Int) (again1 : List RouteItem → Int → Prop) (c2 : Bool) : Prop :=
  cnd c2 (M_heap_down_k4 i Q l3 n3 again1 (w64 ((w64 ((w64 (2 * n3)) + 1)) + 1))) (M_heap_down_k4 i Q l3 n3 again1 (w64 ((w64 (2 * n3)) + 1)))
def M_heap_down_k3 (i : Int) (n : Int) (Q : Bool → (List RouteItem) → Prop) (l3 : List RouteItem) (n3 : Int) (again1 : List RouteItem → Int → Prop) (c1 : Bool) : Prop :=
  cnd c1 (M_heap_down_k1 i Q l3 n3) (cnd (decide (w64 ((w64 ((w64 (2 * n3)) + 1)) + 1) < n)) (M_queue_Less l3 (w64 ((w64 ((w64 (2 * n3)) + 1)) + 1)) (w64 ((w64 (2 * n3)) + 1)) fun y2 => M_heap_down_k5 i Q l3 n3 again1 y2) (M_heap_down_k5 i Q l3 n3 again1 false))
def M_heap_down_L1 (i : Int) (n : Int) (Q : Bool → (List RouteItem) → Prop) (again1 : List RouteItem → Int → Prop) (l3 : List RouteItem) (n3 : Int) : Prop :=
  cnd (decide (w64 ((w64 (2 * n3)) + 1) ≥ n)) (M_heap_down_k3 i n Q l3 n3 again1 true) (M_heap_down_k3 i n Q l3 n3 again1 (decide (w64 ((w64 (2 * n3)) + 1) < 0)))
def M_heap_down (q : (List RouteItem)) (i : Int) (n : Int) (Q : Bool → (List RouteItem) → Prop) : Prop :=
  lp (fun again (s : List RouteItem × Int) => M_heap_down_L1 i n Q (fun l3 n3 => again (l3, n3)) s.1 s.2) (q, i)
theorem R_heap_down (q : (List RouteItem)) (i : Int) (n : Int) (w0 : World) (F0 : Nat → Prop) (qg : Nat) (qA : Option Addr) (qC : Nat) (hs0 : Sat w0 F0 [hbox qg 156 [.slice qA q.length qC], hown 158 qA qC q] w0) (Q : Bool → (List RouteItem) → Prop) (h : M_heap_down q i n Q) :
  Ret Tryz.prog 137 #[.iface 160 ((pn qg 0)), iv i, iv n] w0 fun v w' => ∃ (r0 : Bool) (q1 : (List RouteItem)) (q1A : Option Addr) (q1C : Nat), v = .bool r0 ∧ Q r0 q1 ∧ Sat w0 F0 [hbox qg 156 [.slice q1A q1.length q1C], hown 158 q1A q1C q1] w' := by
 refine fn_enter func137 rfl ntmps137 rfl (fs := [(0, .iface 160 ((pn qg 0))), (1, iv i), (2, iv n)]) rfl (fun a hf => ?_)
 have hs := hs0
 unfold M_heap_down at h
 refine X.l (S.q hf hs (.bool false) rfl fun a hf => X.n (X.l (S.q hf hs (iv i) rfl fun a hf => S.q hf hs (iv i) rfl fun a hf => X.n (wp_seq ?_))))
 refine C.cut (J := fun a w => ∃ (l1 : List RouteItem) (l1A : Option Addr) (l1C : Nat) (n1 : Int), M_heap_down_k1 i Q l1 n1 ∧ FrOk 48 [(1, iv i), (7, iv n1)] a ∧ Sat w0 F0 [hbox qg 156 [.slice l1A l1.length l1C], hown 158 l1A l1C l1] w) ?_ ?_
 ·rintro a w ⟨l1, l1A, l1C, n1, h, hf, hs⟩
  unfold M_heap_down_k1 at h
  refine X.l (S.q hf hs (iv n1) rfl fun a hf => S.q hf hs (iv i) rfl fun a hf => S.q hf hs (.bool (decide (n1 > i))) rfl fun a hf => S.q hf hs (.bool (decide (n1 > i))) rfl fun a hf => X.n (wp_ret ?_))
  replace hs := hs.front 1 rfl
  replace hs := hs.front 1 rfl
  replace hs := hs.take 2
  exact L.ret hf (run_results1 results137 (ResIs.tmp hf rfl)) ⟨(decide (n1 > i)), l1, l1A, l1C, rfl, h, hs⟩
 ·skip
  refine wp_block ?_
  obtain ⟨kk, h⟩ := h
  refine C.loop (fun kk a w => ∃ (l3 : List RouteItem) (l3A : Option Addr) (l3C : Nat) (n3 : Int), iterF (fun again (s : List RouteItem × Int) => M_heap_down_L1 i n Q (fun l3 n3 => again (l3, n3)) s.1 s.2) kk (l3, n3) ∧ FrOk 48 [(0, .iface 160 ((pn qg 0))), (1, iv i), (2, iv n), (7, iv n3)] a ∧ Sat w0 F0 [hbox qg 156 [.slice l3A l3.length l3C], hown 158 l3A l3C l3] w) kk ⟨q, qA, qC, i, h, ((((hf.nil.cons (hf.get 7 _ rfl)).cons (hf.get 2 _ rfl)).cons (hf.get 1 _ rfl)).cons (hf.get 0 _ rfl)), hs⟩ (fun a w ⟨_, _, _, _, h, _, _⟩ => h) ?_
  clear h hf hs
  rintro kk a w ⟨l3, l3A, l3C, n3, h, hf, hs⟩
  obtain ⟨again1, hagain1⟩ : ∃ X : List RouteItem → Int → Prop, X = (fun l3 n3 => iterF (fun again (s : List RouteItem × Int) => M_heap_down_L1 i n Q (fun l3 n3 => again (l3, n3)) s.1 s.2) kk (l3, n3)) := ⟨_, rfl⟩
  replace h : M_heap_down_L1 i n Q again1 l3 n3 := by rw [hagain1]; exact h
  unfold M_heap_down_L1 at h
  refine wp_block (X.l (S.q hf hs (iv n3) rfl fun a hf => S.q hf hs (iv (w64 (2 * n3))) rfl fun a hf => S.q hf hs (iv (w64 ((w64 (2 * n3)) + 1))) rfl fun a hf => S.q hf hs (iv (w64 ((w64 (2 * n3)) + 1))) rfl fun a hf => X.n (wp_seq (wp_seq ?_))))
  refine C.cut (J := fun a w => ∃ (c1 : Bool), M_heap_down_k3 i n Q l3 n3 again1 c1 ∧ FrOk 48 [(0, .iface 160 ((pn qg 0))), (1, iv i), (2, iv n), (7, iv n3), (8, iv (w64 ((w64 (2 * n3)) + 1))), (21, .bool c1)] a ∧ Sat w0 F0 [hbox qg 156 [.slice l3A l3.length l3C], hown 158 l3A l3C l3] w) ?_ ?_
  ·rintro a w ⟨c1, h, hf, hs⟩
   unfold M_heap_down_k3 at h
   refine C.cond hf (b := c1) rfl (fun hc => ?_) (fun hc => ?_)
   ·replace h := h.1 hc
    refine wp_exit (X.then_exit (X.blk_other rfl (X.then_exit (X.blk_exit (X.then_ ?_)))))
    exact ⟨l3, l3A, l3C, n3, h, ((hf.nil.cons (hf.get 7 _ rfl)).cons (hf.get 1 _ rfl)), hs⟩
   ·replace h := h.2 hc
    refine wp_skip (X.then_ (X.l (S.q hf hs (iv (w64 ((w64 (2 * n3)) + 1))) rfl fun a hf => S.q hf hs (iv (w64 ((w64 (2 * n3)) + 1))) rfl fun a hf => X.n (wp_seq ?_))))
    refine C.cut (J := fun a w => ∃ (n4 : Int), M_heap_down_k4 i Q l3 n3 again1 n4 ∧ FrOk 48 [(0, .iface 160 ((pn qg 0))), (1, iv i), (2, iv n), (7, iv n3), (9, iv n4)] a ∧ Sat w0 F0 [hbox qg 156 [.slice l3A l3.length l3C], hown 158 l3A l3C l3] w) ?_ ?_
    ·rintro a w ⟨n4, h, hf, hs⟩
     unfold M_heap_down_k4 at h
     refine wp_seq (X.l (S.q hf hs (.iface 160 ((pn qg 0))) rfl fun a hf => S.q hf hs (iv n4) rfl fun a hf => S.q hf hs (iv n3) rfl fun a hf => ?_))
     have hld := load_box (P := Tryz.prog) (v := .slice l3A l3.length l3C) 0 hs (vs := [.slice l3A l3.length l3C]) rfl isAgg156 sizeOf156 rfl rfl
     refine S.callW hf rfl rfl rfl (run_invoke (vs := [iv n4, iv n3]) (full := [.slice l3A l3.length l3C, iv n4, iv n3]) rfl rfl rfl (meth_val (vs := [iv n4, iv n3]) (i := Tryz.t160) (sig := 194) (by kernel_rfl) (by kernel_rfl) underlying160 hld call189)) (R_queue_Less l3 n4 n3 _ l3A l3C (hs.ownView 1 rfl) _ h) (fun v a w' hf hr => ?_)
     obtain ⟨y1, rfl, h2, hs2⟩ := hr
     replace h := h2; replace hs := hs.call hs2; clear h2 hs2
     refine S.q hf hs (.bool (!y1)) rfl fun a hf => X.n ?_
     refine C.cond hf (b := !y1) rfl (fun hc => ?_) (fun hc => ?_)
     ·replace h := h.1 hc
      refine wp_exit (X.then_exit (X.blk_other rfl (X.then_exit (X.blk_exit (X.then_ ?_)))))
      exact ⟨l3, l3A, l3C, n3, h, ((hf.nil.cons (hf.get 7 _ rfl)).cons (hf.get 1 _ rfl)), hs⟩
     ·replace h := h.2 hc
      refine wp_skip (X.then_ (X.l (S.q hf hs (.iface 160 ((pn qg 0))) rfl fun a hf => S.q hf hs (iv n3) rfl fun a hf => S.q hf hs (iv n4) rfl fun a hf => ?_)))
      have hld := load_box (P := Tryz.prog) (v := .slice l3A l3.length l3C) 0 hs (vs := [.slice l3A l3.length l3C]) rfl isAgg156 sizeOf156 rfl rfl
      replace hs := hs.front 1 rfl
      obtain ⟨F1, hsF, hback, hold, hrest⟩ := Sat.callOwns [hown 158 l3A l3C l3] (σ := [hbox qg 156 [.slice l3A l3.length l3C]]) hs
      refine S.callW hf rfl rfl rfl (run_invoke (vs := [iv n3, iv n4]) (full := [.slice l3A l3.length l3C, iv n3, iv n4]) rfl rfl rfl (meth_val (vs := [iv n3, iv n4]) (i := Tryz.t160) (sig := 107) (by kernel_rfl) (by kernel_rfl) underlying160 hld call190)) (R_queue_Swap l3 n3 n4 _ _ l3A l3C hsF _ h) (fun v a w' hf hr => ?_)
      obtain ⟨z1, hl_z1, rfl, h2, hs2⟩ := hr
      replace h := h2; replace hs := hback _ _ hs2; clear h2 hs2 hback hold hrest hsF
      replace hs := hs.rebox 1 (vs' := [.slice l3A z1.length l3C]) rfl (congrArg (fun n => [Value.slice l3A n l3C]) hl_z1.symm)
      refine X.n (R.list (S.q hf hs (iv n4) rfl fun a hf => S.q hf hs (iv n4) rfl fun a hf => R.nil (X.blk (X.then_ ?_))))
      replace hs := hs.front 1 rfl
      exact ⟨z1, l3A, l3C, n4, (by rw [hagain1] at h; exact h), ((((hf.nil.cons (hf.get 7 _ rfl)).cons (hf.get 2 _ rfl)).cons (hf.get 1 _ rfl)).cons (hf.get 0 _ rfl)), hs⟩
    ·skip
     refine X.l (S.q hf hs (iv (w64 ((w64 (2 * n3)) + 1))) rfl fun a hf => S.q hf hs (iv (w64 ((w64 ((w64 (2 * n3)) + 1)) + 1))) rfl fun a hf => S.q hf hs (iv (w64 ((w64 ((w64 (2 * n3)) + 1)) + 1))) rfl fun a hf => X.n (wp_seq ?_))
     refine C.cut (J := fun a w => ∃ (c2 : Bool), M_heap_down_k5 i Q l3 n3 again1 c2 ∧ FrOk 48 [(0, .iface 160 ((pn qg 0))), (1, iv i), (2, iv n), (7, iv n3), (9, iv (w64 ((w64 (2 * n3)) + 1))), (10, iv (w64 ((w64 ((w64 (2 * n3)) + 1)) + 1))), (33, .bool c2)] a ∧ Sat w0 F0 [hbox qg 156 [.slice l3A l3.length l3C], hown 158 l3A l3C l3] w) ?_ ?_
     ·rintro a w ⟨c2, h, hf, hs⟩
      unfold M_heap_down_k5 at h
      refine C.cond hf (b := c2) rfl (fun hc => ?_) (fun hc => ?_)
      ·replace h := h.1 hc
       refine R.list (S.q hf hs (iv (w64 ((w64 ((w64 (2 * n3)) + 1)) + 1))) rfl fun a hf => S.q hf hs (iv (w64 ((w64 ((w64 (2 * n3)) + 1)) + 1))) rfl fun a hf => X.n ?_)
       exact ⟨(w64 ((w64 ((w64 (2 * n3)) + 1)) + 1)), h, (((((hf.nil.cons (hf.get 9 _ rfl)).cons (hf.get 7 _ rfl)).cons (hf.get 2 _ rfl)).cons (hf.get 1 _ rfl)).cons (hf.get 0 _ rfl)), hs⟩
      ·replace h := h.2 hc
       refine wp_skip (X.then_ ?_)
       exact ⟨(w64 ((w64 (2 * n3)) + 1)), h, (((((hf.nil.cons (hf.get 9 _ rfl)).cons (hf.get 7 _ rfl)).cons (hf.get 2 _ rfl)).cons (hf.get 1 _ rfl)).cons (hf.get 0 _ rfl)), hs⟩
     ·skip
      refine R.list (S.q hf hs (iv (w64 ((w64 ((w64 (2 * n3)) + 1)) + 1))) rfl fun a hf => S.q hf hs (iv n) rfl fun a hf => S.q hf hs (.bool (decide (w64 ((w64 ((w64 (2 * n3)) + 1)) + 1) < n))) rfl fun a hf => ?_)
      refine S.split hf hs (b := decide (w64 ((w64 ((w64 (2 * n3)) + 1)) + 1) < n)) rfl rfl rfl (V.pure rfl) (fun hc a hf => ?_) (fun hc a hf => ?_)
      ·replace h := h.1 hc
       refine S.q hf hs (.iface 160 ((pn qg 0))) rfl fun a hf => S.q hf hs (iv (w64 ((w64 ((w64 (2 * n3)) + 1)) + 1))) rfl fun a hf => S.q hf hs (iv (w64 ((w64 (2 * n3)) + 1))) rfl fun a hf => ?_
       have hld := load_box (P := Tryz.prog) (v := .slice l3A l3.length l3C) 0 hs (vs := [.slice l3A l3.length l3C]) rfl isAgg156 sizeOf156 rfl rfl
       refine S.callW hf rfl rfl rfl (run_invoke (vs := [iv (w64 ((w64 ((w64 (2 * n3)) + 1)) + 1)), iv (w64 ((w64 (2 * n3)) + 1))]) (full := [.slice l3A l3.length l3C, iv (w64 ((w64 ((w64 (2 * n3)) + 1)) + 1)), iv (w64 ((w64 (2 * n3)) + 1))]) rfl rfl rfl (meth_val (vs := [iv (w64 ((w64 ((w64 (2 * n3)) + 1)) + 1)), iv (w64 ((w64 (2 * n3)) + 1))]) (i := Tryz.t160) (sig := 194) (by kernel_rfl) (by kernel_rfl) underlying160 hld call189)) (R_queue_Less l3 (w64 ((w64 ((w64 (2 * n3)) + 1)) + 1)) (w64 ((w64 (2 * n3)) + 1)) _ l3A l3C (hs.ownView 1 rfl) _ h) (fun v a w' hf hr => ?_)
       obtain ⟨y2, rfl, h2, hs2⟩ := hr
       replace h := h2; replace hs := hs.call hs2; clear h2 hs2
       refine S.q hf hs (.bool y2) rfl fun a hf => X.n ?_
       exact ⟨y2, h, (((((((hf.nil.cons (hf.get 33 _ rfl)).cons (hf.get 10 _ rfl)).cons (hf.get 9 _ rfl)).cons (hf.get 7 _ rfl)).cons (hf.get 2 _ rfl)).cons (hf.get 1 _ rfl)).cons (hf.get 0 _ rfl)), hs⟩
      ·replace h := h.2 hc
       refine S.k hf rfl fun a hf => S.k hf rfl fun a hf => S.k hf rfl fun a hf => S.k hf rfl fun a hf => S.q hf hs (.bool false) rfl fun a hf => X.n ?_
       exact ⟨false, h, (((((((hf.nil.cons (hf.get 33 _ rfl)).cons (hf.get 10 _ rfl)).cons (hf.get 9 _ rfl)).cons (hf.get 7 _ rfl)).cons (hf.get 2 _ rfl)).cons (hf.get 1 _ rfl)).cons (hf.get 0 _ rfl)), hs⟩
  ·skip
   refine R.list (S.q hf hs (iv (w64 ((w64 (2 * n3)) + 1))) rfl fun a hf => S.q hf hs (iv n) rfl fun a hf => S.q hf hs (.bool (decide (w64 ((w64 (2 * n3)) + 1) ≥ n))) rfl fun a hf => ?_)
   refine S.split hf hs (b := decide (w64 ((w64 (2 * n3)) + 1) ≥ n)) rfl rfl rfl (V.pure rfl) (fun hc a hf => ?_) (fun hc a hf => ?_)
   ·replace h := h.1 hc
    refine S.k hf rfl fun a hf => S.k hf rfl fun a hf => S.q hf hs (.bool true) rfl fun a hf => X.n ?_
    exact ⟨true, h, ((((((hf.nil.cons (hf.get 21 _ rfl)).cons (hf.get 8 _ rfl)).cons (hf.get 7 _ rfl)).cons (hf.get 2 _ rfl)).cons (hf.get 1 _ rfl)).cons (hf.get 0 _ rfl)), hs⟩
   ·replace h := h.2 hc
    refine S.q hf hs (iv (w64 ((w64 (2 * n3)) + 1))) rfl fun a hf => S.q hf hs (.bool (decide (w64 ((w64 (2 * n3)) + 1) < 0))) rfl fun a hf => S.q hf hs (.bool (decide (w64 ((w64 (2 * n3)) + 1) < 0))) rfl fun a hf => X.n ?_
    exact ⟨(decide (w64 ((w64 (2 * n3)) + 1) < 0)), h, ((((((hf.nil.cons (hf.get 21 _ rfl)).cons (hf.get 8 _ rfl)).cons (hf.get 7 _ rfl)).cons (hf.get 2 _ rfl)).cons (hf.get 1 _ rfl)).cons (hf.get 0 _ rfl)), hs⟩
def M_heap_Init_L1 (Q : (List RouteItem) → Prop) (y1 : Int) (again1 : List RouteItem → Int → Prop) (l2 : List RouteItem) (n2 : Int) : Prop :=
  cnd (decide (n2 ≥ 0)) (M_heap_down l2 n2 y1 fun y2 z1 => again1 z1 (w64 (n2 - 1))) (Q l2)
def M_heap_Init (q : (List RouteItem)) (Q : (List RouteItem) → Prop) : Prop :=
  M_queue_Len q fun y1 => lp (fun again (s : List RouteItem × Int) => M_heap_Init_L1 Q y1 (fun l2 n2 => again (l2, n2)) s.1 s.2) (q, w64 ((w64 (y1.tdiv 2)) - 1))
theorem R_heap_Init (q : (List RouteItem)) (w0 : World) (F0 : Nat → Prop) (qg : Nat) (qA : Option Addr) (qC : Nat) (hs0 : Sat w0 F0 [hbox qg 156 [.slice qA q.length qC], hown 158 qA qC q] w0) (Q : (List RouteItem) → Prop) (h : M_heap_Init q Q) :
  Ret Tryz.prog 117 #[.iface 160 ((pn qg 0))] w0 fun v w' => ∃ (q1 : (List RouteItem)) (q1A : Option Addr) (q1C : Nat), v = .tuple #[] ∧ Q q1 ∧ Sat w0 F0 [hbox qg 156 [.slice q1A q1.length q1C], hown 158 q1A q1C q1] w' := by
 refine fn_enter func117 rfl ntmps117 rfl (fs := [(0, .iface 160 ((pn qg 0)))]) rfl (fun a hf => ?_)
 have hs := hs0
 unfold M_heap_Init at h
 refine X.l (S.q hf hs (.iface 160 ((pn qg 0))) rfl fun a hf => ?_)
 have hld := load_box (P := Tryz.prog) (v := .slice qA q.length qC) 0 hs (vs := [.slice qA q.length qC]) rfl isAgg156 sizeOf156 rfl rfl
 refine S.callW hf rfl rfl rfl (run_invoke (vs := []) (full := [.slice qA q.length qC]) rfl rfl rfl (meth_val (vs := []) (i := Tryz.t160) (sig := 183) (by kernel_rfl) (by kernel_rfl) underlying160 hld call188)) (R_queue_Len q _ qA qC (hs.ownView 1 rfl) _ h) (fun v a w' hf hr => ?_)
 obtain ⟨y1, rfl, h2, hs2⟩ := hr
 replace h := h2; replace hs := hs.call hs2; clear h2 hs2
 refine S.q hf hs (iv y1) rfl fun a hf => X.n (X.l (S.q hf hs (iv y1) rfl fun a hf => S.v hf hs (iv (w64 (y1.tdiv 2))) rfl (V.quo rfl rfl rfl (by decide)) fun a hf => S.q hf hs (iv (w64 ((w64 (y1.tdiv 2)) - 1))) rfl fun a hf => S.q hf hs (iv (w64 ((w64 (y1.tdiv 2)) - 1))) rfl fun a hf => X.n (wp_block ?_)))
 obtain ⟨kk, h⟩ := h
 refine C.loop (fun kk a w => ∃ (l2 : List RouteItem) (l2A : Option Addr) (l2C : Nat) (n2 : Int), iterF (fun again (s : List RouteItem × Int) => M_heap_Init_L1 Q y1 (fun l2 n2 => again (l2, n2)) s.1 s.2) kk (l2, n2) ∧ FrOk 17 [(0, .iface 160 ((pn qg 0))), (2, iv y1), (3, iv n2)] a ∧ Sat w0 F0 [hbox qg 156 [.slice l2A l2.length l2C], hown 158 l2A l2C l2] w) kk ⟨q, qA, qC, (w64 ((w64 (y1.tdiv 2)) - 1)), h, (((hf.nil.cons (hf.get 3 _ rfl)).cons (hf.get 2 _ rfl)).cons (hf.get 0 _ rfl)), hs⟩ (fun a w ⟨_, _, _, _, h, _, _⟩ => h) ?_
 clear h hf hs
 rintro kk a w ⟨l2, l2A, l2C, n2, h, hf, hs⟩
 obtain ⟨again1, hagain1⟩ : ∃ X : List RouteItem → Int → Prop, X = (fun l2 n2 => iterF (fun again (s : List RouteItem × Int) => M_heap_Init_L1 Q y1 (fun l2 n2 => again (l2, n2)) s.1 s.2) kk (l2, n2)) := ⟨_, rfl⟩
 replace h : M_heap_Init_L1 Q y1 again1 l2 n2 := by rw [hagain1]; exact h
 unfold M_heap_Init_L1 at h
 refine wp_seq (X.l (S.q hf hs (iv n2) rfl fun a hf => S.q hf hs (.bool (decide (n2 ≥ 0))) rfl fun a hf => X.n ?_))
 refine C.cond hf (b := decide (n2 ≥ 0)) rfl (fun hc => ?_) (fun hc => ?_)
 ·replace h := h.1 hc
  refine wp_skip (X.then_ (wp_seq (wp_block (R.list (S.q hf hs (.iface 160 ((pn qg 0))) rfl fun a hf => S.q hf hs (iv n2) rfl fun a hf => S.q hf hs (iv y1) rfl fun a hf => ?_)))))
  replace hs := hs.front 1 rfl
  replace hs := hs.front 1 rfl
  obtain ⟨F1, hsF, hback, hold, hrest⟩ := Sat.callOwns [hbox qg 156 [.slice l2A l2.length l2C], hown 158 l2A l2C l2] (σ := []) hs
  refine S.call hf rfl rfl rfl (call_fn (vs := [.iface 160 ((pn qg 0)), iv n2, iv y1]) rfl rfl rfl call137) (R_heap_down l2 n2 y1 _ _ qg l2A l2C hsF _ h) (fun v a w' hf hr => ?_)
  obtain ⟨y2, z1, z1A, z1C, rfl, h2, hs2⟩ := hr
  replace h := h2; replace hs := hback _ _ hs2; clear h2 hs2 hback hold hrest hsF
  refine R.nil (X.blk (X.then_ (R.list (S.q hf hs (iv n2) rfl fun a hf => S.q hf hs (iv (w64 (n2 - 1))) rfl fun a hf => S.q hf hs (iv (w64 (n2 - 1))) rfl fun a hf => X.n ?_))))
  exact ⟨z1, z1A, z1C, (w64 (n2 - 1)), (by rw [hagain1] at h; exact h), (((hf.nil.cons (hf.get 3 _ rfl)).cons (hf.get 2 _ rfl)).cons (hf.get 0 _ rfl)), hs⟩
 ·replace h := h.2 hc
  refine wp_exit (X.then_exit (X.then_exit (X.blk_exit ?_)))
  replace hs := hs.front 1 rfl
  replace hs := hs.front 1 rfl
  replace hs := hs.take 2
  exact L.end0 results117 hf ⟨l2, l2A, l2C, rfl, h, hs⟩
def M_heap_Push (q : (List RouteItem)) (x_ : RouteItem) (Q : (List RouteItem) → Prop) : Prop :=
  M_queue_Push q x_ fun z1 => M_queue_Len z1 fun y1 => M_heap_up z1 (w64 (y1 - 1)) fun z2 => Q z2
theorem R_heap_Push (q : (List RouteItem)) (x_ : RouteItem) (w0 : World) (F0 : Nat → Prop) (qg : Nat) (qA : Option Addr) (qC : Nat) (hs0 : Sat w0 F0 [hbox qg 156 [.slice qA q.length qC], hown 158 qA qC q] w0) (Q : (List RouteItem) → Prop) (h : M_heap_Push q x_ Q) :
  Ret Tryz.prog 121 #[.iface 160 ((pn qg 0)), .iface 158 (.agg #[iv x_.key, iv x_.state])] w0 fun v w' => ∃ (q1 : (List RouteItem)) (q1A : Option Addr) (q1C : Nat), v = .tuple #[] ∧ Q q1 ∧ Sat w0 F0 [hbox qg 156 [.slice q1A q1.length q1C], hown 158 q1A q1C q1] w' := by
 refine fn_enter func121 rfl ntmps121 rfl (fs := [(0, .iface 160 ((pn qg 0))), (1, .iface 158 (.agg #[iv x_.key, iv x_.state]))]) rfl (fun a hf => ?_)
 have hs := hs0
 unfold M_heap_Push at h
 refine X.l (S.q hf hs (.iface 160 ((pn qg 0))) rfl fun a hf => S.q hf hs (.iface 158 (.agg #[iv x_.key, iv x_.state])) rfl fun a hf => ?_)
 replace hs := hs.front 1 rfl
 replace hs := hs.front 1 rfl
 obtain ⟨F1, hsF, hback, hold, hrest⟩ := Sat.callOwns [hbox qg 156 [.slice qA q.length qC], hown 158 qA qC q] (σ := []) hs
 refine S.callW hf rfl rfl rfl (run_invoke (vs := [.iface 158 (.agg #[iv x_.key, iv x_.state])]) (full := [(pn qg 0), .iface 158 (.agg #[iv x_.key, iv x_.state])]) rfl rfl rfl (meth_ptr (vs := [.iface 158 (.agg #[iv x_.key, iv x_.state])]) (i := Tryz.t160) (sig := 187) (by kernel_rfl) (by kernel_rfl) underlying160 call192)) (R_queue_Push q x_ _ _ qg qA qC hsF _ h) (fun v a w' hf hr => ?_)
 obtain ⟨z1, z1A, z1C, rfl, h2, hs2⟩ := hr
 replace h := h2; replace hs := hback _ _ hs2; clear h2 hs2 hback hold hrest hsF
 refine X.n (R.list (S.q hf hs (.iface 160 ((pn qg 0))) rfl fun a hf => S.q hf hs (.iface 160 ((pn qg 0))) rfl fun a hf => ?_))
 have hld := load_box (P := Tryz.prog) (v := .slice z1A z1.length z1C) 0 hs (vs := [.slice z1A z1.length z1C]) rfl isAgg156 sizeOf156 rfl rfl
 refine S.callW hf rfl rfl rfl (run_invoke (vs := []) (full := [.slice z1A z1.length z1C]) rfl rfl rfl (meth_val (vs := []) (i := Tryz.t160) (sig := 183) (by kernel_rfl) (by kernel_rfl) underlying160 hld call188)) (R_queue_Len z1 _ z1A z1C (hs.ownView 1 rfl) _ h) (fun v a w' hf hr => ?_)
 obtain ⟨y1, rfl, h2, hs2⟩ := hr
 replace h := h2; replace hs := hs.call hs2; clear h2 hs2
 refine S.q hf hs (iv (w64 (y1 - 1))) rfl fun a hf => ?_
 replace hs := hs.front 1 rfl
 replace hs := hs.front 1 rfl
 obtain ⟨F1, hsF, hback, hold, hrest⟩ := Sat.callOwns [hbox qg 156 [.slice z1A z1.length z1C], hown 158 z1A z1C z1] (σ := []) hs
 refine S.call hf rfl rfl rfl (call_fn (vs := [.iface 160 ((pn qg 0)), iv (w64 (y1 - 1))]) rfl rfl rfl call140) (R_heap_up z1 (w64 (y1 - 1)) _ _ qg z1A z1C hsF _ h) (fun v a w' hf hr => ?_)
 obtain ⟨z2, z2A, z2C, rfl, h2, hs2⟩ := hr
 replace h := h2; replace hs := hback _ _ hs2; clear h2 hs2 hback hold hrest hsF
 refine R.nil ?_
 replace hs := hs.front 1 rfl
 replace hs := hs.front 1 rfl
 replace hs := hs.take 2
 exact L.end0 results121 hf ⟨z2, z2A, z2C, rfl, h, hs⟩
def M_heap_Pop (q : (List RouteItem)) (Q : RouteItem → (List RouteItem) → Prop) : Prop :=
  M_queue_Len q fun y1 => M_queue_Swap q 0 (w64 (y1 - 1)) fun z1 => M_heap_down z1 0 (w64 (y1 - 1)) fun y2 z2 => M_queue_Pop z2 fun y3 z3 => Q y3 z3
theorem R_heap_Pop (q : (List RouteItem)) (w0 : World) (F0 : Nat → Prop) (qg : Nat) (qA : Option Addr) (qC : Nat) (hs0 : Sat w0 F0 [hbox qg 156 [.slice qA q.length qC], hown 158 qA qC q] w0) (Q : RouteItem → (List RouteItem) → Prop) (h : M_heap_Pop q Q) :
  Ret Tryz.prog 118 #[.iface 160 ((pn qg 0))] w0 fun v w' => ∃ (r0 : RouteItem) (q1 : (List RouteItem)) (q1A : Option Addr) (q1C : Nat), v = .iface 158 (.agg #[iv r0.key, iv r0.state]) ∧ Q r0 q1 ∧ Sat w0 F0 [hbox qg 156 [.slice q1A q1.length q1C], hown 158 q1A q1C q1] w' := by
 refine fn_enter func118 rfl ntmps118 rfl (fs := [(0, .iface 160 ((pn qg 0)))]) rfl (fun a hf => ?_)
 have hs := hs0
 unfold M_heap_Pop at h
 refine X.l (S.q hf hs .nilIface rfl fun a hf => X.n (X.l (S.q hf hs (.iface 160 ((pn qg 0))) rfl fun a hf => ?_)))
 have hld := load_box (P := Tryz.prog) (v := .slice qA q.length qC) 0 hs (vs := [.slice qA q.length qC]) rfl isAgg156 sizeOf156 rfl rfl
 refine S.callW hf rfl rfl rfl (run_invoke (vs := []) (full := [.slice qA q.length qC]) rfl rfl rfl (meth_val (vs := []) (i := Tryz.t160) (sig := 183) (by kernel_rfl) (by kernel_rfl) underlying160 hld call188)) (R_queue_Len q _ qA qC (hs.ownView 1 rfl) _ h) (fun v a w' hf hr => ?_)
 obtain ⟨y1, rfl, h2, hs2⟩ := hr
 replace h := h2; replace hs := hs.call hs2; clear h2 hs2
 refine S.q hf hs (iv (w64 (y1 - 1))) rfl fun a hf => S.q hf hs (iv (w64 (y1 - 1))) rfl fun a hf => X.n (X.l (S.q hf hs (.iface 160 ((pn qg 0))) rfl fun a hf => S.q hf hs (iv (w64 (y1 - 1))) rfl fun a hf => ?_))
 have hld := load_box (P := Tryz.prog) (v := .slice qA q.length qC) 0 hs (vs := [.slice qA q.length qC]) rfl isAgg156 sizeOf156 rfl rfl
 replace hs := hs.front 1 rfl
 obtain ⟨F1, hsF, hback, hold, hrest⟩ := Sat.callOwns [hown 158 qA qC q] (σ := [hbox qg 156 [.slice qA q.length qC]]) hs
 refine S.callW hf rfl rfl rfl (run_invoke (vs := [iv 0, iv (w64 (y1 - 1))]) (full := [.slice qA q.length qC, iv 0, iv (w64 (y1 - 1))]) rfl rfl rfl (meth_val (vs := [iv 0, iv (w64 (y1 - 1))]) (i := Tryz.t160) (sig := 107) (by kernel_rfl) (by kernel_rfl) underlying160 hld call190)) (R_queue_Swap q 0 (w64 (y1 - 1)) _ _ qA qC hsF _ h) (fun v a w' hf hr => ?_)
 obtain ⟨z1, hl_z1, rfl, h2, hs2⟩ := hr
 replace h := h2; replace hs := hback _ _ hs2; clear h2 hs2 hback hold hrest hsF
 replace hs := hs.rebox 1 (vs' := [.slice qA z1.length qC]) rfl (congrArg (fun n => [Value.slice qA n qC]) hl_z1.symm)
 refine X.n (X.l (S.q hf hs (.iface 160 ((pn qg 0))) rfl fun a hf => S.q hf hs (iv (w64 (y1 - 1))) rfl fun a hf => ?_))
 replace hs := hs.front 1 rfl
 obtain ⟨F1, hsF, hback, hold, hrest⟩ := Sat.callOwns [hbox qg 156 [.slice qA z1.length qC], hown 158 qA qC z1] (σ := []) hs
 refine S.call hf rfl rfl rfl (call_fn (vs := [.iface 160 ((pn qg 0)), iv 0, iv (w64 (y1 - 1))]) rfl rfl rfl call137) (R_heap_down z1 0 (w64 (y1 - 1)) _ _ qg qA qC hsF _ h) (fun v a w' hf hr => ?_)
 obtain ⟨y2, z2, z2A, z2C, rfl, h2, hs2⟩ := hr
 replace h := h2; replace hs := hback _ _ hs2; clear h2 hs2 hback hold hrest hsF
 refine X.n (X.l (S.q hf hs (.iface 160 ((pn qg 0))) rfl fun a hf => ?_))
 replace hs := hs.front 1 rfl
 replace hs := hs.front 1 rfl
 obtain ⟨F1, hsF, hback, hold, hrest⟩ := Sat.callOwns [hbox qg 156 [.slice z2A z2.length z2C], hown 158 z2A z2C z2] (σ := []) hs
 refine S.callW hf rfl rfl rfl (run_invoke (vs := []) (full := [(pn qg 0)]) rfl rfl rfl (meth_ptr (vs := []) (i := Tryz.t160) (sig := 185) (by kernel_rfl) (by kernel_rfl) underlying160 call191)) (R_queue_Pop z2 _ _ qg z2A z2C hsF _ h) (fun v a w' hf hr => ?_)
 obtain ⟨y3, z3, z3A, z3C, rfl, h2, hs2⟩ := hr
 replace h := h2; replace hs := hback _ _ hs2; clear h2 hs2 hback hold hrest hsF
 refine S.q hf hs (.iface 158 (.agg #[iv y3.key, iv y3.state])) rfl fun a hf => X.n (wp_ret ?_)
 replace hs := hs.front 1 rfl
 replace hs := hs.front 1 rfl
 replace hs := hs.take 2
 exact L.ret hf (run_results1 results118 (ResIs.tmp hf rfl)) ⟨y3, z3, z3A, z3C, rfl, h, hs⟩
end Go.Proofs.YtihjaehkdgdenaaGreatDoor
