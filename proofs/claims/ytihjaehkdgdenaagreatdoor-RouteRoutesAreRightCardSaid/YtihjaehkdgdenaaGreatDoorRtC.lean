/- Chapter texts of ours, as far as the claim needs them. -/
import Derived.Test.YtihjaehkdgdenaaGreatDoorRtA
namespace Go.Proofs.YtihjaehkdgdenaaGreatDoor
open Tryz Go Go.RowKit
set_option linter.unusedVariables false
set_option linter.unusedSectionVars false
set_option linter.unusedSimpArgs false
set_option maxHeartbeats 1000000
def M_search1_k1 (t : Int) (key : Int) (x_ : RouteItem) (out : (List Int)) (q : (List RouteItem)) (Q : RouteItem → (List Int) → (List RouteItem) → Prop) (c1 : Bool) : Prop :=
  cnd c1 (idx out t fun x1 => M_heap_Push q (⟨w64 (key + x_.key), t⟩ : RouteItem) fun z1 => Q x_ (out.set t.toNat (w64 (key + x_.key))) z1) (Q x_ out q)
def M_search1 (t : Int) (key : Int) (x_ : RouteItem) (out : (List Int)) (q : (List RouteItem)) (Q : RouteItem → (List Int) → (List RouteItem) → Prop) : Prop :=
  idx out t fun x2 => cnd (decide (x2 < 0)) (M_search1_k1 t key x_ out q Q true) (M_search1_k1 t key x_ out q Q (decide (w64 (key + x_.key) < x2)))
theorem R_search1 (t : Int) (key : Int) (x_ : RouteItem) (out : (List Int)) (q : (List RouteItem)) (w0 : World) (F0 : Nat → Prop) (x_g : Nat) (outg : Nat) (outA : Option Addr) (outC : Nat) (qg : Nat) (qA : Option Addr) (qC : Nat) (hs0 : Sat w0 F0 [hbox x_g 158 [iv x_.key, iv x_.state], hbox outg 72 [.slice outA out.length outC], hown 3 outA outC out, hbox qg 156 [.slice qA q.length qC], hown 158 qA qC q] w0) (Q : RouteItem → (List Int) → (List RouteItem) → Prop) (h : M_search1 t key x_ out q Q) :
  Ret Tryz.prog 120 #[iv t, iv key, (pn x_g 0), (pn outg 0), (pn qg 0)] w0 fun v w' => ∃ (x_1 : RouteItem) (out1 : (List Int)) (out1A : Option Addr) (out1C : Nat) (q1 : (List RouteItem)) (q1A : Option Addr) (q1C : Nat), v = .tuple #[] ∧ Q x_1 out1 q1 ∧ Sat w0 F0 [hbox x_g 158 [iv x_1.key, iv x_1.state], hbox outg 72 [.slice out1A out1.length out1C], hown 3 out1A out1C out1, hbox qg 156 [.slice q1A q1.length q1C], hown 158 q1A q1C q1] w' := by
 refine fn_enter func120 rfl ntmps120 rfl (fs := [(0, iv t), (1, iv key), (2, (pn x_g 0)), (3, (pn outg 0)), (4, (pn qg 0))]) rfl (fun a hf => ?_)
 have hs := hs0
 unfold M_search1 at h
 refine X.l (S.q hf hs (iv key) rfl fun a hf => S.v hf hs ((pn x_g 0)) rfl (V.fieldBox rfl rfl runUnderlying158 rfl sizeOf3 rfl rfl) fun a hf => S.v hf hs (iv x_.key) rfl (V.loadBox 0 rfl rfl rfl isAgg3 sizeOf3 rfl rfl) fun a hf => S.q hf hs (iv (w64 (key + x_.key))) rfl fun a hf => S.q hf hs (iv (w64 (key + x_.key))) rfl fun a hf => X.n (wp_seq ?_))
 refine C.cut (J := fun a w => ∃ (c1 : Bool), M_search1_k1 t key x_ out q Q c1 ∧ FrOk 34 [(0, iv t), (1, iv (w64 (key + x_.key))), (3, (pn outg 0)), (4, (pn qg 0)), (23, .bool c1)] a ∧ Sat w0 F0 [hbox x_g 158 [iv x_.key, iv x_.state], hbox outg 72 [.slice outA out.length outC], hown 3 outA outC out, hbox qg 156 [.slice qA q.length qC], hown 158 qA qC q] w) ?_ ?_
 ·rintro a w ⟨c1, h, hf, hs⟩
  unfold M_search1_k1 at h
  refine C.cond hf (b := c1) rfl (fun hc => ?_) (fun hc => ?_)
  ·replace h := h.1 hc
   refine X.l (S.v hf hs (.slice outA out.length outC) rfl (V.loadBox 1 rfl rfl rfl isAgg72 sizeOf72 rfl rfl) fun a hf => S.q hf hs (iv t) rfl fun a hf => S.q hf hs (iv (w64 (key + x_.key))) rfl fun a hf => ?_)
   obtain ⟨h0x1, x1, hx1, h⟩ := h
   refine S.v hf hs (elemPtr outA (t.toNat * 1)) rfl (V.index rfl rfl rfl runUnderlying72 sizeOf3 (hs.ownSome 2 rfl (lt_of_get hx1)) h0x1 (lt_of_get hx1) rfl) fun a hf => S.storeOwn (off := 0) 2 hf hs rfl rfl (w64 (key + x_.key)) [iv (w64 (key + x_.key))] rfl hx1 rfl rfl rfl rfl rfl sizeOf3 rfl (by decide) rfl rfl (fun a w hf hs => ?_)
   replace hs := hs.rebox 1 (vs' := [.slice outA (out.set t.toNat (w64 (key + x_.key))).length outC]) rfl (congrArg (fun n => [Value.slice outA n outC]) List.length_set.symm)
   replace hf := hf.tell 24 (v := .slice outA (out.set t.toNat (w64 (key + x_.key))).length outC) ((hf.get 24 (.slice outA out.length outC) rfl).trans (congrArg (fun n => Value.slice outA n outC) List.length_set.symm))
   refine X.n (R.list (S.v hf hs (.iface 160 ((pn qg 0))) rfl (V.makeIface rfl rfl (fun w => ⟨_, runUnderlying160 w, rfl⟩)) fun a hf => S.q hf hs (iv (w64 (key + x_.key))) rfl fun a hf => S.q hf hs (iv t) rfl fun a hf => S.v hf hs (.agg #[iv (w64 (key + x_.key)), iv t]) rfl (V.build (places := #[(0, 1), (1, 1)]) rfl zeroValue158 runUnderlying158 (by intro w; simp [sizeOf3]) rfl rfl) fun a hf => S.v hf hs (.iface 158 (.agg #[iv (w64 (key + x_.key)), iv t])) rfl (V.makeIface rfl rfl (fun w => ⟨_, runUnderlying158 w, rfl⟩)) fun a hf => ?_))
   replace hs := hs.front 4 rfl
   replace hs := hs.front 4 rfl
   obtain ⟨F1, hsF, hback, hold, hrest⟩ := Sat.callOwns [hbox qg 156 [.slice qA q.length qC], hown 158 qA qC q] (σ := [hbox x_g 158 [iv x_.key, iv x_.state], hbox outg 72 [.slice outA (out.set t.toNat (w64 (key + x_.key))).length outC], hown 3 outA outC (out.set t.toNat (w64 (key + x_.key)))]) hs
   refine S.call hf rfl rfl rfl (call_fn (vs := [.iface 160 ((pn qg 0)), .iface 158 (.agg #[iv (w64 (key + x_.key)), iv t])]) rfl rfl rfl call121) (R_heap_Push q (⟨w64 (key + x_.key), t⟩ : RouteItem) _ _ qg qA qC hsF _ h) (fun v a w' hf hr => ?_)
   obtain ⟨z1, z1A, z1C, rfl, h2, hs2⟩ := hr
   replace h := h2; replace hs := hback _ _ hs2; clear h2 hs2 hback hold hrest hsF
   refine R.nil ?_
   replace hs := hs.front 1 rfl
   replace hs := hs.front 1 rfl
   replace hs := hs.front 4 rfl
   replace hs := hs.front 4 rfl
   replace hs := hs.front 4 rfl
   replace hs := hs.take 5
   exact L.end0 results120 hf ⟨x_, (out.set t.toNat (w64 (key + x_.key))), outA, outC, z1, z1A, z1C, rfl, h, hs⟩
  ·replace h := h.2 hc
   refine wp_skip ?_
   replace hs := hs.front 4 rfl
   replace hs := hs.front 4 rfl
   replace hs := hs.front 4 rfl
   replace hs := hs.front 4 rfl
   replace hs := hs.front 4 rfl
   replace hs := hs.take 5
   exact L.end0 results120 hf ⟨x_, out, outA, outC, q, qA, qC, rfl, h, hs⟩
 ·skip
  refine R.list (S.v hf hs (.slice outA out.length outC) rfl (V.loadBox 1 rfl rfl rfl isAgg72 sizeOf72 rfl rfl) fun a hf => S.q hf hs (iv t) rfl fun a hf => ?_)
  obtain ⟨h0x2, x2, hx2, h⟩ := h
  refine S.v hf hs (elemPtr outA (t.toNat * 1)) rfl (V.index rfl rfl rfl runUnderlying72 sizeOf3 (hs.ownSome 2 rfl (lt_of_get hx2)) h0x2 (lt_of_get hx2) rfl) fun a hf => S.v hf hs (iv x2) rfl (V.loadOwn (off := 0) 2 rfl hx2 rfl rfl rfl isAgg3 sizeOf3 rfl rfl) fun a hf => S.q hf hs (.bool (decide (x2 < 0))) rfl fun a hf => ?_
  refine S.split hf hs (b := decide (x2 < 0)) rfl rfl rfl (V.pure rfl) (fun hc a hf => ?_) (fun hc a hf => ?_)
  ·replace h := h.1 hc
   refine S.k hf rfl fun a hf => S.k hf rfl fun a hf => S.k hf rfl fun a hf => S.k hf rfl fun a hf => S.k hf rfl fun a hf => S.k hf rfl fun a hf => S.q hf hs (.bool true) rfl fun a hf => X.n ?_
   exact ⟨true, h, (((((hf.nil.cons (hf.get 23 _ rfl)).cons (hf.get 4 _ rfl)).cons (hf.get 3 _ rfl)).cons (hf.get 1 _ rfl)).cons (hf.get 0 _ rfl)), hs⟩
  ·replace h := h.2 hc
   refine S.q hf hs (iv (w64 (key + x_.key))) rfl fun a hf => S.v hf hs (.slice outA out.length outC) rfl (V.loadBox 1 rfl rfl rfl isAgg72 sizeOf72 rfl rfl) fun a hf => S.q hf hs (iv t) rfl fun a hf => S.v hf hs (elemPtr outA (t.toNat * 1)) rfl (V.index rfl rfl rfl runUnderlying72 sizeOf3 (hs.ownSome 2 rfl (lt_of_get hx2)) h0x2 (lt_of_get hx2) rfl) fun a hf => S.v hf hs (iv x2) rfl (V.loadOwn (off := 0) 2 rfl hx2 rfl rfl rfl isAgg3 sizeOf3 rfl rfl) fun a hf => S.q hf hs (.bool (decide (w64 (key + x_.key) < x2))) rfl fun a hf => S.q hf hs (.bool (decide (w64 (key + x_.key) < x2))) rfl fun a hf => X.n ?_
   exact ⟨(decide (w64 (key + x_.key) < x2)), h, (((((hf.nil.cons (hf.get 23 _ rfl)).cons (hf.get 4 _ rfl)).cons (hf.get 3 _ rfl)).cons (hf.get 1 _ rfl)).cons (hf.get 0 _ rfl)), hs⟩
def M_steps1_search_L1 (m : Int) (along : Int) (f : RouteFinder) (layer : Int) (Q : RouteItem → (List Int) → (List RouteItem) → Prop) (again1 : List Int → List RouteItem → RouteItem → Int → Prop) (l3 : List Int) (l4 : List RouteItem) (b2 : RouteItem) (n2 : Int) : Prop :=
  cnd (decide (n2 < 3)) (M_route_stepCost f.c layer n2 along fun y3 y4 => M_search1 (w64 ((w64 (m * 3)) + n2)) (w64 ((w64 (y3 * 1048576)) + 1)) b2 l3 l4 fun z7 z8 z9 => again1 z8 z9 z7 (w64 (n2 + 1))) (Q b2 l3 l4)
def M_steps1_search (m : Int) (along : Int) (back : Bool) (f : RouteFinder) (layer : Int) (last : Int) (x_ : RouteItem) (out : (List Int)) (q : (List RouteItem)) (Q : RouteItem → (List Int) → (List RouteItem) → Prop) : Prop :=
  cnd (!back) (M_route_stepCost f.c layer last along fun y1 y2 => M_search1 (w64 ((w64 (m * 3)) + y2)) (w64 ((w64 (y1 * 1048576)) + 1)) x_ out q fun z1 z2 z3 => Q z1 z2 z3) (cnd (along == 3) (M_search1 (w64 ((w64 (m * 3)) + last)) (w64 ((w64 (f.c.Via * 1048576)) + 1)) x_ out q fun z4 z5 z6 => Q z4 z5 z6) (cnd (along == last) (lp (fun again (s : List Int × List RouteItem × RouteItem × Int) => M_steps1_search_L1 m along f layer Q (fun l3 l4 b2 n2 => again (l3, l4, b2, n2)) s.1 s.2.1 s.2.2.1 s.2.2.2) (out, q, x_, 0)) (Q x_ out q)))
theorem R_steps1_search (m : Int) (along : Int) (back : Bool) (f : RouteFinder) (layer : Int) (last : Int) (x_ : RouteItem) (out : (List Int)) (q : (List RouteItem)) (w0 : World) (F0 : Nat → Prop) (backg : Nat) (hb_back : ElemAt w0 (old w0 F0) (some ⟨backg, 0, none⟩) 0 [.bool back]) (f_g_BlockedA : Option Addr) (f_g_BlockedC : Nat) (hv_f_g_Blocked : View w0 (old w0 F0) f_g_BlockedA f_g_BlockedC f.g.Blocked) (f_noA : Option Addr) (f_noC : Nat) (hv_f_no : View w0 (old w0 F0) f_noA f_noC f.no) (fg : Nat) (hb_f : ElemAt w0 (old w0 F0) (some ⟨fg, 0, none⟩) 0 [iv f.g.W, iv f.g.H, iv f.g.Layers, .slice f_g_BlockedA f.g.Blocked.length f_g_BlockedC, iv f.c.Step, iv f.c.Via, iv f.c.Turn, iv f.c.Against, .slice f_noA f.no.length f_noC]) (fq : Nat) (hq_f : ElemAt w0 (old w0 F0) (some ⟨fq, 0, none⟩) 0 [(pn fg 0)]) (layerg : Nat) (hb_layer : ElemAt w0 (old w0 F0) (some ⟨layerg, 0, none⟩) 0 [iv layer]) (lastg : Nat) (hb_last : ElemAt w0 (old w0 F0) (some ⟨lastg, 0, none⟩) 0 [iv last]) (x_g : Nat) (outg : Nat) (outA : Option Addr) (outC : Nat) (qg : Nat) (qA : Option Addr) (qC : Nat) (seeg : Nat) (hb_see : ElemAt w0 (old w0 F0) (some ⟨seeg, 0, none⟩) 0 [.func (.func 120) #[] #[(pn x_g 0), (pn outg 0), (pn qg 0)]]) (hs0 : Sat w0 F0 [hbox x_g 158 [iv x_.key, iv x_.state], hbox outg 72 [.slice outA out.length outC], hown 3 outA outC out, hbox qg 156 [.slice qA q.length qC], hown 158 qA qC q] w0) (Q : RouteItem → (List Int) → (List RouteItem) → Prop) (h : M_steps1_search m along back f layer last x_ out q Q) :
  Ret Tryz.prog 139 #[iv m, iv along, (pn backg 0), (pn fq 0), (pn layerg 0), (pn lastg 0), (pn seeg 0)] w0 fun v w' => ∃ (x_1 : RouteItem) (out1 : (List Int)) (out1A : Option Addr) (out1C : Nat) (q1 : (List RouteItem)) (q1A : Option Addr) (q1C : Nat), v = .tuple #[] ∧ Q x_1 out1 q1 ∧ Sat w0 F0 [hbox x_g 158 [iv x_1.key, iv x_1.state], hbox outg 72 [.slice out1A out1.length out1C], hown 3 out1A out1C out1, hbox qg 156 [.slice q1A q1.length q1C], hown 158 q1A q1C q1] w' := by
 refine fn_enter func139 rfl ntmps139 rfl (fs := [(0, iv m), (1, iv along), (2, (pn backg 0)), (3, (pn fq 0)), (4, (pn layerg 0)), (5, (pn lastg 0)), (6, (pn seeg 0))]) rfl (fun a hf => ?_)
 have hs := hs0
 unfold M_steps1_search at h
 refine wp_block (X.l (S.v hf hs (.bool back) rfl (V.loadAt0 (off := 0) (Ag.args _ _ _) hb_back rfl rfl isAgg4 sizeOf4 rfl rfl) fun a hf => S.q hf hs (.bool (!back)) rfl fun a hf => S.q hf hs (.bool (!back)) rfl fun a hf => X.n ?_))
 refine C.cond hf (b := !back) rfl (fun hc => ?_) (fun hc => ?_)
 ·replace h := h.1 hc
  refine wp_seq (H.start (S := Sat w0 F0 [hbox x_g 158 [iv x_.key, iv x_.state], hbox outg 72 [.slice outA out.length outC], hown 3 outA outC out, hbox qg 156 [.slice qA q.length qC], hown 158 qA qC q]) mo ?_)
  replace hs := hs.drew
  refine H.v hf hs ((pn fg 0)) 0 rfl rfl (by kernel_rfl) (V.loadAt0 (off := 0) (Ag.args _ _ _) hq_f rfl rfl isAgg114 sizeOf114 rfl rfl) fun a hf => H.v hf hs ((pn fg 0)) 1 rfl rfl (by kernel_rfl) (V.pure rfl) fun a hf => H.v hf hs ((pn fg 4)) 2 rfl rfl (by kernel_rfl) (V.fieldBox rfl rfl runUnderlying120 rfl sizeOf26 rfl rfl) fun a hf => H.v hf hs (.agg #[iv f.c.Step, iv f.c.Via, iv f.c.Turn, iv f.c.Against]) 3 rfl rfl (by kernel_rfl) (V.loadAt0 (off := 4) (Ag.args _ _ _) hb_f rfl rfl isAgg26 sizeOf26 rfl rfl) fun a hf => H.v hf hs (iv layer) 4 rfl rfl (by kernel_rfl) (V.loadAt0 (off := 0) (Ag.args _ _ _) hb_layer rfl rfl isAgg3 sizeOf3 rfl rfl) fun a hf => H.v hf hs (iv last) 5 rfl rfl (by kernel_rfl) (V.loadAt0 (off := 0) (Ag.args _ _ _) hb_last rfl rfl isAgg3 sizeOf3 rfl rfl) fun a hf => H.v hf hs (iv along) 6 rfl rfl (by kernel_rfl) (V.pure rfl) fun a hf => H.one (i := 7) rfl (by kernel_rfl) (S.call hf rfl rfl rfl (call_fn (vs := [.agg #[iv f.c.Step, iv f.c.Via, iv f.c.Turn, iv f.c.Against], iv layer, iv last, iv along]) rfl rfl rfl call59) (R_route_stepCost f.c layer last along _  _ h) (fun v a w' hf hr => ?_))
  obtain ⟨y1, y2, rfl, h2, hs2⟩ := hr
  replace h := h2; replace hs := hs.call hs2; clear h2 hs2
  refine X.n (⟨hs, (H.v hf hs (.tuple #[iv y1, iv y2]) 8 rfl rfl (by kernel_rfl) (V.pure rfl) fun a hf => H.v hf hs (iv y1) 9 rfl rfl (by kernel_rfl) (V.pure rfl) fun a hf => H.v hf hs (iv y2) 10 rfl rfl (by kernel_rfl) (V.pure rfl) fun a hf => H.v hf hs (iv y1) 11 rfl rfl (by kernel_rfl) (V.pure rfl) fun a hf => H.v hf hs (iv y2) 12 rfl rfl (by kernel_rfl) (V.pure rfl) fun a hf => H.done (by kernel_rfl) (X.then_ (R.list (S.v hf hs (.func (.func 120) #[] #[(pn x_g 0), (pn outg 0), (pn qg 0)]) rfl (V.loadAt0 (off := 0) (Ag.args _ _ _) hb_see rfl rfl isAgg107 sizeOf107 rfl rfl) fun a hf => S.q hf hs (iv m) rfl fun a hf => S.q hf hs (iv (w64 (m * 3))) rfl fun a hf => ?_))))⟩)
  refine S.q hf hs (iv y2) rfl fun a hf => S.q hf hs (iv (w64 ((w64 (m * 3)) + y2))) rfl fun a hf => S.q hf hs (iv y1) rfl fun a hf => S.q hf hs (iv (w64 (y1 * 1048576))) rfl fun a hf => S.q hf hs (iv (w64 ((w64 (y1 * 1048576)) + 1))) rfl fun a hf => ?_
  replace hs := hs.front 4 rfl
  replace hs := hs.front 4 rfl
  replace hs := hs.front 4 rfl
  replace hs := hs.front 4 rfl
  replace hs := hs.front 4 rfl
  obtain ⟨F1, hsF, hback, hold, hrest⟩ := Sat.callOwns [hbox x_g 158 [iv x_.key, iv x_.state], hbox outg 72 [.slice outA out.length outC], hown 3 outA outC out, hbox qg 156 [.slice qA q.length qC], hown 158 qA qC q] (σ := []) hs
  refine S.call hf rfl rfl rfl (call_run (args := #[iv (w64 ((w64 (m * 3)) + y2)), iv (w64 ((w64 (y1 * 1048576)) + 1)), (pn x_g 0), (pn outg 0), (pn qg 0)]) rfl rfl rfl call120 (by simp)) (R_search1 (w64 ((w64 (m * 3)) + y2)) (w64 ((w64 (y1 * 1048576)) + 1)) x_ out q _ _ x_g outg outA outC qg qA qC hsF _ h) (fun v a w' hf hr => ?_)
  obtain ⟨z1, z2, z2A, z2C, z3, z3A, z3C, rfl, h2, hs2⟩ := hr
  replace h := h2; replace hs := hback _ _ hs2; clear h2 hs2 hback hold hrest hsF
  refine R.nil (X.blk ?_)
  replace hs := hs.front 4 rfl
  replace hs := hs.front 4 rfl
  replace hs := hs.front 4 rfl
  replace hs := hs.front 4 rfl
  replace hs := hs.front 4 rfl
  replace hs := hs.take 5
  exact L.end0 results139 hf ⟨z1, z2, z2A, z2C, z3, z3A, z3C, rfl, h, hs⟩
 ·replace h := h.2 hc
  refine X.l (S.q hf hs (iv along) rfl fun a hf => S.q hf hs (.bool (along == 3)) rfl fun a hf => S.q hf hs (.bool (along == 3)) rfl fun a hf => X.n ?_)
  refine C.cond hf (b := along == 3) rfl (fun hc => ?_) (fun hc => ?_)
  ·replace h := h.1 hc
   refine H.start (S := Sat w0 F0 []) mo ?_
   replace hs := hs.drew
   refine H.val hf hs.nil (v := .func (.func 120) #[] #[(pn x_g 0), (pn outg 0), (pn qg 0)]) (i := 0) rfl rfl rfl rfl (by kernel_rfl) (by kernel_rfl) (by kernel_rfl) (V.loadAt0 (off := 0) (Ag.args _ _ _) hb_see rfl rfl isAgg107 sizeOf107 rfl rfl) (fun a hf => H.val hf hs.nil (v := iv m) (i := 1) rfl rfl rfl rfl (by kernel_rfl) (by kernel_rfl) (by kernel_rfl) (V.pure rfl) (fun a hf => H.val hf hs.nil (v := iv (w64 (m * 3))) (i := 2) rfl rfl rfl rfl (by kernel_rfl) (by kernel_rfl) (by kernel_rfl) (V.pure rfl) (fun a hf => H.val hf hs.nil (v := iv last) (i := 3) rfl rfl rfl rfl (by kernel_rfl) (by kernel_rfl) (by kernel_rfl) (V.loadAt0 (off := 0) (Ag.args _ _ _) hb_last rfl rfl isAgg3 sizeOf3 rfl rfl) (fun a hf => H.val hf hs.nil (v := iv (w64 ((w64 (m * 3)) + last))) (i := 4) rfl rfl rfl rfl (by kernel_rfl) (by kernel_rfl) (by kernel_rfl) (V.pure rfl) (fun a hf => H.val hf hs.nil (v := (pn fg 0)) (i := 5) rfl rfl rfl rfl (by kernel_rfl) (by kernel_rfl) (by kernel_rfl) (V.loadAt0 (off := 0) (Ag.args _ _ _) hq_f rfl rfl isAgg114 sizeOf114 rfl rfl) (fun a hf => H.val hf hs.nil (v := (pn fg 0)) (i := 6) rfl rfl rfl rfl (by kernel_rfl) (by kernel_rfl) (by kernel_rfl) (V.pure rfl) (fun a hf => H.val hf hs.nil (v := (pn fg 4)) (i := 7) rfl rfl rfl rfl (by kernel_rfl) (by kernel_rfl) (by kernel_rfl) (V.fieldBox rfl rfl runUnderlying120 rfl sizeOf26 rfl rfl) (fun a hf => H.val hf hs.nil (v := (pn fg 5)) (i := 8) rfl rfl rfl rfl (by kernel_rfl) (by kernel_rfl) (by kernel_rfl) (V.fieldBox rfl rfl runUnderlying26 rfl sizeOf3 rfl rfl) (fun a hf => H.val hf hs.nil (v := iv f.c.Via) (i := 9) rfl rfl rfl rfl (by kernel_rfl) (by kernel_rfl) (by kernel_rfl) (V.loadAt0 (off := 5) (Ag.args _ _ _) hb_f rfl rfl isAgg3 sizeOf3 rfl rfl) (fun a hf => H.val hf hs.nil (v := iv (w64 (f.c.Via * 1048576))) (i := 10) rfl rfl rfl rfl (by kernel_rfl) (by kernel_rfl) (by kernel_rfl) (V.pure rfl) (fun a hf => H.val hf hs.nil (v := iv (w64 ((w64 (f.c.Via * 1048576)) + 1))) (i := 11) rfl rfl rfl rfl (by kernel_rfl) (by kernel_rfl) (by kernel_rfl) (V.pure rfl) (fun a hf => ?_))))))))))))
   refine H.one (i := 12) rfl (by kernel_rfl) ?_
   replace hs := hs.front 4 rfl
   replace hs := hs.front 4 rfl
   replace hs := hs.front 4 rfl
   replace hs := hs.front 4 rfl
   replace hs := hs.front 4 rfl
   obtain ⟨F1, hsF, hback, hold, hrest⟩ := Sat.callOwns [hbox x_g 158 [iv x_.key, iv x_.state], hbox outg 72 [.slice outA out.length outC], hown 3 outA outC out, hbox qg 156 [.slice qA q.length qC], hown 158 qA qC q] (σ := []) hs
   refine S.call hf rfl rfl rfl (call_run (args := #[iv (w64 ((w64 (m * 3)) + last)), iv (w64 ((w64 (f.c.Via * 1048576)) + 1)), (pn x_g 0), (pn outg 0), (pn qg 0)]) rfl rfl rfl call120 (by simp)) (R_search1 (w64 ((w64 (m * 3)) + last)) (w64 ((w64 (f.c.Via * 1048576)) + 1)) x_ out q _ _ x_g outg outA outC qg qA qC hsF _ h) (fun v a w' hf hr => ?_)
   obtain ⟨z4, z5, z5A, z5C, z6, z6A, z6C, rfl, h2, hs2⟩ := hr
   replace h := h2; replace hs := hback _ _ hs2; clear h2 hs2 hback hold hrest hsF
   refine X.n (⟨hs.nil, (H.done (by kernel_rfl) (X.blk ?_))⟩)
   replace hs := hs.front 4 rfl
   replace hs := hs.front 4 rfl
   replace hs := hs.front 4 rfl
   replace hs := hs.front 4 rfl
   replace hs := hs.front 4 rfl
   replace hs := hs.take 5
   exact L.end0 results139 hf ⟨z4, z5, z5A, z5C, z6, z6A, z6C, rfl, h, hs⟩
  ·replace h := h.2 hc
   refine X.l (S.q hf hs (iv along) rfl fun a hf => S.v hf hs (iv last) rfl (V.loadAt0 (off := 0) (Ag.args _ _ _) hb_last rfl rfl isAgg3 sizeOf3 rfl rfl) fun a hf => S.q hf hs (.bool (along == last)) rfl fun a hf => S.q hf hs (.bool (along == last)) rfl fun a hf => X.n ?_)
   refine C.cond hf (b := along == last) rfl (fun hc => ?_) (fun hc => ?_)
   ·replace h := h.1 hc
    refine X.l (S.q hf hs (iv 0) rfl fun a hf => X.n (wp_block ?_))
    obtain ⟨kk, h⟩ := h
    refine C.loop (fun kk a w => ∃ (l3 : List Int) (l3A : Option Addr) (l3C : Nat) (l4 : List RouteItem) (l4A : Option Addr) (l4C : Nat) (b2 : RouteItem) (n2 : Int), iterF (fun again (s : List Int × List RouteItem × RouteItem × Int) => M_steps1_search_L1 m along f layer Q (fun l3 l4 b2 n2 => again (l3, l4, b2, n2)) s.1 s.2.1 s.2.2.1 s.2.2.2) kk (l3, l4, b2, n2) ∧ FrOk 81 [(0, iv m), (1, iv along), (3, (pn fq 0)), (4, (pn layerg 0)), (6, (pn seeg 0)), (57, iv n2)] a ∧ Sat w0 F0 [hbox x_g 158 [iv b2.key, iv b2.state], hbox outg 72 [.slice l3A l3.length l3C], hown 3 l3A l3C l3, hbox qg 156 [.slice l4A l4.length l4C], hown 158 l4A l4C l4] w) kk ⟨out, outA, outC, q, qA, qC, x_, 0, h, ((((((hf.nil.cons (hf.get 57 _ rfl)).cons (hf.get 6 _ rfl)).cons (hf.get 4 _ rfl)).cons (hf.get 3 _ rfl)).cons (hf.get 1 _ rfl)).cons (hf.get 0 _ rfl)), hs⟩ (fun a w ⟨_, _, _, _, _, _, _, _, h, _, _⟩ => h) ?_
    clear h hf hs
    rintro kk a w ⟨l3, l3A, l3C, l4, l4A, l4C, b2, n2, h, hf, hs⟩
    obtain ⟨again1, hagain1⟩ : ∃ X : List Int → List RouteItem → RouteItem → Int → Prop, X = (fun l3 l4 b2 n2 => iterF (fun again (s : List Int × List RouteItem × RouteItem × Int) => M_steps1_search_L1 m along f layer Q (fun l3 l4 b2 n2 => again (l3, l4, b2, n2)) s.1 s.2.1 s.2.2.1 s.2.2.2) kk (l3, l4, b2, n2)) := ⟨_, rfl⟩
    replace h : M_steps1_search_L1 m along f layer Q again1 l3 l4 b2 n2 := by rw [hagain1]; exact h
    unfold M_steps1_search_L1 at h
    refine X.l (S.q hf hs (.bool (decide (n2 < 3))) rfl fun a hf => X.n (wp_seq ?_))
    refine C.cond hf (b := decide (n2 < 3)) rfl (fun hc => ?_) (fun hc => ?_)
    ·replace h := h.1 hc
     refine wp_skip (X.then_ (wp_seq (wp_block (X.l (S.q hf hs (iv n2) rfl fun a hf => S.q hf hs (iv n2) rfl fun a hf => X.n (wp_seq (H.start (S := Sat w0 F0 [hbox x_g 158 [iv b2.key, iv b2.state], hbox outg 72 [.slice l3A l3.length l3C], hown 3 l3A l3C l3, hbox qg 156 [.slice l4A l4.length l4C], hown 158 l4A l4C l4]) mo ?_)))))))
     replace hs := hs.drew
     refine H.v hf hs ((pn fg 0)) 0 rfl rfl (by kernel_rfl) (V.loadAt0 (off := 0) (Ag.args _ _ _) hq_f rfl rfl isAgg114 sizeOf114 rfl rfl) fun a hf => H.v hf hs ((pn fg 0)) 1 rfl rfl (by kernel_rfl) (V.pure rfl) fun a hf => H.v hf hs ((pn fg 4)) 2 rfl rfl (by kernel_rfl) (V.fieldBox rfl rfl runUnderlying120 rfl sizeOf26 rfl rfl) fun a hf => H.v hf hs (.agg #[iv f.c.Step, iv f.c.Via, iv f.c.Turn, iv f.c.Against]) 3 rfl rfl (by kernel_rfl) (V.loadAt0 (off := 4) (Ag.args _ _ _) hb_f rfl rfl isAgg26 sizeOf26 rfl rfl) fun a hf => H.v hf hs (iv layer) 4 rfl rfl (by kernel_rfl) (V.loadAt0 (off := 0) (Ag.args _ _ _) hb_layer rfl rfl isAgg3 sizeOf3 rfl rfl) fun a hf => H.v hf hs (iv n2) 5 rfl rfl (by kernel_rfl) (V.pure rfl) fun a hf => H.v hf hs (iv along) 6 rfl rfl (by kernel_rfl) (V.pure rfl) fun a hf => H.one (i := 7) rfl (by kernel_rfl) (S.call hf rfl rfl rfl (call_fn (vs := [.agg #[iv f.c.Step, iv f.c.Via, iv f.c.Turn, iv f.c.Against], iv layer, iv n2, iv along]) rfl rfl rfl call59) (R_route_stepCost f.c layer n2 along _  _ h) (fun v a w' hf hr => ?_))
     obtain ⟨y3, y4, rfl, h2, hs2⟩ := hr
     replace h := h2; replace hs := hs.call hs2; clear h2 hs2
     refine X.n (⟨hs, (H.v hf hs (.tuple #[iv y3, iv y4]) 8 rfl rfl (by kernel_rfl) (V.pure rfl) fun a hf => H.v hf hs (iv y3) 9 rfl rfl (by kernel_rfl) (V.pure rfl) fun a hf => H.v hf hs (iv y4) 10 rfl rfl (by kernel_rfl) (V.pure rfl) fun a hf => H.v hf hs (iv y3) 11 rfl rfl (by kernel_rfl) (V.pure rfl) fun a hf => H.v hf hs (iv y4) 12 rfl rfl (by kernel_rfl) (V.pure rfl) fun a hf => H.done (by kernel_rfl) (X.then_ (R.list (S.v hf hs (.func (.func 120) #[] #[(pn x_g 0), (pn outg 0), (pn qg 0)]) rfl (V.loadAt0 (off := 0) (Ag.args _ _ _) hb_see rfl rfl isAgg107 sizeOf107 rfl rfl) fun a hf => S.q hf hs (iv m) rfl fun a hf => S.q hf hs (iv (w64 (m * 3))) rfl fun a hf => ?_))))⟩)
     refine S.q hf hs (iv n2) rfl fun a hf => S.q hf hs (iv (w64 ((w64 (m * 3)) + n2))) rfl fun a hf => S.q hf hs (iv y3) rfl fun a hf => S.q hf hs (iv (w64 (y3 * 1048576))) rfl fun a hf => S.q hf hs (iv (w64 ((w64 (y3 * 1048576)) + 1))) rfl fun a hf => ?_
     replace hs := hs.front 4 rfl
     replace hs := hs.front 4 rfl
     replace hs := hs.front 4 rfl
     replace hs := hs.front 4 rfl
     replace hs := hs.front 4 rfl
     obtain ⟨F1, hsF, hback, hold, hrest⟩ := Sat.callOwns [hbox x_g 158 [iv b2.key, iv b2.state], hbox outg 72 [.slice l3A l3.length l3C], hown 3 l3A l3C l3, hbox qg 156 [.slice l4A l4.length l4C], hown 158 l4A l4C l4] (σ := []) hs
     refine S.call hf rfl rfl rfl (call_run (args := #[iv (w64 ((w64 (m * 3)) + n2)), iv (w64 ((w64 (y3 * 1048576)) + 1)), (pn x_g 0), (pn outg 0), (pn qg 0)]) rfl rfl rfl call120 (by simp)) (R_search1 (w64 ((w64 (m * 3)) + n2)) (w64 ((w64 (y3 * 1048576)) + 1)) b2 l3 l4 _ _ x_g outg l3A l3C qg l4A l4C hsF _ h) (fun v a w' hf hr => ?_)
     obtain ⟨z7, z8, z8A, z8C, z9, z9A, z9C, rfl, h2, hs2⟩ := hr
     replace h := h2; replace hs := hback _ _ hs2; clear h2 hs2 hback hold hrest hsF
     refine R.nil (X.blk (X.then_ (R.list (S.q hf hs (iv (w64 (n2 + 1))) rfl fun a hf => S.q hf hs (iv (w64 (n2 + 1))) rfl fun a hf => X.n ?_))))
     exact ⟨z8, z8A, z8C, z9, z9A, z9C, z7, (w64 (n2 + 1)), (by rw [hagain1] at h; exact h), ((((((hf.nil.cons (hf.get 57 _ rfl)).cons (hf.get 6 _ rfl)).cons (hf.get 4 _ rfl)).cons (hf.get 3 _ rfl)).cons (hf.get 1 _ rfl)).cons (hf.get 0 _ rfl)), hs⟩
    ·replace h := h.2 hc
     refine wp_exit (X.then_exit (X.then_exit (X.blk_exit (X.blk ?_))))
     replace hs := hs.front 4 rfl
     replace hs := hs.front 4 rfl
     replace hs := hs.front 4 rfl
     replace hs := hs.front 4 rfl
     replace hs := hs.front 4 rfl
     replace hs := hs.take 5
     exact L.end0 results139 hf ⟨b2, l3, l3A, l3C, l4, l4A, l4C, rfl, h, hs⟩
   ·replace h := h.2 hc
    refine wp_skip (X.blk ?_)
    replace hs := hs.front 4 rfl
    replace hs := hs.front 4 rfl
    replace hs := hs.front 4 rfl
    replace hs := hs.front 4 rfl
    replace hs := hs.front 4 rfl
    replace hs := hs.take 5
    exact L.end0 results139 hf ⟨x_, out, outA, outC, q, qA, qC, rfl, h, hs⟩
structure NearRow where
  by_ : Int
  along : Int
  is : Bool
instance : Flat NearRow := ⟨3, by decide, fun x => [.int .i64 x.by_, .int .i64 x.along, .bool x.is], fun _ => rfl, fun _ v hv => by simp only [List.mem_cons, List.not_mem_nil, or_false] at hv; rcases hv with rfl | rfl | rfl <;> rfl⟩
def M_near_search_k2 (n : Int) (back : Bool) (f2 : RouteFinder) (layer : Int) (last : Int) (l3 : List Int) (l4 : List RouteItem) (b2 : RouteItem) (n2 : Int) (again1 : List Int → List RouteItem → RouteItem → Int → Prop) (x1 : NearRow) (c1 : Bool) : Prop :=
  cnd c1 (M_steps1_search (w64 (n + x1.by_)) x1.along back f2 layer last b2 l3 l4 fun z1 z2 z3 => again1 z2 z3 z1 (w64 (n2 + 1))) (again1 l3 l4 b2 (w64 (n2 + 1)))
def M_near_search_L1 (f : RouteFinder) (n : Int) (back : Bool) (f2 : RouteFinder) (layer : Int) (last : Int) (Q : RouteItem → (List Int) → (List RouteItem) → Prop) (y1 : Cell) (again1 : List Int → List RouteItem → RouteItem → Int → Prop) (l3 : List Int) (l4 : List RouteItem) (b2 : RouteItem) (n2 : Int) : Prop :=
  cnd (decide (n2 < 6)) (idx ([(⟨w64 ((w64 (-f.g.W)) * f.g.H), 3, decide (y1.Layer > 0)⟩ : NearRow), (⟨w64 (-f.g.W), 2, decide (y1.Y > 0)⟩ : NearRow), (⟨(-1), 1, decide (y1.X > 0)⟩ : NearRow), (⟨1, 1, decide (y1.X < w64 (f.g.W - 1))⟩ : NearRow), (⟨f.g.W, 2, decide (y1.Y < w64 (f.g.H - 1))⟩ : NearRow), (⟨w64 (f.g.W * f.g.H), 3, decide (y1.Layer < w64 (f.g.Layers - 1))⟩ : NearRow)] : List NearRow) n2 fun x1 => cnd x1.is (idx f.no (w64 (n + x1.by_)) fun x2 => M_near_search_k2 n back f2 layer last l3 l4 b2 n2 again1 x1 (!x2)) (M_near_search_k2 n back f2 layer last l3 l4 b2 n2 again1 x1 false)) (Q b2 l3 l4)
def M_near_search (f : RouteFinder) (n : Int) (back : Bool) (f2 : RouteFinder) (layer : Int) (last : Int) (x_ : RouteItem) (out : (List Int)) (q : (List RouteItem)) (Q : RouteItem → (List Int) → (List RouteItem) → Prop) : Prop :=
  M_route_cell f.g n fun y1 => lp (fun again (s : List Int × List RouteItem × RouteItem × Int) => M_near_search_L1 f n back f2 layer last Q y1 (fun l3 l4 b2 n2 => again (l3, l4, b2, n2)) s.1 s.2.1 s.2.2.1 s.2.2.2) (out, q, x_, 0)
theorem R_near_search (f : RouteFinder) (n : Int) (back : Bool) (f2 : RouteFinder) (layer : Int) (last : Int) (x_ : RouteItem) (out : (List Int)) (q : (List RouteItem)) (w0 : World) (F0 : Nat → Prop) (f_g_BlockedA : Option Addr) (f_g_BlockedC : Nat) (hv_f_g_Blocked : View w0 (old w0 F0) f_g_BlockedA f_g_BlockedC f.g.Blocked) (f_noA : Option Addr) (f_noC : Nat) (hv_f_no : View w0 (old w0 F0) f_noA f_noC f.no) (fg : Nat) (hb_f : ElemAt w0 (old w0 F0) (some ⟨fg, 0, none⟩) 0 [iv f.g.W, iv f.g.H, iv f.g.Layers, .slice f_g_BlockedA f.g.Blocked.length f_g_BlockedC, iv f.c.Step, iv f.c.Via, iv f.c.Turn, iv f.c.Against, .slice f_noA f.no.length f_noC]) (backg : Nat) (hb_back : ElemAt w0 (old w0 F0) (some ⟨backg, 0, none⟩) 0 [.bool back]) (f2_g_BlockedA : Option Addr) (f2_g_BlockedC : Nat) (hv_f2_g_Blocked : View w0 (old w0 F0) f2_g_BlockedA f2_g_BlockedC f2.g.Blocked) (f2_noA : Option Addr) (f2_noC : Nat) (hv_f2_no : View w0 (old w0 F0) f2_noA f2_noC f2.no) (f2g : Nat) (hb_f2 : ElemAt w0 (old w0 F0) (some ⟨f2g, 0, none⟩) 0 [iv f2.g.W, iv f2.g.H, iv f2.g.Layers, .slice f2_g_BlockedA f2.g.Blocked.length f2_g_BlockedC, iv f2.c.Step, iv f2.c.Via, iv f2.c.Turn, iv f2.c.Against, .slice f2_noA f2.no.length f2_noC]) (f2q : Nat) (hq_f2 : ElemAt w0 (old w0 F0) (some ⟨f2q, 0, none⟩) 0 [(pn f2g 0)]) (layerg : Nat) (hb_layer : ElemAt w0 (old w0 F0) (some ⟨layerg, 0, none⟩) 0 [iv layer]) (lastg : Nat) (hb_last : ElemAt w0 (old w0 F0) (some ⟨lastg, 0, none⟩) 0 [iv last]) (x_g : Nat) (outg : Nat) (outA : Option Addr) (outC : Nat) (qg : Nat) (qA : Option Addr) (qC : Nat) (see2g : Nat) (hb_see2 : ElemAt w0 (old w0 F0) (some ⟨see2g, 0, none⟩) 0 [.func (.func 120) #[] #[(pn x_g 0), (pn outg 0), (pn qg 0)]]) (hs0 : Sat w0 F0 [hbox x_g 158 [iv x_.key, iv x_.state], hbox outg 72 [.slice outA out.length outC], hown 3 outA outC out, hbox qg 156 [.slice qA q.length qC], hown 158 qA qC q] w0) (Q : RouteItem → (List Int) → (List RouteItem) → Prop) (h : M_near_search f n back f2 layer last x_ out q Q) :
  Ret Tryz.prog 138 #[(pn fg 0), iv n, .func (.func 139) #[] #[(pn backg 0), (pn f2q 0), (pn layerg 0), (pn lastg 0), (pn see2g 0)]] w0 fun v w' => ∃ (x_1 : RouteItem) (out1 : (List Int)) (out1A : Option Addr) (out1C : Nat) (q1 : (List RouteItem)) (q1A : Option Addr) (q1C : Nat), v = .tuple #[] ∧ Q x_1 out1 q1 ∧ Sat w0 F0 [hbox x_g 158 [iv x_1.key, iv x_1.state], hbox outg 72 [.slice out1A out1.length out1C], hown 3 out1A out1C out1, hbox qg 156 [.slice q1A q1.length q1C], hown 158 q1A q1C q1] w' := by
 refine fn_enter func138 rfl ntmps138 rfl (fs := [(0, (pn fg 0)), (1, iv n), (2, .func (.func 139) #[] #[(pn backg 0), (pn f2q 0), (pn layerg 0), (pn lastg 0), (pn see2g 0)])]) rfl (fun a hf => ?_)
 have hs := hs0
 unfold M_near_search at h
 refine X.l (S.q hf hs ((pn fg 0)) rfl fun a hf => S.q hf hs ((pn fg 0)) rfl fun a hf => S.v hf hs ((pn fg 0)) rfl (V.fieldBox rfl rfl runUnderlying120 rfl sizeOf24 rfl rfl) fun a hf => S.v hf hs (.agg #[iv f.g.W, iv f.g.H, iv f.g.Layers, .slice f_g_BlockedA f.g.Blocked.length f_g_BlockedC]) rfl (V.loadAt0 (off := 0) (Ag.args _ _ _) hb_f rfl rfl isAgg24 sizeOf24 rfl rfl) fun a hf => S.q hf hs (iv n) rfl fun a hf => S.call hf rfl rfl rfl (call_fn (vs := [.agg #[iv f.g.W, iv f.g.H, iv f.g.Layers, .slice f_g_BlockedA f.g.Blocked.length f_g_BlockedC], iv n]) rfl rfl rfl call33) (R_route_cell f.g n _ f_g_BlockedA f_g_BlockedC ((Ag.args _ _ _).view hv_f_g_Blocked hs) _ h) (fun v a w' hf hr => ?_))
 obtain ⟨y1, rfl, h2, hs2⟩ := hr
 replace h := h2; replace hs := hs.call hs2; clear h2 hs2
 refine S.alloc hf hs rfl rfl rfl [iv 0, iv 0, iv 0] rfl zeroValue55 rfl (fun g1 a w hf hs => S.storeBox 0 hf hs rfl rfl [iv y1.X, iv y1.Y, iv y1.Layer] [iv y1.X, iv y1.Y, iv y1.Layer] rfl rfl rfl rfl rfl sizeOf55 rfl rfl rfl rfl (fun a w hf hs => X.n (wp_seq (R.draw mo (by kernel_rfl) hs (D.p hf ((pn fg 0)) rfl rfl fun a hf => D.p hf ((pn fg 0)) rfl rfl fun a hf => D.v hf ((pn fg 0)) rfl (V.fieldBox rfl rfl runUnderlying120 rfl sizeOf24 rfl rfl) fun a hf => D.v hf ((pn fg 0)) rfl (V.fieldBox rfl rfl runUnderlying24 rfl sizeOf3 rfl rfl) fun a hf => D.v hf (iv f.g.W) rfl (V.loadAt0 (off := 0) (Ag.args _ _ _) hb_f rfl rfl isAgg3 sizeOf3 rfl rfl) fun a hf => D.p hf (iv (w64 (-f.g.W))) rfl rfl fun a hf => D.p hf ((pn fg 0)) rfl rfl fun a hf => D.p hf ((pn fg 0)) rfl rfl fun a hf => ?_)))))
 refine D.v hf ((pn fg 0)) rfl (V.fieldBox rfl rfl runUnderlying120 rfl sizeOf24 rfl rfl) fun a hf => D.v hf ((pn fg 1)) rfl (V.fieldBox rfl rfl runUnderlying24 rfl sizeOf3 rfl rfl) fun a hf => D.v hf (iv f.g.H) rfl (V.loadAt0 (off := 1) (Ag.args _ _ _) hb_f rfl rfl isAgg3 sizeOf3 rfl rfl) fun a hf => D.p hf (iv (w64 ((w64 (-f.g.W)) * f.g.H))) rfl rfl fun a hf => D.v hf ((pn g1 2)) rfl (V.fieldBox rfl rfl runUnderlying55 rfl sizeOf3 rfl rfl) fun a hf => D.v hf (iv y1.Layer) rfl (V.loadBox 0 rfl rfl rfl isAgg3 sizeOf3 rfl rfl) fun a hf => D.p hf (.bool (decide (y1.Layer > 0))) rfl rfl fun a hf => D.v hf (.agg #[iv (w64 ((w64 (-f.g.W)) * f.g.H)), iv 3, .bool (decide (y1.Layer > 0))]) rfl (V.build (places := #[(0, 1), (1, 1), (2, 1)]) rfl zeroValue205 runUnderlying205 (by intro w; simp [sizeOf3, sizeOf4]) rfl rfl) fun a hf => D.p hf ((pn fg 0)) rfl rfl fun a hf => D.p hf ((pn fg 0)) rfl rfl fun a hf => D.v hf ((pn fg 0)) rfl (V.fieldBox rfl rfl runUnderlying120 rfl sizeOf24 rfl rfl) fun a hf => D.v hf ((pn fg 0)) rfl (V.fieldBox rfl rfl runUnderlying24 rfl sizeOf3 rfl rfl) fun a hf => ?_
 refine D.v hf (iv f.g.W) rfl (V.loadAt0 (off := 0) (Ag.args _ _ _) hb_f rfl rfl isAgg3 sizeOf3 rfl rfl) fun a hf => D.p hf (iv (w64 (-f.g.W))) rfl rfl fun a hf => D.v hf ((pn g1 1)) rfl (V.fieldBox rfl rfl runUnderlying55 rfl sizeOf3 rfl rfl) fun a hf => D.v hf (iv y1.Y) rfl (V.loadBox 0 rfl rfl rfl isAgg3 sizeOf3 rfl rfl) fun a hf => D.p hf (.bool (decide (y1.Y > 0))) rfl rfl fun a hf => D.v hf (.agg #[iv (w64 (-f.g.W)), iv 2, .bool (decide (y1.Y > 0))]) rfl (V.build (places := #[(0, 1), (1, 1), (2, 1)]) rfl zeroValue205 runUnderlying205 (by intro w; simp [sizeOf3, sizeOf4]) rfl rfl) fun a hf => D.v hf ((pn g1 0)) rfl (V.fieldBox rfl rfl runUnderlying55 rfl sizeOf3 rfl rfl) fun a hf => D.v hf (iv y1.X) rfl (V.loadBox 0 rfl rfl rfl isAgg3 sizeOf3 rfl rfl) fun a hf => D.p hf (.bool (decide (y1.X > 0))) rfl rfl fun a hf => D.v hf (.agg #[iv (-1), iv 1, .bool (decide (y1.X > 0))]) rfl (V.build (places := #[(0, 1), (1, 1), (2, 1)]) rfl zeroValue205 runUnderlying205 (by intro w; simp [sizeOf3, sizeOf4]) rfl rfl) fun a hf => D.v hf ((pn g1 0)) rfl (V.fieldBox rfl rfl runUnderlying55 rfl sizeOf3 rfl rfl) fun a hf => D.v hf (iv y1.X) rfl (V.loadBox 0 rfl rfl rfl isAgg3 sizeOf3 rfl rfl) fun a hf => ?_
 refine D.p hf ((pn fg 0)) rfl rfl fun a hf => D.p hf ((pn fg 0)) rfl rfl fun a hf => D.v hf ((pn fg 0)) rfl (V.fieldBox rfl rfl runUnderlying120 rfl sizeOf24 rfl rfl) fun a hf => D.v hf ((pn fg 0)) rfl (V.fieldBox rfl rfl runUnderlying24 rfl sizeOf3 rfl rfl) fun a hf => D.v hf (iv f.g.W) rfl (V.loadAt0 (off := 0) (Ag.args _ _ _) hb_f rfl rfl isAgg3 sizeOf3 rfl rfl) fun a hf => D.p hf (iv (w64 (f.g.W - 1))) rfl rfl fun a hf => D.p hf (.bool (decide (y1.X < w64 (f.g.W - 1)))) rfl rfl fun a hf => D.v hf (.agg #[iv 1, iv 1, .bool (decide (y1.X < w64 (f.g.W - 1)))]) rfl (V.build (places := #[(0, 1), (1, 1), (2, 1)]) rfl zeroValue205 runUnderlying205 (by intro w; simp [sizeOf3, sizeOf4]) rfl rfl) fun a hf => D.p hf ((pn fg 0)) rfl rfl fun a hf => D.p hf ((pn fg 0)) rfl rfl fun a hf => D.v hf ((pn fg 0)) rfl (V.fieldBox rfl rfl runUnderlying120 rfl sizeOf24 rfl rfl) fun a hf => D.v hf ((pn fg 0)) rfl (V.fieldBox rfl rfl runUnderlying24 rfl sizeOf3 rfl rfl) fun a hf => ?_
 refine D.v hf (iv f.g.W) rfl (V.loadAt0 (off := 0) (Ag.args _ _ _) hb_f rfl rfl isAgg3 sizeOf3 rfl rfl) fun a hf => D.v hf ((pn g1 1)) rfl (V.fieldBox rfl rfl runUnderlying55 rfl sizeOf3 rfl rfl) fun a hf => D.v hf (iv y1.Y) rfl (V.loadBox 0 rfl rfl rfl isAgg3 sizeOf3 rfl rfl) fun a hf => D.p hf ((pn fg 0)) rfl rfl fun a hf => D.p hf ((pn fg 0)) rfl rfl fun a hf => D.v hf ((pn fg 0)) rfl (V.fieldBox rfl rfl runUnderlying120 rfl sizeOf24 rfl rfl) fun a hf => D.v hf ((pn fg 1)) rfl (V.fieldBox rfl rfl runUnderlying24 rfl sizeOf3 rfl rfl) fun a hf => D.v hf (iv f.g.H) rfl (V.loadAt0 (off := 1) (Ag.args _ _ _) hb_f rfl rfl isAgg3 sizeOf3 rfl rfl) fun a hf => D.p hf (iv (w64 (f.g.H - 1))) rfl rfl fun a hf => D.p hf (.bool (decide (y1.Y < w64 (f.g.H - 1)))) rfl rfl fun a hf => D.v hf (.agg #[iv f.g.W, iv 2, .bool (decide (y1.Y < w64 (f.g.H - 1)))]) rfl (V.build (places := #[(0, 1), (1, 1), (2, 1)]) rfl zeroValue205 runUnderlying205 (by intro w; simp [sizeOf3, sizeOf4]) rfl rfl) fun a hf => D.p hf ((pn fg 0)) rfl rfl fun a hf => ?_
 refine D.p hf ((pn fg 0)) rfl rfl fun a hf => D.v hf ((pn fg 0)) rfl (V.fieldBox rfl rfl runUnderlying120 rfl sizeOf24 rfl rfl) fun a hf => D.v hf ((pn fg 0)) rfl (V.fieldBox rfl rfl runUnderlying24 rfl sizeOf3 rfl rfl) fun a hf => D.v hf (iv f.g.W) rfl (V.loadAt0 (off := 0) (Ag.args _ _ _) hb_f rfl rfl isAgg3 sizeOf3 rfl rfl) fun a hf => D.p hf ((pn fg 0)) rfl rfl fun a hf => D.p hf ((pn fg 0)) rfl rfl fun a hf => D.v hf ((pn fg 0)) rfl (V.fieldBox rfl rfl runUnderlying120 rfl sizeOf24 rfl rfl) fun a hf => D.v hf ((pn fg 1)) rfl (V.fieldBox rfl rfl runUnderlying24 rfl sizeOf3 rfl rfl) fun a hf => D.v hf (iv f.g.H) rfl (V.loadAt0 (off := 1) (Ag.args _ _ _) hb_f rfl rfl isAgg3 sizeOf3 rfl rfl) fun a hf => D.p hf (iv (w64 (f.g.W * f.g.H))) rfl rfl fun a hf => D.v hf ((pn g1 2)) rfl (V.fieldBox rfl rfl runUnderlying55 rfl sizeOf3 rfl rfl) fun a hf => D.v hf (iv y1.Layer) rfl (V.loadBox 0 rfl rfl rfl isAgg3 sizeOf3 rfl rfl) fun a hf => ?_
 refine D.p hf ((pn fg 0)) rfl rfl fun a hf => D.p hf ((pn fg 0)) rfl rfl fun a hf => D.v hf ((pn fg 0)) rfl (V.fieldBox rfl rfl runUnderlying120 rfl sizeOf24 rfl rfl) fun a hf => D.v hf ((pn fg 2)) rfl (V.fieldBox rfl rfl runUnderlying24 rfl sizeOf3 rfl rfl) fun a hf => D.v hf (iv f.g.Layers) rfl (V.loadAt0 (off := 2) (Ag.args _ _ _) hb_f rfl rfl isAgg3 sizeOf3 rfl rfl) fun a hf => D.p hf (iv (w64 (f.g.Layers - 1))) rfl rfl fun a hf => D.p hf (.bool (decide (y1.Layer < w64 (f.g.Layers - 1)))) rfl rfl fun a hf => D.v hf (.agg #[iv (w64 (f.g.W * f.g.H)), iv 3, .bool (decide (y1.Layer < w64 (f.g.Layers - 1)))]) rfl (V.build (places := #[(0, 1), (1, 1), (2, 1)]) rfl zeroValue205 runUnderlying205 (by intro w; simp [sizeOf3, sizeOf4]) rfl rfl) fun a hf => D.v hf (.agg #[iv (w64 ((w64 (-f.g.W)) * f.g.H)), iv 3, .bool (decide (y1.Layer > 0)), iv (w64 (-f.g.W)), iv 2, .bool (decide (y1.Y > 0)), iv (-1), iv 1, .bool (decide (y1.X > 0)), iv 1, iv 1, .bool (decide (y1.X < w64 (f.g.W - 1))), iv f.g.W, iv 2, .bool (decide (y1.Y < w64 (f.g.H - 1))), iv (w64 (f.g.W * f.g.H)), iv 3, .bool (decide (y1.Layer < w64 (f.g.Layers - 1)))]) rfl (V.buildArr rfl zeroValue206 runUnderlying206 sizeOf205 rfl (by kernel_rfl)) fun a hf => D.p hf (iv 0) rfl rfl fun a hf => D.done (fun w hs => X.then_ (wp_block ?_))
 replace hs := hs.front 5 rfl
 replace hs := hs.front 5 rfl
 replace hs := hs.front 5 rfl
 replace hs := hs.front 5 rfl
 replace hs := hs.front 5 rfl
 replace hs := hs.take 5
 obtain ⟨kk, h⟩ := h
 refine C.loop (fun kk a w => ∃ (l3 : List Int) (l3A : Option Addr) (l3C : Nat) (l4 : List RouteItem) (l4A : Option Addr) (l4C : Nat) (b2 : RouteItem) (n2 : Int), iterF (fun again (s : List Int × List RouteItem × RouteItem × Int) => M_near_search_L1 f n back f2 layer last Q y1 (fun l3 l4 b2 n2 => again (l3, l4, b2, n2)) s.1 s.2.1 s.2.2.1 s.2.2.2) kk (l3, l4, b2, n2) ∧ FrOk 119 [(0, (pn fg 0)), (1, iv n), (2, .func (.func 139) #[] #[(pn backg 0), (pn f2q 0), (pn layerg 0), (pn lastg 0), (pn see2g 0)]), (91, .agg #[iv (w64 ((w64 (-f.g.W)) * f.g.H)), iv 3, .bool (decide (y1.Layer > 0)), iv (w64 (-f.g.W)), iv 2, .bool (decide (y1.Y > 0)), iv (-1), iv 1, .bool (decide (y1.X > 0)), iv 1, iv 1, .bool (decide (y1.X < w64 (f.g.W - 1))), iv f.g.W, iv 2, .bool (decide (y1.Y < w64 (f.g.H - 1))), iv (w64 (f.g.W * f.g.H)), iv 3, .bool (decide (y1.Layer < w64 (f.g.Layers - 1)))]), (92, iv n2)] a ∧ Sat w0 F0 [hbox x_g 158 [iv b2.key, iv b2.state], hbox outg 72 [.slice l3A l3.length l3C], hown 3 l3A l3C l3, hbox qg 156 [.slice l4A l4.length l4C], hown 158 l4A l4C l4] w) kk ⟨out, outA, outC, q, qA, qC, x_, 0, h, (((((hf.nil.cons (hf.get 92 _ rfl)).cons (hf.get 91 _ rfl)).cons (hf.get 2 _ rfl)).cons (hf.get 1 _ rfl)).cons (hf.get 0 _ rfl)), hs⟩ (fun a w ⟨_, _, _, _, _, _, _, _, h, _, _⟩ => h) ?_
 clear h hf hs
 rintro kk a w ⟨l3, l3A, l3C, l4, l4A, l4C, b2, n2, h, hf, hs⟩
 obtain ⟨again1, hagain1⟩ : ∃ X : List Int → List RouteItem → RouteItem → Int → Prop, X = (fun l3 l4 b2 n2 => iterF (fun again (s : List Int × List RouteItem × RouteItem × Int) => M_near_search_L1 f n back f2 layer last Q y1 (fun l3 l4 b2 n2 => again (l3, l4, b2, n2)) s.1 s.2.1 s.2.2.1 s.2.2.2) kk (l3, l4, b2, n2)) := ⟨_, rfl⟩
 replace h : M_near_search_L1 f n back f2 layer last Q y1 again1 l3 l4 b2 n2 := by rw [hagain1]; exact h
 unfold M_near_search_L1 at h
 refine X.l (S.q hf hs (.bool (decide (n2 < 6))) rfl fun a hf => X.n (wp_seq ?_))
 refine C.cond hf (b := decide (n2 < 6)) rfl (fun hc => ?_) (fun hc => ?_)
 ·replace h := h.1 hc
  refine wp_skip (X.then_ (wp_seq (wp_block (X.l ?_))))
  obtain ⟨h0x1, x1, hx1, h⟩ := h
  refine S.v hf hs (.agg #[iv x1.by_, iv x1.along, .bool x1.is]) rfl (V.indexAgg rfl rfl rfl runUnderlying206 sizeOf205 (tab_lt h0x1 hx1 rfl) (tab_part hx1 (by kernel_rfl) isAgg205 sizeOf205 rfl rfl)) fun a hf => S.alloc hf hs rfl rfl rfl [iv 0, iv 0, .bool false] rfl zeroValue205 rfl (fun g2 a w hf hs => S.storeBox 0 hf hs rfl rfl [iv x1.by_, iv x1.along, .bool x1.is] [iv x1.by_, iv x1.along, .bool x1.is] rfl rfl rfl rfl rfl sizeOf205 rfl rfl rfl rfl (fun a w hf hs => X.n (wp_seq ?_)))
  refine C.cut (J := fun a w => ∃ (c1 : Bool), M_near_search_k2 n back f2 layer last l3 l4 b2 n2 again1 x1 c1 ∧ FrOk 119 [(0, (pn fg 0)), (1, iv n), (2, .func (.func 139) #[] #[(pn backg 0), (pn f2q 0), (pn layerg 0), (pn lastg 0), (pn see2g 0)]), (8, (pn g2 0)), (91, .agg #[iv (w64 ((w64 (-f.g.W)) * f.g.H)), iv 3, .bool (decide (y1.Layer > 0)), iv (w64 (-f.g.W)), iv 2, .bool (decide (y1.Y > 0)), iv (-1), iv 1, .bool (decide (y1.X > 0)), iv 1, iv 1, .bool (decide (y1.X < w64 (f.g.W - 1))), iv f.g.W, iv 2, .bool (decide (y1.Y < w64 (f.g.H - 1))), iv (w64 (f.g.W * f.g.H)), iv 3, .bool (decide (y1.Layer < w64 (f.g.Layers - 1)))]), (92, iv n2), (109, .bool c1)] a ∧ Sat w0 F0 [hbox g2 205 [iv x1.by_, iv x1.along, .bool x1.is], hbox x_g 158 [iv b2.key, iv b2.state], hbox outg 72 [.slice l3A l3.length l3C], hown 3 l3A l3C l3, hbox qg 156 [.slice l4A l4.length l4C], hown 158 l4A l4C l4] w) ?_ ?_
  ·rintro a w ⟨c1, h, hf, hs⟩
   unfold M_near_search_k2 at h
   refine C.cond hf (b := c1) rfl (fun hc => ?_) (fun hc => ?_)
   ·replace h := h.1 hc
    refine R.list (S.q hf hs (.func (.func 139) #[] #[(pn backg 0), (pn f2q 0), (pn layerg 0), (pn lastg 0), (pn see2g 0)]) rfl fun a hf => S.q hf hs (iv n) rfl fun a hf => S.v hf hs ((pn g2 0)) rfl (V.fieldBox rfl rfl runUnderlying205 rfl sizeOf3 rfl rfl) fun a hf => S.v hf hs (iv x1.by_) rfl (V.loadBox 0 rfl rfl rfl isAgg3 sizeOf3 rfl rfl) fun a hf => S.q hf hs (iv (w64 (n + x1.by_))) rfl fun a hf => S.v hf hs ((pn g2 1)) rfl (V.fieldBox rfl rfl runUnderlying205 rfl sizeOf3 rfl rfl) fun a hf => S.v hf hs (iv x1.along) rfl (V.loadBox 0 rfl rfl rfl isAgg3 sizeOf3 rfl rfl) fun a hf => ?_)
    replace hs := hs.front 5 rfl
    replace hs := hs.front 5 rfl
    replace hs := hs.front 5 rfl
    replace hs := hs.front 5 rfl
    replace hs := hs.front 5 rfl
    obtain ⟨F1, hsF, hback, hold, hrest⟩ := Sat.callOwns [hbox x_g 158 [iv b2.key, iv b2.state], hbox outg 72 [.slice l3A l3.length l3C], hown 3 l3A l3C l3, hbox qg 156 [.slice l4A l4.length l4C], hown 158 l4A l4C l4] (σ := [hbox g2 205 [iv x1.by_, iv x1.along, .bool x1.is]]) hs
    refine S.call hf rfl rfl rfl (call_run (args := #[iv (w64 (n + x1.by_)), iv x1.along, (pn backg 0), (pn f2q 0), (pn layerg 0), (pn lastg 0), (pn see2g 0)]) rfl rfl rfl call139 (by simp)) (R_steps1_search (w64 (n + x1.by_)) x1.along back f2 layer last b2 l3 l4 _ _ backg (elemArgsF hs hold hb_back) f2_g_BlockedA f2_g_BlockedC (viewArgsF hs hold hv_f2_g_Blocked) f2_noA f2_noC (viewArgsF hs hold hv_f2_no) f2g (elemArgsF hs hold hb_f2) f2q (elemArgsF hs hold hq_f2) layerg (elemArgsF hs hold hb_layer) lastg (elemArgsF hs hold hb_last) x_g outg l3A l3C qg l4A l4C see2g (elemArgsF hs hold hb_see2) hsF _ h) (fun v a w' hf hr => ?_)
    obtain ⟨z1, z2, z2A, z2C, z3, z3A, z3C, rfl, h2, hs2⟩ := hr
    replace h := h2; replace hs := hback _ _ hs2; clear h2 hs2 hback hold hrest hsF
    refine R.nil (X.blk (X.then_ (R.list (S.q hf hs (iv (w64 (n2 + 1))) rfl fun a hf => S.q hf hs (iv (w64 (n2 + 1))) rfl fun a hf => X.n ?_))))
    replace hs := hs.front 4 rfl
    replace hs := hs.front 4 rfl
    replace hs := hs.front 4 rfl
    replace hs := hs.front 4 rfl
    replace hs := hs.front 4 rfl
    replace hs := hs.take 5
    exact ⟨z2, z2A, z2C, z3, z3A, z3C, z1, (w64 (n2 + 1)), (by rw [hagain1] at h; exact h), (((((hf.nil.cons (hf.get 92 _ rfl)).cons (hf.get 91 _ rfl)).cons (hf.get 2 _ rfl)).cons (hf.get 1 _ rfl)).cons (hf.get 0 _ rfl)), hs⟩
   ·replace h := h.2 hc
    refine wp_skip (X.blk (X.then_ (R.list (S.q hf hs (iv (w64 (n2 + 1))) rfl fun a hf => S.q hf hs (iv (w64 (n2 + 1))) rfl fun a hf => X.n ?_))))
    replace hs := hs.front 5 rfl
    replace hs := hs.front 5 rfl
    replace hs := hs.front 5 rfl
    replace hs := hs.front 5 rfl
    replace hs := hs.front 5 rfl
    replace hs := hs.take 5
    exact ⟨l3, l3A, l3C, l4, l4A, l4C, b2, (w64 (n2 + 1)), (by rw [hagain1] at h; exact h), (((((hf.nil.cons (hf.get 92 _ rfl)).cons (hf.get 91 _ rfl)).cons (hf.get 2 _ rfl)).cons (hf.get 1 _ rfl)).cons (hf.get 0 _ rfl)), hs⟩
  ·skip
   refine R.draw mo (by kernel_rfl) hs (D.v hf ((pn g2 2)) rfl (V.fieldBox rfl rfl runUnderlying205 rfl sizeOf4 rfl rfl) fun a hf => D.v hf (.bool x1.is) rfl (V.loadBox 0 rfl rfl rfl isAgg4 sizeOf4 rfl rfl) fun a hf => ?_)
   refine D.split hf (b := x1.is) rfl rfl rfl (V.pure rfl) (fun hc a hf => ?_) (fun hc a hf => ?_)
   ·replace h := h.1 hc
    refine D.p hf ((pn fg 0)) rfl rfl fun a hf => D.p hf ((pn fg 0)) rfl rfl fun a hf => D.v hf ((pn fg 8)) rfl (V.fieldBox rfl rfl runUnderlying120 rfl sizeOf49 rfl rfl) fun a hf => D.v hf (.slice f_noA f.no.length f_noC) rfl (V.loadAt0 (off := 8) (Ag.args _ _ _) hb_f rfl rfl isAgg49 sizeOf49 rfl rfl) fun a hf => D.p hf (iv n) rfl rfl fun a hf => D.v hf ((pn g2 0)) rfl (V.fieldBox rfl rfl runUnderlying205 rfl sizeOf3 rfl rfl) fun a hf => D.v hf (iv x1.by_) rfl (V.loadBox 0 rfl rfl rfl isAgg3 sizeOf3 rfl rfl) fun a hf => D.p hf (iv (w64 (n + x1.by_))) rfl rfl fun a hf => ?_
    obtain ⟨h0x2, x2, hx2, h⟩ := h
    refine D.v hf (elemPtr f_noA ((w64 (n + x1.by_)).toNat * 1)) rfl (V.index rfl rfl rfl runUnderlying49 sizeOf4 (hv_f_no.some_ (lt_of_get hx2)) h0x2 (lt_of_get hx2) rfl) fun a hf => D.v hf (.bool x2) rfl (V.loadEl (off := 0) (Ag.args _ _ _) (hv_f_no.flat hx2) rfl rfl rfl isAgg4 sizeOf4 rfl rfl) fun a hf => D.p hf (.bool (!x2)) rfl rfl fun a hf => D.p hf (.bool (!x2)) rfl rfl fun a hf => D.done (fun w hs => X.then_ ?_)
    exact ⟨(!x2), h, (((((((hf.nil.cons (hf.get 109 _ rfl)).cons (hf.get 92 _ rfl)).cons (hf.get 91 _ rfl)).cons (hf.get 8 _ rfl)).cons (hf.get 2 _ rfl)).cons (hf.get 1 _ rfl)).cons (hf.get 0 _ rfl)), hs⟩
   ·replace h := h.2 hc
    refine D.k hf rfl fun a hf => D.k hf rfl fun a hf => D.k hf rfl fun a hf => D.k hf rfl fun a hf => D.k hf rfl fun a hf => D.k hf rfl fun a hf => D.k hf rfl fun a hf => D.k hf rfl fun a hf => D.k hf rfl fun a hf => D.k hf rfl fun a hf => D.k hf rfl fun a hf => D.p hf (.bool false) rfl rfl fun a hf => ?_
    refine D.done (fun w hs => X.then_ ?_)
    exact ⟨false, h, (((((((hf.nil.cons (hf.get 109 _ rfl)).cons (hf.get 92 _ rfl)).cons (hf.get 91 _ rfl)).cons (hf.get 8 _ rfl)).cons (hf.get 2 _ rfl)).cons (hf.get 1 _ rfl)).cons (hf.get 0 _ rfl)), hs⟩
 ·replace h := h.2 hc
  refine wp_exit (X.then_exit (X.then_exit (X.blk_exit ?_)))
  replace hs := hs.front 4 rfl
  replace hs := hs.front 4 rfl
  replace hs := hs.front 4 rfl
  replace hs := hs.front 4 rfl
  replace hs := hs.front 4 rfl
  replace hs := hs.take 5
  exact L.end0 results138 hf ⟨b2, l3, l3A, l3C, l4, l4A, l4C, rfl, h, hs⟩
def M_steps_search (f : RouteFinder) (s_ : Int) (back : Bool) (x_ : RouteItem) (out : (List Int)) (q : (List RouteItem)) (Q : RouteItem → (List Int) → (List RouteItem) → Prop) : Prop :=
  must (f.g.W ≠ 0) (must (f.g.H ≠ 0) (M_near_search f (w64 (s_.tdiv 3)) back f (w64 ((w64 ((w64 (s_.tdiv 3)).tdiv f.g.W)).tdiv f.g.H)) (s_.tmod 3) x_ out q fun z1 z2 z3 => Q z1 z2 z3))
theorem R_steps_search (f : RouteFinder) (s_ : Int) (back : Bool) (x_ : RouteItem) (out : (List Int)) (q : (List RouteItem)) (w0 : World) (F0 : Nat → Prop) (f_g_BlockedA : Option Addr) (f_g_BlockedC : Nat) (hv_f_g_Blocked : View w0 (old w0 F0) f_g_BlockedA f_g_BlockedC f.g.Blocked) (f_noA : Option Addr) (f_noC : Nat) (hv_f_no : View w0 (old w0 F0) f_noA f_noC f.no) (fg : Nat) (hb_f : ElemAt w0 (old w0 F0) (some ⟨fg, 0, none⟩) 0 [iv f.g.W, iv f.g.H, iv f.g.Layers, .slice f_g_BlockedA f.g.Blocked.length f_g_BlockedC, iv f.c.Step, iv f.c.Via, iv f.c.Turn, iv f.c.Against, .slice f_noA f.no.length f_noC]) (x_g : Nat) (outg : Nat) (outA : Option Addr) (outC : Nat) (qg : Nat) (qA : Option Addr) (qC : Nat) (hs0 : Sat w0 F0 [hbox x_g 158 [iv x_.key, iv x_.state], hbox outg 72 [.slice outA out.length outC], hown 3 outA outC out, hbox qg 156 [.slice qA q.length qC], hown 158 qA qC q] w0) (Q : RouteItem → (List Int) → (List RouteItem) → Prop) (h : M_steps_search f s_ back x_ out q Q) :
  Ret Tryz.prog 119 #[(pn fg 0), iv s_, .bool back, .func (.func 120) #[] #[(pn x_g 0), (pn outg 0), (pn qg 0)]] w0 fun v w' => ∃ (x_1 : RouteItem) (out1 : (List Int)) (out1A : Option Addr) (out1C : Nat) (q1 : (List RouteItem)) (q1A : Option Addr) (q1C : Nat), v = .tuple #[] ∧ Q x_1 out1 q1 ∧ Sat w0 F0 [hbox x_g 158 [iv x_1.key, iv x_1.state], hbox outg 72 [.slice out1A out1.length out1C], hown 3 out1A out1C out1, hbox qg 156 [.slice q1A q1.length q1C], hown 158 q1A q1C q1] w' := by
 refine fn_enter func119 rfl ntmps119 rfl (fs := [(0, (pn fg 0)), (1, iv s_), (2, .bool back), (3, .func (.func 120) #[] #[(pn x_g 0), (pn outg 0), (pn qg 0)])]) rfl (fun a hf => ?_)
 have hs := hs0
 unfold M_steps_search at h
 refine X.l (S.box hf hs rfl rfl rfl [(pn fg 0)] rfl rfl rfl (fun g1 a w hf hs => S.box hf hs rfl rfl rfl [.bool back] rfl rfl rfl (fun g2 a w hf hs => S.box hf hs rfl rfl rfl [.func (.func 120) #[] #[(pn x_g 0), (pn outg 0), (pn qg 0)]] rfl rfl rfl (fun g3 a w hf hs => X.n (X.l (S.q hf hs (iv s_) rfl fun a hf => S.v hf hs (iv (w64 (s_.tdiv 3))) rfl (V.quo rfl rfl rfl (by decide)) fun a hf => S.q hf hs (iv s_) rfl fun a hf => S.v hf hs (iv (s_.tmod 3)) rfl (V.rem rfl rfl rfl (by decide)) fun a hf => S.alloc hf hs rfl rfl rfl [iv 0] rfl zeroValue3 rfl (fun g4 a w hf hs => S.q hf hs (iv (w64 (s_.tdiv 3))) rfl fun a hf => S.storeBox 0 hf hs rfl rfl [iv (s_.tmod 3)] [iv (s_.tmod 3)] rfl rfl rfl rfl rfl sizeOf3 rfl rfl rfl rfl (fun a w hf hs => ?_))))))))
 refine X.n (wp_seq (H.start (S := Sat w0 F0 [hbox g4 3 [iv (s_.tmod 3)], hbox g3 107 [.func (.func 120) #[] #[(pn x_g 0), (pn outg 0), (pn qg 0)]], hbox g2 4 [.bool back], hbox g1 114 [(pn fg 0)], hbox x_g 158 [iv x_.key, iv x_.state], hbox outg 72 [.slice outA out.length outC], hown 3 outA outC out, hbox qg 156 [.slice qA q.length qC], hown 158 qA qC q]) mo ?_))
 replace hs := hs.drew
 refine H.v hf hs (iv (w64 (s_.tdiv 3))) 0 rfl rfl (by kernel_rfl) (V.pure rfl) fun a hf => H.v hf hs ((pn fg 0)) 1 rfl rfl (by kernel_rfl) (V.loadBox 3 rfl rfl rfl isAgg114 sizeOf114 rfl rfl) fun a hf => H.v hf hs ((pn fg 0)) 2 rfl rfl (by kernel_rfl) (V.pure rfl) fun a hf => H.v hf hs ((pn fg 0)) 3 rfl rfl (by kernel_rfl) (V.fieldBox rfl rfl runUnderlying120 rfl sizeOf24 rfl rfl) fun a hf => H.v hf hs ((pn fg 0)) 4 rfl rfl (by kernel_rfl) (V.fieldBox rfl rfl runUnderlying24 rfl sizeOf3 rfl rfl) fun a hf => H.v hf hs (iv f.g.W) 5 rfl rfl (by kernel_rfl) (V.loadAt0 (off := 0) (Ag.args _ _ _) hb_f rfl rfl isAgg3 sizeOf3 rfl rfl) fun a hf => ?_
 obtain ⟨hne, h⟩ := h
 refine H.v hf hs (iv (w64 ((w64 (s_.tdiv 3)).tdiv f.g.W))) 6 rfl rfl (by kernel_rfl) (V.quo rfl rfl rfl hne) fun a hf => H.v hf hs ((pn fg 0)) 7 rfl rfl (by kernel_rfl) (V.loadBox 3 rfl rfl rfl isAgg114 sizeOf114 rfl rfl) fun a hf => H.v hf hs ((pn fg 0)) 8 rfl rfl (by kernel_rfl) (V.pure rfl) fun a hf => H.v hf hs ((pn fg 0)) 9 rfl rfl (by kernel_rfl) (V.fieldBox rfl rfl runUnderlying120 rfl sizeOf24 rfl rfl) fun a hf => H.v hf hs ((pn fg 1)) 10 rfl rfl (by kernel_rfl) (V.fieldBox rfl rfl runUnderlying24 rfl sizeOf3 rfl rfl) fun a hf => H.v hf hs (iv f.g.H) 11 rfl rfl (by kernel_rfl) (V.loadAt0 (off := 1) (Ag.args _ _ _) hb_f rfl rfl isAgg3 sizeOf3 rfl rfl) fun a hf => ?_
 obtain ⟨hne, h⟩ := h
 refine H.v hf hs (iv (w64 ((w64 ((w64 (s_.tdiv 3)).tdiv f.g.W)).tdiv f.g.H))) 12 rfl rfl (by kernel_rfl) (V.quo rfl rfl rfl hne) fun a hf => H.one (i := 13) rfl (by kernel_rfl) (S.alloc hf hs rfl rfl rfl [iv 0] rfl zeroValue3 rfl (fun g5 a w hf hs => X.n (⟨(hs.mask [false, true, true, true, true, true, true, true, true, true]), (H.one (i := 14) rfl (by kernel_rfl) (S.storeBox 0 hf hs rfl rfl [iv (w64 ((w64 ((w64 (s_.tdiv 3)).tdiv f.g.W)).tdiv f.g.H))] [iv (w64 ((w64 ((w64 (s_.tdiv 3)).tdiv f.g.W)).tdiv f.g.H))] rfl rfl rfl rfl rfl sizeOf3 rfl rfl rfl rfl (fun a w hf hs => X.n (⟨(hs.mask [false, true, true, true, true, true, true, true, true, true]), (H.done (by kernel_rfl) (X.then_ (R.list (S.v hf hs ((pn fg 0)) rfl (V.loadBox 4 rfl rfl rfl isAgg114 sizeOf114 rfl rfl) fun a hf => ?_))))⟩))))⟩)))
 refine S.q hf hs (iv (w64 (s_.tdiv 3))) rfl fun a hf => S.q hf hs (.func (.func 139) #[] #[(pn g2 0), (pn g1 0), (pn g5 0), (pn g4 0), (pn g3 0)]) rfl fun a hf => ?_
 replace hs := hs.front 9 rfl
 replace hs := hs.front 9 rfl
 replace hs := hs.front 9 rfl
 replace hs := hs.front 9 rfl
 replace hs := hs.front 9 rfl
 obtain ⟨F1, hsF, hback, hold, hrest⟩ := Sat.callOwns [hbox x_g 158 [iv x_.key, iv x_.state], hbox outg 72 [.slice outA out.length outC], hown 3 outA outC out, hbox qg 156 [.slice qA q.length qC], hown 158 qA qC q] (σ := [hbox g5 3 [iv (w64 ((w64 ((w64 (s_.tdiv 3)).tdiv f.g.W)).tdiv f.g.H))], hbox g4 3 [iv (s_.tmod 3)], hbox g3 107 [.func (.func 120) #[] #[(pn x_g 0), (pn outg 0), (pn qg 0)]], hbox g2 4 [.bool back], hbox g1 114 [(pn fg 0)]]) hs
 refine S.call hf rfl rfl rfl (call_fn (vs := [(pn fg 0), iv (w64 (s_.tdiv 3)), .func (.func 139) #[] #[(pn g2 0), (pn g1 0), (pn g5 0), (pn g4 0), (pn g3 0)]]) rfl rfl rfl call138) (R_near_search f (w64 (s_.tdiv 3)) back f (w64 ((w64 ((w64 (s_.tdiv 3)).tdiv f.g.W)).tdiv f.g.H)) (s_.tmod 3) x_ out q _ _ f_g_BlockedA f_g_BlockedC (viewArgsF hs hold hv_f_g_Blocked) f_noA f_noC (viewArgsF hs hold hv_f_no) fg (elemArgsF hs hold hb_f) g2 (boxAtF hrest 3 rfl) f_g_BlockedA f_g_BlockedC (viewArgsF hs hold hv_f_g_Blocked) f_noA f_noC (viewArgsF hs hold hv_f_no) fg (elemArgsF hs hold hb_f) g1 (boxAtF hrest 4 rfl) g5 (boxAtF hrest 0 rfl) g4 (boxAtF hrest 1 rfl) x_g outg outA outC qg qA qC g3 (boxAtF hrest 2 rfl) hsF _ h) (fun v a w' hf hr => ?_)
 obtain ⟨z1, z2, z2A, z2C, z3, z3A, z3C, rfl, h2, hs2⟩ := hr
 replace h := h2; replace hs := hback _ _ hs2; clear h2 hs2 hback hold hrest hsF
 refine R.nil ?_
 replace hs := hs.front 4 rfl
 replace hs := hs.front 4 rfl
 replace hs := hs.front 4 rfl
 replace hs := hs.front 4 rfl
 replace hs := hs.front 4 rfl
 replace hs := hs.take 5
 exact L.end0 results119 hf ⟨z1, z2, z2A, z2C, z3, z3A, z3C, rfl, h, hs⟩
def M_search_L3 (f : RouteFinder) (back : Bool) (Q : (List Int) → Prop) (again3 : List Int → List RouteItem → Prop) (l9 : List Int) (l10 : List RouteItem) : Prop :=
  cnd (decide ((l10.length : Int) > 0)) (M_heap_Pop l10 fun y1 z2 => idx l9 y1.state fun x2 => cnd (decide (y1.key > x2)) (again3 l9 z2) (M_steps_search f y1.state back y1 l9 z2 fun z3 z4 z5 => again3 z4 z5)) (Q l9)
def M_search_L2  (k2 : Nat) (xk2 : Int) (l5 : List RouteItem) (l6 : List Int) (next2 : List RouteItem → List Int → Prop) : Prop :=
  idx l6 xk2 fun x3 => must (room (l5 ++ [(⟨0, xk2⟩ : RouteItem)]).length 16) (next2 (l5 ++ [(⟨0, xk2⟩ : RouteItem)]) (l6.set xk2.toNat 0))
def M_search_L1 (f : RouteFinder) (starts : (List Int)) (back : Bool) (Q : (List Int) → Prop) (again1 : List Int → Int → Prop) (l2 : List Int) (n2 : Int) : Prop :=
  cnd (decide (n2 < ((List.replicate ((w64 (3 * (f.no.length : Int))).toNat) (0 : Int)).length : Int))) (idx l2 n2 fun x1 => again1 (l2.set n2.toNat (-1)) (w64 (n2 + 1))) (forIn' (fun k x (s : List RouteItem × List Int) next => M_search_L2 k x s.1 s.2 (fun l5 l6 => next (l5, l6))) (fun (s : List RouteItem × List Int) => (fun (l5 : List RouteItem) (l6 : List Int) => M_heap_Init l5 fun z1 => lp (fun again (s : List Int × List RouteItem) => M_search_L3 f back Q (fun l9 l10 => again (l9, l10)) s.1 s.2) (l6, z1)) s.1 s.2) starts 0 (([] : List RouteItem), l2))
def M_search (f : RouteFinder) (starts : (List Int)) (back : Bool) (Q : (List Int) → Prop) : Prop :=
  must (0 ≤ w64 (3 * (f.no.length : Int)) ∧ w64 (3 * (f.no.length : Int)) * 8 ≤ 281474976710656) (lp (fun again (s : List Int × Int) => M_search_L1 f starts back Q (fun l2 n2 => again (l2, n2)) s.1 s.2) ((List.replicate ((w64 (3 * (f.no.length : Int))).toNat) (0 : Int)), 0))
theorem R_search (f : RouteFinder) (starts : (List Int)) (back : Bool) (w0 : World) (f_g_BlockedA : Option Addr) (f_g_BlockedC : Nat) (hv_f_g_Blocked : View w0 (old w0 none_) f_g_BlockedA f_g_BlockedC f.g.Blocked) (f_noA : Option Addr) (f_noC : Nat) (hv_f_no : View w0 (old w0 none_) f_noA f_noC f.no) (fg : Nat) (hb_f : ElemAt w0 (old w0 none_) (some ⟨fg, 0, none⟩) 0 [iv f.g.W, iv f.g.H, iv f.g.Layers, .slice f_g_BlockedA f.g.Blocked.length f_g_BlockedC, iv f.c.Step, iv f.c.Via, iv f.c.Turn, iv f.c.Against, .slice f_noA f.no.length f_noC]) (startsA : Option Addr) (startsC : Nat) (hv_starts : View w0 (old w0 none_) startsA startsC starts) (Q : (List Int) → Prop) (h : M_search f starts back Q) :
  Ret Tryz.prog 100 #[(pn fg 0), .slice startsA starts.length startsC, .bool back] w0 fun v w' => ∃ (r0 : (List Int)) (r0A : Option Addr) (r0C : Nat), v = .slice r0A r0.length r0C ∧ Q r0 ∧ Sat w0 none_ [hown 3 r0A r0C r0] w' := by
 refine fn_enter func100 rfl ntmps100 rfl (fs := [(0, (pn fg 0)), (1, .slice startsA starts.length startsC), (2, .bool back)]) rfl (fun a hf => ?_)
 have hs := Sat.start w0 none_
 unfold M_search at h
 refine X.l (S.q hf hs (.slice none 0 0) rfl fun a hf => X.n (X.l (S.q hf hs ((pn fg 0)) rfl fun a hf => S.q hf hs ((pn fg 0)) rfl fun a hf => S.v hf hs ((pn fg 8)) rfl (V.fieldBox rfl rfl runUnderlying120 rfl sizeOf49 rfl rfl) fun a hf => S.v hf hs (.slice f_noA f.no.length f_noC) rfl (V.loadAt0 (off := 8) (Ag.args _ _ _) hb_f rfl rfl isAgg49 sizeOf49 rfl rfl) fun a hf => S.v hf hs (iv (f.no.length : Int)) rfl (V.len rfl rfl runUnderlying49) fun a hf => S.q hf hs (iv (w64 (3 * (f.no.length : Int)))) rfl fun a hf => ?_)))
 obtain ⟨hmk, h⟩ := h
 refine S.make hf hs rfl rfl rfl (α := Int) (0 : Int) (z := (w64 (3 * (f.no.length : Int)))) (N := (w64 (3 * (f.no.length : Int))).toNat) rfl rfl rfl underlying72 info3 hmk rfl (by have := hmk.2; omega) (fun A1 a w hf hs => S.alloc hf hs rfl rfl rfl [.slice none 0 0] rfl zeroValue72 rfl (fun g1 a w hf hs => S.storeBox 0 hf hs rfl rfl [.slice A1 (List.replicate ((w64 (3 * (f.no.length : Int))).toNat) (0 : Int)).length ((w64 (3 * (f.no.length : Int))).toNat)] [.slice A1 (List.replicate ((w64 (3 * (f.no.length : Int))).toNat) (0 : Int)).length ((w64 (3 * (f.no.length : Int))).toNat)] rfl rfl rfl rfl rfl sizeOf72 rfl rfl rfl rfl (fun a w hf hs => X.n (wp_seq (X.l (S.v hf hs (.slice A1 (List.replicate ((w64 (3 * (f.no.length : Int))).toNat) (0 : Int)).length ((w64 (3 * (f.no.length : Int))).toNat)) rfl (V.loadBox 0 rfl rfl rfl isAgg72 sizeOf72 rfl rfl) fun a hf => S.v hf hs (iv ((List.replicate ((w64 (3 * (f.no.length : Int))).toNat) (0 : Int)).length : Int)) rfl (V.len rfl rfl runUnderlying72) fun a hf => S.q hf hs (iv 0) rfl fun a hf => X.n (wp_block ?_)))))))
 obtain ⟨kk, h⟩ := h
 refine C.loop (fun kk a w => ∃ (l2 : List Int) (l2A : Option Addr) (l2C : Nat) (n2 : Int), iterF (fun again (s : List Int × Int) => M_search_L1 f starts back Q (fun l2 n2 => again (l2, n2)) s.1 s.2) kk (l2, n2) ∧ FrOk 67 [(0, (pn fg 0)), (1, .slice startsA starts.length startsC), (2, .bool back), (7, (pn g1 0)), (21, iv ((List.replicate ((w64 (3 * (f.no.length : Int))).toNat) (0 : Int)).length : Int)), (22, iv n2)] a ∧ Sat w0 none_ [hbox g1 72 [.slice l2A l2.length l2C], hown 3 l2A l2C l2] w) kk ⟨(List.replicate ((w64 (3 * (f.no.length : Int))).toNat) (0 : Int)), A1, ((w64 (3 * (f.no.length : Int))).toNat), 0, h, ((((((hf.nil.cons (hf.get 22 _ rfl)).cons (hf.get 21 _ rfl)).cons (hf.get 7 _ rfl)).cons (hf.get 2 _ rfl)).cons (hf.get 1 _ rfl)).cons (hf.get 0 _ rfl)), hs⟩ (fun a w ⟨_, _, _, _, h, _, _⟩ => h) ?_
 clear h hf hs
 rintro kk a w ⟨l2, l2A, l2C, n2, h, hf, hs⟩
 obtain ⟨again1, hagain1⟩ : ∃ X : List Int → Int → Prop, X = (fun l2 n2 => iterF (fun again (s : List Int × Int) => M_search_L1 f starts back Q (fun l2 n2 => again (l2, n2)) s.1 s.2) kk (l2, n2)) := ⟨_, rfl⟩
 replace h : M_search_L1 f starts back Q again1 l2 n2 := by rw [hagain1]; exact h
 unfold M_search_L1 at h
 refine X.l (S.q hf hs (.bool (decide (n2 < ((List.replicate ((w64 (3 * (f.no.length : Int))).toNat) (0 : Int)).length : Int)))) rfl fun a hf => X.n (wp_seq ?_))
 refine C.cond hf (b := decide (n2 < ((List.replicate ((w64 (3 * (f.no.length : Int))).toNat) (0 : Int)).length : Int))) rfl (fun hc => ?_) (fun hc => ?_)
 ·replace h := h.1 hc
  refine wp_skip (X.then_ (wp_seq (wp_block (X.l (S.q hf hs (iv n2) rfl fun a hf => S.q hf hs (iv n2) rfl fun a hf => X.n (R.list (S.v hf hs (.slice l2A l2.length l2C) rfl (V.loadBox 0 rfl rfl rfl isAgg72 sizeOf72 rfl rfl) fun a hf => S.q hf hs (iv n2) rfl fun a hf => ?_)))))))
  obtain ⟨h0x1, x1, hx1, h⟩ := h
  refine S.v hf hs (elemPtr l2A (n2.toNat * 1)) rfl (V.index rfl rfl rfl runUnderlying72 sizeOf3 (hs.ownSome 1 rfl (lt_of_get hx1)) h0x1 (lt_of_get hx1) rfl) fun a hf => S.storeOwn (off := 0) 1 hf hs rfl rfl (-1) [iv (-1)] rfl hx1 rfl rfl rfl rfl rfl sizeOf3 rfl (by decide) rfl rfl (fun a w hf hs => ?_)
  replace hs := hs.rebox 0 (vs' := [.slice l2A (l2.set n2.toNat (-1)).length l2C]) rfl (congrArg (fun n => [Value.slice l2A n l2C]) List.length_set.symm)
  replace hf := hf.tell 25 (v := .slice l2A (l2.set n2.toNat (-1)).length l2C) ((hf.get 25 (.slice l2A l2.length l2C) rfl).trans (congrArg (fun n => Value.slice l2A n l2C) List.length_set.symm))
  refine R.nil (X.blk (X.then_ (R.list (S.q hf hs (iv (w64 (n2 + 1))) rfl fun a hf => S.q hf hs (iv (w64 (n2 + 1))) rfl fun a hf => X.n ?_))))
  exact ⟨(l2.set n2.toNat (-1)), l2A, l2C, (w64 (n2 + 1)), (by rw [hagain1] at h; exact h), ((((((hf.nil.cons (hf.get 22 _ rfl)).cons (hf.get 21 _ rfl)).cons (hf.get 7 _ rfl)).cons (hf.get 2 _ rfl)).cons (hf.get 1 _ rfl)).cons (hf.get 0 _ rfl)), hs⟩
 ·replace h := h.2 hc
  refine wp_exit (X.then_exit (X.then_exit (X.blk_exit (X.then_ (X.l (S.alloc hf hs rfl rfl rfl [.slice none 0 0] rfl zeroValue156 rfl (fun g2 a w hf hs => X.n (wp_seq (X.l (S.q hf hs (.slice startsA starts.length startsC) rfl fun a hf => S.v hf hs (iv (starts.length : Int)) rfl (V.len rfl rfl runUnderlying72) fun a hf => S.q hf hs (iv 0) rfl fun a hf => X.n (wp_block ?_)))))))))))
  replace hs := hs.nilOwn (α := RouteItem) 158
  replace hs := hs.rebox 1 (vs' := [.slice none ([] : List RouteItem).length 0]) rfl rfl
  have hlenk2 := hv_starts.len64
  refine C.range (fun (ll : List Int) a w => ∃ (k2 : Nat) (l5 : List RouteItem) (l5A : Option Addr) (l5C : Nat) (l6 : List Int) (l6A : Option Addr) (l6C : Nat), starts.drop k2 = ll ∧ k2 + ll.length = starts.length ∧ forIn' (fun k x (s : List RouteItem × List Int) next => M_search_L2 k x s.1 s.2 (fun l5 l6 => next (l5, l6))) (fun (s : List RouteItem × List Int) => (fun (l5 : List RouteItem) (l6 : List Int) => M_heap_Init l5 fun z1 => lp (fun again (s : List Int × List RouteItem) => M_search_L3 f back Q (fun l9 l10 => again (l9, l10)) s.1 s.2) (l6, z1)) s.1 s.2) ll k2 (l5, l6) ∧ FrOk 67 [(31, iv (k2 : Int)), (0, (pn fg 0)), (2, .bool back), (7, (pn g1 0)), (9, (pn g2 0)), (29, .slice startsA starts.length startsC), (30, iv (starts.length : Int))] a ∧ Sat w0 none_ [hown 158 l5A l5C l5, hbox g2 156 [.slice l5A l5.length l5C], hbox g1 72 [.slice l6A l6.length l6C], hown 3 l6A l6C l6] w) starts ⟨0, ([] : List RouteItem), none, 0, l2, l2A, l2C, rfl, Nat.zero_add _, h, (((((((hf.nil.cons (hf.get 30 _ rfl)).cons (hf.get 29 _ rfl)).cons (hf.get 9 _ rfl)).cons (hf.get 7 _ rfl)).cons (hf.get 2 _ rfl)).cons (hf.get 0 _ rfl)).cons (hf.get 31 _ rfl)), hs⟩ ?_
  clear h hf hs
  rintro llk2 a w ⟨k2, l5, l5A, l5C, l6, l6A, l6C, hlk2, hkk2, h, hf, hs⟩
  cases llk2 with
  | nil =>
   have hc := range_done hkk2
   replace h : (fun (l5 : List RouteItem) (l6 : List Int) => M_heap_Init l5 fun z1 => lp (fun again (s : List Int × List RouteItem) => M_search_L3 f back Q (fun l9 l10 => again (l9, l10)) s.1 s.2) (l6, z1)) l5 l6 := h
   refine X.l (S.v hf hs (.bool false) rfl (V.cmp false rfl rfl rfl rfl hc) fun a hf => X.n (wp_seq (C.no hf rfl (wp_exit (X.then_exit (X.then_exit (X.blk_exit (X.then_ (X.l (S.v hf hs (.iface 160 ((pn g2 0))) rfl (V.makeIface rfl rfl (fun w => ⟨_, runUnderlying160 w, rfl⟩)) fun a hf => ?_))))))))))
   replace hs := hs.front 1 rfl
   obtain ⟨F1, hsF, hback, hold, hrest⟩ := Sat.callOwns [hbox g2 156 [.slice l5A l5.length l5C], hown 158 l5A l5C l5] (σ := [hbox g1 72 [.slice l6A l6.length l6C], hown 3 l6A l6C l6]) hs
   refine S.call hf rfl rfl rfl (call_fn (vs := [.iface 160 ((pn g2 0))]) rfl rfl rfl call117) (R_heap_Init l5 _ _ g2 l5A l5C hsF _ h) (fun v a w' hf hr => ?_)
   obtain ⟨z1, z1A, z1C, rfl, h2, hs2⟩ := hr
   replace h := h2; replace hs := hback _ _ hs2; clear h2 hs2 hback hold hrest hsF
   refine X.n (wp_seq (wp_block ?_))
   replace hs := hs.front 1 rfl
   replace hs := hs.front 1 rfl
   replace hs := hs.front 3 rfl
   replace hs := hs.front 3 rfl
   obtain ⟨kk, h⟩ := h
   refine C.loop (fun kk a w => ∃ (l9 : List Int) (l9A : Option Addr) (l9C : Nat) (l10 : List RouteItem) (l10A : Option Addr) (l10C : Nat), iterF (fun again (s : List Int × List RouteItem) => M_search_L3 f back Q (fun l9 l10 => again (l9, l10)) s.1 s.2) kk (l9, l10) ∧ FrOk 67 [(0, (pn fg 0)), (2, .bool back), (7, (pn g1 0)), (9, (pn g2 0))] a ∧ Sat w0 none_ [hbox g1 72 [.slice l9A l9.length l9C], hown 3 l9A l9C l9, hbox g2 156 [.slice l10A l10.length l10C], hown 158 l10A l10C l10] w) kk ⟨l6, l6A, l6C, z1, z1A, z1C, h, ((((hf.nil.cons (hf.get 9 _ rfl)).cons (hf.get 7 _ rfl)).cons (hf.get 2 _ rfl)).cons (hf.get 0 _ rfl)), hs⟩ (fun a w ⟨_, _, _, _, _, _, h, _, _⟩ => h) ?_
   clear h hf hs
   rintro kk a w ⟨l9, l9A, l9C, l10, l10A, l10C, h, hf, hs⟩
   obtain ⟨again3, hagain3⟩ : ∃ X : List Int → List RouteItem → Prop, X = (fun l9 l10 => iterF (fun again (s : List Int × List RouteItem) => M_search_L3 f back Q (fun l9 l10 => again (l9, l10)) s.1 s.2) kk (l9, l10)) := ⟨_, rfl⟩
   replace h : M_search_L3 f back Q again3 l9 l10 := by rw [hagain3]; exact h
   unfold M_search_L3 at h
   refine wp_seq (X.l (S.v hf hs (.slice l10A l10.length l10C) rfl (V.loadBox 2 rfl rfl rfl isAgg156 sizeOf156 rfl rfl) fun a hf => S.v hf hs (iv (l10.length : Int)) rfl (V.len rfl rfl runUnderlying156) fun a hf => S.q hf hs (.bool (decide ((l10.length : Int) > 0))) rfl fun a hf => X.n ?_))
   refine C.cond hf (b := decide ((l10.length : Int) > 0)) rfl (fun hc => ?_) (fun hc => ?_)
   ·replace h := h.1 hc
    refine wp_skip (X.then_ (wp_block (X.l (S.v hf hs (.iface 160 ((pn g2 0))) rfl (V.makeIface rfl rfl (fun w => ⟨_, runUnderlying160 w, rfl⟩)) fun a hf => ?_))))
    replace hs := hs.front 3 rfl
    replace hs := hs.front 3 rfl
    obtain ⟨F1, hsF, hback, hold, hrest⟩ := Sat.callOwns [hbox g2 156 [.slice l10A l10.length l10C], hown 158 l10A l10C l10] (σ := [hbox g1 72 [.slice l9A l9.length l9C], hown 3 l9A l9C l9]) hs
    refine S.call hf rfl rfl rfl (call_fn (vs := [.iface 160 ((pn g2 0))]) rfl rfl rfl call118) (R_heap_Pop l10 _ _ g2 l10A l10C hsF _ h) (fun v a w' hf hr => ?_)
    obtain ⟨y1, z2, z2A, z2C, rfl, h2, hs2⟩ := hr
    replace h := h2; replace hs := hback _ _ hs2; clear h2 hs2 hback hold hrest hsF
    refine S.v hf hs (.agg #[iv y1.key, iv y1.state]) rfl (V.assert rfl rfl (fun w => ⟨_, runUnderlying158 w, rfl⟩)) fun a hf => S.alloc hf hs rfl rfl rfl [iv 0, iv 0] rfl zeroValue158 rfl (fun g3 a w hf hs => S.storeBox 0 hf hs rfl rfl [iv y1.key, iv y1.state] [iv y1.key, iv y1.state] rfl rfl rfl rfl rfl sizeOf158 rfl rfl rfl rfl (fun a w hf hs => X.n (wp_seq (wp_seq (R.draw mo (by kernel_rfl) hs (D.v hf ((pn g3 0)) rfl (V.fieldBox rfl rfl runUnderlying158 rfl sizeOf3 rfl rfl) fun a hf => D.v hf (iv y1.key) rfl (V.loadBox 0 rfl rfl rfl isAgg3 sizeOf3 rfl rfl) fun a hf => D.v hf (.slice l9A l9.length l9C) rfl (V.loadBox 3 rfl rfl rfl isAgg72 sizeOf72 rfl rfl) fun a hf => D.v hf ((pn g3 1)) rfl (V.fieldBox rfl rfl runUnderlying158 rfl sizeOf3 rfl rfl) fun a hf => D.v hf (iv y1.state) rfl (V.loadBox 0 rfl rfl rfl isAgg3 sizeOf3 rfl rfl) fun a hf => ?_))))))
    obtain ⟨h0x2, x2, hx2, h⟩ := h
    refine D.v hf (elemPtr l9A (y1.state.toNat * 1)) rfl (V.index rfl rfl rfl runUnderlying72 sizeOf3 (hs.ownSome 4 rfl (lt_of_get hx2)) h0x2 (lt_of_get hx2) rfl) fun a hf => D.v hf (iv x2) rfl (V.loadOwn (off := 0) 4 rfl hx2 rfl rfl rfl isAgg3 sizeOf3 rfl rfl) fun a hf => D.p hf (.bool (decide (y1.key > x2))) rfl rfl fun a hf => D.done (fun w hs => X.then_ ?_)
    refine C.cond hf (b := decide (y1.key > x2)) rfl (fun hc => ?_) (fun hc => ?_)
    ·replace h := h.1 hc
     refine wp_exit (X.then_exit (X.blk_exit (X.then_ ?_)))
     replace hs := hs.front 2 rfl
     replace hs := hs.front 2 rfl
     replace hs := hs.front 4 rfl
     replace hs := hs.front 4 rfl
     replace hs := hs.take 4
     exact ⟨l9, l9A, l9C, z2, z2A, z2C, (by rw [hagain3] at h; exact h), ((((hf.nil.cons (hf.get 9 _ rfl)).cons (hf.get 7 _ rfl)).cons (hf.get 2 _ rfl)).cons (hf.get 0 _ rfl)), hs⟩
    ·replace h := h.2 hc
     refine wp_skip (X.then_ (R.list (S.q hf hs ((pn fg 0)) rfl fun a hf => S.v hf hs ((pn g3 1)) rfl (V.fieldBox rfl rfl runUnderlying158 rfl sizeOf3 rfl rfl) fun a hf => S.v hf hs (iv y1.state) rfl (V.loadBox 0 rfl rfl rfl isAgg3 sizeOf3 rfl rfl) fun a hf => S.q hf hs (.bool back) rfl fun a hf => S.q hf hs (.func (.func 120) #[] #[(pn g3 0), (pn g1 0), (pn g2 0)]) rfl fun a hf => ?_)))
     replace hs := hs.front 2 rfl
     replace hs := hs.front 2 rfl
     replace hs := hs.front 4 rfl
     replace hs := hs.front 4 rfl
     replace hs := hs.front 4 rfl
     obtain ⟨F1, hsF, hback, hold, hrest⟩ := Sat.callOwns [hbox g3 158 [iv y1.key, iv y1.state], hbox g1 72 [.slice l9A l9.length l9C], hown 3 l9A l9C l9, hbox g2 156 [.slice z2A z2.length z2C], hown 158 z2A z2C z2] (σ := []) hs
     refine S.call hf rfl rfl rfl (call_fn (vs := [(pn fg 0), iv y1.state, .bool back, .func (.func 120) #[] #[(pn g3 0), (pn g1 0), (pn g2 0)]]) rfl rfl rfl call119) (R_steps_search f y1.state back y1 l9 z2 _ _ f_g_BlockedA f_g_BlockedC (viewArgsF hs hold hv_f_g_Blocked) f_noA f_noC (viewArgsF hs hold hv_f_no) fg (elemArgsF hs hold hb_f) g3 g1 l9A l9C g2 z2A z2C hsF _ h) (fun v a w' hf hr => ?_)
     obtain ⟨z3, z4, z4A, z4C, z5, z5A, z5C, rfl, h2, hs2⟩ := hr
     replace h := h2; replace hs := hback _ _ hs2; clear h2 hs2 hback hold hrest hsF
     refine R.nil (X.blk (X.then_ ?_))
     replace hs := hs.front 4 rfl
     replace hs := hs.front 4 rfl
     replace hs := hs.front 4 rfl
     replace hs := hs.front 4 rfl
     replace hs := hs.take 4
     exact ⟨z4, z4A, z4C, z5, z5A, z5C, (by rw [hagain3] at h; exact h), ((((hf.nil.cons (hf.get 9 _ rfl)).cons (hf.get 7 _ rfl)).cons (hf.get 2 _ rfl)).cons (hf.get 0 _ rfl)), hs⟩
   ·replace h := h.2 hc
    refine wp_exit (X.then_exit (X.then_exit (X.blk_exit (X.then_ (X.l (S.v hf hs (.slice l9A l9.length l9C) rfl (V.loadBox 0 rfl rfl rfl isAgg72 sizeOf72 rfl rfl) fun a hf => S.q hf hs (.slice l9A l9.length l9C) rfl fun a hf => X.n (wp_ret ?_)))))))
    replace hs := hs.front 1 rfl
    replace hs := hs.take 1
    exact L.ret hf (run_results1 results100 (ResIs.tmp hf rfl)) ⟨l9, l9A, l9C, rfl, h, hs⟩
  | cons xk2 llk2 =>
   have hltk2 := range_lt hkk2; have hc := range_go hkk2; have hxk2 := range_get hlk2
   obtain ⟨next2, hnext2⟩ : ∃ X : List RouteItem → List Int → Prop, X = (fun l5 l6 => forIn' (fun k x (s : List RouteItem × List Int) next => M_search_L2 k x s.1 s.2 (fun l5 l6 => next (l5, l6))) (fun (s : List RouteItem × List Int) => (fun (l5 : List RouteItem) (l6 : List Int) => M_heap_Init l5 fun z1 => lp (fun again (s : List Int × List RouteItem) => M_search_L3 f back Q (fun l9 l10 => again (l9, l10)) s.1 s.2) (l6, z1)) s.1 s.2) llk2 (k2 + 1) (l5, l6)) := ⟨_, rfl⟩
   replace h : M_search_L2 k2 xk2 l5 l6 next2 := by rw [hnext2]; exact h
   unfold M_search_L2 at h
   refine X.l (S.v hf hs (.bool true) rfl (V.cmp true rfl rfl rfl rfl hc) fun a hf => X.n (wp_seq (C.yes hf rfl (wp_skip (X.then_ (wp_seq (wp_block (X.l (S.v hf hs (elemPtr startsA (k2 * 1)) rfl (V.index rfl rfl rfl runUnderlying72 sizeOf3 (hv_starts.some_ (lt_of_get hxk2)) (Int.natCast_nonneg _) (lt_of_get hxk2) rfl) fun a hf => S.v hf hs (iv xk2) rfl (V.loadEl (off := 0) (Ag.args _ _ _) (hv_starts.flat hxk2) rfl rfl rfl isAgg3 sizeOf3 rfl rfl) fun a hf => S.q hf hs (iv xk2) rfl fun a hf => X.n (X.l (S.v hf hs (.slice l6A l6.length l6C) rfl (V.loadBox 2 rfl rfl rfl isAgg72 sizeOf72 rfl rfl) fun a hf => S.q hf hs (iv xk2) rfl fun a hf => ?_)))))))))))
   obtain ⟨h0x3, x3, hx3, h⟩ := h
   refine S.v hf hs (elemPtr l6A (xk2.toNat * 1)) rfl (V.index rfl rfl rfl runUnderlying72 sizeOf3 (hs.ownSome 3 rfl (lt_of_get hx3)) h0x3 (lt_of_get hx3) rfl) fun a hf => S.storeOwn (off := 0) 3 hf hs rfl rfl 0 [iv 0] rfl hx3 rfl rfl rfl rfl rfl sizeOf3 rfl (by decide) rfl rfl (fun a w hf hs => ?_)
   replace hs := hs.rebox 2 (vs' := [.slice l6A (l6.set xk2.toNat 0).length l6C]) rfl (congrArg (fun n => [Value.slice l6A n l6C]) List.length_set.symm)
   replace hf := hf.tell 35 (v := .slice l6A (l6.set xk2.toNat 0).length l6C) ((hf.get 35 (.slice l6A l6.length l6C) rfl).trans (congrArg (fun n => Value.slice l6A n l6C) List.length_set.symm))
   refine X.n (R.list (S.v hf hs (.slice l5A l5.length l5C) rfl (V.loadBox 1 rfl rfl rfl isAgg156 sizeOf156 rfl rfl) fun a hf => S.q hf hs (iv xk2) rfl fun a hf => S.v hf hs (.agg #[iv 0, iv xk2]) rfl (V.build (places := #[(0, 1), (1, 1)]) rfl zeroValue158 runUnderlying158 (by intro w; simp [sizeOf3]) rfl rfl) fun a hf => S.build1 hf hs rfl rfl rfl (α := RouteItem) (⟨0, xk2⟩ : RouteItem) rfl rfl rfl runUnderlying156 sizeOf158 zeroValue158 rfl (by decide) (fun A2 a w hf hs => ?_)))
   obtain ⟨hroom, h⟩ := h
   refine S.appendCells 1 hf hs rfl rfl rfl rfl rfl rfl rfl underlying156 info158 rfl hroom ((hs.ownView 0 rfl).some_ (i := 0) (by simp)) (hs.ownView 0 rfl) (fun A3 C1 a w hf hs => ?_)
   replace hs := hs.drop
   refine S.storeBox 1 hf hs rfl rfl [.slice A3 (l5 ++ [(⟨0, xk2⟩ : RouteItem)]).length C1] [.slice A3 (l5 ++ [(⟨0, xk2⟩ : RouteItem)]).length C1] rfl rfl rfl rfl rfl sizeOf156 rfl rfl rfl rfl (fun a w hf hs => R.nil (X.blk (X.then_ (R.list (S.v hf hs (iv ((k2 + 1 : Nat) : Int)) rfl (V.incr rfl rfl rfl hltk2 hlenk2) fun a hf => S.q hf hs (iv ((k2 + 1 : Nat) : Int)) rfl fun a hf => X.n ?_)))))
   exact ⟨xk2, llk2, rfl, k2 + 1, (l5 ++ [(⟨0, xk2⟩ : RouteItem)]), A3, C1, (l6.set xk2.toNat 0), l6A, l6C, range_drop hlk2, range_len hkk2, (by rw [hnext2] at h; exact h), (((((((hf.nil.cons (hf.get 30 _ rfl)).cons (hf.get 29 _ rfl)).cons (hf.get 9 _ rfl)).cons (hf.get 7 _ rfl)).cons (hf.get 2 _ rfl)).cons (hf.get 0 _ rfl)).cons (hf.get 31 _ rfl)), hs⟩
def M_finder_to (f : RouteFinder) (n : Int) (Q : (List Int) → Prop) : Prop :=
  M_search f ([w64 (3 * n), w64 ((w64 (3 * n)) + 1), w64 ((w64 (3 * n)) + 2)] : List Int) true fun y1 => Q y1
theorem R_finder_to (f : RouteFinder) (n : Int) (w0 : World) (f_g_BlockedA : Option Addr) (f_g_BlockedC : Nat) (hv_f_g_Blocked : View w0 (old w0 none_) f_g_BlockedA f_g_BlockedC f.g.Blocked) (f_noA : Option Addr) (f_noC : Nat) (hv_f_no : View w0 (old w0 none_) f_noA f_noC f.no) (fg : Nat) (hb_f : ElemAt w0 (old w0 none_) (some ⟨fg, 0, none⟩) 0 [iv f.g.W, iv f.g.H, iv f.g.Layers, .slice f_g_BlockedA f.g.Blocked.length f_g_BlockedC, iv f.c.Step, iv f.c.Via, iv f.c.Turn, iv f.c.Against, .slice f_noA f.no.length f_noC]) (Q : (List Int) → Prop) (h : M_finder_to f n Q) :
  Ret Tryz.prog 79 #[(pn fg 0), iv n] w0 fun v w' => ∃ (r0 : (List Int)) (r0A : Option Addr) (r0C : Nat), v = .slice r0A r0.length r0C ∧ Q r0 ∧ Sat w0 none_ [hown 3 r0A r0C r0] w' := by
 refine fn_enter func79 rfl ntmps79 rfl (fs := [(0, (pn fg 0)), (1, iv n)]) rfl (fun a hf => ?_)
 have hs := Sat.start w0 none_
 unfold M_finder_to at h
 refine X.l (S.q hf hs (.slice none 0 0) rfl fun a hf => X.n (X.l (S.q hf hs ((pn fg 0)) rfl fun a hf => S.q hf hs (iv n) rfl fun a hf => S.q hf hs (iv (w64 (3 * n))) rfl fun a hf => S.q hf hs (iv n) rfl fun a hf => S.q hf hs (iv (w64 (3 * n))) rfl fun a hf => S.q hf hs (iv (w64 ((w64 (3 * n)) + 1))) rfl fun a hf => S.q hf hs (iv n) rfl fun a hf => S.q hf hs (iv (w64 (3 * n))) rfl fun a hf => S.q hf hs (iv (w64 ((w64 (3 * n)) + 2))) rfl fun a hf => ?_)))
 refine S.buildSlice hf hs rfl rfl rfl (α := Int) [w64 (3 * n), w64 ((w64 (3 * n)) + 1), w64 ((w64 (3 * n)) + 2)] rfl rfl runUnderlying72 sizeOf3 zeroValue3 (by kernel_rfl) rfl (by decide) (by decide) (fun A1 a w hf hs => S.call hf rfl rfl rfl (call_fn (vs := [(pn fg 0), .slice A1 ([w64 (3 * n), w64 ((w64 (3 * n)) + 1), w64 ((w64 (3 * n)) + 2)] : List Int).length 3, .bool true]) rfl rfl rfl call100) (R_search f ([w64 (3 * n), w64 ((w64 (3 * n)) + 1), w64 ((w64 (3 * n)) + 2)] : List Int) true _ f_g_BlockedA f_g_BlockedC ((Ag.args _ _ _).view hv_f_g_Blocked hs) f_noA f_noC ((Ag.args _ _ _).view hv_f_no hs) fg ((Ag.args _ _ _).elem hb_f hs) A1 3 (hs.ownView 0 rfl) _ h) (fun v a w' hf hr => ?_))
 obtain ⟨y1, y1A, y1C, rfl, h2, hs2⟩ := hr
 replace h := h2; replace hs := hs.call hs2; clear h2 hs2
 refine S.q hf hs (.slice y1A y1.length y1C) rfl fun a hf => X.n (wp_ret ?_)
 replace hs := hs.take 1
 exact L.ret hf (run_results1 results79 (ResIs.tmp hf rfl)) ⟨y1, y1A, y1C, rfl, h, hs⟩
def M_finder_from_L1  (k1 : Nat) (xk1 : Int) (l2 : List Int) (next1 : List Int → Prop) : Prop :=
  must (room (l2 ++ [w64 (3 * xk1)]).length 8) (next1 (l2 ++ [w64 (3 * xk1)]))
def M_finder_from (f : RouteFinder) (cells : (List Int)) (Q : (List Int) → Prop) : Prop :=
  forIn' (fun k x (s : List Int) next => M_finder_from_L1 k x s (fun l2 => next l2)) (fun (s : List Int) => (fun (l2 : List Int) => M_search f l2 false fun y1 => Q y1) s) cells 0 ([] : List Int)
theorem R_finder_from (f : RouteFinder) (cells : (List Int)) (w0 : World) (f_g_BlockedA : Option Addr) (f_g_BlockedC : Nat) (hv_f_g_Blocked : View w0 (old w0 none_) f_g_BlockedA f_g_BlockedC f.g.Blocked) (f_noA : Option Addr) (f_noC : Nat) (hv_f_no : View w0 (old w0 none_) f_noA f_noC f.no) (fg : Nat) (hb_f : ElemAt w0 (old w0 none_) (some ⟨fg, 0, none⟩) 0 [iv f.g.W, iv f.g.H, iv f.g.Layers, .slice f_g_BlockedA f.g.Blocked.length f_g_BlockedC, iv f.c.Step, iv f.c.Via, iv f.c.Turn, iv f.c.Against, .slice f_noA f.no.length f_noC]) (cellsA : Option Addr) (cellsC : Nat) (hv_cells : View w0 (old w0 none_) cellsA cellsC cells) (Q : (List Int) → Prop) (h : M_finder_from f cells Q) :
  Ret Tryz.prog 101 #[(pn fg 0), .slice cellsA cells.length cellsC] w0 fun v w' => ∃ (r0 : (List Int)) (r0A : Option Addr) (r0C : Nat), v = .slice r0A r0.length r0C ∧ Q r0 ∧ Sat w0 none_ [hown 3 r0A r0C r0] w' := by
 refine fn_enter func101 rfl ntmps101 rfl (fs := [(0, (pn fg 0)), (1, .slice cellsA cells.length cellsC)]) rfl (fun a hf => ?_)
 have hs := Sat.start w0 none_
 unfold M_finder_from at h
 refine X.l (S.q hf hs (.slice none 0 0) rfl fun a hf => X.n (X.l (S.q hf hs (.slice none 0 0) rfl fun a hf => X.n (wp_seq (X.l (S.q hf hs (.slice cellsA cells.length cellsC) rfl fun a hf => S.v hf hs (iv (cells.length : Int)) rfl (V.len rfl rfl runUnderlying72) fun a hf => S.q hf hs (iv 0) rfl fun a hf => X.n (wp_block ?_)))))))
 replace hs := hs.nilOwn (α := Int) 3
 have hlenk1 := hv_cells.len64
 refine C.range (fun (ll : List Int) a w => ∃ (k1 : Nat) (l2 : List Int) (l2A : Option Addr) (l2C : Nat), cells.drop k1 = ll ∧ k1 + ll.length = cells.length ∧ forIn' (fun k x (s : List Int) next => M_finder_from_L1 k x s (fun l2 => next l2)) (fun (s : List Int) => (fun (l2 : List Int) => M_search f l2 false fun y1 => Q y1) s) ll k1 l2 ∧ FrOk 23 [(10, iv (k1 : Int)), (0, (pn fg 0)), (5, .slice l2A l2.length l2C), (8, .slice cellsA cells.length cellsC), (9, iv (cells.length : Int))] a ∧ Sat w0 none_ [hown 3 l2A l2C l2] w) cells ⟨0, ([] : List Int), none, 0, rfl, Nat.zero_add _, h, (((((hf.nil.cons (hf.get 9 _ rfl)).cons (hf.get 8 _ rfl)).cons (hf.get 5 _ rfl)).cons (hf.get 0 _ rfl)).cons (hf.get 10 _ rfl)), hs⟩ ?_
 clear h hf hs
 rintro llk1 a w ⟨k1, l2, l2A, l2C, hlk1, hkk1, h, hf, hs⟩
 cases llk1 with
 | nil =>
  have hc := range_done hkk1
  replace h : (fun (l2 : List Int) => M_search f l2 false fun y1 => Q y1) l2 := h
  refine X.l (S.v hf hs (.bool false) rfl (V.cmp false rfl rfl rfl rfl hc) fun a hf => X.n (wp_seq (C.no hf rfl (wp_exit (X.then_exit (X.then_exit (X.blk_exit (X.then_ (X.l (S.q hf hs ((pn fg 0)) rfl fun a hf => S.q hf hs (.slice l2A l2.length l2C) rfl fun a hf => S.call hf rfl rfl rfl (call_fn (vs := [(pn fg 0), .slice l2A l2.length l2C, .bool false]) rfl rfl rfl call100) (R_search f l2 false _ f_g_BlockedA f_g_BlockedC ((Ag.args _ _ _).view hv_f_g_Blocked hs) f_noA f_noC ((Ag.args _ _ _).view hv_f_no hs) fg ((Ag.args _ _ _).elem hb_f hs) l2A l2C (hs.ownView 0 rfl) _ h) (fun v a w' hf hr => ?_)))))))))))
  obtain ⟨y1, y1A, y1C, rfl, h2, hs2⟩ := hr
  replace h := h2; replace hs := hs.call hs2; clear h2 hs2
  refine S.q hf hs (.slice y1A y1.length y1C) rfl fun a hf => X.n (wp_ret ?_)
  replace hs := hs.take 1
  exact L.ret hf (run_results1 results101 (ResIs.tmp hf rfl)) ⟨y1, y1A, y1C, rfl, h, hs⟩
 | cons xk1 llk1 =>
  have hltk1 := range_lt hkk1; have hc := range_go hkk1; have hxk1 := range_get hlk1
  obtain ⟨next1, hnext1⟩ : ∃ X : List Int → Prop, X = (fun l2 => forIn' (fun k x (s : List Int) next => M_finder_from_L1 k x s (fun l2 => next l2)) (fun (s : List Int) => (fun (l2 : List Int) => M_search f l2 false fun y1 => Q y1) s) llk1 (k1 + 1) l2) := ⟨_, rfl⟩
  replace h : M_finder_from_L1 k1 xk1 l2 next1 := by rw [hnext1]; exact h
  unfold M_finder_from_L1 at h
  refine X.l (S.v hf hs (.bool true) rfl (V.cmp true rfl rfl rfl rfl hc) fun a hf => X.n (wp_seq (C.yes hf rfl (wp_skip (X.then_ (wp_seq (wp_block (X.l (S.v hf hs (elemPtr cellsA (k1 * 1)) rfl (V.index rfl rfl rfl runUnderlying72 sizeOf3 (hv_cells.some_ (lt_of_get hxk1)) (Int.natCast_nonneg _) (lt_of_get hxk1) rfl) fun a hf => S.v hf hs (iv xk1) rfl (V.loadEl (off := 0) (Ag.args _ _ _) (hv_cells.flat hxk1) rfl rfl rfl isAgg3 sizeOf3 rfl rfl) fun a hf => S.q hf hs (iv xk1) rfl fun a hf => X.n (R.list (S.q hf hs (.slice l2A l2.length l2C) rfl fun a hf => S.q hf hs (iv xk1) rfl fun a hf => S.q hf hs (iv (w64 (3 * xk1))) rfl fun a hf => ?_)))))))))))
  refine S.build1 hf hs rfl rfl rfl (α := Int) (w64 (3 * xk1)) rfl rfl rfl runUnderlying72 sizeOf3 zeroValue3 rfl (by decide) (fun A1 a w hf hs => ?_)
  obtain ⟨hroom, h⟩ := h
  refine S.appendCells 1 hf hs rfl rfl rfl rfl rfl rfl rfl underlying72 info3 rfl hroom ((hs.ownView 0 rfl).some_ (i := 0) (by simp)) (hs.ownView 0 rfl) (fun A2 C1 a w hf hs => ?_)
  replace hs := hs.drop
  refine S.q hf hs (.slice A2 (l2 ++ [w64 (3 * xk1)]).length C1) rfl fun a hf => R.nil (X.blk (X.then_ (R.list (S.v hf hs (iv ((k1 + 1 : Nat) : Int)) rfl (V.incr rfl rfl rfl hltk1 hlenk1) fun a hf => S.q hf hs (iv ((k1 + 1 : Nat) : Int)) rfl fun a hf => X.n ?_))))
  exact ⟨xk1, llk1, rfl, k1 + 1, (l2 ++ [w64 (3 * xk1)]), A2, C1, range_drop hlk1, range_len hkk1, (by rw [hnext1] at h; exact h), (((((hf.nil.cons (hf.get 9 _ rfl)).cons (hf.get 8 _ rfl)).cons (hf.get 5 _ rfl)).cons (hf.get 0 _ rfl)).cons (hf.get 10 _ rfl)), hs⟩
def M_find1 (x_ : Cell) (g : Grid) (Q : Bool → Prop) : Prop :=
  M_route_isCell g x_ fun y1 => Q (!y1)
theorem R_find1 (x_ : Cell) (g : Grid) (w0 : World) (g_BlockedA : Option Addr) (g_BlockedC : Nat) (hv_g_Blocked : View w0 (old w0 none_) g_BlockedA g_BlockedC g.Blocked) (gg : Nat) (hb_g : ElemAt w0 (old w0 none_) (some ⟨gg, 0, none⟩) 0 [iv g.W, iv g.H, iv g.Layers, .slice g_BlockedA g.Blocked.length g_BlockedC]) (Q : Bool → Prop) (h : M_find1 x_ g Q) :
  Ret Tryz.prog 98 #[.agg #[iv x_.X, iv x_.Y, iv x_.Layer], (pn gg 0)] w0 fun v w' => ∃ (r0 : Bool), v = .bool r0 ∧ Q r0 ∧ Sat w0 none_ [] w' := by
 refine fn_enter func98 rfl ntmps98 rfl (fs := [(0, .agg #[iv x_.X, iv x_.Y, iv x_.Layer]), (1, (pn gg 0))]) rfl (fun a hf => ?_)
 have hs := Sat.start w0 none_
 unfold M_find1 at h
 refine X.l (S.box hf hs rfl rfl rfl [iv x_.X, iv x_.Y, iv x_.Layer] rfl rfl rfl (fun g1 a w hf hs => S.q hf hs (.bool false) rfl fun a hf => X.n (X.l (S.v hf hs (.agg #[iv g.W, iv g.H, iv g.Layers, .slice g_BlockedA g.Blocked.length g_BlockedC]) rfl (V.loadAt0 (off := 0) (Ag.args _ _ _) hb_g rfl rfl isAgg24 sizeOf24 rfl rfl) fun a hf => S.v hf hs (.agg #[iv x_.X, iv x_.Y, iv x_.Layer]) rfl (V.loadBox 0 rfl rfl rfl isAgg55 sizeOf55 rfl rfl) fun a hf => S.call hf rfl rfl rfl (call_fn (vs := [.agg #[iv g.W, iv g.H, iv g.Layers, .slice g_BlockedA g.Blocked.length g_BlockedC], .agg #[iv x_.X, iv x_.Y, iv x_.Layer]]) rfl rfl rfl call67) (R_route_isCell g x_ _ g_BlockedA g_BlockedC ((Ag.args _ _ _).view hv_g_Blocked hs) _ h) (fun v a w' hf hr => ?_)))))
 obtain ⟨y1, rfl, h2, hs2⟩ := hr
 replace h := h2; replace hs := hs.call hs2; clear h2 hs2
 refine S.q hf hs (.bool (!y1)) rfl fun a hf => S.q hf hs (.bool (!y1)) rfl fun a hf => X.n (wp_ret ?_)
 exact L.ret hf (run_results1 results98 (ResIs.tmp hf rfl)) ⟨(!y1), rfl, h, hs.nil⟩
def M_find2 (x_ : Cell) (f : RouteFinder) (g : Grid) (Q : Bool → Prop) : Prop :=
  M_route_number g x_ fun y1 => idx f.no y1 fun x1 => Q x1
theorem R_find2 (x_ : Cell) (f : RouteFinder) (g : Grid) (w0 : World) (f_g_BlockedA : Option Addr) (f_g_BlockedC : Nat) (hv_f_g_Blocked : View w0 (old w0 none_) f_g_BlockedA f_g_BlockedC f.g.Blocked) (f_noA : Option Addr) (f_noC : Nat) (hv_f_no : View w0 (old w0 none_) f_noA f_noC f.no) (fg : Nat) (hb_f : ElemAt w0 (old w0 none_) (some ⟨fg, 0, none⟩) 0 [iv f.g.W, iv f.g.H, iv f.g.Layers, .slice f_g_BlockedA f.g.Blocked.length f_g_BlockedC, iv f.c.Step, iv f.c.Via, iv f.c.Turn, iv f.c.Against, .slice f_noA f.no.length f_noC]) (fq : Nat) (hq_f : ElemAt w0 (old w0 none_) (some ⟨fq, 0, none⟩) 0 [(pn fg 0)]) (g_BlockedA : Option Addr) (g_BlockedC : Nat) (hv_g_Blocked : View w0 (old w0 none_) g_BlockedA g_BlockedC g.Blocked) (gg : Nat) (hb_g : ElemAt w0 (old w0 none_) (some ⟨gg, 0, none⟩) 0 [iv g.W, iv g.H, iv g.Layers, .slice g_BlockedA g.Blocked.length g_BlockedC]) (Q : Bool → Prop) (h : M_find2 x_ f g Q) :
  Ret Tryz.prog 99 #[.agg #[iv x_.X, iv x_.Y, iv x_.Layer], (pn fq 0), (pn gg 0)] w0 fun v w' => ∃ (r0 : Bool), v = .bool r0 ∧ Q r0 ∧ Sat w0 none_ [] w' := by
 refine fn_enter func99 rfl ntmps99 rfl (fs := [(0, .agg #[iv x_.X, iv x_.Y, iv x_.Layer]), (1, (pn fq 0)), (2, (pn gg 0))]) rfl (fun a hf => ?_)
 have hs := Sat.start w0 none_
 unfold M_find2 at h
 refine X.l (S.box hf hs rfl rfl rfl [iv x_.X, iv x_.Y, iv x_.Layer] rfl rfl rfl (fun g1 a w hf hs => S.q hf hs (.bool false) rfl fun a hf => X.n (wp_seq (H.start (S := Sat w0 none_ [hbox g1 55 [iv x_.X, iv x_.Y, iv x_.Layer]]) mo ?_))))
 replace hs := hs.drew
 refine H.v hf hs ((pn fg 0)) 0 rfl rfl (by kernel_rfl) (V.loadAt0 (off := 0) (Ag.args _ _ _) hq_f rfl rfl isAgg114 sizeOf114 rfl rfl) fun a hf => H.v hf hs ((pn fg 0)) 1 rfl rfl (by kernel_rfl) (V.pure rfl) fun a hf => H.v hf hs ((pn fg 8)) 2 rfl rfl (by kernel_rfl) (V.fieldBox rfl rfl runUnderlying120 rfl sizeOf49 rfl rfl) fun a hf => H.v hf hs (.slice f_noA f.no.length f_noC) 3 rfl rfl (by kernel_rfl) (V.loadAt0 (off := 8) (Ag.args _ _ _) hb_f rfl rfl isAgg49 sizeOf49 rfl rfl) fun a hf => H.v hf hs (.agg #[iv g.W, iv g.H, iv g.Layers, .slice g_BlockedA g.Blocked.length g_BlockedC]) 4 rfl rfl (by kernel_rfl) (V.loadAt0 (off := 0) (Ag.args _ _ _) hb_g rfl rfl isAgg24 sizeOf24 rfl rfl) fun a hf => H.v hf hs (.agg #[iv x_.X, iv x_.Y, iv x_.Layer]) 5 rfl rfl (by kernel_rfl) (V.loadBox 0 rfl rfl rfl isAgg55 sizeOf55 rfl rfl) fun a hf => H.one (i := 6) rfl (by kernel_rfl) (S.call hf rfl rfl rfl (call_fn (vs := [.agg #[iv g.W, iv g.H, iv g.Layers, .slice g_BlockedA g.Blocked.length g_BlockedC], .agg #[iv x_.X, iv x_.Y, iv x_.Layer]]) rfl rfl rfl call32) (R_route_number g x_ _ g_BlockedA g_BlockedC ((Ag.args _ _ _).view hv_g_Blocked hs) _ h) (fun v a w' hf hr => ?_))
 obtain ⟨y1, rfl, h2, hs2⟩ := hr
 replace h := h2; replace hs := hs.call hs2; clear h2 hs2
 refine X.n (⟨hs, ?_⟩)
 obtain ⟨h0x1, x1, hx1, h⟩ := h
 refine H.v hf hs (elemPtr f_noA (y1.toNat * 1)) 7 rfl rfl (by kernel_rfl) (V.index rfl rfl rfl runUnderlying49 sizeOf4 (hv_f_no.some_ (lt_of_get hx1)) h0x1 (lt_of_get hx1) rfl) fun a hf => H.v hf hs (.bool x1) 8 rfl rfl (by kernel_rfl) (V.loadEl (off := 0) (Ag.args _ _ _) (hv_f_no.flat hx1) rfl rfl rfl isAgg4 sizeOf4 rfl rfl) fun a hf => H.v hf hs (.bool x1) 9 rfl rfl (by kernel_rfl) (V.pure rfl) fun a hf => H.done (by kernel_rfl) (X.then_ (wp_ret ?_))
 exact L.ret hf (run_results1 results99 (ResIs.tmp hf rfl)) ⟨x1, rfl, h, hs.nil⟩
def M_indexFunc_find1_L1 (g : Grid) (Q : Int → Prop) (k1 : Nat) (xk1 : Cell)  (next1 : Prop) : Prop :=
  M_find1 xk1 g fun y1 => cnd y1 (Q (k1 : Int)) (next1)
def M_indexFunc_find1 (s_ : (List Cell)) (g : Grid) (Q : Int → Prop) : Prop :=
  forIn' (fun k x (s : Unit) next => M_indexFunc_find1_L1 g Q k x (next ())) (fun (s : Unit) => Q (-1)) s_ 0 ()
theorem R_indexFunc_find1 (s_ : (List Cell)) (g : Grid) (w0 : World) (s_A : Option Addr) (s_C : Nat) (hv_s_ : View w0 (old w0 none_) s_A s_C s_) (g_BlockedA : Option Addr) (g_BlockedC : Nat) (hv_g_Blocked : View w0 (old w0 none_) g_BlockedA g_BlockedC g.Blocked) (gg : Nat) (hb_g : ElemAt w0 (old w0 none_) (some ⟨gg, 0, none⟩) 0 [iv g.W, iv g.H, iv g.Layers, .slice g_BlockedA g.Blocked.length g_BlockedC]) (Q : Int → Prop) (h : M_indexFunc_find1 s_ g Q) :
  Ret Tryz.prog 89 #[.slice s_A s_.length s_C, .func (.func 98) #[] #[(pn gg 0)]] w0 fun v w' => ∃ (r0 : Int), v = iv r0 ∧ Q r0 ∧ Sat w0 none_ [] w' := by
 refine fn_enter func89 rfl ntmps89 rfl (fs := [(0, .slice s_A s_.length s_C), (1, .func (.func 98) #[] #[(pn gg 0)])]) rfl (fun a hf => ?_)
 have hs := Sat.start w0 none_
 unfold M_indexFunc_find1 at h
 refine X.l (S.q hf hs (iv 0) rfl fun a hf => X.n (wp_seq (X.l (S.q hf hs (.slice s_A s_.length s_C) rfl fun a hf => S.v hf hs (iv (s_.length : Int)) rfl (V.len rfl rfl runUnderlying22) fun a hf => S.q hf hs (iv 0) rfl fun a hf => X.n (wp_block ?_)))))
 have hlenk1 := hv_s_.len64
 refine C.range (fun (ll : List Cell) a w => ∃ (k1 : Nat) , s_.drop k1 = ll ∧ k1 + ll.length = s_.length ∧ forIn' (fun k x (s : Unit) next => M_indexFunc_find1_L1 g Q k x (next ())) (fun (s : Unit) => Q (-1)) ll k1 () ∧ FrOk 19 [(8, iv (k1 : Int)), (0, .slice s_A s_.length s_C), (1, .func (.func 98) #[] #[(pn gg 0)]), (7, iv (s_.length : Int))] a ∧ Sat w0 none_ [] w) s_ ⟨0, rfl, Nat.zero_add _, h, ((((hf.nil.cons (hf.get 7 _ rfl)).cons (hf.get 1 _ rfl)).cons (hf.get 0 _ rfl)).cons (hf.get 8 _ rfl)), hs⟩ ?_
 clear h hf hs
 rintro llk1 a w ⟨k1, hlk1, hkk1, h, hf, hs⟩
 cases llk1 with
 | nil =>
  have hc := range_done hkk1
  replace h : Q (-1) := h
  refine X.l (S.v hf hs (.bool false) rfl (V.cmp false rfl rfl rfl rfl hc) fun a hf => X.n (wp_seq (C.no hf rfl (wp_exit (X.then_exit (X.then_exit (X.blk_exit (X.then_ (X.l (S.q hf hs (iv (-1)) rfl fun a hf => X.n (wp_ret ?_)))))))))))
  exact L.ret hf (run_results1 results89 (ResIs.tmp hf rfl)) ⟨(-1), rfl, h, hs.nil⟩
 | cons xk1 llk1 =>
  have hltk1 := range_lt hkk1; have hc := range_go hkk1; have hxk1 := range_get hlk1
  obtain ⟨next1, hnext1⟩ : ∃ X : Prop, X = (forIn' (fun k x (s : Unit) next => M_indexFunc_find1_L1 g Q k x (next ())) (fun (s : Unit) => Q (-1)) llk1 (k1 + 1) ()) := ⟨_, rfl⟩
  replace h : M_indexFunc_find1_L1 g Q k1 xk1  next1 := by rw [hnext1]; exact h
  unfold M_indexFunc_find1_L1 at h
  refine X.l (S.v hf hs (.bool true) rfl (V.cmp true rfl rfl rfl rfl hc) fun a hf => X.n (wp_seq (C.yes hf rfl (wp_skip (X.then_ (wp_seq (wp_block (X.l (S.q hf hs (iv (k1 : Int)) rfl fun a hf => S.q hf hs (iv (k1 : Int)) rfl fun a hf => X.n (X.l (S.q hf hs (.func (.func 98) #[] #[(pn gg 0)]) rfl fun a hf => S.q hf hs (.slice s_A s_.length s_C) rfl fun a hf => S.q hf hs (iv (k1 : Int)) rfl fun a hf => S.v hf hs (elemPtr s_A (k1 * 3)) rfl (V.index rfl rfl rfl runUnderlying22 sizeOf55 (hv_s_.some_ (lt_of_get hxk1)) (Int.natCast_nonneg _) (lt_of_get hxk1) rfl) fun a hf => ?_)))))))))))
  refine S.v hf hs (.agg #[iv xk1.X, iv xk1.Y, iv xk1.Layer]) rfl (V.loadEl (off := 0) (Ag.args _ _ _) (hv_s_.flat hxk1) rfl rfl rfl isAgg55 sizeOf55 rfl rfl) fun a hf => S.call hf rfl rfl rfl (call_run (args := #[.agg #[iv xk1.X, iv xk1.Y, iv xk1.Layer], (pn gg 0)]) rfl rfl rfl call98 (by simp)) (R_find1 xk1 g _ g_BlockedA g_BlockedC ((Ag.args _ _ _).view hv_g_Blocked hs) gg ((Ag.args _ _ _).elem hb_g hs) _ h) (fun v a w' hf hr => ?_)
  obtain ⟨y1, rfl, h2, hs2⟩ := hr
  replace h := h2; replace hs := hs.call hs2; clear h2 hs2
  refine X.n ?_
  refine C.cond hf (b := y1) rfl (fun hc => ?_) (fun hc => ?_)
  ·replace h := h.1 hc
   refine X.l (S.q hf hs (iv (k1 : Int)) rfl fun a hf => S.q hf hs (iv (k1 : Int)) rfl fun a hf => X.n (wp_ret (X.blk_ret (X.then_ret (X.then_ret (X.blk_ret (X.then_ret ?_)))))))
   exact L.ret hf (run_results1 results89 (ResIs.tmp hf rfl)) ⟨(k1 : Int), rfl, h, hs.nil⟩
  ·replace h := h.2 hc
   refine wp_skip (X.blk (X.then_ (R.list (S.v hf hs (iv ((k1 + 1 : Nat) : Int)) rfl (V.incr rfl rfl rfl hltk1 hlenk1) fun a hf => S.q hf hs (iv ((k1 + 1 : Nat) : Int)) rfl fun a hf => X.n ?_))))
   exact ⟨xk1, llk1, rfl, k1 + 1, range_drop hlk1, range_len hkk1, (by rw [hnext1] at h; exact h), ((((hf.nil.cons (hf.get 7 _ rfl)).cons (hf.get 1 _ rfl)).cons (hf.get 0 _ rfl)).cons (hf.get 8 _ rfl)), hs⟩
def M_containsFunc_find1 (s_ : (List Cell)) (g : Grid) (Q : Bool → Prop) : Prop :=
  M_indexFunc_find1 s_ g fun y1 => Q (decide (y1 ≥ 0))
theorem R_containsFunc_find1 (s_ : (List Cell)) (g : Grid) (w0 : World) (s_A : Option Addr) (s_C : Nat) (hv_s_ : View w0 (old w0 none_) s_A s_C s_) (g_BlockedA : Option Addr) (g_BlockedC : Nat) (hv_g_Blocked : View w0 (old w0 none_) g_BlockedA g_BlockedC g.Blocked) (gg : Nat) (hb_g : ElemAt w0 (old w0 none_) (some ⟨gg, 0, none⟩) 0 [iv g.W, iv g.H, iv g.Layers, .slice g_BlockedA g.Blocked.length g_BlockedC]) (Q : Bool → Prop) (h : M_containsFunc_find1 s_ g Q) :
  Ret Tryz.prog 51 #[.slice s_A s_.length s_C, .func (.func 98) #[] #[(pn gg 0)]] w0 fun v w' => ∃ (r0 : Bool), v = .bool r0 ∧ Q r0 ∧ Sat w0 none_ [] w' := by
 refine fn_enter func51 rfl ntmps51 rfl (fs := [(0, .slice s_A s_.length s_C), (1, .func (.func 98) #[] #[(pn gg 0)])]) rfl (fun a hf => ?_)
 have hs := Sat.start w0 none_
 unfold M_containsFunc_find1 at h
 refine X.l (S.q hf hs (.bool false) rfl fun a hf => X.n (X.l (S.q hf hs (.slice s_A s_.length s_C) rfl fun a hf => S.q hf hs (.func (.func 98) #[] #[(pn gg 0)]) rfl fun a hf => S.call hf rfl rfl rfl (call_fn (vs := [.slice s_A s_.length s_C, .func (.func 98) #[] #[(pn gg 0)]]) rfl rfl rfl call89) (R_indexFunc_find1 s_ g _ s_A s_C ((Ag.args _ _ _).view hv_s_ hs) g_BlockedA g_BlockedC ((Ag.args _ _ _).view hv_g_Blocked hs) gg ((Ag.args _ _ _).elem hb_g hs) _ h) (fun v a w' hf hr => ?_))))
 obtain ⟨y1, rfl, h2, hs2⟩ := hr
 replace h := h2; replace hs := hs.call hs2; clear h2 hs2
 refine S.q hf hs (.bool (decide (y1 ≥ 0))) rfl fun a hf => S.q hf hs (.bool (decide (y1 ≥ 0))) rfl fun a hf => X.n (wp_ret ?_)
 exact L.ret hf (run_results1 results51 (ResIs.tmp hf rfl)) ⟨(decide (y1 ≥ 0)), rfl, h, hs.nil⟩
def M_indexFunc_find2_L1 (ff : RouteFinder) (g : Grid) (Q : Int → Prop) (k1 : Nat) (xk1 : Cell)  (next1 : Prop) : Prop :=
  M_find2 xk1 ff g fun y1 => cnd y1 (Q (k1 : Int)) (next1)
def M_indexFunc_find2 (s_ : (List Cell)) (ff : RouteFinder) (g : Grid) (Q : Int → Prop) : Prop :=
  forIn' (fun k x (s : Unit) next => M_indexFunc_find2_L1 ff g Q k x (next ())) (fun (s : Unit) => Q (-1)) s_ 0 ()
theorem R_indexFunc_find2 (s_ : (List Cell)) (ff : RouteFinder) (g : Grid) (w0 : World) (s_A : Option Addr) (s_C : Nat) (hv_s_ : View w0 (old w0 none_) s_A s_C s_) (ff_g_BlockedA : Option Addr) (ff_g_BlockedC : Nat) (hv_ff_g_Blocked : View w0 (old w0 none_) ff_g_BlockedA ff_g_BlockedC ff.g.Blocked) (ff_noA : Option Addr) (ff_noC : Nat) (hv_ff_no : View w0 (old w0 none_) ff_noA ff_noC ff.no) (ffg : Nat) (hb_ff : ElemAt w0 (old w0 none_) (some ⟨ffg, 0, none⟩) 0 [iv ff.g.W, iv ff.g.H, iv ff.g.Layers, .slice ff_g_BlockedA ff.g.Blocked.length ff_g_BlockedC, iv ff.c.Step, iv ff.c.Via, iv ff.c.Turn, iv ff.c.Against, .slice ff_noA ff.no.length ff_noC]) (ffq : Nat) (hq_ff : ElemAt w0 (old w0 none_) (some ⟨ffq, 0, none⟩) 0 [(pn ffg 0)]) (g_BlockedA : Option Addr) (g_BlockedC : Nat) (hv_g_Blocked : View w0 (old w0 none_) g_BlockedA g_BlockedC g.Blocked) (gg : Nat) (hb_g : ElemAt w0 (old w0 none_) (some ⟨gg, 0, none⟩) 0 [iv g.W, iv g.H, iv g.Layers, .slice g_BlockedA g.Blocked.length g_BlockedC]) (Q : Int → Prop) (h : M_indexFunc_find2 s_ ff g Q) :
  Ret Tryz.prog 89 #[.slice s_A s_.length s_C, .func (.func 99) #[] #[(pn ffq 0), (pn gg 0)]] w0 fun v w' => ∃ (r0 : Int), v = iv r0 ∧ Q r0 ∧ Sat w0 none_ [] w' := by
 refine fn_enter func89 rfl ntmps89 rfl (fs := [(0, .slice s_A s_.length s_C), (1, .func (.func 99) #[] #[(pn ffq 0), (pn gg 0)])]) rfl (fun a hf => ?_)
 have hs := Sat.start w0 none_
 unfold M_indexFunc_find2 at h
 refine X.l (S.q hf hs (iv 0) rfl fun a hf => X.n (wp_seq (X.l (S.q hf hs (.slice s_A s_.length s_C) rfl fun a hf => S.v hf hs (iv (s_.length : Int)) rfl (V.len rfl rfl runUnderlying22) fun a hf => S.q hf hs (iv 0) rfl fun a hf => X.n (wp_block ?_)))))
 have hlenk1 := hv_s_.len64
 refine C.range (fun (ll : List Cell) a w => ∃ (k1 : Nat) , s_.drop k1 = ll ∧ k1 + ll.length = s_.length ∧ forIn' (fun k x (s : Unit) next => M_indexFunc_find2_L1 ff g Q k x (next ())) (fun (s : Unit) => Q (-1)) ll k1 () ∧ FrOk 19 [(8, iv (k1 : Int)), (0, .slice s_A s_.length s_C), (1, .func (.func 99) #[] #[(pn ffq 0), (pn gg 0)]), (7, iv (s_.length : Int))] a ∧ Sat w0 none_ [] w) s_ ⟨0, rfl, Nat.zero_add _, h, ((((hf.nil.cons (hf.get 7 _ rfl)).cons (hf.get 1 _ rfl)).cons (hf.get 0 _ rfl)).cons (hf.get 8 _ rfl)), hs⟩ ?_
 clear h hf hs
 rintro llk1 a w ⟨k1, hlk1, hkk1, h, hf, hs⟩
 cases llk1 with
 | nil =>
  have hc := range_done hkk1
  replace h : Q (-1) := h
  refine X.l (S.v hf hs (.bool false) rfl (V.cmp false rfl rfl rfl rfl hc) fun a hf => X.n (wp_seq (C.no hf rfl (wp_exit (X.then_exit (X.then_exit (X.blk_exit (X.then_ (X.l (S.q hf hs (iv (-1)) rfl fun a hf => X.n (wp_ret ?_)))))))))))
  exact L.ret hf (run_results1 results89 (ResIs.tmp hf rfl)) ⟨(-1), rfl, h, hs.nil⟩
 | cons xk1 llk1 =>
  have hltk1 := range_lt hkk1; have hc := range_go hkk1; have hxk1 := range_get hlk1
  obtain ⟨next1, hnext1⟩ : ∃ X : Prop, X = (forIn' (fun k x (s : Unit) next => M_indexFunc_find2_L1 ff g Q k x (next ())) (fun (s : Unit) => Q (-1)) llk1 (k1 + 1) ()) := ⟨_, rfl⟩
  replace h : M_indexFunc_find2_L1 ff g Q k1 xk1  next1 := by rw [hnext1]; exact h
  unfold M_indexFunc_find2_L1 at h
  refine X.l (S.v hf hs (.bool true) rfl (V.cmp true rfl rfl rfl rfl hc) fun a hf => X.n (wp_seq (C.yes hf rfl (wp_skip (X.then_ (wp_seq (wp_block (X.l (S.q hf hs (iv (k1 : Int)) rfl fun a hf => S.q hf hs (iv (k1 : Int)) rfl fun a hf => X.n (X.l (S.q hf hs (.func (.func 99) #[] #[(pn ffq 0), (pn gg 0)]) rfl fun a hf => S.q hf hs (.slice s_A s_.length s_C) rfl fun a hf => S.q hf hs (iv (k1 : Int)) rfl fun a hf => S.v hf hs (elemPtr s_A (k1 * 3)) rfl (V.index rfl rfl rfl runUnderlying22 sizeOf55 (hv_s_.some_ (lt_of_get hxk1)) (Int.natCast_nonneg _) (lt_of_get hxk1) rfl) fun a hf => ?_)))))))))))
  refine S.v hf hs (.agg #[iv xk1.X, iv xk1.Y, iv xk1.Layer]) rfl (V.loadEl (off := 0) (Ag.args _ _ _) (hv_s_.flat hxk1) rfl rfl rfl isAgg55 sizeOf55 rfl rfl) fun a hf => S.call hf rfl rfl rfl (call_run (args := #[.agg #[iv xk1.X, iv xk1.Y, iv xk1.Layer], (pn ffq 0), (pn gg 0)]) rfl rfl rfl call99 (by simp)) (R_find2 xk1 ff g _ ff_g_BlockedA ff_g_BlockedC ((Ag.args _ _ _).view hv_ff_g_Blocked hs) ff_noA ff_noC ((Ag.args _ _ _).view hv_ff_no hs) ffg ((Ag.args _ _ _).elem hb_ff hs) ffq ((Ag.args _ _ _).elem hq_ff hs) g_BlockedA g_BlockedC ((Ag.args _ _ _).view hv_g_Blocked hs) gg ((Ag.args _ _ _).elem hb_g hs) _ h) (fun v a w' hf hr => ?_)
  obtain ⟨y1, rfl, h2, hs2⟩ := hr
  replace h := h2; replace hs := hs.call hs2; clear h2 hs2
  refine X.n ?_
  refine C.cond hf (b := y1) rfl (fun hc => ?_) (fun hc => ?_)
  ·replace h := h.1 hc
   refine X.l (S.q hf hs (iv (k1 : Int)) rfl fun a hf => S.q hf hs (iv (k1 : Int)) rfl fun a hf => X.n (wp_ret (X.blk_ret (X.then_ret (X.then_ret (X.blk_ret (X.then_ret ?_)))))))
   exact L.ret hf (run_results1 results89 (ResIs.tmp hf rfl)) ⟨(k1 : Int), rfl, h, hs.nil⟩
  ·replace h := h.2 hc
   refine wp_skip (X.blk (X.then_ (R.list (S.v hf hs (iv ((k1 + 1 : Nat) : Int)) rfl (V.incr rfl rfl rfl hltk1 hlenk1) fun a hf => S.q hf hs (iv ((k1 + 1 : Nat) : Int)) rfl fun a hf => X.n ?_))))
   exact ⟨xk1, llk1, rfl, k1 + 1, range_drop hlk1, range_len hkk1, (by rw [hnext1] at h; exact h), ((((hf.nil.cons (hf.get 7 _ rfl)).cons (hf.get 1 _ rfl)).cons (hf.get 0 _ rfl)).cons (hf.get 8 _ rfl)), hs⟩
def M_containsFunc_find2 (s_ : (List Cell)) (ff : RouteFinder) (g : Grid) (Q : Bool → Prop) : Prop :=
  M_indexFunc_find2 s_ ff g fun y1 => Q (decide (y1 ≥ 0))
theorem R_containsFunc_find2 (s_ : (List Cell)) (ff : RouteFinder) (g : Grid) (w0 : World) (s_A : Option Addr) (s_C : Nat) (hv_s_ : View w0 (old w0 none_) s_A s_C s_) (ff_g_BlockedA : Option Addr) (ff_g_BlockedC : Nat) (hv_ff_g_Blocked : View w0 (old w0 none_) ff_g_BlockedA ff_g_BlockedC ff.g.Blocked) (ff_noA : Option Addr) (ff_noC : Nat) (hv_ff_no : View w0 (old w0 none_) ff_noA ff_noC ff.no) (ffg : Nat) (hb_ff : ElemAt w0 (old w0 none_) (some ⟨ffg, 0, none⟩) 0 [iv ff.g.W, iv ff.g.H, iv ff.g.Layers, .slice ff_g_BlockedA ff.g.Blocked.length ff_g_BlockedC, iv ff.c.Step, iv ff.c.Via, iv ff.c.Turn, iv ff.c.Against, .slice ff_noA ff.no.length ff_noC]) (ffq : Nat) (hq_ff : ElemAt w0 (old w0 none_) (some ⟨ffq, 0, none⟩) 0 [(pn ffg 0)]) (g_BlockedA : Option Addr) (g_BlockedC : Nat) (hv_g_Blocked : View w0 (old w0 none_) g_BlockedA g_BlockedC g.Blocked) (gg : Nat) (hb_g : ElemAt w0 (old w0 none_) (some ⟨gg, 0, none⟩) 0 [iv g.W, iv g.H, iv g.Layers, .slice g_BlockedA g.Blocked.length g_BlockedC]) (Q : Bool → Prop) (h : M_containsFunc_find2 s_ ff g Q) :
  Ret Tryz.prog 51 #[.slice s_A s_.length s_C, .func (.func 99) #[] #[(pn ffq 0), (pn gg 0)]] w0 fun v w' => ∃ (r0 : Bool), v = .bool r0 ∧ Q r0 ∧ Sat w0 none_ [] w' := by
 refine fn_enter func51 rfl ntmps51 rfl (fs := [(0, .slice s_A s_.length s_C), (1, .func (.func 99) #[] #[(pn ffq 0), (pn gg 0)])]) rfl (fun a hf => ?_)
 have hs := Sat.start w0 none_
 unfold M_containsFunc_find2 at h
 refine X.l (S.q hf hs (.bool false) rfl fun a hf => X.n (X.l (S.q hf hs (.slice s_A s_.length s_C) rfl fun a hf => S.q hf hs (.func (.func 99) #[] #[(pn ffq 0), (pn gg 0)]) rfl fun a hf => S.call hf rfl rfl rfl (call_fn (vs := [.slice s_A s_.length s_C, .func (.func 99) #[] #[(pn ffq 0), (pn gg 0)]]) rfl rfl rfl call89) (R_indexFunc_find2 s_ ff g _ s_A s_C ((Ag.args _ _ _).view hv_s_ hs) ff_g_BlockedA ff_g_BlockedC ((Ag.args _ _ _).view hv_ff_g_Blocked hs) ff_noA ff_noC ((Ag.args _ _ _).view hv_ff_no hs) ffg ((Ag.args _ _ _).elem hb_ff hs) ffq ((Ag.args _ _ _).elem hq_ff hs) g_BlockedA g_BlockedC ((Ag.args _ _ _).view hv_g_Blocked hs) gg ((Ag.args _ _ _).elem hb_g hs) _ h) (fun v a w' hf hr => ?_))))
 obtain ⟨y1, rfl, h2, hs2⟩ := hr
 replace h := h2; replace hs := hs.call hs2; clear h2 hs2
 refine S.q hf hs (.bool (decide (y1 ≥ 0))) rfl fun a hf => S.q hf hs (.bool (decide (y1 ≥ 0))) rfl fun a hf => X.n (wp_ret ?_)
 exact L.ret hf (run_results1 results51 (ResIs.tmp hf rfl)) ⟨(decide (y1 ≥ 0)), rfl, h, hs.nil⟩
def M_find (g : Grid) (c : Costs) (l : (List Cell)) (Q : (Option (List Bool)) → Int → Prop) : Prop :=
  M_route_checkBoth g c fun y1 => cnd (y1 != 0) (Q none y1) (M_route_blocked g fun y2 => M_containsFunc_find1 l g fun y3 => cnd y3 (Q none 1) (M_containsFunc_find2 l (⟨g, c, y2⟩ : RouteFinder) g fun y4 => cnd y4 (Q none 14) (Q (some y2) 0)))
theorem R_find (g : Grid) (c : Costs) (l : (List Cell)) (w0 : World) (g_BlockedA : Option Addr) (g_BlockedC : Nat) (hv_g_Blocked : View w0 (old w0 none_) g_BlockedA g_BlockedC g.Blocked) (lA : Option Addr) (lC : Nat) (hv_l : View w0 (old w0 none_) lA lC l) (Q : (Option (List Bool)) → Int → Prop) (h : M_find g c l Q) :
  Ret Tryz.prog 78 #[.agg #[iv g.W, iv g.H, iv g.Layers, .slice g_BlockedA g.Blocked.length g_BlockedC], .agg #[iv c.Step, iv c.Via, iv c.Turn, iv c.Against], .slice lA l.length lC] w0 fun v w' => (∃ (r1 : Int), v = .tuple #[.pointer none, iv r1] ∧ Q none r1 ∧ Sat w0 none_ [] w') ∨ (∃ (r0 : (List Bool)) (r0g : Nat) (r0A0 : Option Addr) (r0C0 : Nat) (r1 : Int), v = .tuple #[(pn r0g 0), iv r1] ∧ Q (some r0) r1 ∧ Sat w0 none_ [hbox r0g 120 [iv g.W, iv g.H, iv g.Layers, .slice g_BlockedA g.Blocked.length g_BlockedC, iv c.Step, iv c.Via, iv c.Turn, iv c.Against, .slice r0A0 r0.length r0C0], hown 4 r0A0 r0C0 r0] w') := by
 refine fn_enter func78 rfl ntmps78 rfl (fs := [(0, .agg #[iv g.W, iv g.H, iv g.Layers, .slice g_BlockedA g.Blocked.length g_BlockedC]), (1, .agg #[iv c.Step, iv c.Via, iv c.Turn, iv c.Against]), (2, .slice lA l.length lC)]) rfl (fun a hf => ?_)
 have hs := Sat.start w0 none_
 unfold M_find at h
 refine X.l (S.box hf hs rfl rfl rfl [iv g.W, iv g.H, iv g.Layers, .slice g_BlockedA g.Blocked.length g_BlockedC] rfl rfl rfl (fun g1 a w hf hs => S.box hf hs rfl rfl rfl [iv c.Step, iv c.Via, iv c.Turn, iv c.Against] rfl rfl rfl (fun g2 a w hf hs => S.q hf hs (.pointer none) rfl fun a hf => S.q hf hs (iv 0) rfl fun a hf => X.n (wp_seq (X.l (S.v hf hs (.agg #[iv g.W, iv g.H, iv g.Layers, .slice g_BlockedA g.Blocked.length g_BlockedC]) rfl (V.loadBox 1 rfl rfl rfl isAgg24 sizeOf24 rfl rfl) fun a hf => S.v hf hs (.agg #[iv c.Step, iv c.Via, iv c.Turn, iv c.Against]) rfl (V.loadBox 0 rfl rfl rfl isAgg26 sizeOf26 rfl rfl) fun a hf => S.call hf rfl rfl rfl (call_fn (vs := [.agg #[iv g.W, iv g.H, iv g.Layers, .slice g_BlockedA g.Blocked.length g_BlockedC], .agg #[iv c.Step, iv c.Via, iv c.Turn, iv c.Against]]) rfl rfl rfl call19) (R_route_checkBoth g c _ g_BlockedA g_BlockedC ((Ag.args _ _ _).view hv_g_Blocked hs) _ h) (fun v a w' hf hr => ?_)))))))
 obtain ⟨y1, rfl, h2, hs2⟩ := hr
 replace h := h2; replace hs := hs.call hs2; clear h2 hs2
 refine S.q hf hs (iv y1) rfl fun a hf => X.n (X.l (S.q hf hs (iv y1) rfl fun a hf => S.q hf hs (.bool (y1 != 0)) rfl fun a hf => X.n ?_))
 refine C.cond hf (b := y1 != 0) rfl (fun hc => ?_) (fun hc => ?_)
 ·replace h := h.1 hc
  refine X.l (S.q hf hs (iv y1) rfl fun a hf => S.q hf hs (.pointer none) rfl fun a hf => S.q hf hs (iv y1) rfl fun a hf => X.n (wp_ret (X.then_ret ?_)))
  exact L.ret hf (run_results2 results78 (ResIs.tmp hf rfl) (ResIs.tmp hf rfl)) (.inl ⟨y1, rfl, h, hs.nil⟩)
 ·replace h := h.2 hc
  refine wp_skip (X.then_ (wp_seq (H.start (S := Sat w0 none_ [hbox g2 26 [iv c.Step, iv c.Via, iv c.Turn, iv c.Against], hbox g1 24 [iv g.W, iv g.H, iv g.Layers, .slice g_BlockedA g.Blocked.length g_BlockedC]]) mo ?_)))
  replace hs := hs.drew
  refine H.v hf hs (.agg #[iv g.W, iv g.H, iv g.Layers, .slice g_BlockedA g.Blocked.length g_BlockedC]) 0 rfl rfl (by kernel_rfl) (V.loadBox 1 rfl rfl rfl isAgg24 sizeOf24 rfl rfl) fun a hf => H.v hf hs (.agg #[iv c.Step, iv c.Via, iv c.Turn, iv c.Against]) 1 rfl rfl (by kernel_rfl) (V.loadBox 0 rfl rfl rfl isAgg26 sizeOf26 rfl rfl) fun a hf => H.v hf hs (.agg #[iv g.W, iv g.H, iv g.Layers, .slice g_BlockedA g.Blocked.length g_BlockedC]) 2 rfl rfl (by kernel_rfl) (V.loadBox 1 rfl rfl rfl isAgg24 sizeOf24 rfl rfl) fun a hf => ?_
  refine H.each2 (i0 := 3) (i1 := 6) rfl rfl (by kernel_rfl) ?_ ?_
  ·refine S.call hf rfl rfl rfl (call_fn (vs := [.agg #[iv g.W, iv g.H, iv g.Layers, .slice g_BlockedA g.Blocked.length g_BlockedC]]) rfl rfl rfl call23) (R_route_blocked g _ g_BlockedA g_BlockedC ((Ag.args _ _ _).view hv_g_Blocked hs) _ h) (fun v a w' hf hr => ?_)
   obtain ⟨y2, y2A, y2C, rfl, h2, hs2⟩ := hr
   replace h := h2; replace hs := hs.call hs2; clear h2 hs2
   refine X.n (⟨(hs.mask [false, true, true]), (H.val hf (hs.mask [false, true, true]) (v := .agg #[iv g.W, iv g.H, iv g.Layers, .slice g_BlockedA g.Blocked.length g_BlockedC, iv c.Step, iv c.Via, iv c.Turn, iv c.Against, .slice y2A y2.length y2C]) (i := 4) rfl rfl rfl rfl (by kernel_rfl) (by kernel_rfl) (by kernel_rfl) (V.build (places := #[(0, 4), (4, 4), (8, 1)]) rfl zeroValue120 runUnderlying120 (by intro w; simp [sizeOf24, sizeOf26, sizeOf49]) rfl (by kernel_rfl)) (fun a hf => ?_))⟩)
   refine H.each2 (i0 := 5) (i1 := 6) rfl rfl (by kernel_rfl) ?_ ?_
   ·refine S.box hf hs rfl rfl rfl [iv g.W, iv g.H, iv g.Layers, .slice g_BlockedA g.Blocked.length g_BlockedC, iv c.Step, iv c.Via, iv c.Turn, iv c.Against, .slice y2A y2.length y2C] rfl rfl rfl (fun g3 a w hf hs => X.n (⟨(hs.mask [false, false, true, true]), (H.one (i := 6) rfl (by kernel_rfl) (S.alloc hf hs rfl rfl rfl [.pointer none] rfl zeroValue114 rfl (fun g4 a w hf hs => X.n (⟨(hs.mask [false, false, false, true, true]), (H.one (i := 7) rfl (by kernel_rfl) (S.storeBox 0 hf hs rfl rfl [(pn g3 0)] [(pn g3 0)] rfl rfl rfl rfl rfl sizeOf114 rfl rfl rfl rfl (fun a w hf hs => X.n (⟨(hs.mask [false, false, false, true, true]), (H.done (by kernel_rfl) ?_)⟩))))⟩))))⟩))
    refine X.then_ (wp_seq (X.l (S.q hf hs (.slice lA l.length lC) rfl fun a hf => S.q hf hs (.func (.func 98) #[] #[(pn g1 0)]) rfl fun a hf => S.call hf rfl rfl rfl (call_fn (vs := [.slice lA l.length lC, .func (.func 98) #[] #[(pn g1 0)]]) rfl rfl rfl call51) (R_containsFunc_find1 l g _ lA lC ((Ag.args _ _ _).view hv_l hs) g_BlockedA g_BlockedC ((Ag.args _ _ _).view hv_g_Blocked hs) g1 (hs.boxAt 4 rfl) _ h) (fun v a w' hf hr => ?_))))
    obtain ⟨y3, rfl, h2, hs2⟩ := hr
    replace h := h2; replace hs := hs.call hs2; clear h2 hs2
    refine X.n ?_
    refine C.cond hf (b := y3) rfl (fun hc => ?_) (fun hc => ?_)
    ·replace h := h.1 hc
     refine X.l (S.q hf hs (.pointer none) rfl fun a hf => S.q hf hs (iv 1) rfl fun a hf => X.n (wp_ret (X.then_ret ?_)))
     exact L.ret hf (run_results2 results78 (ResIs.tmp hf rfl) (ResIs.tmp hf rfl)) (.inl ⟨1, rfl, h, hs.nil⟩)
    ·replace h := h.2 hc
     refine wp_skip (X.then_ (wp_seq (X.l (S.q hf hs (.slice lA l.length lC) rfl fun a hf => S.q hf hs (.func (.func 99) #[] #[(pn g4 0), (pn g1 0)]) rfl fun a hf => S.call hf rfl rfl rfl (call_fn (vs := [.slice lA l.length lC, .func (.func 99) #[] #[(pn g4 0), (pn g1 0)]]) rfl rfl rfl call51) (R_containsFunc_find2 l (⟨g, c, y2⟩ : RouteFinder) g _ lA lC ((Ag.args _ _ _).view hv_l hs) g_BlockedA g_BlockedC ((Ag.args _ _ _).view hv_g_Blocked hs) y2A y2C (hs.ownView 2 rfl) g3 (hs.boxAt 1 rfl) g4 (hs.boxAt 0 rfl) g_BlockedA g_BlockedC ((Ag.args _ _ _).view hv_g_Blocked hs) g1 (hs.boxAt 4 rfl) _ h) (fun v a w' hf hr => ?_)))))
     obtain ⟨y4, rfl, h2, hs2⟩ := hr
     replace h := h2; replace hs := hs.call hs2; clear h2 hs2
     refine X.n ?_
     refine C.cond hf (b := y4) rfl (fun hc => ?_) (fun hc => ?_)
     ·replace h := h.1 hc
      refine X.l (S.q hf hs (.pointer none) rfl fun a hf => S.q hf hs (iv 14) rfl fun a hf => X.n (wp_ret (X.then_ret ?_)))
      exact L.ret hf (run_results2 results78 (ResIs.tmp hf rfl) (ResIs.tmp hf rfl)) (.inl ⟨14, rfl, h, hs.nil⟩)
     ·replace h := h.2 hc
      refine wp_skip (X.then_ (X.l (S.v hf hs ((pn g3 0)) rfl (V.loadBox 0 rfl rfl rfl isAgg114 sizeOf114 rfl rfl) fun a hf => S.q hf hs ((pn g3 0)) rfl fun a hf => S.q hf hs (iv 0) rfl fun a hf => X.n (wp_ret ?_))))
      replace hs := hs.front 2 rfl
      replace hs := hs.front 2 rfl
      replace hs := hs.take 2
      exact L.ret hf (run_results2 results78 (ResIs.tmp hf rfl) (ResIs.tmp hf rfl)) (.inr ⟨y2, g3, y2A, y2C, 0, rfl, h, hs⟩)
   ·refine S.alloc hf hs rfl rfl rfl [.pointer none] rfl zeroValue114 rfl (fun g3 a w hf hs => X.n (⟨(hs.mask [false, false, true, true]), (H.one (i := 5) rfl (by kernel_rfl) (S.box hf hs rfl rfl rfl [iv g.W, iv g.H, iv g.Layers, .slice g_BlockedA g.Blocked.length g_BlockedC, iv c.Step, iv c.Via, iv c.Turn, iv c.Against, .slice y2A y2.length y2C] rfl rfl rfl (fun g4 a w hf hs => X.n (⟨(hs.mask [false, false, false, true, true]), (H.one (i := 7) rfl (by kernel_rfl) (S.storeBox 1 hf hs rfl rfl [(pn g4 0)] [(pn g4 0)] rfl rfl rfl rfl rfl sizeOf114 rfl rfl rfl rfl (fun a w hf hs => X.n (⟨(hs.mask [false, false, false, true, true]), (H.done (by kernel_rfl) ?_)⟩))))⟩))))⟩))
    refine X.then_ (wp_seq (X.l (S.q hf hs (.slice lA l.length lC) rfl fun a hf => S.q hf hs (.func (.func 98) #[] #[(pn g1 0)]) rfl fun a hf => S.call hf rfl rfl rfl (call_fn (vs := [.slice lA l.length lC, .func (.func 98) #[] #[(pn g1 0)]]) rfl rfl rfl call51) (R_containsFunc_find1 l g _ lA lC ((Ag.args _ _ _).view hv_l hs) g_BlockedA g_BlockedC ((Ag.args _ _ _).view hv_g_Blocked hs) g1 (hs.boxAt 4 rfl) _ h) (fun v a w' hf hr => ?_))))
    obtain ⟨y3, rfl, h2, hs2⟩ := hr
    replace h := h2; replace hs := hs.call hs2; clear h2 hs2
    refine X.n ?_
    refine C.cond hf (b := y3) rfl (fun hc => ?_) (fun hc => ?_)
    ·replace h := h.1 hc
     refine X.l (S.q hf hs (.pointer none) rfl fun a hf => S.q hf hs (iv 1) rfl fun a hf => X.n (wp_ret (X.then_ret ?_)))
     exact L.ret hf (run_results2 results78 (ResIs.tmp hf rfl) (ResIs.tmp hf rfl)) (.inl ⟨1, rfl, h, hs.nil⟩)
    ·replace h := h.2 hc
     refine wp_skip (X.then_ (wp_seq (X.l (S.q hf hs (.slice lA l.length lC) rfl fun a hf => S.q hf hs (.func (.func 99) #[] #[(pn g3 0), (pn g1 0)]) rfl fun a hf => S.call hf rfl rfl rfl (call_fn (vs := [.slice lA l.length lC, .func (.func 99) #[] #[(pn g3 0), (pn g1 0)]]) rfl rfl rfl call51) (R_containsFunc_find2 l (⟨g, c, y2⟩ : RouteFinder) g _ lA lC ((Ag.args _ _ _).view hv_l hs) g_BlockedA g_BlockedC ((Ag.args _ _ _).view hv_g_Blocked hs) y2A y2C (hs.ownView 2 rfl) g4 (hs.boxAt 0 rfl) g3 (hs.boxAt 1 rfl) g_BlockedA g_BlockedC ((Ag.args _ _ _).view hv_g_Blocked hs) g1 (hs.boxAt 4 rfl) _ h) (fun v a w' hf hr => ?_)))))
     obtain ⟨y4, rfl, h2, hs2⟩ := hr
     replace h := h2; replace hs := hs.call hs2; clear h2 hs2
     refine X.n ?_
     refine C.cond hf (b := y4) rfl (fun hc => ?_) (fun hc => ?_)
     ·replace h := h.1 hc
      refine X.l (S.q hf hs (.pointer none) rfl fun a hf => S.q hf hs (iv 14) rfl fun a hf => X.n (wp_ret (X.then_ret ?_)))
      exact L.ret hf (run_results2 results78 (ResIs.tmp hf rfl) (ResIs.tmp hf rfl)) (.inl ⟨14, rfl, h, hs.nil⟩)
     ·replace h := h.2 hc
      refine wp_skip (X.then_ (X.l (S.v hf hs ((pn g4 0)) rfl (V.loadBox 1 rfl rfl rfl isAgg114 sizeOf114 rfl rfl) fun a hf => S.q hf hs ((pn g4 0)) rfl fun a hf => S.q hf hs (iv 0) rfl fun a hf => X.n (wp_ret ?_))))
      replace hs := hs.front 2 rfl
      replace hs := hs.front 1 rfl
      replace hs := hs.take 2
      exact L.ret hf (run_results2 results78 (ResIs.tmp hf rfl) (ResIs.tmp hf rfl)) (.inr ⟨y2, g4, y2A, y2C, 0, rfl, h, hs⟩)
  ·refine S.alloc hf hs rfl rfl rfl [.pointer none] rfl zeroValue114 rfl (fun g3 a w hf hs => X.n (⟨(hs.mask [false, true, true]), (H.one (i := 3) rfl (by kernel_rfl) (S.call hf rfl rfl rfl (call_fn (vs := [.agg #[iv g.W, iv g.H, iv g.Layers, .slice g_BlockedA g.Blocked.length g_BlockedC]]) rfl rfl rfl call23) (R_route_blocked g _ g_BlockedA g_BlockedC ((Ag.args _ _ _).view hv_g_Blocked hs) _ h) (fun v a w' hf hr => ?_)))⟩))
   obtain ⟨y2, y2A, y2C, rfl, h2, hs2⟩ := hr
   replace h := h2; replace hs := hs.call hs2; clear h2 hs2
   refine X.n (⟨(hs.mask [false, false, true, true]), (H.val hf (hs.mask [false, false, true, true]) (v := .agg #[iv g.W, iv g.H, iv g.Layers, .slice g_BlockedA g.Blocked.length g_BlockedC, iv c.Step, iv c.Via, iv c.Turn, iv c.Against, .slice y2A y2.length y2C]) (i := 4) rfl rfl rfl rfl (by kernel_rfl) (by kernel_rfl) (by kernel_rfl) (V.build (places := #[(0, 4), (4, 4), (8, 1)]) rfl zeroValue120 runUnderlying120 (by intro w; simp [sizeOf24, sizeOf26, sizeOf49]) rfl (by kernel_rfl)) (fun a hf => H.one (i := 5) rfl (by kernel_rfl) (S.box hf hs rfl rfl rfl [iv g.W, iv g.H, iv g.Layers, .slice g_BlockedA g.Blocked.length g_BlockedC, iv c.Step, iv c.Via, iv c.Turn, iv c.Against, .slice y2A y2.length y2C] rfl rfl rfl (fun g4 a w hf hs => X.n (⟨(hs.mask [false, false, false, true, true]), (H.one (i := 7) rfl (by kernel_rfl) (S.storeBox 2 hf hs rfl rfl [(pn g4 0)] [(pn g4 0)] rfl rfl rfl rfl rfl sizeOf114 rfl rfl rfl rfl (fun a w hf hs => X.n (⟨(hs.mask [false, false, false, true, true]), (H.done (by kernel_rfl) ?_)⟩))))⟩)))))⟩)
   refine X.then_ (wp_seq (X.l (S.q hf hs (.slice lA l.length lC) rfl fun a hf => S.q hf hs (.func (.func 98) #[] #[(pn g1 0)]) rfl fun a hf => S.call hf rfl rfl rfl (call_fn (vs := [.slice lA l.length lC, .func (.func 98) #[] #[(pn g1 0)]]) rfl rfl rfl call51) (R_containsFunc_find1 l g _ lA lC ((Ag.args _ _ _).view hv_l hs) g_BlockedA g_BlockedC ((Ag.args _ _ _).view hv_g_Blocked hs) g1 (hs.boxAt 4 rfl) _ h) (fun v a w' hf hr => ?_))))
   obtain ⟨y3, rfl, h2, hs2⟩ := hr
   replace h := h2; replace hs := hs.call hs2; clear h2 hs2
   refine X.n ?_
   refine C.cond hf (b := y3) rfl (fun hc => ?_) (fun hc => ?_)
   ·replace h := h.1 hc
    refine X.l (S.q hf hs (.pointer none) rfl fun a hf => S.q hf hs (iv 1) rfl fun a hf => X.n (wp_ret (X.then_ret ?_)))
    exact L.ret hf (run_results2 results78 (ResIs.tmp hf rfl) (ResIs.tmp hf rfl)) (.inl ⟨1, rfl, h, hs.nil⟩)
   ·replace h := h.2 hc
    refine wp_skip (X.then_ (wp_seq (X.l (S.q hf hs (.slice lA l.length lC) rfl fun a hf => S.q hf hs (.func (.func 99) #[] #[(pn g3 0), (pn g1 0)]) rfl fun a hf => S.call hf rfl rfl rfl (call_fn (vs := [.slice lA l.length lC, .func (.func 99) #[] #[(pn g3 0), (pn g1 0)]]) rfl rfl rfl call51) (R_containsFunc_find2 l (⟨g, c, y2⟩ : RouteFinder) g _ lA lC ((Ag.args _ _ _).view hv_l hs) g_BlockedA g_BlockedC ((Ag.args _ _ _).view hv_g_Blocked hs) y2A y2C (hs.ownView 1 rfl) g4 (hs.boxAt 0 rfl) g3 (hs.boxAt 2 rfl) g_BlockedA g_BlockedC ((Ag.args _ _ _).view hv_g_Blocked hs) g1 (hs.boxAt 4 rfl) _ h) (fun v a w' hf hr => ?_)))))
    obtain ⟨y4, rfl, h2, hs2⟩ := hr
    replace h := h2; replace hs := hs.call hs2; clear h2 hs2
    refine X.n ?_
    refine C.cond hf (b := y4) rfl (fun hc => ?_) (fun hc => ?_)
    ·replace h := h.1 hc
     refine X.l (S.q hf hs (.pointer none) rfl fun a hf => S.q hf hs (iv 14) rfl fun a hf => X.n (wp_ret (X.then_ret ?_)))
     exact L.ret hf (run_results2 results78 (ResIs.tmp hf rfl) (ResIs.tmp hf rfl)) (.inl ⟨14, rfl, h, hs.nil⟩)
    ·replace h := h.2 hc
     refine wp_skip (X.then_ (X.l (S.v hf hs ((pn g4 0)) rfl (V.loadBox 2 rfl rfl rfl isAgg114 sizeOf114 rfl rfl) fun a hf => S.q hf hs ((pn g4 0)) rfl fun a hf => S.q hf hs (iv 0) rfl fun a hf => X.n (wp_ret ?_))))
     replace hs := hs.front 1 rfl
     replace hs := hs.front 1 rfl
     replace hs := hs.take 2
     exact L.ret hf (run_results2 results78 (ResIs.tmp hf rfl) (ResIs.tmp hf rfl)) (.inr ⟨y2, g4, y2A, y2C, 0, rfl, h, hs⟩)
def M_route_Least (g : Grid) (c : Costs) (from_ : Cell) (to : Cell) (Q : Int → Bool → Int → Prop) : Prop :=
  M_find g c ([from_, to] : List Cell) fun y1o y2 => optq y1o (cnd (y2 != 0) (Q 0 false y2) (False)) (fun y1 => cnd (y2 != 0) (Q 0 false y2) (M_route_number g to fun y3 => M_finder_to (⟨g, c, y1⟩ : RouteFinder) y3 fun y4 => M_route_number g from_ fun y5 => idx y4 (w64 (3 * y5)) fun x1 => cnd (decide (x1 < 0)) (Q 0 false 0) (Q (w64 (x1.tdiv 1048576)) true 0)))
theorem R_route_Least (g : Grid) (c : Costs) (from_ : Cell) (to : Cell) (w0 : World) (g_BlockedA : Option Addr) (g_BlockedC : Nat) (hv_g_Blocked : View w0 (old w0 none_) g_BlockedA g_BlockedC g.Blocked) (Q : Int → Bool → Int → Prop) (h : M_route_Least g c from_ to Q) :
  Ret Tryz.prog 37 #[.agg #[iv g.W, iv g.H, iv g.Layers, .slice g_BlockedA g.Blocked.length g_BlockedC], .agg #[iv c.Step, iv c.Via, iv c.Turn, iv c.Against], .agg #[iv from_.X, iv from_.Y, iv from_.Layer], .agg #[iv to.X, iv to.Y, iv to.Layer]] w0 fun v w' => ∃ (r0 : Int) (r1 : Bool) (r2 : Int), v = .tuple #[iv r0, .bool r1, iv r2] ∧ Q r0 r1 r2 ∧ Sat w0 none_ [] w' := by
 refine fn_enter func37 rfl ntmps37 rfl (fs := [(0, .agg #[iv g.W, iv g.H, iv g.Layers, .slice g_BlockedA g.Blocked.length g_BlockedC]), (1, .agg #[iv c.Step, iv c.Via, iv c.Turn, iv c.Against]), (2, .agg #[iv from_.X, iv from_.Y, iv from_.Layer]), (3, .agg #[iv to.X, iv to.Y, iv to.Layer])]) rfl (fun a hf => ?_)
 have hs := Sat.start w0 none_
 unfold M_route_Least at h
 refine X.l (S.box hf hs rfl rfl rfl [iv g.W, iv g.H, iv g.Layers, .slice g_BlockedA g.Blocked.length g_BlockedC] rfl rfl rfl (fun g1 a w hf hs => S.box hf hs rfl rfl rfl [iv c.Step, iv c.Via, iv c.Turn, iv c.Against] rfl rfl rfl (fun g2 a w hf hs => S.box hf hs rfl rfl rfl [iv from_.X, iv from_.Y, iv from_.Layer] rfl rfl rfl (fun g3 a w hf hs => S.box hf hs rfl rfl rfl [iv to.X, iv to.Y, iv to.Layer] rfl rfl rfl (fun g4 a w hf hs => S.q hf hs (iv 0) rfl fun a hf => S.q hf hs (.bool false) rfl fun a hf => S.q hf hs (iv 0) rfl fun a hf => X.n (X.l (S.v hf hs (.agg #[iv g.W, iv g.H, iv g.Layers, .slice g_BlockedA g.Blocked.length g_BlockedC]) rfl (V.loadBox 3 rfl rfl rfl isAgg24 sizeOf24 rfl rfl) fun a hf => S.v hf hs (.agg #[iv c.Step, iv c.Via, iv c.Turn, iv c.Against]) rfl (V.loadBox 2 rfl rfl rfl isAgg26 sizeOf26 rfl rfl) fun a hf => S.v hf hs (.agg #[iv from_.X, iv from_.Y, iv from_.Layer]) rfl (V.loadBox 1 rfl rfl rfl isAgg55 sizeOf55 rfl rfl) fun a hf => ?_)))))))
 refine S.v hf hs (.agg #[iv to.X, iv to.Y, iv to.Layer]) rfl (V.loadBox 0 rfl rfl rfl isAgg55 sizeOf55 rfl rfl) fun a hf => S.buildSlice hf hs rfl rfl rfl (α := Cell) [from_, to] rfl rfl runUnderlying22 sizeOf55 zeroValue55 (by kernel_rfl) rfl (by decide) (by decide) (fun A1 a w hf hs => S.call hf rfl rfl rfl (call_fn (vs := [.agg #[iv g.W, iv g.H, iv g.Layers, .slice g_BlockedA g.Blocked.length g_BlockedC], .agg #[iv c.Step, iv c.Via, iv c.Turn, iv c.Against], .slice A1 ([from_, to] : List Cell).length 2]) rfl rfl rfl call78) (R_find g c ([from_, to] : List Cell) _ g_BlockedA g_BlockedC ((Ag.args _ _ _).view hv_g_Blocked hs) A1 2 (hs.ownView 0 rfl) _ h) (fun v a w' hf hr => ?_))
 rcases hr with ⟨y2, rfl, h2, hs2⟩ | ⟨y1, y1g, y1A0, y1C0, y2, rfl, h2, hs2⟩
 ·replace h := h2.1 rfl; replace hs := hs.call hs2; clear h2 hs2
  refine S.q hf hs (.tuple #[.pointer none, iv y2]) rfl fun a hf => S.q hf hs (.pointer none) rfl fun a hf => S.q hf hs (iv y2) rfl fun a hf => S.q hf hs (.pointer none) rfl fun a hf => S.q hf hs (iv y2) rfl fun a hf => X.n (wp_seq (X.l (S.q hf hs (iv y2) rfl fun a hf => S.q hf hs (.bool (y2 != 0)) rfl fun a hf => X.n ?_)))
  refine C.cond hf (b := y2 != 0) rfl (fun hc => ?_) (fun hc => ?_)
  ·replace h := h.1 hc
   refine X.l (S.q hf hs (iv y2) rfl fun a hf => S.q hf hs (iv 0) rfl fun a hf => S.q hf hs (.bool false) rfl fun a hf => S.q hf hs (iv y2) rfl fun a hf => X.n (wp_ret (X.then_ret ?_)))
   exact L.ret hf (run_results3 results37 (ResIs.tmp hf rfl) (ResIs.tmp hf rfl) (ResIs.tmp hf rfl)) ⟨0, false, y2, rfl, h, hs.nil⟩
  ·replace h := h.2 hc
   exact h.elim
 ·replace h := h2.2 _ rfl; replace hs := hs.call hs2; clear h2 hs2
  refine S.q hf hs (.tuple #[(pn y1g 0), iv y2]) rfl fun a hf => S.q hf hs ((pn y1g 0)) rfl fun a hf => S.q hf hs (iv y2) rfl fun a hf => S.q hf hs ((pn y1g 0)) rfl fun a hf => S.q hf hs (iv y2) rfl fun a hf => X.n (wp_seq (X.l (S.q hf hs (iv y2) rfl fun a hf => S.q hf hs (.bool (y2 != 0)) rfl fun a hf => X.n ?_)))
  refine C.cond hf (b := y2 != 0) rfl (fun hc => ?_) (fun hc => ?_)
  ·replace h := h.1 hc
   refine X.l (S.q hf hs (iv y2) rfl fun a hf => S.q hf hs (iv 0) rfl fun a hf => S.q hf hs (.bool false) rfl fun a hf => S.q hf hs (iv y2) rfl fun a hf => X.n (wp_ret (X.then_ret ?_)))
   exact L.ret hf (run_results3 results37 (ResIs.tmp hf rfl) (ResIs.tmp hf rfl) (ResIs.tmp hf rfl)) ⟨0, false, y2, rfl, h, hs.nil⟩
  ·replace h := h.2 hc
   refine wp_skip (X.then_ (wp_seq (H.start (S := Sat w0 none_ [hbox y1g 120 [iv g.W, iv g.H, iv g.Layers, .slice g_BlockedA g.Blocked.length g_BlockedC, iv c.Step, iv c.Via, iv c.Turn, iv c.Against, .slice y1A0 y1.length y1C0], hown 4 y1A0 y1C0 y1, hown 55 A1 2 ([from_, to] : List Cell), hbox g4 55 [iv to.X, iv to.Y, iv to.Layer], hbox g3 55 [iv from_.X, iv from_.Y, iv from_.Layer], hbox g2 26 [iv c.Step, iv c.Via, iv c.Turn, iv c.Against], hbox g1 24 [iv g.W, iv g.H, iv g.Layers, .slice g_BlockedA g.Blocked.length g_BlockedC]]) mo ?_)))
   replace hs := hs.drew
   refine H.v hf hs ((pn y1g 0)) 0 rfl rfl (by kernel_rfl) (V.pure rfl) fun a hf => H.v hf hs (.agg #[iv g.W, iv g.H, iv g.Layers, .slice g_BlockedA g.Blocked.length g_BlockedC]) 1 rfl rfl (by kernel_rfl) (V.loadBox 6 rfl rfl rfl isAgg24 sizeOf24 rfl rfl) fun a hf => H.v hf hs (.agg #[iv to.X, iv to.Y, iv to.Layer]) 2 rfl rfl (by kernel_rfl) (V.loadBox 3 rfl rfl rfl isAgg55 sizeOf55 rfl rfl) fun a hf => H.v hf hs (.agg #[iv g.W, iv g.H, iv g.Layers, .slice g_BlockedA g.Blocked.length g_BlockedC]) 5 rfl rfl (by kernel_rfl) (V.loadBox 6 rfl rfl rfl isAgg24 sizeOf24 rfl rfl) fun a hf => H.v hf hs (.agg #[iv from_.X, iv from_.Y, iv from_.Layer]) 6 rfl rfl (by kernel_rfl) (V.loadBox 4 rfl rfl rfl isAgg55 sizeOf55 rfl rfl) fun a hf => H.one (i := 3) rfl (by kernel_rfl) (S.call hf rfl rfl rfl (call_fn (vs := [.agg #[iv g.W, iv g.H, iv g.Layers, .slice g_BlockedA g.Blocked.length g_BlockedC], .agg #[iv to.X, iv to.Y, iv to.Layer]]) rfl rfl rfl call32) (R_route_number g to _ g_BlockedA g_BlockedC ((Ag.args _ _ _).view hv_g_Blocked hs) _ h) (fun v a w' hf hr => ?_))
   obtain ⟨y3, rfl, h2, hs2⟩ := hr
   replace h := h2; replace hs := hs.call hs2; clear h2 hs2
   refine X.n (⟨hs, (H.one (i := 4) rfl (by kernel_rfl) (S.call hf rfl rfl rfl (call_fn (vs := [(pn y1g 0), iv y3]) rfl rfl rfl call79) (R_finder_to (⟨g, c, y1⟩ : RouteFinder) y3 _ g_BlockedA g_BlockedC ((Ag.args _ _ _).view hv_g_Blocked hs) y1A0 y1C0 (hs.ownView 1 rfl) y1g (hs.boxAt 0 rfl) _ h) (fun v a w' hf hr => ?_)))⟩)
   obtain ⟨y4, y4A, y4C, rfl, h2, hs2⟩ := hr
   replace h := h2; replace hs := hs.call hs2; clear h2 hs2
   refine X.n (⟨(hs.mask [false, true, true, true, true, true, true, true]), (H.one (i := 7) rfl (by kernel_rfl) (S.call hf rfl rfl rfl (call_fn (vs := [.agg #[iv g.W, iv g.H, iv g.Layers, .slice g_BlockedA g.Blocked.length g_BlockedC], .agg #[iv from_.X, iv from_.Y, iv from_.Layer]]) rfl rfl rfl call32) (R_route_number g from_ _ g_BlockedA g_BlockedC ((Ag.args _ _ _).view hv_g_Blocked hs) _ h) (fun v a w' hf hr => ?_)))⟩)
   obtain ⟨y5, rfl, h2, hs2⟩ := hr
   replace h := h2; replace hs := hs.call hs2; clear h2 hs2
   refine X.n (⟨(hs.mask [false, true, true, true, true, true, true, true]), (H.val hf (hs.mask [false, true, true, true, true, true, true, true]) (v := iv (w64 (3 * y5))) (i := 8) rfl rfl rfl rfl (by kernel_rfl) (by kernel_rfl) (by kernel_rfl) (V.pure rfl) (fun a hf => ?_))⟩)
   obtain ⟨h0x1, x1, hx1, h⟩ := h
   refine H.val hf (hs.mask [false, true, true, true, true, true, true, true]) (v := elemPtr y4A ((w64 (3 * y5)).toNat * 1)) (i := 9) rfl rfl rfl rfl (by kernel_rfl) (by kernel_rfl) (by kernel_rfl) (V.index rfl rfl rfl runUnderlying72 sizeOf3 (hs.ownSome 0 rfl (lt_of_get hx1)) h0x1 (lt_of_get hx1) rfl) (fun a hf => H.one (i := 10) rfl (by kernel_rfl) (S.v hf hs (iv x1) rfl (V.loadOwn (off := 0) 0 rfl hx1 rfl rfl rfl isAgg3 sizeOf3 rfl rfl) fun a hf => X.n (⟨(hs.mask [false, true, true, true, true, true, true, true]), (H.val hf (hs.mask [false, true, true, true, true, true, true, true]) (v := iv x1) (i := 11) rfl rfl rfl rfl (by kernel_rfl) (by kernel_rfl) (by kernel_rfl) (V.pure rfl) (fun a hf => H.done (by kernel_rfl) (X.then_ (wp_seq (X.l (S.q hf hs (iv x1) rfl fun a hf => S.q hf hs (.bool (decide (x1 < 0))) rfl fun a hf => X.n ?_))))))⟩)))
   refine C.cond hf (b := decide (x1 < 0)) rfl (fun hc => ?_) (fun hc => ?_)
   ·replace h := h.1 hc
    refine X.l (S.q hf hs (iv 0) rfl fun a hf => S.q hf hs (.bool false) rfl fun a hf => S.q hf hs (iv 0) rfl fun a hf => X.n (wp_ret (X.then_ret ?_)))
    exact L.ret hf (run_results3 results37 (ResIs.tmp hf rfl) (ResIs.tmp hf rfl) (ResIs.tmp hf rfl)) ⟨0, false, 0, rfl, h, hs.nil⟩
   ·replace h := h.2 hc
    refine wp_skip (X.then_ (X.l (S.q hf hs (iv x1) rfl fun a hf => S.v hf hs (iv (w64 (x1.tdiv 1048576))) rfl (V.quo rfl rfl rfl (by decide)) fun a hf => S.q hf hs (iv (w64 (x1.tdiv 1048576))) rfl fun a hf => S.q hf hs (.bool true) rfl fun a hf => S.q hf hs (iv 0) rfl fun a hf => X.n (wp_ret ?_))))
    exact L.ret hf (run_results3 results37 (ResIs.tmp hf rfl) (ResIs.tmp hf rfl) (ResIs.tmp hf rfl)) ⟨(w64 (x1.tdiv 1048576)), true, 0, rfl, h, hs.nil⟩
def M_route_awake  (Q : Bool → Prop) : Prop :=
  M_route_Least (⟨3, 1, 1, ([] : List Cell)⟩ : Grid) (⟨2, 1, 0, 0⟩ : Costs) (⟨0, 0, 0⟩ : Cell) (⟨2, 0, 0⟩ : Cell) fun y1 y2 y3 => cnd (y3 == 0) (cnd y2 (Q (y1 == 4)) (Q false)) (Q false)
theorem R_route_awake  (w0 : World)  (Q : Bool → Prop) (h : M_route_awake  Q) :
  Ret Tryz.prog 13 #[] w0 fun v w' => ∃ (r0 : Bool), v = .bool r0 ∧ Q r0 ∧ Sat w0 none_ [] w' := by
 refine fn_enter func13 rfl ntmps13 rfl (fs := []) rfl (fun a hf => ?_)
 have hs := Sat.start w0 none_
 unfold M_route_awake at h
 refine X.l (S.q hf hs (.bool false) rfl fun a hf => X.n (X.l (S.v hf hs (.agg #[iv 3, iv 1, iv 1, .slice none 0 0]) rfl (V.build (places := #[(0, 1), (1, 1), (2, 1), (3, 1)]) rfl zeroValue24 runUnderlying24 (by intro w; simp [sizeOf22, sizeOf3]) rfl rfl) fun a hf => S.v hf hs (.agg #[iv 2, iv 1, iv 0, iv 0]) rfl (V.build (places := #[(0, 1), (1, 1), (2, 1), (3, 1)]) rfl zeroValue26 runUnderlying26 (by intro w; simp [sizeOf3]) rfl rfl) fun a hf => S.v hf hs (.agg #[iv 0, iv 0, iv 0]) rfl (V.build (places := #[(0, 1), (1, 1), (2, 1)]) rfl zeroValue55 runUnderlying55 (by intro w; simp [sizeOf3]) rfl rfl) fun a hf => S.v hf hs (.agg #[iv 2, iv 0, iv 0]) rfl (V.build (places := #[(0, 1), (1, 1), (2, 1)]) rfl zeroValue55 runUnderlying55 (by intro w; simp [sizeOf3]) rfl rfl) fun a hf => S.call hf rfl rfl rfl (call_fn (vs := [.agg #[iv 3, iv 1, iv 1, .slice none 0 0], .agg #[iv 2, iv 1, iv 0, iv 0], .agg #[iv 0, iv 0, iv 0], .agg #[iv 2, iv 0, iv 0]]) rfl rfl rfl call37) (R_route_Least (⟨3, 1, 1, ([] : List Cell)⟩ : Grid) (⟨2, 1, 0, 0⟩ : Costs) (⟨0, 0, 0⟩ : Cell) (⟨2, 0, 0⟩ : Cell) _ none 0 (View.nil _ _) _ h) (fun v a w' hf hr => ?_))))
 obtain ⟨y1, y2, y3, rfl, h2, hs2⟩ := hr
 replace h := h2; replace hs := hs.call hs2; clear h2 hs2
 refine S.q hf hs (.tuple #[iv y1, .bool y2, iv y3]) rfl fun a hf => S.q hf hs (iv y1) rfl fun a hf => S.q hf hs (.bool y2) rfl fun a hf => S.q hf hs (iv y3) rfl fun a hf => S.q hf hs (iv y1) rfl fun a hf => S.q hf hs (.bool y2) rfl fun a hf => S.q hf hs (iv y3) rfl fun a hf => X.n (X.l (S.q hf hs (iv y3) rfl fun a hf => S.q hf hs (.bool (y3 == 0)) rfl fun a hf => ?_))
 refine S.split hf hs (b := y3 == 0) rfl rfl rfl (V.pure rfl) (fun hc a hf => ?_) (fun hc a hf => ?_)
 ·replace h := h.1 hc
  refine S.q hf hs (.bool y2) rfl fun a hf => S.q hf hs (.bool y2) rfl fun a hf => ?_
  refine S.split hf hs (b := y2) rfl rfl rfl (V.pure rfl) (fun hc a hf => ?_) (fun hc a hf => ?_)
  ·replace h := h.1 hc
   refine S.q hf hs (iv y1) rfl fun a hf => S.q hf hs (.bool (y1 == 4)) rfl fun a hf => S.q hf hs (.bool (y1 == 4)) rfl fun a hf => S.q hf hs (.bool (y1 == 4)) rfl fun a hf => X.n (wp_ret ?_)
   exact L.ret hf (run_results1 results13 (ResIs.tmp hf rfl)) ⟨(y1 == 4), rfl, h, hs.nil⟩
  ·replace h := h.2 hc
   refine S.k hf rfl fun a hf => S.k hf rfl fun a hf => S.q hf hs (.bool false) rfl fun a hf => S.q hf hs (.bool false) rfl fun a hf => X.n (wp_ret ?_)
   exact L.ret hf (run_results1 results13 (ResIs.tmp hf rfl)) ⟨false, rfl, h, hs.nil⟩
 ·replace h := h.2 hc
  refine S.k hf rfl fun a hf => S.q hf hs (.bool false) rfl fun a hf => S.q hf hs (.bool false) rfl fun a hf => S.k hf rfl fun a hf => S.k hf rfl fun a hf => S.q hf hs (.bool false) rfl fun a hf => S.q hf hs (.bool false) rfl fun a hf => X.n (wp_ret ?_)
  exact L.ret hf (run_results1 results13 (ResIs.tmp hf rfl)) ⟨false, rfl, h, hs.nil⟩
end Go.Proofs.YtihjaehkdgdenaaGreatDoor
