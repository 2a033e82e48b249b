/- Chapter texts of ours, as far as the claim needs them. -/
import Derived.Test.YtihjaehkdgdenaaGreatDoorRtC
namespace Go.Proofs.YtihjaehkdgdenaaGreatDoor
open Tryz Go Go.RowKit
set_option linter.unusedVariables false
set_option linter.unusedSectionVars false
set_option maxHeartbeats 1000000
set_option linter.unusedSimpArgs false
def M_way1_k1 (t : Int) (found : Int) (Q : Int → Prop) (c1 : Bool) : Prop :=
  cnd c1 (Q t) (Q found)
def M_way1 (t : Int) (key : Int) (found : Int) (keys : (List Int)) (s_ : Int) (Q : Int → Prop) : Prop :=
  cnd (decide (found < 0)) (idx keys t fun x1 => cnd (decide (x1 ≥ 0)) (idx keys s_ fun x2 => M_way1_k1 t found Q ((w64 (x1 + key)) == x2)) (M_way1_k1 t found Q false)) (M_way1_k1 t found Q false)
theorem R_way1 (t : Int) (key : Int) (found : Int) (keys : (List Int)) (s_ : Int) (w0 : World) (F0 : Nat → Prop) (foundg : Nat) (keysA : Option Addr) (keysC : Nat) (hv_keys : View w0 (old w0 F0) keysA keysC keys) (keysg : Nat) (hb_keys : ElemAt w0 (old w0 F0) (some ⟨keysg, 0, none⟩) 0 [.slice keysA keys.length keysC]) (s_g : Nat) (hb_s_ : ElemAt w0 (old w0 F0) (some ⟨s_g, 0, none⟩) 0 [iv s_]) (hs0 : Sat w0 F0 [hbox foundg 3 [iv found]] w0) (Q : Int → Prop) (h : M_way1 t key found keys s_ Q) :
  Ret Tryz.prog 124 #[iv t, iv key, (pn foundg 0), (pn keysg 0), (pn s_g 0)] w0 fun v w' => ∃ (found1 : Int), v = .tuple #[] ∧ Q found1 ∧ Sat w0 F0 [hbox foundg 3 [iv found1]] w' := by
 refine fn_enter func124 rfl ntmps124 rfl (fs := [(0, iv t), (1, iv key), (2, (pn foundg 0)), (3, (pn keysg 0)), (4, (pn s_g 0))]) rfl (fun a hf => ?_)
 have hs := hs0
 unfold M_way1 at h
 refine wp_seq ?_
 refine C.cut (J := fun a w => ∃ (c1 : Bool), M_way1_k1 t found Q c1 ∧ FrOk 30 [(0, iv t), (2, (pn foundg 0)), (28, .bool c1)] a ∧ Sat w0 F0 [hbox foundg 3 [iv found]] w) ?_ ?_
 ·rintro a w ⟨c1, h, hf, hs⟩
  unfold M_way1_k1 at h
  refine C.cond hf (b := c1) rfl (fun hc => ?_) (fun hc => ?_)
  ·replace h := h.1 hc
   refine R.list (S.q hf hs (iv t) rfl fun a hf => S.storeBox 0 hf hs rfl rfl [iv t] [iv t] rfl rfl rfl rfl rfl sizeOf3 rfl rfl rfl rfl (fun a w hf hs => R.nil ?_))
   replace hs := hs.take 1
   exact L.end0 results124 hf ⟨t, rfl, h, hs⟩
  ·replace h := h.2 hc
   refine wp_skip ?_
   replace hs := hs.take 1
   exact L.end0 results124 hf ⟨found, rfl, h, hs⟩
 ·skip
  refine R.draw mo (by kernel_rfl) hs (D.v hf (iv found) rfl (V.loadBox 0 rfl rfl rfl isAgg3 sizeOf3 rfl rfl) fun a hf => D.p hf (.bool (decide (found < 0))) rfl rfl fun a hf => ?_)
  refine D.split hf (b := decide (found < 0)) rfl rfl rfl (V.pure rfl) (fun hc a hf => ?_) (fun hc a hf => ?_)
  ·replace h := h.1 hc
   refine D.v hf (.slice keysA keys.length keysC) rfl (V.loadAt0 (off := 0) (Ag.args _ _ _) hb_keys rfl rfl isAgg72 sizeOf72 rfl rfl) fun a hf => D.p hf (iv t) rfl rfl fun a hf => ?_
   obtain ⟨h0x1, x1, hx1, h⟩ := h
   refine D.v hf (elemPtr keysA (t.toNat * 1)) rfl (V.index rfl rfl rfl runUnderlying72 sizeOf3 (hv_keys.some_ (lt_of_get hx1)) h0x1 (lt_of_get hx1) rfl) fun a hf => D.v hf (iv x1) rfl (V.loadEl (off := 0) (Ag.args _ _ _) (hv_keys.flat hx1) rfl rfl rfl isAgg3 sizeOf3 rfl rfl) fun a hf => D.p hf (.bool (decide (x1 ≥ 0))) rfl rfl fun a hf => D.p hf (.bool (decide (x1 ≥ 0))) rfl rfl fun a hf => ?_
   refine D.split hf (b := decide (x1 ≥ 0)) rfl rfl rfl (V.pure rfl) (fun hc a hf => ?_) (fun hc a hf => ?_)
   ·replace h := h.1 hc
    refine D.v hf (.slice keysA keys.length keysC) rfl (V.loadAt0 (off := 0) (Ag.args _ _ _) hb_keys rfl rfl isAgg72 sizeOf72 rfl rfl) fun a hf => D.p hf (iv t) rfl rfl fun a hf => D.v hf (elemPtr keysA (t.toNat * 1)) rfl (V.index rfl rfl rfl runUnderlying72 sizeOf3 (hv_keys.some_ (lt_of_get hx1)) h0x1 (lt_of_get hx1) rfl) fun a hf => D.v hf (iv x1) rfl (V.loadEl (off := 0) (Ag.args _ _ _) (hv_keys.flat hx1) rfl rfl rfl isAgg3 sizeOf3 rfl rfl) fun a hf => D.p hf (iv key) rfl rfl fun a hf => D.p hf (iv (w64 (x1 + key))) rfl rfl fun a hf => D.v hf (.slice keysA keys.length keysC) rfl (V.loadAt0 (off := 0) (Ag.args _ _ _) hb_keys rfl rfl isAgg72 sizeOf72 rfl rfl) fun a hf => D.v hf (iv s_) rfl (V.loadAt0 (off := 0) (Ag.args _ _ _) hb_s_ rfl rfl isAgg3 sizeOf3 rfl rfl) fun a hf => ?_
    obtain ⟨h0x2, x2, hx2, h⟩ := h
    refine D.v hf (elemPtr keysA (s_.toNat * 1)) rfl (V.index rfl rfl rfl runUnderlying72 sizeOf3 (hv_keys.some_ (lt_of_get hx2)) h0x2 (lt_of_get hx2) rfl) fun a hf => D.v hf (iv x2) rfl (V.loadEl (off := 0) (Ag.args _ _ _) (hv_keys.flat hx2) rfl rfl rfl isAgg3 sizeOf3 rfl rfl) fun a hf => D.p hf (.bool ((w64 (x1 + key)) == x2)) rfl rfl fun a hf => D.p hf (.bool ((w64 (x1 + key)) == x2)) rfl rfl fun a hf => D.done (fun w hs => X.then_ ?_)
    exact ⟨((w64 (x1 + key)) == x2), h, (((hf.nil.cons (hf.get 28 _ rfl)).cons (hf.get 2 _ rfl)).cons (hf.get 0 _ rfl)), hs⟩
   ·replace h := h.2 hc
    refine D.k hf rfl fun a hf => D.k hf rfl fun a hf => D.k hf rfl fun a hf => D.k hf rfl fun a hf => D.k hf rfl fun a hf => D.k hf rfl fun a hf => D.k hf rfl fun a hf => D.k hf rfl fun a hf => D.k hf rfl fun a hf => D.k hf rfl fun a hf => D.k hf rfl fun a hf => D.p hf (.bool false) rfl rfl fun a hf => ?_
    refine D.done (fun w hs => X.then_ ?_)
    exact ⟨false, h, (((hf.nil.cons (hf.get 28 _ rfl)).cons (hf.get 2 _ rfl)).cons (hf.get 0 _ rfl)), hs⟩
  ·replace h := h.2 hc
   refine D.k hf rfl fun a hf => D.k hf rfl fun a hf => D.k hf rfl fun a hf => D.k hf rfl fun a hf => D.k hf rfl fun a hf => D.p hf (.bool false) rfl rfl fun a hf => D.p hf (.bool false) rfl rfl fun a hf => D.k hf rfl fun a hf => D.k hf rfl fun a hf => D.k hf rfl fun a hf => D.k hf rfl fun a hf => D.k hf rfl fun a hf => ?_
   refine D.k hf rfl fun a hf => D.k hf rfl fun a hf => D.k hf rfl fun a hf => D.k hf rfl fun a hf => D.k hf rfl fun a hf => D.k hf rfl fun a hf => D.p hf (.bool false) rfl rfl fun a hf => D.done (fun w hs => X.then_ ?_)
   exact ⟨false, h, (((hf.nil.cons (hf.get 28 _ rfl)).cons (hf.get 2 _ rfl)).cons (hf.get 0 _ rfl)), hs⟩
def M_steps1_way_L1 (m : Int) (along : Int) (f : RouteFinder) (layer : Int) (keys : (List Int)) (s_ : Int) (Q : Int → Prop) (again1 : Int → Int → Prop) (b2 : Int) (n2 : Int) : Prop :=
  cnd (decide (n2 < 3)) (M_route_stepCost f.c layer n2 along fun y3 y4 => M_way1 (w64 ((w64 (m * 3)) + n2)) (w64 ((w64 (y3 * 1048576)) + 1)) b2 keys s_ fun z3 => again1 z3 (w64 (n2 + 1))) (Q b2)
def M_steps1_way (m : Int) (along : Int) (back : Bool) (f : RouteFinder) (layer : Int) (last : Int) (found : Int) (keys : (List Int)) (s_ : Int) (Q : Int → Prop) : Prop :=
  cnd (!back) (M_route_stepCost f.c layer last along fun y1 y2 => M_way1 (w64 ((w64 (m * 3)) + y2)) (w64 ((w64 (y1 * 1048576)) + 1)) found keys s_ fun z1 => Q z1) (cnd (along == 3) (M_way1 (w64 ((w64 (m * 3)) + last)) (w64 ((w64 (f.c.Via * 1048576)) + 1)) found keys s_ fun z2 => Q z2) (cnd (along == last) (lp (fun again (s : Int × Int) => M_steps1_way_L1 m along f layer keys s_ Q (fun b2 n2 => again (b2, n2)) s.1 s.2) (found, 0)) (Q found)))
theorem R_steps1_way (m : Int) (along : Int) (back : Bool) (f : RouteFinder) (layer : Int) (last : Int) (found : Int) (keys : (List Int)) (s_ : Int) (w0 : World) (F0 : Nat → Prop) (backg : Nat) (hb_back : ElemAt w0 (old w0 F0) (some ⟨backg, 0, none⟩) 0 [.bool back]) (f_g_BlockedA : Option Addr) (f_g_BlockedC : Nat) (hv_f_g_Blocked : View w0 (old w0 F0) f_g_BlockedA f_g_BlockedC f.g.Blocked) (f_noA : Option Addr) (f_noC : Nat) (hv_f_no : View w0 (old w0 F0) f_noA f_noC f.no) (fg : Nat) (hb_f : ElemAt w0 (old w0 F0) (some ⟨fg, 0, none⟩) 0 [iv f.g.W, iv f.g.H, iv f.g.Layers, .slice f_g_BlockedA f.g.Blocked.length f_g_BlockedC, iv f.c.Step, iv f.c.Via, iv f.c.Turn, iv f.c.Against, .slice f_noA f.no.length f_noC]) (fq : Nat) (hq_f : ElemAt w0 (old w0 F0) (some ⟨fq, 0, none⟩) 0 [(pn fg 0)]) (layerg : Nat) (hb_layer : ElemAt w0 (old w0 F0) (some ⟨layerg, 0, none⟩) 0 [iv layer]) (lastg : Nat) (hb_last : ElemAt w0 (old w0 F0) (some ⟨lastg, 0, none⟩) 0 [iv last]) (foundg : Nat) (keysA : Option Addr) (keysC : Nat) (hv_keys : View w0 (old w0 F0) keysA keysC keys) (keysg : Nat) (hb_keys : ElemAt w0 (old w0 F0) (some ⟨keysg, 0, none⟩) 0 [.slice keysA keys.length keysC]) (s_g : Nat) (hb_s_ : ElemAt w0 (old w0 F0) (some ⟨s_g, 0, none⟩) 0 [iv s_]) (seeg : Nat) (hb_see : ElemAt w0 (old w0 F0) (some ⟨seeg, 0, none⟩) 0 [.func (.func 124) #[] #[(pn foundg 0), (pn keysg 0), (pn s_g 0)]]) (hs0 : Sat w0 F0 [hbox foundg 3 [iv found]] w0) (Q : Int → Prop) (h : M_steps1_way m along back f layer last found keys s_ Q) :
  Ret Tryz.prog 139 #[iv m, iv along, (pn backg 0), (pn fq 0), (pn layerg 0), (pn lastg 0), (pn seeg 0)] w0 fun v w' => ∃ (found1 : Int), v = .tuple #[] ∧ Q found1 ∧ Sat w0 F0 [hbox foundg 3 [iv found1]] w' := by
 refine fn_enter func139 rfl ntmps139 rfl (fs := [(0, iv m), (1, iv along), (2, (pn backg 0)), (3, (pn fq 0)), (4, (pn layerg 0)), (5, (pn lastg 0)), (6, (pn seeg 0))]) rfl (fun a hf => ?_)
 have hs := hs0
 unfold M_steps1_way at h
 refine wp_block (X.l (S.v hf hs (.bool back) rfl (V.loadAt0 (off := 0) (Ag.args _ _ _) hb_back rfl rfl isAgg4 sizeOf4 rfl rfl) fun a hf => S.q hf hs (.bool (!back)) rfl fun a hf => S.q hf hs (.bool (!back)) rfl fun a hf => X.n ?_))
 refine C.cond hf (b := !back) rfl (fun hc => ?_) (fun hc => ?_)
 ·replace h := h.1 hc
  refine wp_seq (H.start (S := Sat w0 F0 [hbox foundg 3 [iv found]]) mo ?_)
  replace hs := hs.drew
  refine H.v hf hs ((pn fg 0)) 0 rfl rfl (by kernel_rfl) (V.loadAt0 (off := 0) (Ag.args _ _ _) hq_f rfl rfl isAgg114 sizeOf114 rfl rfl) fun a hf => H.v hf hs ((pn fg 0)) 1 rfl rfl (by kernel_rfl) (V.pure rfl) fun a hf => H.v hf hs ((pn fg 4)) 2 rfl rfl (by kernel_rfl) (V.fieldBox rfl rfl runUnderlying120 rfl sizeOf26 rfl rfl) fun a hf => H.v hf hs (.agg #[iv f.c.Step, iv f.c.Via, iv f.c.Turn, iv f.c.Against]) 3 rfl rfl (by kernel_rfl) (V.loadAt0 (off := 4) (Ag.args _ _ _) hb_f rfl rfl isAgg26 sizeOf26 rfl rfl) fun a hf => H.v hf hs (iv layer) 4 rfl rfl (by kernel_rfl) (V.loadAt0 (off := 0) (Ag.args _ _ _) hb_layer rfl rfl isAgg3 sizeOf3 rfl rfl) fun a hf => H.v hf hs (iv last) 5 rfl rfl (by kernel_rfl) (V.loadAt0 (off := 0) (Ag.args _ _ _) hb_last rfl rfl isAgg3 sizeOf3 rfl rfl) fun a hf => H.v hf hs (iv along) 6 rfl rfl (by kernel_rfl) (V.pure rfl) fun a hf => H.one (i := 7) rfl (by kernel_rfl) (S.call hf rfl rfl rfl (call_fn (vs := [.agg #[iv f.c.Step, iv f.c.Via, iv f.c.Turn, iv f.c.Against], iv layer, iv last, iv along]) rfl rfl rfl call59) (R_route_stepCost f.c layer last along _  _ h) (fun v a w' hf hr => ?_))
  obtain ⟨y1, y2, rfl, h2, hs2⟩ := hr
  replace h := h2; replace hs := hs.call hs2; clear h2 hs2
  refine X.n (⟨hs, (H.v hf hs (.tuple #[iv y1, iv y2]) 8 rfl rfl (by kernel_rfl) (V.pure rfl) fun a hf => H.v hf hs (iv y1) 9 rfl rfl (by kernel_rfl) (V.pure rfl) fun a hf => H.v hf hs (iv y2) 10 rfl rfl (by kernel_rfl) (V.pure rfl) fun a hf => H.v hf hs (iv y1) 11 rfl rfl (by kernel_rfl) (V.pure rfl) fun a hf => H.v hf hs (iv y2) 12 rfl rfl (by kernel_rfl) (V.pure rfl) fun a hf => H.done (by kernel_rfl) (X.then_ (R.list (S.v hf hs (.func (.func 124) #[] #[(pn foundg 0), (pn keysg 0), (pn s_g 0)]) rfl (V.loadAt0 (off := 0) (Ag.args _ _ _) hb_see rfl rfl isAgg107 sizeOf107 rfl rfl) fun a hf => S.q hf hs (iv m) rfl fun a hf => S.q hf hs (iv (w64 (m * 3))) rfl fun a hf => ?_))))⟩)
  refine S.q hf hs (iv y2) rfl fun a hf => S.q hf hs (iv (w64 ((w64 (m * 3)) + y2))) rfl fun a hf => S.q hf hs (iv y1) rfl fun a hf => S.q hf hs (iv (w64 (y1 * 1048576))) rfl fun a hf => S.q hf hs (iv (w64 ((w64 (y1 * 1048576)) + 1))) rfl fun a hf => ?_
  obtain ⟨F1, hsF, hback, hold, hrest⟩ := Sat.callOwns [hbox foundg 3 [iv found]] (σ := []) hs
  refine S.call hf rfl rfl rfl (call_run (args := #[iv (w64 ((w64 (m * 3)) + y2)), iv (w64 ((w64 (y1 * 1048576)) + 1)), (pn foundg 0), (pn keysg 0), (pn s_g 0)]) rfl rfl rfl call124 (by simp)) (R_way1 (w64 ((w64 (m * 3)) + y2)) (w64 ((w64 (y1 * 1048576)) + 1)) found keys s_ _ _ foundg keysA keysC (viewArgsF hs hold hv_keys) keysg (elemArgsF hs hold hb_keys) s_g (elemArgsF hs hold hb_s_) hsF _ h) (fun v a w' hf hr => ?_)
  obtain ⟨z1, rfl, h2, hs2⟩ := hr
  replace h := h2; replace hs := hback _ _ hs2; clear h2 hs2 hback hold hrest hsF
  refine R.nil (X.blk ?_)
  replace hs := hs.take 1
  exact L.end0 results139 hf ⟨z1, rfl, h, hs⟩
 ·replace h := h.2 hc
  refine X.l (S.q hf hs (iv along) rfl fun a hf => S.q hf hs (.bool (along == 3)) rfl fun a hf => S.q hf hs (.bool (along == 3)) rfl fun a hf => X.n ?_)
  refine C.cond hf (b := along == 3) rfl (fun hc => ?_) (fun hc => ?_)
  ·replace h := h.1 hc
   refine H.start (S := Sat w0 F0 []) mo ?_
   replace hs := hs.drew
   refine H.val hf hs.nil (v := .func (.func 124) #[] #[(pn foundg 0), (pn keysg 0), (pn s_g 0)]) (i := 0) rfl rfl rfl rfl (by kernel_rfl) (by kernel_rfl) (by kernel_rfl) (V.loadAt0 (off := 0) (Ag.args _ _ _) hb_see rfl rfl isAgg107 sizeOf107 rfl rfl) (fun a hf => H.val hf hs.nil (v := iv m) (i := 1) rfl rfl rfl rfl (by kernel_rfl) (by kernel_rfl) (by kernel_rfl) (V.pure rfl) (fun a hf => H.val hf hs.nil (v := iv (w64 (m * 3))) (i := 2) rfl rfl rfl rfl (by kernel_rfl) (by kernel_rfl) (by kernel_rfl) (V.pure rfl) (fun a hf => H.val hf hs.nil (v := iv last) (i := 3) rfl rfl rfl rfl (by kernel_rfl) (by kernel_rfl) (by kernel_rfl) (V.loadAt0 (off := 0) (Ag.args _ _ _) hb_last rfl rfl isAgg3 sizeOf3 rfl rfl) (fun a hf => H.val hf hs.nil (v := iv (w64 ((w64 (m * 3)) + last))) (i := 4) rfl rfl rfl rfl (by kernel_rfl) (by kernel_rfl) (by kernel_rfl) (V.pure rfl) (fun a hf => H.val hf hs.nil (v := (pn fg 0)) (i := 5) rfl rfl rfl rfl (by kernel_rfl) (by kernel_rfl) (by kernel_rfl) (V.loadAt0 (off := 0) (Ag.args _ _ _) hq_f rfl rfl isAgg114 sizeOf114 rfl rfl) (fun a hf => H.val hf hs.nil (v := (pn fg 0)) (i := 6) rfl rfl rfl rfl (by kernel_rfl) (by kernel_rfl) (by kernel_rfl) (V.pure rfl) (fun a hf => H.val hf hs.nil (v := (pn fg 4)) (i := 7) rfl rfl rfl rfl (by kernel_rfl) (by kernel_rfl) (by kernel_rfl) (V.fieldBox rfl rfl runUnderlying120 rfl sizeOf26 rfl rfl) (fun a hf => H.val hf hs.nil (v := (pn fg 5)) (i := 8) rfl rfl rfl rfl (by kernel_rfl) (by kernel_rfl) (by kernel_rfl) (V.fieldBox rfl rfl runUnderlying26 rfl sizeOf3 rfl rfl) (fun a hf => H.val hf hs.nil (v := iv f.c.Via) (i := 9) rfl rfl rfl rfl (by kernel_rfl) (by kernel_rfl) (by kernel_rfl) (V.loadAt0 (off := 5) (Ag.args _ _ _) hb_f rfl rfl isAgg3 sizeOf3 rfl rfl) (fun a hf => H.val hf hs.nil (v := iv (w64 (f.c.Via * 1048576))) (i := 10) rfl rfl rfl rfl (by kernel_rfl) (by kernel_rfl) (by kernel_rfl) (V.pure rfl) (fun a hf => H.val hf hs.nil (v := iv (w64 ((w64 (f.c.Via * 1048576)) + 1))) (i := 11) rfl rfl rfl rfl (by kernel_rfl) (by kernel_rfl) (by kernel_rfl) (V.pure rfl) (fun a hf => ?_))))))))))))
   refine H.one (i := 12) rfl (by kernel_rfl) ?_
   obtain ⟨F1, hsF, hback, hold, hrest⟩ := Sat.callOwns [hbox foundg 3 [iv found]] (σ := []) hs
   refine S.call hf rfl rfl rfl (call_run (args := #[iv (w64 ((w64 (m * 3)) + last)), iv (w64 ((w64 (f.c.Via * 1048576)) + 1)), (pn foundg 0), (pn keysg 0), (pn s_g 0)]) rfl rfl rfl call124 (by simp)) (R_way1 (w64 ((w64 (m * 3)) + last)) (w64 ((w64 (f.c.Via * 1048576)) + 1)) found keys s_ _ _ foundg keysA keysC (viewArgsF hs hold hv_keys) keysg (elemArgsF hs hold hb_keys) s_g (elemArgsF hs hold hb_s_) hsF _ h) (fun v a w' hf hr => ?_)
   obtain ⟨z2, rfl, h2, hs2⟩ := hr
   replace h := h2; replace hs := hback _ _ hs2; clear h2 hs2 hback hold hrest hsF
   refine X.n (⟨hs.nil, (H.done (by kernel_rfl) (X.blk ?_))⟩)
   replace hs := hs.take 1
   exact L.end0 results139 hf ⟨z2, rfl, h, hs⟩
  ·replace h := h.2 hc
   refine X.l (S.q hf hs (iv along) rfl fun a hf => S.v hf hs (iv last) rfl (V.loadAt0 (off := 0) (Ag.args _ _ _) hb_last rfl rfl isAgg3 sizeOf3 rfl rfl) fun a hf => S.q hf hs (.bool (along == last)) rfl fun a hf => S.q hf hs (.bool (along == last)) rfl fun a hf => X.n ?_)
   refine C.cond hf (b := along == last) rfl (fun hc => ?_) (fun hc => ?_)
   ·replace h := h.1 hc
    refine X.l (S.q hf hs (iv 0) rfl fun a hf => X.n (wp_block ?_))
    obtain ⟨kk, h⟩ := h
    refine C.loop (fun kk a w => ∃ (b2 : Int) (n2 : Int), iterF (fun again (s : Int × Int) => M_steps1_way_L1 m along f layer keys s_ Q (fun b2 n2 => again (b2, n2)) s.1 s.2) kk (b2, n2) ∧ FrOk 81 [(0, iv m), (1, iv along), (3, (pn fq 0)), (4, (pn layerg 0)), (6, (pn seeg 0)), (57, iv n2)] a ∧ Sat w0 F0 [hbox foundg 3 [iv b2]] w) kk ⟨found, 0, h, ((((((hf.nil.cons (hf.get 57 _ rfl)).cons (hf.get 6 _ rfl)).cons (hf.get 4 _ rfl)).cons (hf.get 3 _ rfl)).cons (hf.get 1 _ rfl)).cons (hf.get 0 _ rfl)), hs⟩ (fun a w ⟨_, _, h, _, _⟩ => h) ?_
    clear h hf hs
    rintro kk a w ⟨b2, n2, h, hf, hs⟩
    obtain ⟨again1, hagain1⟩ : ∃ X : Int → Int → Prop, X = (fun b2 n2 => iterF (fun again (s : Int × Int) => M_steps1_way_L1 m along f layer keys s_ Q (fun b2 n2 => again (b2, n2)) s.1 s.2) kk (b2, n2)) := ⟨_, rfl⟩
    replace h : M_steps1_way_L1 m along f layer keys s_ Q again1 b2 n2 := by rw [hagain1]; exact h
    unfold M_steps1_way_L1 at h
    refine X.l (S.q hf hs (.bool (decide (n2 < 3))) rfl fun a hf => X.n (wp_seq ?_))
    refine C.cond hf (b := decide (n2 < 3)) rfl (fun hc => ?_) (fun hc => ?_)
    ·replace h := h.1 hc
     refine wp_skip (X.then_ (wp_seq (wp_block (X.l (S.q hf hs (iv n2) rfl fun a hf => S.q hf hs (iv n2) rfl fun a hf => X.n (wp_seq (H.start (S := Sat w0 F0 [hbox foundg 3 [iv b2]]) mo ?_)))))))
     replace hs := hs.drew
     refine H.v hf hs ((pn fg 0)) 0 rfl rfl (by kernel_rfl) (V.loadAt0 (off := 0) (Ag.args _ _ _) hq_f rfl rfl isAgg114 sizeOf114 rfl rfl) fun a hf => H.v hf hs ((pn fg 0)) 1 rfl rfl (by kernel_rfl) (V.pure rfl) fun a hf => H.v hf hs ((pn fg 4)) 2 rfl rfl (by kernel_rfl) (V.fieldBox rfl rfl runUnderlying120 rfl sizeOf26 rfl rfl) fun a hf => H.v hf hs (.agg #[iv f.c.Step, iv f.c.Via, iv f.c.Turn, iv f.c.Against]) 3 rfl rfl (by kernel_rfl) (V.loadAt0 (off := 4) (Ag.args _ _ _) hb_f rfl rfl isAgg26 sizeOf26 rfl rfl) fun a hf => H.v hf hs (iv layer) 4 rfl rfl (by kernel_rfl) (V.loadAt0 (off := 0) (Ag.args _ _ _) hb_layer rfl rfl isAgg3 sizeOf3 rfl rfl) fun a hf => H.v hf hs (iv n2) 5 rfl rfl (by kernel_rfl) (V.pure rfl) fun a hf => H.v hf hs (iv along) 6 rfl rfl (by kernel_rfl) (V.pure rfl) fun a hf => H.one (i := 7) rfl (by kernel_rfl) (S.call hf rfl rfl rfl (call_fn (vs := [.agg #[iv f.c.Step, iv f.c.Via, iv f.c.Turn, iv f.c.Against], iv layer, iv n2, iv along]) rfl rfl rfl call59) (R_route_stepCost f.c layer n2 along _  _ h) (fun v a w' hf hr => ?_))
     obtain ⟨y3, y4, rfl, h2, hs2⟩ := hr
     replace h := h2; replace hs := hs.call hs2; clear h2 hs2
     refine X.n (⟨hs, (H.v hf hs (.tuple #[iv y3, iv y4]) 8 rfl rfl (by kernel_rfl) (V.pure rfl) fun a hf => H.v hf hs (iv y3) 9 rfl rfl (by kernel_rfl) (V.pure rfl) fun a hf => H.v hf hs (iv y4) 10 rfl rfl (by kernel_rfl) (V.pure rfl) fun a hf => H.v hf hs (iv y3) 11 rfl rfl (by kernel_rfl) (V.pure rfl) fun a hf => H.v hf hs (iv y4) 12 rfl rfl (by kernel_rfl) (V.pure rfl) fun a hf => H.done (by kernel_rfl) (X.then_ (R.list (S.v hf hs (.func (.func 124) #[] #[(pn foundg 0), (pn keysg 0), (pn s_g 0)]) rfl (V.loadAt0 (off := 0) (Ag.args _ _ _) hb_see rfl rfl isAgg107 sizeOf107 rfl rfl) fun a hf => S.q hf hs (iv m) rfl fun a hf => S.q hf hs (iv (w64 (m * 3))) rfl fun a hf => ?_))))⟩)
     refine S.q hf hs (iv n2) rfl fun a hf => S.q hf hs (iv (w64 ((w64 (m * 3)) + n2))) rfl fun a hf => S.q hf hs (iv y3) rfl fun a hf => S.q hf hs (iv (w64 (y3 * 1048576))) rfl fun a hf => S.q hf hs (iv (w64 ((w64 (y3 * 1048576)) + 1))) rfl fun a hf => ?_
     obtain ⟨F1, hsF, hback, hold, hrest⟩ := Sat.callOwns [hbox foundg 3 [iv b2]] (σ := []) hs
     refine S.call hf rfl rfl rfl (call_run (args := #[iv (w64 ((w64 (m * 3)) + n2)), iv (w64 ((w64 (y3 * 1048576)) + 1)), (pn foundg 0), (pn keysg 0), (pn s_g 0)]) rfl rfl rfl call124 (by simp)) (R_way1 (w64 ((w64 (m * 3)) + n2)) (w64 ((w64 (y3 * 1048576)) + 1)) b2 keys s_ _ _ foundg keysA keysC (viewArgsF hs hold hv_keys) keysg (elemArgsF hs hold hb_keys) s_g (elemArgsF hs hold hb_s_) hsF _ h) (fun v a w' hf hr => ?_)
     obtain ⟨z3, rfl, h2, hs2⟩ := hr
     replace h := h2; replace hs := hback _ _ hs2; clear h2 hs2 hback hold hrest hsF
     refine R.nil (X.blk (X.then_ (R.list (S.q hf hs (iv (w64 (n2 + 1))) rfl fun a hf => S.q hf hs (iv (w64 (n2 + 1))) rfl fun a hf => X.n ?_))))
     exact ⟨z3, (w64 (n2 + 1)), (by rw [hagain1] at h; exact h), ((((((hf.nil.cons (hf.get 57 _ rfl)).cons (hf.get 6 _ rfl)).cons (hf.get 4 _ rfl)).cons (hf.get 3 _ rfl)).cons (hf.get 1 _ rfl)).cons (hf.get 0 _ rfl)), hs⟩
    ·replace h := h.2 hc
     refine wp_exit (X.then_exit (X.then_exit (X.blk_exit (X.blk ?_))))
     replace hs := hs.take 1
     exact L.end0 results139 hf ⟨b2, rfl, h, hs⟩
   ·replace h := h.2 hc
    refine wp_skip (X.blk ?_)
    replace hs := hs.take 1
    exact L.end0 results139 hf ⟨found, rfl, h, hs⟩
def M_near_way_k2 (n : Int) (back : Bool) (f2 : RouteFinder) (layer : Int) (last : Int) (keys : (List Int)) (s_ : Int) (b2 : Int) (n2 : Int) (again1 : Int → Int → Prop) (x1 : NearRow) (c1 : Bool) : Prop :=
  cnd c1 (M_steps1_way (w64 (n + x1.by_)) x1.along back f2 layer last b2 keys s_ fun z1 => again1 z1 (w64 (n2 + 1))) (again1 b2 (w64 (n2 + 1)))
def M_near_way_L1 (f : RouteFinder) (n : Int) (back : Bool) (f2 : RouteFinder) (layer : Int) (last : Int) (keys : (List Int)) (s_ : Int) (Q : Int → Prop) (y1 : Cell) (again1 : Int → Int → Prop) (b2 : Int) (n2 : Int) : Prop :=
  cnd (decide (n2 < 6)) (idx ([(⟨w64 ((w64 (-f.g.W)) * f.g.H), 3, decide (y1.Layer > 0)⟩ : NearRow), (⟨w64 (-f.g.W), 2, decide (y1.Y > 0)⟩ : NearRow), (⟨(-1), 1, decide (y1.X > 0)⟩ : NearRow), (⟨1, 1, decide (y1.X < w64 (f.g.W - 1))⟩ : NearRow), (⟨f.g.W, 2, decide (y1.Y < w64 (f.g.H - 1))⟩ : NearRow), (⟨w64 (f.g.W * f.g.H), 3, decide (y1.Layer < w64 (f.g.Layers - 1))⟩ : NearRow)] : List NearRow) n2 fun x1 => cnd x1.is (idx f.no (w64 (n + x1.by_)) fun x2 => M_near_way_k2 n back f2 layer last keys s_ b2 n2 again1 x1 (!x2)) (M_near_way_k2 n back f2 layer last keys s_ b2 n2 again1 x1 false)) (Q b2)
def M_near_way (f : RouteFinder) (n : Int) (back : Bool) (f2 : RouteFinder) (layer : Int) (last : Int) (found : Int) (keys : (List Int)) (s_ : Int) (Q : Int → Prop) : Prop :=
  M_route_cell f.g n fun y1 => lp (fun again (s : Int × Int) => M_near_way_L1 f n back f2 layer last keys s_ Q y1 (fun b2 n2 => again (b2, n2)) s.1 s.2) (found, 0)
theorem R_near_way (f : RouteFinder) (n : Int) (back : Bool) (f2 : RouteFinder) (layer : Int) (last : Int) (found : Int) (keys : (List Int)) (s_ : Int) (w0 : World) (F0 : Nat → Prop) (f_g_BlockedA : Option Addr) (f_g_BlockedC : Nat) (hv_f_g_Blocked : View w0 (old w0 F0) f_g_BlockedA f_g_BlockedC f.g.Blocked) (f_noA : Option Addr) (f_noC : Nat) (hv_f_no : View w0 (old w0 F0) f_noA f_noC f.no) (fg : Nat) (hb_f : ElemAt w0 (old w0 F0) (some ⟨fg, 0, none⟩) 0 [iv f.g.W, iv f.g.H, iv f.g.Layers, .slice f_g_BlockedA f.g.Blocked.length f_g_BlockedC, iv f.c.Step, iv f.c.Via, iv f.c.Turn, iv f.c.Against, .slice f_noA f.no.length f_noC]) (backg : Nat) (hb_back : ElemAt w0 (old w0 F0) (some ⟨backg, 0, none⟩) 0 [.bool back]) (f2_g_BlockedA : Option Addr) (f2_g_BlockedC : Nat) (hv_f2_g_Blocked : View w0 (old w0 F0) f2_g_BlockedA f2_g_BlockedC f2.g.Blocked) (f2_noA : Option Addr) (f2_noC : Nat) (hv_f2_no : View w0 (old w0 F0) f2_noA f2_noC f2.no) (f2g : Nat) (hb_f2 : ElemAt w0 (old w0 F0) (some ⟨f2g, 0, none⟩) 0 [iv f2.g.W, iv f2.g.H, iv f2.g.Layers, .slice f2_g_BlockedA f2.g.Blocked.length f2_g_BlockedC, iv f2.c.Step, iv f2.c.Via, iv f2.c.Turn, iv f2.c.Against, .slice f2_noA f2.no.length f2_noC]) (f2q : Nat) (hq_f2 : ElemAt w0 (old w0 F0) (some ⟨f2q, 0, none⟩) 0 [(pn f2g 0)]) (layerg : Nat) (hb_layer : ElemAt w0 (old w0 F0) (some ⟨layerg, 0, none⟩) 0 [iv layer]) (lastg : Nat) (hb_last : ElemAt w0 (old w0 F0) (some ⟨lastg, 0, none⟩) 0 [iv last]) (foundg : Nat) (keysA : Option Addr) (keysC : Nat) (hv_keys : View w0 (old w0 F0) keysA keysC keys) (keysg : Nat) (hb_keys : ElemAt w0 (old w0 F0) (some ⟨keysg, 0, none⟩) 0 [.slice keysA keys.length keysC]) (s_g : Nat) (hb_s_ : ElemAt w0 (old w0 F0) (some ⟨s_g, 0, none⟩) 0 [iv s_]) (see2g : Nat) (hb_see2 : ElemAt w0 (old w0 F0) (some ⟨see2g, 0, none⟩) 0 [.func (.func 124) #[] #[(pn foundg 0), (pn keysg 0), (pn s_g 0)]]) (hs0 : Sat w0 F0 [hbox foundg 3 [iv found]] w0) (Q : Int → Prop) (h : M_near_way f n back f2 layer last found keys s_ Q) :
  Ret Tryz.prog 138 #[(pn fg 0), iv n, .func (.func 139) #[] #[(pn backg 0), (pn f2q 0), (pn layerg 0), (pn lastg 0), (pn see2g 0)]] w0 fun v w' => ∃ (found1 : Int), v = .tuple #[] ∧ Q found1 ∧ Sat w0 F0 [hbox foundg 3 [iv found1]] w' := by
 refine fn_enter func138 rfl ntmps138 rfl (fs := [(0, (pn fg 0)), (1, iv n), (2, .func (.func 139) #[] #[(pn backg 0), (pn f2q 0), (pn layerg 0), (pn lastg 0), (pn see2g 0)])]) rfl (fun a hf => ?_)
 have hs := hs0
 unfold M_near_way at h
 refine X.l (S.q hf hs ((pn fg 0)) rfl fun a hf => S.q hf hs ((pn fg 0)) rfl fun a hf => S.v hf hs ((pn fg 0)) rfl (V.fieldBox rfl rfl runUnderlying120 rfl sizeOf24 rfl rfl) fun a hf => S.v hf hs (.agg #[iv f.g.W, iv f.g.H, iv f.g.Layers, .slice f_g_BlockedA f.g.Blocked.length f_g_BlockedC]) rfl (V.loadAt0 (off := 0) (Ag.args _ _ _) hb_f rfl rfl isAgg24 sizeOf24 rfl rfl) fun a hf => S.q hf hs (iv n) rfl fun a hf => S.call hf rfl rfl rfl (call_fn (vs := [.agg #[iv f.g.W, iv f.g.H, iv f.g.Layers, .slice f_g_BlockedA f.g.Blocked.length f_g_BlockedC], iv n]) rfl rfl rfl call33) (R_route_cell f.g n _ f_g_BlockedA f_g_BlockedC ((Ag.args _ _ _).view hv_f_g_Blocked hs) _ h) (fun v a w' hf hr => ?_))
 obtain ⟨y1, rfl, h2, hs2⟩ := hr
 replace h := h2; replace hs := hs.call hs2; clear h2 hs2
 refine S.alloc hf hs rfl rfl rfl [iv 0, iv 0, iv 0] rfl zeroValue55 rfl (fun g1 a w hf hs => S.storeBox 0 hf hs rfl rfl [iv y1.X, iv y1.Y, iv y1.Layer] [iv y1.X, iv y1.Y, iv y1.Layer] rfl rfl rfl rfl rfl sizeOf55 rfl rfl rfl rfl (fun a w hf hs => X.n (wp_seq (R.draw mo (by kernel_rfl) hs (D.p hf ((pn fg 0)) rfl rfl fun a hf => D.p hf ((pn fg 0)) rfl rfl fun a hf => D.v hf ((pn fg 0)) rfl (V.fieldBox rfl rfl runUnderlying120 rfl sizeOf24 rfl rfl) fun a hf => D.v hf ((pn fg 0)) rfl (V.fieldBox rfl rfl runUnderlying24 rfl sizeOf3 rfl rfl) fun a hf => D.v hf (iv f.g.W) rfl (V.loadAt0 (off := 0) (Ag.args _ _ _) hb_f rfl rfl isAgg3 sizeOf3 rfl rfl) fun a hf => D.p hf (iv (w64 (-f.g.W))) rfl rfl fun a hf => D.p hf ((pn fg 0)) rfl rfl fun a hf => D.p hf ((pn fg 0)) rfl rfl fun a hf => ?_)))))
 refine D.v hf ((pn fg 0)) rfl (V.fieldBox rfl rfl runUnderlying120 rfl sizeOf24 rfl rfl) fun a hf => D.v hf ((pn fg 1)) rfl (V.fieldBox rfl rfl runUnderlying24 rfl sizeOf3 rfl rfl) fun a hf => D.v hf (iv f.g.H) rfl (V.loadAt0 (off := 1) (Ag.args _ _ _) hb_f rfl rfl isAgg3 sizeOf3 rfl rfl) fun a hf => D.p hf (iv (w64 ((w64 (-f.g.W)) * f.g.H))) rfl rfl fun a hf => D.v hf ((pn g1 2)) rfl (V.fieldBox rfl rfl runUnderlying55 rfl sizeOf3 rfl rfl) fun a hf => D.v hf (iv y1.Layer) rfl (V.loadBox 0 rfl rfl rfl isAgg3 sizeOf3 rfl rfl) fun a hf => D.p hf (.bool (decide (y1.Layer > 0))) rfl rfl fun a hf => D.v hf (.agg #[iv (w64 ((w64 (-f.g.W)) * f.g.H)), iv 3, .bool (decide (y1.Layer > 0))]) rfl (V.build (places := #[(0, 1), (1, 1), (2, 1)]) rfl zeroValue205 runUnderlying205 (by intro w; simp [sizeOf3, sizeOf4]) rfl rfl) fun a hf => D.p hf ((pn fg 0)) rfl rfl fun a hf => D.p hf ((pn fg 0)) rfl rfl fun a hf => D.v hf ((pn fg 0)) rfl (V.fieldBox rfl rfl runUnderlying120 rfl sizeOf24 rfl rfl) fun a hf => D.v hf ((pn fg 0)) rfl (V.fieldBox rfl rfl runUnderlying24 rfl sizeOf3 rfl rfl) fun a hf => ?_
 refine D.v hf (iv f.g.W) rfl (V.loadAt0 (off := 0) (Ag.args _ _ _) hb_f rfl rfl isAgg3 sizeOf3 rfl rfl) fun a hf => D.p hf (iv (w64 (-f.g.W))) rfl rfl fun a hf => D.v hf ((pn g1 1)) rfl (V.fieldBox rfl rfl runUnderlying55 rfl sizeOf3 rfl rfl) fun a hf => D.v hf (iv y1.Y) rfl (V.loadBox 0 rfl rfl rfl isAgg3 sizeOf3 rfl rfl) fun a hf => D.p hf (.bool (decide (y1.Y > 0))) rfl rfl fun a hf => D.v hf (.agg #[iv (w64 (-f.g.W)), iv 2, .bool (decide (y1.Y > 0))]) rfl (V.build (places := #[(0, 1), (1, 1), (2, 1)]) rfl zeroValue205 runUnderlying205 (by intro w; simp [sizeOf3, sizeOf4]) rfl rfl) fun a hf => D.v hf ((pn g1 0)) rfl (V.fieldBox rfl rfl runUnderlying55 rfl sizeOf3 rfl rfl) fun a hf => D.v hf (iv y1.X) rfl (V.loadBox 0 rfl rfl rfl isAgg3 sizeOf3 rfl rfl) fun a hf => D.p hf (.bool (decide (y1.X > 0))) rfl rfl fun a hf => D.v hf (.agg #[iv (-1), iv 1, .bool (decide (y1.X > 0))]) rfl (V.build (places := #[(0, 1), (1, 1), (2, 1)]) rfl zeroValue205 runUnderlying205 (by intro w; simp [sizeOf3, sizeOf4]) rfl rfl) fun a hf => D.v hf ((pn g1 0)) rfl (V.fieldBox rfl rfl runUnderlying55 rfl sizeOf3 rfl rfl) fun a hf => D.v hf (iv y1.X) rfl (V.loadBox 0 rfl rfl rfl isAgg3 sizeOf3 rfl rfl) fun a hf => ?_
 refine D.p hf ((pn fg 0)) rfl rfl fun a hf => D.p hf ((pn fg 0)) rfl rfl fun a hf => D.v hf ((pn fg 0)) rfl (V.fieldBox rfl rfl runUnderlying120 rfl sizeOf24 rfl rfl) fun a hf => D.v hf ((pn fg 0)) rfl (V.fieldBox rfl rfl runUnderlying24 rfl sizeOf3 rfl rfl) fun a hf => D.v hf (iv f.g.W) rfl (V.loadAt0 (off := 0) (Ag.args _ _ _) hb_f rfl rfl isAgg3 sizeOf3 rfl rfl) fun a hf => D.p hf (iv (w64 (f.g.W - 1))) rfl rfl fun a hf => D.p hf (.bool (decide (y1.X < w64 (f.g.W - 1)))) rfl rfl fun a hf => D.v hf (.agg #[iv 1, iv 1, .bool (decide (y1.X < w64 (f.g.W - 1)))]) rfl (V.build (places := #[(0, 1), (1, 1), (2, 1)]) rfl zeroValue205 runUnderlying205 (by intro w; simp [sizeOf3, sizeOf4]) rfl rfl) fun a hf => D.p hf ((pn fg 0)) rfl rfl fun a hf => D.p hf ((pn fg 0)) rfl rfl fun a hf => D.v hf ((pn fg 0)) rfl (V.fieldBox rfl rfl runUnderlying120 rfl sizeOf24 rfl rfl) fun a hf => D.v hf ((pn fg 0)) rfl (V.fieldBox rfl rfl runUnderlying24 rfl sizeOf3 rfl rfl) fun a hf => ?_
 refine D.v hf (iv f.g.W) rfl (V.loadAt0 (off := 0) (Ag.args _ _ _) hb_f rfl rfl isAgg3 sizeOf3 rfl rfl) fun a hf => D.v hf ((pn g1 1)) rfl (V.fieldBox rfl rfl runUnderlying55 rfl sizeOf3 rfl rfl) fun a hf => D.v hf (iv y1.Y) rfl (V.loadBox 0 rfl rfl rfl isAgg3 sizeOf3 rfl rfl) fun a hf => D.p hf ((pn fg 0)) rfl rfl fun a hf => D.p hf ((pn fg 0)) rfl rfl fun a hf => D.v hf ((pn fg 0)) rfl (V.fieldBox rfl rfl runUnderlying120 rfl sizeOf24 rfl rfl) fun a hf => D.v hf ((pn fg 1)) rfl (V.fieldBox rfl rfl runUnderlying24 rfl sizeOf3 rfl rfl) fun a hf => D.v hf (iv f.g.H) rfl (V.loadAt0 (off := 1) (Ag.args _ _ _) hb_f rfl rfl isAgg3 sizeOf3 rfl rfl) fun a hf => D.p hf (iv (w64 (f.g.H - 1))) rfl rfl fun a hf => D.p hf (.bool (decide (y1.Y < w64 (f.g.H - 1)))) rfl rfl fun a hf => D.v hf (.agg #[iv f.g.W, iv 2, .bool (decide (y1.Y < w64 (f.g.H - 1)))]) rfl (V.build (places := #[(0, 1), (1, 1), (2, 1)]) rfl zeroValue205 runUnderlying205 (by intro w; simp [sizeOf3, sizeOf4]) rfl rfl) fun a hf => D.p hf ((pn fg 0)) rfl rfl fun a hf => ?_
 refine D.p hf ((pn fg 0)) rfl rfl fun a hf => D.v hf ((pn fg 0)) rfl (V.fieldBox rfl rfl runUnderlying120 rfl sizeOf24 rfl rfl) fun a hf => D.v hf ((pn fg 0)) rfl (V.fieldBox rfl rfl runUnderlying24 rfl sizeOf3 rfl rfl) fun a hf => D.v hf (iv f.g.W) rfl (V.loadAt0 (off := 0) (Ag.args _ _ _) hb_f rfl rfl isAgg3 sizeOf3 rfl rfl) fun a hf => D.p hf ((pn fg 0)) rfl rfl fun a hf => D.p hf ((pn fg 0)) rfl rfl fun a hf => D.v hf ((pn fg 0)) rfl (V.fieldBox rfl rfl runUnderlying120 rfl sizeOf24 rfl rfl) fun a hf => D.v hf ((pn fg 1)) rfl (V.fieldBox rfl rfl runUnderlying24 rfl sizeOf3 rfl rfl) fun a hf => D.v hf (iv f.g.H) rfl (V.loadAt0 (off := 1) (Ag.args _ _ _) hb_f rfl rfl isAgg3 sizeOf3 rfl rfl) fun a hf => D.p hf (iv (w64 (f.g.W * f.g.H))) rfl rfl fun a hf => D.v hf ((pn g1 2)) rfl (V.fieldBox rfl rfl runUnderlying55 rfl sizeOf3 rfl rfl) fun a hf => D.v hf (iv y1.Layer) rfl (V.loadBox 0 rfl rfl rfl isAgg3 sizeOf3 rfl rfl) fun a hf => ?_
 refine D.p hf ((pn fg 0)) rfl rfl fun a hf => D.p hf ((pn fg 0)) rfl rfl fun a hf => D.v hf ((pn fg 0)) rfl (V.fieldBox rfl rfl runUnderlying120 rfl sizeOf24 rfl rfl) fun a hf => D.v hf ((pn fg 2)) rfl (V.fieldBox rfl rfl runUnderlying24 rfl sizeOf3 rfl rfl) fun a hf => D.v hf (iv f.g.Layers) rfl (V.loadAt0 (off := 2) (Ag.args _ _ _) hb_f rfl rfl isAgg3 sizeOf3 rfl rfl) fun a hf => D.p hf (iv (w64 (f.g.Layers - 1))) rfl rfl fun a hf => D.p hf (.bool (decide (y1.Layer < w64 (f.g.Layers - 1)))) rfl rfl fun a hf => D.v hf (.agg #[iv (w64 (f.g.W * f.g.H)), iv 3, .bool (decide (y1.Layer < w64 (f.g.Layers - 1)))]) rfl (V.build (places := #[(0, 1), (1, 1), (2, 1)]) rfl zeroValue205 runUnderlying205 (by intro w; simp [sizeOf3, sizeOf4]) rfl rfl) fun a hf => D.v hf (.agg #[iv (w64 ((w64 (-f.g.W)) * f.g.H)), iv 3, .bool (decide (y1.Layer > 0)), iv (w64 (-f.g.W)), iv 2, .bool (decide (y1.Y > 0)), iv (-1), iv 1, .bool (decide (y1.X > 0)), iv 1, iv 1, .bool (decide (y1.X < w64 (f.g.W - 1))), iv f.g.W, iv 2, .bool (decide (y1.Y < w64 (f.g.H - 1))), iv (w64 (f.g.W * f.g.H)), iv 3, .bool (decide (y1.Layer < w64 (f.g.Layers - 1)))]) rfl (V.buildArr rfl zeroValue206 runUnderlying206 sizeOf205 rfl (by kernel_rfl)) fun a hf => D.p hf (iv 0) rfl rfl fun a hf => D.done (fun w hs => X.then_ (wp_block ?_))
 replace hs := hs.front 1 rfl
 replace hs := hs.take 1
 obtain ⟨kk, h⟩ := h
 refine C.loop (fun kk a w => ∃ (b2 : Int) (n2 : Int), iterF (fun again (s : Int × Int) => M_near_way_L1 f n back f2 layer last keys s_ Q y1 (fun b2 n2 => again (b2, n2)) s.1 s.2) kk (b2, n2) ∧ FrOk 119 [(0, (pn fg 0)), (1, iv n), (2, .func (.func 139) #[] #[(pn backg 0), (pn f2q 0), (pn layerg 0), (pn lastg 0), (pn see2g 0)]), (91, .agg #[iv (w64 ((w64 (-f.g.W)) * f.g.H)), iv 3, .bool (decide (y1.Layer > 0)), iv (w64 (-f.g.W)), iv 2, .bool (decide (y1.Y > 0)), iv (-1), iv 1, .bool (decide (y1.X > 0)), iv 1, iv 1, .bool (decide (y1.X < w64 (f.g.W - 1))), iv f.g.W, iv 2, .bool (decide (y1.Y < w64 (f.g.H - 1))), iv (w64 (f.g.W * f.g.H)), iv 3, .bool (decide (y1.Layer < w64 (f.g.Layers - 1)))]), (92, iv n2)] a ∧ Sat w0 F0 [hbox foundg 3 [iv b2]] w) kk ⟨found, 0, h, (((((hf.nil.cons (hf.get 92 _ rfl)).cons (hf.get 91 _ rfl)).cons (hf.get 2 _ rfl)).cons (hf.get 1 _ rfl)).cons (hf.get 0 _ rfl)), hs⟩ (fun a w ⟨_, _, h, _, _⟩ => h) ?_
 clear h hf hs
 rintro kk a w ⟨b2, n2, h, hf, hs⟩
 obtain ⟨again1, hagain1⟩ : ∃ X : Int → Int → Prop, X = (fun b2 n2 => iterF (fun again (s : Int × Int) => M_near_way_L1 f n back f2 layer last keys s_ Q y1 (fun b2 n2 => again (b2, n2)) s.1 s.2) kk (b2, n2)) := ⟨_, rfl⟩
 replace h : M_near_way_L1 f n back f2 layer last keys s_ Q y1 again1 b2 n2 := by rw [hagain1]; exact h
 unfold M_near_way_L1 at h
 refine X.l (S.q hf hs (.bool (decide (n2 < 6))) rfl fun a hf => X.n (wp_seq ?_))
 refine C.cond hf (b := decide (n2 < 6)) rfl (fun hc => ?_) (fun hc => ?_)
 ·replace h := h.1 hc
  refine wp_skip (X.then_ (wp_seq (wp_block (X.l ?_))))
  obtain ⟨h0x1, x1, hx1, h⟩ := h
  refine S.v hf hs (.agg #[iv x1.by_, iv x1.along, .bool x1.is]) rfl (V.indexAgg rfl rfl rfl runUnderlying206 sizeOf205 (tab_lt h0x1 hx1 rfl) (tab_part hx1 (by kernel_rfl) isAgg205 sizeOf205 rfl rfl)) fun a hf => S.alloc hf hs rfl rfl rfl [iv 0, iv 0, .bool false] rfl zeroValue205 rfl (fun g2 a w hf hs => S.storeBox 0 hf hs rfl rfl [iv x1.by_, iv x1.along, .bool x1.is] [iv x1.by_, iv x1.along, .bool x1.is] rfl rfl rfl rfl rfl sizeOf205 rfl rfl rfl rfl (fun a w hf hs => X.n (wp_seq ?_)))
  refine C.cut (J := fun a w => ∃ (c1 : Bool), M_near_way_k2 n back f2 layer last keys s_ b2 n2 again1 x1 c1 ∧ FrOk 119 [(0, (pn fg 0)), (1, iv n), (2, .func (.func 139) #[] #[(pn backg 0), (pn f2q 0), (pn layerg 0), (pn lastg 0), (pn see2g 0)]), (8, (pn g2 0)), (91, .agg #[iv (w64 ((w64 (-f.g.W)) * f.g.H)), iv 3, .bool (decide (y1.Layer > 0)), iv (w64 (-f.g.W)), iv 2, .bool (decide (y1.Y > 0)), iv (-1), iv 1, .bool (decide (y1.X > 0)), iv 1, iv 1, .bool (decide (y1.X < w64 (f.g.W - 1))), iv f.g.W, iv 2, .bool (decide (y1.Y < w64 (f.g.H - 1))), iv (w64 (f.g.W * f.g.H)), iv 3, .bool (decide (y1.Layer < w64 (f.g.Layers - 1)))]), (92, iv n2), (109, .bool c1)] a ∧ Sat w0 F0 [hbox g2 205 [iv x1.by_, iv x1.along, .bool x1.is], hbox foundg 3 [iv b2]] w) ?_ ?_
  ·rintro a w ⟨c1, h, hf, hs⟩
   unfold M_near_way_k2 at h
   refine C.cond hf (b := c1) rfl (fun hc => ?_) (fun hc => ?_)
   ·replace h := h.1 hc
    refine R.list (S.q hf hs (.func (.func 139) #[] #[(pn backg 0), (pn f2q 0), (pn layerg 0), (pn lastg 0), (pn see2g 0)]) rfl fun a hf => S.q hf hs (iv n) rfl fun a hf => S.v hf hs ((pn g2 0)) rfl (V.fieldBox rfl rfl runUnderlying205 rfl sizeOf3 rfl rfl) fun a hf => S.v hf hs (iv x1.by_) rfl (V.loadBox 0 rfl rfl rfl isAgg3 sizeOf3 rfl rfl) fun a hf => S.q hf hs (iv (w64 (n + x1.by_))) rfl fun a hf => S.v hf hs ((pn g2 1)) rfl (V.fieldBox rfl rfl runUnderlying205 rfl sizeOf3 rfl rfl) fun a hf => S.v hf hs (iv x1.along) rfl (V.loadBox 0 rfl rfl rfl isAgg3 sizeOf3 rfl rfl) fun a hf => ?_)
    replace hs := hs.front 1 rfl
    obtain ⟨F1, hsF, hback, hold, hrest⟩ := Sat.callOwns [hbox foundg 3 [iv b2]] (σ := [hbox g2 205 [iv x1.by_, iv x1.along, .bool x1.is]]) hs
    refine S.call hf rfl rfl rfl (call_run (args := #[iv (w64 (n + x1.by_)), iv x1.along, (pn backg 0), (pn f2q 0), (pn layerg 0), (pn lastg 0), (pn see2g 0)]) rfl rfl rfl call139 (by simp)) (R_steps1_way (w64 (n + x1.by_)) x1.along back f2 layer last b2 keys s_ _ _ backg (elemArgsF hs hold hb_back) f2_g_BlockedA f2_g_BlockedC (viewArgsF hs hold hv_f2_g_Blocked) f2_noA f2_noC (viewArgsF hs hold hv_f2_no) f2g (elemArgsF hs hold hb_f2) f2q (elemArgsF hs hold hq_f2) layerg (elemArgsF hs hold hb_layer) lastg (elemArgsF hs hold hb_last) foundg keysA keysC (viewArgsF hs hold hv_keys) keysg (elemArgsF hs hold hb_keys) s_g (elemArgsF hs hold hb_s_) see2g (elemArgsF hs hold hb_see2) hsF _ h) (fun v a w' hf hr => ?_)
    obtain ⟨z1, rfl, h2, hs2⟩ := hr
    replace h := h2; replace hs := hback _ _ hs2; clear h2 hs2 hback hold hrest hsF
    refine R.nil (X.blk (X.then_ (R.list (S.q hf hs (iv (w64 (n2 + 1))) rfl fun a hf => S.q hf hs (iv (w64 (n2 + 1))) rfl fun a hf => X.n ?_))))
    replace hs := hs.take 1
    exact ⟨z1, (w64 (n2 + 1)), (by rw [hagain1] at h; exact h), (((((hf.nil.cons (hf.get 92 _ rfl)).cons (hf.get 91 _ rfl)).cons (hf.get 2 _ rfl)).cons (hf.get 1 _ rfl)).cons (hf.get 0 _ rfl)), hs⟩
   ·replace h := h.2 hc
    refine wp_skip (X.blk (X.then_ (R.list (S.q hf hs (iv (w64 (n2 + 1))) rfl fun a hf => S.q hf hs (iv (w64 (n2 + 1))) rfl fun a hf => X.n ?_))))
    replace hs := hs.front 1 rfl
    replace hs := hs.take 1
    exact ⟨b2, (w64 (n2 + 1)), (by rw [hagain1] at h; exact h), (((((hf.nil.cons (hf.get 92 _ rfl)).cons (hf.get 91 _ rfl)).cons (hf.get 2 _ rfl)).cons (hf.get 1 _ rfl)).cons (hf.get 0 _ rfl)), hs⟩
  ·skip
   refine R.draw mo (by kernel_rfl) hs (D.v hf ((pn g2 2)) rfl (V.fieldBox rfl rfl runUnderlying205 rfl sizeOf4 rfl rfl) fun a hf => D.v hf (.bool x1.is) rfl (V.loadBox 0 rfl rfl rfl isAgg4 sizeOf4 rfl rfl) fun a hf => ?_)
   refine D.split hf (b := x1.is) rfl rfl rfl (V.pure rfl) (fun hc a hf => ?_) (fun hc a hf => ?_)
   ·replace h := h.1 hc
    refine D.p hf ((pn fg 0)) rfl rfl fun a hf => D.p hf ((pn fg 0)) rfl rfl fun a hf => D.v hf ((pn fg 8)) rfl (V.fieldBox rfl rfl runUnderlying120 rfl sizeOf49 rfl rfl) fun a hf => D.v hf (.slice f_noA f.no.length f_noC) rfl (V.loadAt0 (off := 8) (Ag.args _ _ _) hb_f rfl rfl isAgg49 sizeOf49 rfl rfl) fun a hf => D.p hf (iv n) rfl rfl fun a hf => D.v hf ((pn g2 0)) rfl (V.fieldBox rfl rfl runUnderlying205 rfl sizeOf3 rfl rfl) fun a hf => D.v hf (iv x1.by_) rfl (V.loadBox 0 rfl rfl rfl isAgg3 sizeOf3 rfl rfl) fun a hf => D.p hf (iv (w64 (n + x1.by_))) rfl rfl fun a hf => ?_
    obtain ⟨h0x2, x2, hx2, h⟩ := h
    refine D.v hf (elemPtr f_noA ((w64 (n + x1.by_)).toNat * 1)) rfl (V.index rfl rfl rfl runUnderlying49 sizeOf4 (hv_f_no.some_ (lt_of_get hx2)) h0x2 (lt_of_get hx2) rfl) fun a hf => D.v hf (.bool x2) rfl (V.loadEl (off := 0) (Ag.args _ _ _) (hv_f_no.flat hx2) rfl rfl rfl isAgg4 sizeOf4 rfl rfl) fun a hf => D.p hf (.bool (!x2)) rfl rfl fun a hf => D.p hf (.bool (!x2)) rfl rfl fun a hf => D.done (fun w hs => X.then_ ?_)
    exact ⟨(!x2), h, (((((((hf.nil.cons (hf.get 109 _ rfl)).cons (hf.get 92 _ rfl)).cons (hf.get 91 _ rfl)).cons (hf.get 8 _ rfl)).cons (hf.get 2 _ rfl)).cons (hf.get 1 _ rfl)).cons (hf.get 0 _ rfl)), hs⟩
   ·replace h := h.2 hc
    refine D.k hf rfl fun a hf => D.k hf rfl fun a hf => D.k hf rfl fun a hf => D.k hf rfl fun a hf => D.k hf rfl fun a hf => D.k hf rfl fun a hf => D.k hf rfl fun a hf => D.k hf rfl fun a hf => D.k hf rfl fun a hf => D.k hf rfl fun a hf => D.k hf rfl fun a hf => D.p hf (.bool false) rfl rfl fun a hf => ?_
    refine D.done (fun w hs => X.then_ ?_)
    exact ⟨false, h, (((((((hf.nil.cons (hf.get 109 _ rfl)).cons (hf.get 92 _ rfl)).cons (hf.get 91 _ rfl)).cons (hf.get 8 _ rfl)).cons (hf.get 2 _ rfl)).cons (hf.get 1 _ rfl)).cons (hf.get 0 _ rfl)), hs⟩
 ·replace h := h.2 hc
  refine wp_exit (X.then_exit (X.then_exit (X.blk_exit ?_)))
  replace hs := hs.take 1
  exact L.end0 results138 hf ⟨b2, rfl, h, hs⟩
def M_steps_way (f : RouteFinder) (s_ : Int) (back : Bool) (found : Int) (keys : (List Int)) (s2 : Int) (Q : Int → Prop) : Prop :=
  must (f.g.W ≠ 0) (must (f.g.H ≠ 0) (M_near_way f (w64 (s_.tdiv 3)) back f (w64 ((w64 ((w64 (s_.tdiv 3)).tdiv f.g.W)).tdiv f.g.H)) (s_.tmod 3) found keys s2 fun z1 => Q z1))
theorem R_steps_way (f : RouteFinder) (s_ : Int) (back : Bool) (found : Int) (keys : (List Int)) (s2 : Int) (w0 : World) (F0 : Nat → Prop) (f_g_BlockedA : Option Addr) (f_g_BlockedC : Nat) (hv_f_g_Blocked : View w0 (old w0 F0) f_g_BlockedA f_g_BlockedC f.g.Blocked) (f_noA : Option Addr) (f_noC : Nat) (hv_f_no : View w0 (old w0 F0) f_noA f_noC f.no) (fg : Nat) (hb_f : ElemAt w0 (old w0 F0) (some ⟨fg, 0, none⟩) 0 [iv f.g.W, iv f.g.H, iv f.g.Layers, .slice f_g_BlockedA f.g.Blocked.length f_g_BlockedC, iv f.c.Step, iv f.c.Via, iv f.c.Turn, iv f.c.Against, .slice f_noA f.no.length f_noC]) (foundg : Nat) (keysA : Option Addr) (keysC : Nat) (hv_keys : View w0 (old w0 F0) keysA keysC keys) (keysg : Nat) (hb_keys : ElemAt w0 (old w0 F0) (some ⟨keysg, 0, none⟩) 0 [.slice keysA keys.length keysC]) (s2g : Nat) (hb_s2 : ElemAt w0 (old w0 F0) (some ⟨s2g, 0, none⟩) 0 [iv s2]) (hs0 : Sat w0 F0 [hbox foundg 3 [iv found]] w0) (Q : Int → Prop) (h : M_steps_way f s_ back found keys s2 Q) :
  Ret Tryz.prog 119 #[(pn fg 0), iv s_, .bool back, .func (.func 124) #[] #[(pn foundg 0), (pn keysg 0), (pn s2g 0)]] w0 fun v w' => ∃ (found1 : Int), v = .tuple #[] ∧ Q found1 ∧ Sat w0 F0 [hbox foundg 3 [iv found1]] w' := by
 refine fn_enter func119 rfl ntmps119 rfl (fs := [(0, (pn fg 0)), (1, iv s_), (2, .bool back), (3, .func (.func 124) #[] #[(pn foundg 0), (pn keysg 0), (pn s2g 0)])]) rfl (fun a hf => ?_)
 have hs := hs0
 unfold M_steps_way at h
 refine X.l (S.box hf hs rfl rfl rfl [(pn fg 0)] rfl rfl rfl (fun g1 a w hf hs => S.box hf hs rfl rfl rfl [.bool back] rfl rfl rfl (fun g2 a w hf hs => S.box hf hs rfl rfl rfl [.func (.func 124) #[] #[(pn foundg 0), (pn keysg 0), (pn s2g 0)]] rfl rfl rfl (fun g3 a w hf hs => X.n (X.l (S.q hf hs (iv s_) rfl fun a hf => S.v hf hs (iv (w64 (s_.tdiv 3))) rfl (V.quo rfl rfl rfl (by decide)) fun a hf => S.q hf hs (iv s_) rfl fun a hf => S.v hf hs (iv (s_.tmod 3)) rfl (V.rem rfl rfl rfl (by decide)) fun a hf => S.alloc hf hs rfl rfl rfl [iv 0] rfl zeroValue3 rfl (fun g4 a w hf hs => S.q hf hs (iv (w64 (s_.tdiv 3))) rfl fun a hf => S.storeBox 0 hf hs rfl rfl [iv (s_.tmod 3)] [iv (s_.tmod 3)] rfl rfl rfl rfl rfl sizeOf3 rfl rfl rfl rfl (fun a w hf hs => ?_))))))))
 refine X.n (wp_seq (H.start (S := Sat w0 F0 [hbox g4 3 [iv (s_.tmod 3)], hbox g3 107 [.func (.func 124) #[] #[(pn foundg 0), (pn keysg 0), (pn s2g 0)]], hbox g2 4 [.bool back], hbox g1 114 [(pn fg 0)], hbox foundg 3 [iv found]]) mo ?_))
 replace hs := hs.drew
 refine H.v hf hs (iv (w64 (s_.tdiv 3))) 0 rfl rfl (by kernel_rfl) (V.pure rfl) fun a hf => H.v hf hs ((pn fg 0)) 1 rfl rfl (by kernel_rfl) (V.loadBox 3 rfl rfl rfl isAgg114 sizeOf114 rfl rfl) fun a hf => H.v hf hs ((pn fg 0)) 2 rfl rfl (by kernel_rfl) (V.pure rfl) fun a hf => H.v hf hs ((pn fg 0)) 3 rfl rfl (by kernel_rfl) (V.fieldBox rfl rfl runUnderlying120 rfl sizeOf24 rfl rfl) fun a hf => H.v hf hs ((pn fg 0)) 4 rfl rfl (by kernel_rfl) (V.fieldBox rfl rfl runUnderlying24 rfl sizeOf3 rfl rfl) fun a hf => H.v hf hs (iv f.g.W) 5 rfl rfl (by kernel_rfl) (V.loadAt0 (off := 0) (Ag.args _ _ _) hb_f rfl rfl isAgg3 sizeOf3 rfl rfl) fun a hf => ?_
 obtain ⟨hne, h⟩ := h
 refine H.v hf hs (iv (w64 ((w64 (s_.tdiv 3)).tdiv f.g.W))) 6 rfl rfl (by kernel_rfl) (V.quo rfl rfl rfl hne) fun a hf => H.v hf hs ((pn fg 0)) 7 rfl rfl (by kernel_rfl) (V.loadBox 3 rfl rfl rfl isAgg114 sizeOf114 rfl rfl) fun a hf => H.v hf hs ((pn fg 0)) 8 rfl rfl (by kernel_rfl) (V.pure rfl) fun a hf => H.v hf hs ((pn fg 0)) 9 rfl rfl (by kernel_rfl) (V.fieldBox rfl rfl runUnderlying120 rfl sizeOf24 rfl rfl) fun a hf => H.v hf hs ((pn fg 1)) 10 rfl rfl (by kernel_rfl) (V.fieldBox rfl rfl runUnderlying24 rfl sizeOf3 rfl rfl) fun a hf => H.v hf hs (iv f.g.H) 11 rfl rfl (by kernel_rfl) (V.loadAt0 (off := 1) (Ag.args _ _ _) hb_f rfl rfl isAgg3 sizeOf3 rfl rfl) fun a hf => ?_
 obtain ⟨hne, h⟩ := h
 refine H.v hf hs (iv (w64 ((w64 ((w64 (s_.tdiv 3)).tdiv f.g.W)).tdiv f.g.H))) 12 rfl rfl (by kernel_rfl) (V.quo rfl rfl rfl hne) fun a hf => H.one (i := 13) rfl (by kernel_rfl) (S.alloc hf hs rfl rfl rfl [iv 0] rfl zeroValue3 rfl (fun g5 a w hf hs => X.n (⟨(hs.mask [false, true, true, true, true, true]), (H.one (i := 14) rfl (by kernel_rfl) (S.storeBox 0 hf hs rfl rfl [iv (w64 ((w64 ((w64 (s_.tdiv 3)).tdiv f.g.W)).tdiv f.g.H))] [iv (w64 ((w64 ((w64 (s_.tdiv 3)).tdiv f.g.W)).tdiv f.g.H))] rfl rfl rfl rfl rfl sizeOf3 rfl rfl rfl rfl (fun a w hf hs => X.n (⟨(hs.mask [false, true, true, true, true, true]), (H.done (by kernel_rfl) (X.then_ (R.list (S.v hf hs ((pn fg 0)) rfl (V.loadBox 4 rfl rfl rfl isAgg114 sizeOf114 rfl rfl) fun a hf => ?_))))⟩))))⟩)))
 refine S.q hf hs (iv (w64 (s_.tdiv 3))) rfl fun a hf => S.q hf hs (.func (.func 139) #[] #[(pn g2 0), (pn g1 0), (pn g5 0), (pn g4 0), (pn g3 0)]) rfl fun a hf => ?_
 replace hs := hs.front 5 rfl
 obtain ⟨F1, hsF, hback, hold, hrest⟩ := Sat.callOwns [hbox foundg 3 [iv found]] (σ := [hbox g5 3 [iv (w64 ((w64 ((w64 (s_.tdiv 3)).tdiv f.g.W)).tdiv f.g.H))], hbox g4 3 [iv (s_.tmod 3)], hbox g3 107 [.func (.func 124) #[] #[(pn foundg 0), (pn keysg 0), (pn s2g 0)]], hbox g2 4 [.bool back], hbox g1 114 [(pn fg 0)]]) hs
 refine S.call hf rfl rfl rfl (call_fn (vs := [(pn fg 0), iv (w64 (s_.tdiv 3)), .func (.func 139) #[] #[(pn g2 0), (pn g1 0), (pn g5 0), (pn g4 0), (pn g3 0)]]) rfl rfl rfl call138) (R_near_way f (w64 (s_.tdiv 3)) back f (w64 ((w64 ((w64 (s_.tdiv 3)).tdiv f.g.W)).tdiv f.g.H)) (s_.tmod 3) found keys s2 _ _ f_g_BlockedA f_g_BlockedC (viewArgsF hs hold hv_f_g_Blocked) f_noA f_noC (viewArgsF hs hold hv_f_no) fg (elemArgsF hs hold hb_f) g2 (boxAtF hrest 3 rfl) f_g_BlockedA f_g_BlockedC (viewArgsF hs hold hv_f_g_Blocked) f_noA f_noC (viewArgsF hs hold hv_f_no) fg (elemArgsF hs hold hb_f) g1 (boxAtF hrest 4 rfl) g5 (boxAtF hrest 0 rfl) g4 (boxAtF hrest 1 rfl) foundg keysA keysC (viewArgsF hs hold hv_keys) keysg (elemArgsF hs hold hb_keys) s2g (elemArgsF hs hold hb_s2) g3 (boxAtF hrest 2 rfl) hsF _ h) (fun v a w' hf hr => ?_)
 obtain ⟨z1, rfl, h2, hs2⟩ := hr
 replace h := h2; replace hs := hback _ _ hs2; clear h2 hs2 hback hold hrest hsF
 refine R.nil ?_
 replace hs := hs.take 1
 exact L.end0 results119 hf ⟨z1, rfl, h, hs⟩
def M_finder_way_L1 (f : RouteFinder) (keys : (List Int)) (Q : (List Int) → Prop) (again1 : List Int → Int → Prop) (l2 : List Int) (b2 : Int) : Prop :=
  idx keys b2 fun x1 => cnd (decide (x1 > 0)) (M_steps_way f b2 false (-1) keys b2 fun z1 => must (room (l2 ++ [w64 (z1.tdiv 3)]).length 8) (again1 (l2 ++ [w64 (z1.tdiv 3)]) z1)) (Q l2)
def M_finder_way (f : RouteFinder) (n : Int) (keys : (List Int)) (Q : (List Int) → Prop) : Prop :=
  lp (fun again (s : List Int × Int) => M_finder_way_L1 f keys Q (fun l2 b2 => again (l2, b2)) s.1 s.2) ([n], w64 (3 * n))
theorem R_finder_way (f : RouteFinder) (n : Int) (keys : (List Int)) (w0 : World) (f_g_BlockedA : Option Addr) (f_g_BlockedC : Nat) (hv_f_g_Blocked : View w0 (old w0 none_) f_g_BlockedA f_g_BlockedC f.g.Blocked) (f_noA : Option Addr) (f_noC : Nat) (hv_f_no : View w0 (old w0 none_) f_noA f_noC f.no) (fg : Nat) (hb_f : ElemAt w0 (old w0 none_) (some ⟨fg, 0, none⟩) 0 [iv f.g.W, iv f.g.H, iv f.g.Layers, .slice f_g_BlockedA f.g.Blocked.length f_g_BlockedC, iv f.c.Step, iv f.c.Via, iv f.c.Turn, iv f.c.Against, .slice f_noA f.no.length f_noC]) (keysA : Option Addr) (keysC : Nat) (hv_keys : View w0 (old w0 none_) keysA keysC keys) (Q : (List Int) → Prop) (h : M_finder_way f n keys Q) :
  Ret Tryz.prog 104 #[(pn fg 0), iv n, .slice keysA keys.length keysC] w0 fun v w' => ∃ (r0 : (List Int)) (r0A : Option Addr) (r0C : Nat), v = .slice r0A r0.length r0C ∧ Q r0 ∧ Sat w0 none_ [hown 3 r0A r0C r0] w' := by
 refine fn_enter func104 rfl ntmps104 rfl (fs := [(0, (pn fg 0)), (1, iv n), (2, .slice keysA keys.length keysC)]) rfl (fun a hf => ?_)
 have hs := Sat.start w0 none_
 unfold M_finder_way at h
 refine X.l (S.box hf hs rfl rfl rfl [.slice keysA keys.length keysC] rfl rfl rfl (fun g1 a w hf hs => S.q hf hs (.slice none 0 0) rfl fun a hf => X.n (X.l (S.q hf hs (iv n) rfl fun a hf => S.build1 hf hs rfl rfl rfl (α := Int) n rfl rfl rfl runUnderlying72 sizeOf3 zeroValue3 rfl (by decide) (fun A1 a w hf hs => S.q hf hs (.slice A1 [n].length 1) rfl fun a hf => X.n (wp_seq (X.l (S.q hf hs (iv n) rfl fun a hf => S.q hf hs (iv (w64 (3 * n))) rfl fun a hf => S.alloc hf hs rfl rfl rfl [iv 0] rfl zeroValue3 rfl (fun g2 a w hf hs => S.storeBox 0 hf hs rfl rfl [iv (w64 (3 * n))] [iv (w64 (3 * n))] rfl rfl rfl rfl rfl sizeOf3 rfl rfl rfl rfl (fun a w hf hs => ?_))))))))))
 refine X.n (wp_block ?_)
 replace hs := hs.front 1 rfl
 replace hs := hs.front 2 rfl
 obtain ⟨kk, h⟩ := h
 refine C.loop (fun kk a w => ∃ (l2 : List Int) (l2A : Option Addr) (l2C : Nat) (gj2 : Nat) (b2 : Int), iterF (fun again (s : List Int × Int) => M_finder_way_L1 f keys Q (fun l2 b2 => again (l2, b2)) s.1 s.2) kk (l2, b2) ∧ FrOk 31 [(0, (pn fg 0)), (5, (pn g1 0)), (7, .slice l2A l2.length l2C), (8, (pn gj2 0))] a ∧ Sat w0 none_ [hbox g1 72 [.slice keysA keys.length keysC], hown 3 l2A l2C l2, hbox gj2 3 [iv b2]] w) kk ⟨[n], A1, 1, g2, (w64 (3 * n)), h, ((((hf.nil.cons (hf.get 8 _ rfl)).cons (hf.get 7 _ rfl)).cons (hf.get 5 _ rfl)).cons (hf.get 0 _ rfl)), hs⟩ (fun a w ⟨_, _, _, _, _, h, _, _⟩ => h) ?_
 clear h hf hs
 rintro kk a w ⟨l2, l2A, l2C, gj2, b2, h, hf, hs⟩
 obtain ⟨again1, hagain1⟩ : ∃ X : List Int → Int → Prop, X = (fun l2 b2 => iterF (fun again (s : List Int × Int) => M_finder_way_L1 f keys Q (fun l2 b2 => again (l2, b2)) s.1 s.2) kk (l2, b2)) := ⟨_, rfl⟩
 replace h : M_finder_way_L1 f keys Q again1 l2 b2 := by rw [hagain1]; exact h
 unfold M_finder_way_L1 at h
 refine wp_seq (X.l (S.v hf hs (.slice keysA keys.length keysC) rfl (V.loadBox 0 rfl rfl rfl isAgg72 sizeOf72 rfl rfl) fun a hf => S.v hf hs (iv b2) rfl (V.loadBox 2 rfl rfl rfl isAgg3 sizeOf3 rfl rfl) fun a hf => ?_))
 obtain ⟨h0x1, x1, hx1, h⟩ := h
 refine S.v hf hs (elemPtr keysA (b2.toNat * 1)) rfl (V.index rfl rfl rfl runUnderlying72 sizeOf3 (hv_keys.some_ (lt_of_get hx1)) h0x1 (lt_of_get hx1) rfl) fun a hf => S.v hf hs (iv x1) rfl (V.loadEl (off := 0) (Ag.args _ _ _) (hv_keys.flat hx1) rfl rfl rfl isAgg3 sizeOf3 rfl rfl) fun a hf => S.q hf hs (.bool (decide (x1 > 0))) rfl fun a hf => X.n ?_
 refine C.cond hf (b := decide (x1 > 0)) rfl (fun hc => ?_) (fun hc => ?_)
 ·replace h := h.1 hc
  refine wp_skip (X.then_ (wp_seq (wp_block (X.l (S.alloc hf hs rfl rfl rfl [iv 0] rfl zeroValue3 rfl (fun g3 a w hf hs => S.storeBox 0 hf hs rfl rfl [iv (-1)] [iv (-1)] rfl rfl rfl rfl rfl sizeOf3 rfl rfl rfl rfl (fun a w hf hs => X.n (X.l (S.q hf hs ((pn fg 0)) rfl fun a hf => S.v hf hs (iv b2) rfl (V.loadBox 3 rfl rfl rfl isAgg3 sizeOf3 rfl rfl) fun a hf => S.q hf hs (.func (.func 124) #[] #[(pn g3 0), (pn g1 0), (pn gj2 0)]) rfl fun a hf => ?_)))))))))
  obtain ⟨F1, hsF, hback, hold, hrest⟩ := Sat.callOwns [hbox g3 3 [iv (-1)]] (σ := [hbox g1 72 [.slice keysA keys.length keysC], hown 3 l2A l2C l2, hbox gj2 3 [iv b2]]) hs
  refine S.call hf rfl rfl rfl (call_fn (vs := [(pn fg 0), iv b2, .bool false, .func (.func 124) #[] #[(pn g3 0), (pn g1 0), (pn gj2 0)]]) rfl rfl rfl call119) (R_steps_way f b2 false (-1) keys b2 _ _ f_g_BlockedA f_g_BlockedC (viewArgsF hs hold hv_f_g_Blocked) f_noA f_noC (viewArgsF hs hold hv_f_no) fg (elemArgsF hs hold hb_f) g3 keysA keysC (viewArgsF hs hold hv_keys) g1 (boxAtF hrest 0 rfl) gj2 (boxAtF hrest 2 rfl) hsF _ h) (fun v a w' hf hr => ?_)
  obtain ⟨z1, rfl, h2, hs2⟩ := hr
  replace h := h2; replace hs := hback _ _ hs2; clear h2 hs2 hback hold hrest hsF
  refine X.n (X.l (S.v hf hs (iv z1) rfl (V.loadBox 0 rfl rfl rfl isAgg3 sizeOf3 rfl rfl) fun a hf => S.storeBox 3 hf hs rfl rfl [iv z1] [iv z1] rfl rfl rfl rfl rfl sizeOf3 rfl rfl rfl rfl (fun a w hf hs => X.n (R.list (S.q hf hs (.slice l2A l2.length l2C) rfl fun a hf => S.v hf hs (iv z1) rfl (V.loadBox 3 rfl rfl rfl isAgg3 sizeOf3 rfl rfl) fun a hf => S.v hf hs (iv (w64 (z1.tdiv 3))) rfl (V.quo rfl rfl rfl (by decide)) fun a hf => S.build1 hf hs rfl rfl rfl (α := Int) (w64 (z1.tdiv 3)) rfl rfl rfl runUnderlying72 sizeOf3 zeroValue3 rfl (by decide) (fun A2 a w hf hs => ?_))))))
  obtain ⟨hroom, h⟩ := h
  refine S.appendCells 3 hf hs rfl rfl rfl rfl rfl rfl rfl underlying72 info3 rfl hroom ((hs.ownView 0 rfl).some_ (i := 0) (by simp)) (hs.ownView 0 rfl) (fun A3 C1 a w hf hs => ?_)
  replace hs := hs.drop
  refine S.q hf hs (.slice A3 (l2 ++ [w64 (z1.tdiv 3)]).length C1) rfl fun a hf => R.nil (X.blk (X.then_ (X.l (S.v hf hs (iv z1) rfl (V.loadBox 3 rfl rfl rfl isAgg3 sizeOf3 rfl rfl) fun a hf => X.n (R.list (S.alloc hf hs rfl rfl rfl [iv 0] rfl zeroValue3 rfl (fun g4 a w hf hs => S.storeBox 0 hf hs rfl rfl [iv z1] [iv z1] rfl rfl rfl rfl rfl sizeOf3 rfl rfl rfl rfl (fun a w hf hs => X.n ?_))))))))
  replace hs := hs.front 3 rfl
  replace hs := hs.front 3 rfl
  replace hs := hs.take 3
  exact ⟨(l2 ++ [w64 (z1.tdiv 3)]), A3, C1, g4, z1, (by rw [hagain1] at h; exact h), ((((hf.nil.cons (hf.get 8 _ rfl)).cons (hf.get 7 _ rfl)).cons (hf.get 5 _ rfl)).cons (hf.get 0 _ rfl)), hs⟩
 ·replace h := h.2 hc
  refine wp_exit (X.then_exit (X.then_exit (X.blk_exit (X.then_ (X.l (S.q hf hs (.slice l2A l2.length l2C) rfl fun a hf => S.q hf hs (.slice l2A l2.length l2C) rfl fun a hf => X.n (wp_ret ?_)))))))
  replace hs := hs.front 1 rfl
  replace hs := hs.take 1
  exact L.ret hf (run_results1 results104 (ResIs.tmp hf rfl)) ⟨l2, l2A, l2C, rfl, h, hs⟩
def M_finder_cells_L1 (f : RouteFinder) (k1 : Nat) (xk1 : Int) (l2 : List Cell) (next1 : List Cell → Prop) : Prop :=
  M_route_cell f.g xk1 fun y1 => must (room (l2 ++ [y1]).length 24) (next1 (l2 ++ [y1]))
def M_finder_cells (f : RouteFinder) (l : (List Int)) (Q : (List Cell) → Prop) : Prop :=
  forIn' (fun k x (s : List Cell) next => M_finder_cells_L1 f k x s (fun l2 => next l2)) (fun (s : List Cell) => (fun (l2 : List Cell) => Q l2) s) l 0 ([] : List Cell)
theorem R_finder_cells (f : RouteFinder) (l : (List Int)) (w0 : World) (f_g_BlockedA : Option Addr) (f_g_BlockedC : Nat) (hv_f_g_Blocked : View w0 (old w0 none_) f_g_BlockedA f_g_BlockedC f.g.Blocked) (f_noA : Option Addr) (f_noC : Nat) (hv_f_no : View w0 (old w0 none_) f_noA f_noC f.no) (fg : Nat) (hb_f : ElemAt w0 (old w0 none_) (some ⟨fg, 0, none⟩) 0 [iv f.g.W, iv f.g.H, iv f.g.Layers, .slice f_g_BlockedA f.g.Blocked.length f_g_BlockedC, iv f.c.Step, iv f.c.Via, iv f.c.Turn, iv f.c.Against, .slice f_noA f.no.length f_noC]) (lA : Option Addr) (lC : Nat) (hv_l : View w0 (old w0 none_) lA lC l) (Q : (List Cell) → Prop) (h : M_finder_cells f l Q) :
  Ret Tryz.prog 105 #[(pn fg 0), .slice lA l.length lC] w0 fun v w' => ∃ (r0 : (List Cell)) (r0A : Option Addr) (r0C : Nat), v = .slice r0A r0.length r0C ∧ Q r0 ∧ Sat w0 none_ [hown 55 r0A r0C r0] w' := by
 refine fn_enter func105 rfl ntmps105 rfl (fs := [(0, (pn fg 0)), (1, .slice lA l.length lC)]) rfl (fun a hf => ?_)
 have hs := Sat.start w0 none_
 unfold M_finder_cells at h
 refine X.l (S.q hf hs (.slice none 0 0) rfl fun a hf => X.n (X.l (S.q hf hs (.slice none 0 0) rfl fun a hf => X.n (wp_seq (X.l (S.q hf hs (.slice lA l.length lC) rfl fun a hf => S.v hf hs (iv (l.length : Int)) rfl (V.len rfl rfl runUnderlying72) fun a hf => S.q hf hs (iv 0) rfl fun a hf => X.n (wp_block ?_)))))))
 replace hs := hs.nilOwn (α := Cell) 55
 have hlenk1 := hv_l.len64
 refine C.range (fun (ll : List Int) a w => ∃ (k1 : Nat) (l2 : List Cell) (l2A : Option Addr) (l2C : Nat), l.drop k1 = ll ∧ k1 + ll.length = l.length ∧ forIn' (fun k x (s : List Cell) next => M_finder_cells_L1 f k x s (fun l2 => next l2)) (fun (s : List Cell) => (fun (l2 : List Cell) => Q l2) s) ll k1 l2 ∧ FrOk 25 [(10, iv (k1 : Int)), (0, (pn fg 0)), (5, .slice l2A l2.length l2C), (8, .slice lA l.length lC), (9, iv (l.length : Int))] a ∧ Sat w0 none_ [hown 55 l2A l2C l2] w) l ⟨0, ([] : List Cell), none, 0, rfl, Nat.zero_add _, h, (((((hf.nil.cons (hf.get 9 _ rfl)).cons (hf.get 8 _ rfl)).cons (hf.get 5 _ rfl)).cons (hf.get 0 _ rfl)).cons (hf.get 10 _ rfl)), hs⟩ ?_
 clear h hf hs
 rintro llk1 a w ⟨k1, l2, l2A, l2C, hlk1, hkk1, h, hf, hs⟩
 cases llk1 with
 | nil =>
  have hc := range_done hkk1
  replace h : (fun (l2 : List Cell) => Q l2) l2 := h
  refine X.l (S.v hf hs (.bool false) rfl (V.cmp false rfl rfl rfl rfl hc) fun a hf => X.n (wp_seq (C.no hf rfl (wp_exit (X.then_exit (X.then_exit (X.blk_exit (X.then_ (X.l (S.q hf hs (.slice l2A l2.length l2C) rfl fun a hf => S.q hf hs (.slice l2A l2.length l2C) rfl fun a hf => X.n (wp_ret ?_)))))))))))
  replace hs := hs.take 1
  exact L.ret hf (run_results1 results105 (ResIs.tmp hf rfl)) ⟨l2, l2A, l2C, rfl, h, hs⟩
 | cons xk1 llk1 =>
  have hltk1 := range_lt hkk1; have hc := range_go hkk1; have hxk1 := range_get hlk1
  obtain ⟨next1, hnext1⟩ : ∃ X : List Cell → Prop, X = (fun l2 => forIn' (fun k x (s : List Cell) next => M_finder_cells_L1 f k x s (fun l2 => next l2)) (fun (s : List Cell) => (fun (l2 : List Cell) => Q l2) s) llk1 (k1 + 1) l2) := ⟨_, rfl⟩
  replace h : M_finder_cells_L1 f k1 xk1 l2 next1 := by rw [hnext1]; exact h
  unfold M_finder_cells_L1 at h
  refine X.l (S.v hf hs (.bool true) rfl (V.cmp true rfl rfl rfl rfl hc) fun a hf => X.n (wp_seq (C.yes hf rfl (wp_skip (X.then_ (wp_seq (wp_block (X.l (S.v hf hs (elemPtr lA (k1 * 1)) rfl (V.index rfl rfl rfl runUnderlying72 sizeOf3 (hv_l.some_ (lt_of_get hxk1)) (Int.natCast_nonneg _) (lt_of_get hxk1) rfl) fun a hf => S.v hf hs (iv xk1) rfl (V.loadEl (off := 0) (Ag.args _ _ _) (hv_l.flat hxk1) rfl rfl rfl isAgg3 sizeOf3 rfl rfl) fun a hf => S.q hf hs (iv xk1) rfl fun a hf => X.n (R.list (S.q hf hs (.slice l2A l2.length l2C) rfl fun a hf => S.q hf hs ((pn fg 0)) rfl fun a hf => S.q hf hs ((pn fg 0)) rfl fun a hf => ?_)))))))))))
  refine S.v hf hs ((pn fg 0)) rfl (V.fieldBox rfl rfl runUnderlying120 rfl sizeOf24 rfl rfl) fun a hf => S.v hf hs (.agg #[iv f.g.W, iv f.g.H, iv f.g.Layers, .slice f_g_BlockedA f.g.Blocked.length f_g_BlockedC]) rfl (V.loadAt0 (off := 0) (Ag.args _ _ _) hb_f rfl rfl isAgg24 sizeOf24 rfl rfl) fun a hf => S.q hf hs (iv xk1) rfl fun a hf => S.call hf rfl rfl rfl (call_fn (vs := [.agg #[iv f.g.W, iv f.g.H, iv f.g.Layers, .slice f_g_BlockedA f.g.Blocked.length f_g_BlockedC], iv xk1]) rfl rfl rfl call33) (R_route_cell f.g xk1 _ f_g_BlockedA f_g_BlockedC ((Ag.args _ _ _).view hv_f_g_Blocked hs) _ h) (fun v a w' hf hr => ?_)
  obtain ⟨y1, rfl, h2, hs2⟩ := hr
  replace h := h2; replace hs := hs.call hs2; clear h2 hs2
  refine S.build1 hf hs rfl rfl rfl (α := Cell) y1 rfl rfl rfl runUnderlying22 sizeOf55 zeroValue55 rfl (by decide) (fun A1 a w hf hs => ?_)
  obtain ⟨hroom, h⟩ := h
  refine S.appendCells 1 hf hs rfl rfl rfl rfl rfl rfl rfl underlying22 info55 rfl hroom ((hs.ownView 0 rfl).some_ (i := 0) (by simp)) (hs.ownView 0 rfl) (fun A2 C1 a w hf hs => ?_)
  replace hs := hs.drop
  refine S.q hf hs (.slice A2 (l2 ++ [y1]).length C1) rfl fun a hf => R.nil (X.blk (X.then_ (R.list (S.v hf hs (iv ((k1 + 1 : Nat) : Int)) rfl (V.incr rfl rfl rfl hltk1 hlenk1) fun a hf => S.q hf hs (iv ((k1 + 1 : Nat) : Int)) rfl fun a hf => X.n ?_))))
  exact ⟨xk1, llk1, rfl, k1 + 1, (l2 ++ [y1]), A2, C1, range_drop hlk1, range_len hkk1, (by rw [hnext1] at h; exact h), (((((hf.nil.cons (hf.get 9 _ rfl)).cons (hf.get 8 _ rfl)).cons (hf.get 5 _ rfl)).cons (hf.get 0 _ rfl)).cons (hf.get 10 _ rfl)), hs⟩

-- no etchhouse/route.Way
end Go.Proofs.YtihjaehkdgdenaaGreatDoor
