/- Chapter texts of ours, as far as the claim needs them. -/
import Derived.Test.YtihjaehkdgdenaaDoorRyB
import Derived.Test.YtihjaehkdgdenaaDoorRtO2
namespace Go.Proofs.YtihjaehkdgdenaaDoor
open Go Go.RowKit
set_option linter.unusedVariables false
set_option linter.unusedSectionVars false
set_option linter.unusedSimpArgs false
def M_law_Keeps_L2 (c : Costs) (Q : Bool → Prop) (y1 : Grid) (k2 : Nat) (xk2 : (List Cell))  (next2 : Prop) : Prop :=
  M_route_CheckWay y1 xk2 fun y6 => cnd (y6 != 14) (Q false) (idx xk2 0 fun x1 => M_route_Way y1 c x1 x1 fun y7 y8 y9 => cnd (y9 == 0) (Q false) (next2))
def M_law_Keeps_L1 (c : Costs) (Q : Bool → Prop) (y1 : Grid) (k1 : Nat) (xk1 : Routed)  (next1 : Prop) : Prop :=
  forIn' (fun k x (s : Unit) next => M_law_Keeps_L2 c Q y1 k x (next ())) (fun (s : Unit) => next1) xk1.Ways 0 ()
def M_law_Keeps (g : Grid) (c : Costs) (t : (List Task)) (r : (List Routed)) (from_ : Cell) (Q : Bool → Prop) : Prop :=
  M_route_Blocked g t r fun y1 y2 => cnd (y2 != 0) (cnd ((y1.Blocked.length : Int) == 0) (M_route_awake  fun y3 => Q y3) (Q false)) (forIn' (fun k x (s : Unit) next => M_law_Keeps_L1 c Q y1 k x (next ())) (fun (s : Unit) => M_route_CheckGrid y1 fun y4 => cnd (y4 == 0) (M_route_awake  fun y5 => Q y5) (Q false)) r 0 ())
set_option maxHeartbeats 1000000 in
theorem R_law_Keeps (g : Grid) (c : Costs) (t : (List Task)) (r : (List Routed)) (from_ : Cell) (w0 : World) (g_BlockedA : Option Addr) (g_BlockedC : Nat) (hv_g_Blocked : View w0 (old w0 none_) g_BlockedA g_BlockedC g.Blocked) (tA : Option Addr) (tC : Nat) (hv_t : View w0 (old w0 none_) tA tC t) (rA : Option Addr) (rC : Nat) (hv_r : View w0 (old w0 none_) rA rC r) (Q : Bool → Prop) (h : M_law_Keeps g c t r from_ Q) :
  Ret Tryd.prog 3 #[.agg #[iv g.W, iv g.H, iv g.Layers, .slice g_BlockedA g.Blocked.length g_BlockedC], .agg #[iv c.Step, iv c.Via, iv c.Turn, iv c.Against], .slice tA t.length tC, .slice rA r.length rC, .agg #[iv from_.X, iv from_.Y, iv from_.Layer]] w0 fun v w' => ∃ (r0 : Bool), v = .bool r0 ∧ Q r0 ∧ Sat w0 none_ [] w' := by
 refine fn_enter Tryd.func3 rfl Tryd.ntmps3 rfl (fs := [(0, .agg #[iv g.W, iv g.H, iv g.Layers, .slice g_BlockedA g.Blocked.length g_BlockedC]), (1, .agg #[iv c.Step, iv c.Via, iv c.Turn, iv c.Against]), (2, .slice tA t.length tC), (3, .slice rA r.length rC), (4, .agg #[iv from_.X, iv from_.Y, iv from_.Layer])]) rfl (fun a hf => ?_)
 have hs := Sat.start w0 none_
 unfold M_law_Keeps at h
 refine wp_seq (R.list (S.box hf hs rfl rfl rfl [iv g.W, iv g.H, iv g.Layers, .slice g_BlockedA g.Blocked.length g_BlockedC] rfl rfl rfl (fun g1 a w hf hs => S.box hf hs rfl rfl rfl [iv c.Step, iv c.Via, iv c.Turn, iv c.Against] rfl rfl rfl (fun g2 a w hf hs => S.box hf hs rfl rfl rfl [iv from_.X, iv from_.Y, iv from_.Layer] rfl rfl rfl (fun g3 a w hf hs => S.p hf hs (.bool false) rfl rfl fun a hf => R.nil (X.then_ (wp_seq (R.list (S.v hf hs (.agg #[iv g.W, iv g.H, iv g.Layers, .slice g_BlockedA g.Blocked.length g_BlockedC]) rfl (V.loadBox 2 rfl rfl rfl Tryd.isAgg24 Tryd.sizeOf24 rfl rfl) fun a hf => S.p hf hs (.slice tA t.length tC) rfl rfl fun a hf => ?_)))))))))
 refine S.p hf hs (.slice rA r.length rC) rfl rfl fun a hf => S.call hf rfl rfl rfl (call_fn (vs := [.agg #[iv g.W, iv g.H, iv g.Layers, .slice g_BlockedA g.Blocked.length g_BlockedC], .slice tA t.length tC, .slice rA r.length rC]) rfl rfl rfl Tryd.call4) (R_route_Blocked g t r _ g_BlockedA g_BlockedC ((Ag.args _ _ _).view hv_g_Blocked hs) tA tC ((Ag.args _ _ _).view hv_t hs) rA rC ((Ag.args _ _ _).view hv_r hs) _ h) (fun v a w' hf hr => ?_)
 obtain ⟨y1, y1_BlockedA, y1_BlockedC, y2, rfl, h2, hs2⟩ := hr
 replace h := h2; replace hs := hs.call hs2; clear h2 hs2
 refine S.p hf hs (.tuple #[.agg #[iv y1.W, iv y1.H, iv y1.Layers, .slice y1_BlockedA y1.Blocked.length y1_BlockedC], iv y2]) rfl rfl fun a hf => S.p hf hs (.agg #[iv y1.W, iv y1.H, iv y1.Layers, .slice y1_BlockedA y1.Blocked.length y1_BlockedC]) rfl rfl fun a hf => S.p hf hs (iv y2) rfl rfl fun a hf => S.alloc hf hs rfl rfl rfl [iv 0, iv 0, iv 0, .slice none 0 0] rfl Tryd.zeroValue24 rfl (fun g4 a w hf hs => S.storeBox 0 hf hs rfl rfl [iv y1.W, iv y1.H, iv y1.Layers, .slice y1_BlockedA y1.Blocked.length y1_BlockedC] [iv y1.W, iv y1.H, iv y1.Layers, .slice y1_BlockedA y1.Blocked.length y1_BlockedC] rfl rfl rfl rfl rfl Tryd.sizeOf24 rfl rfl rfl rfl (fun a w hf hs => S.p hf hs (iv y2) rfl rfl fun a hf => R.nil (X.then_ (wp_seq (wp_seq (R.list (S.p hf hs (iv y2) rfl rfl fun a hf => ?_)))))))
 refine S.p hf hs (.bool (y2 != 0)) rfl rfl fun a hf => R.nil (X.then_ ?_)
 refine C.cond hf (b := y2 != 0) rfl (fun hc => ?_) (fun hc => ?_)
 ·replace h := h.1 hc
  refine wp_seq (R.list (S.v hf hs ((pn g4 3)) rfl (V.fieldBox rfl rfl Tryd.runUnderlying24 rfl Tryd.sizeOf22 rfl rfl) fun a hf => S.v hf hs (.slice y1_BlockedA y1.Blocked.length y1_BlockedC) rfl (V.loadBox 0 rfl rfl rfl Tryd.isAgg22 Tryd.sizeOf22 rfl rfl) fun a hf => S.v hf hs (iv (y1.Blocked.length : Int)) rfl (V.len rfl rfl Tryd.runUnderlying22) fun a hf => S.p hf hs (.bool ((y1.Blocked.length : Int) == 0)) rfl rfl fun a hf => ?_))
  refine S.split hf hs (b := (y1.Blocked.length : Int) == 0) rfl rfl rfl (V.pure rfl) (fun hc a hf => ?_) (fun hc a hf => ?_)
  ·replace h := h.1 hc
   refine S.call hf rfl rfl rfl (call_fn (vs := []) rfl rfl rfl Tryd.call5) (R_route_awake  _  _ h) (fun v a w' hf hr => ?_)
   obtain ⟨y3, rfl, h2, hs2⟩ := hr
   replace h := h2; replace hs := hs.call hs2; clear h2 hs2
   refine S.p hf hs (.bool y3) rfl rfl fun a hf => S.p hf hs (.bool y3) rfl rfl fun a hf => R.nil (X.then_ (wp_ret (X.then_ret ?_)))
   exact L.ret hf (run_results1 Tryd.results3 (ResIs.tmp hf rfl)) ⟨y3, rfl, h, hs.nil⟩
  ·replace h := h.2 hc
   refine S.k hf rfl fun a hf => S.p hf hs (.bool false) rfl rfl fun a hf => S.p hf hs (.bool false) rfl rfl fun a hf => R.nil (X.then_ (wp_ret (X.then_ret ?_)))
   exact L.ret hf (run_results1 Tryd.results3 (ResIs.tmp hf rfl)) ⟨false, rfl, h, hs.nil⟩
 ·replace h := h.2 hc
  refine wp_skip (X.then_ (wp_seq (wp_seq (R.list (S.p hf hs (.slice rA r.length rC) rfl rfl fun a hf => S.v hf hs (iv (r.length : Int)) rfl (V.len rfl rfl Tryd.runUnderlying28) fun a hf => S.p hf hs (iv 0) rfl rfl fun a hf => R.nil (X.then_ (wp_block ?_)))))))
  have hlenk1 := hv_r.len64
  refine C.range (fun (ll : List Routed) a w => ∃ (k1 : Nat) , r.drop k1 = ll ∧ k1 + ll.length = r.length ∧ forIn' (fun k x (s : Unit) next => M_law_Keeps_L1 c Q y1 k x (next ())) (fun (s : Unit) => M_route_CheckGrid y1 fun y4 => cnd (y4 == 0) (M_route_awake  fun y5 => Q y5) (Q false)) ll k1 () ∧ FrOk 76 [(38, iv (k1 : Int)), (6, (pn g2 0)), (11, (pn g4 0)), (36, .slice rA r.length rC), (37, iv (r.length : Int))] a ∧ Sat w0 none_ [hbox g4 24 [iv y1.W, iv y1.H, iv y1.Layers, .slice y1_BlockedA y1.Blocked.length y1_BlockedC], hown 30 y1_BlockedA y1_BlockedC y1.Blocked, hbox g3 30 [iv from_.X, iv from_.Y, iv from_.Layer], hbox g2 26 [iv c.Step, iv c.Via, iv c.Turn, iv c.Against], hbox g1 24 [iv g.W, iv g.H, iv g.Layers, .slice g_BlockedA g.Blocked.length g_BlockedC]] w) r ⟨0, rfl, Nat.zero_add _, h, (((((hf.nil.cons (hf.get 37 _ rfl)).cons (hf.get 36 _ rfl)).cons (hf.get 11 _ rfl)).cons (hf.get 6 _ rfl)).cons (hf.get 38 _ rfl)), hs⟩ ?_
  clear h hf hs
  rintro llk1 a w ⟨k1, hlk1, hkk1, h, hf, hs⟩
  cases llk1 with
  | nil =>
   have hc := range_done hkk1
   replace h : M_route_CheckGrid y1 fun y4 => cnd (y4 == 0) (M_route_awake  fun y5 => Q y5) (Q false) := h
   refine wp_seq (R.list (S.v hf hs (.bool false) rfl (V.cmp false rfl rfl rfl rfl hc) fun a hf => R.nil (X.then_ (wp_seq (C.no hf rfl (wp_exit (X.then_exit (X.then_exit (X.blk_exit (X.then_ (wp_seq (R.list (S.v hf hs (.agg #[iv y1.W, iv y1.H, iv y1.Layers, .slice y1_BlockedA y1.Blocked.length y1_BlockedC]) rfl (V.loadBox 0 rfl rfl rfl Tryd.isAgg24 Tryd.sizeOf24 rfl rfl) fun a hf => S.call hf rfl rfl rfl (call_fn (vs := [.agg #[iv y1.W, iv y1.H, iv y1.Layers, .slice y1_BlockedA y1.Blocked.length y1_BlockedC]]) rfl rfl rfl Tryd.call8) (R_route_CheckGrid y1 _ y1_BlockedA y1_BlockedC (hs.ownView 1 rfl) _ h) (fun v a w' hf hr => ?_))))))))))))))
   obtain ⟨y4, rfl, h2, hs2⟩ := hr
   replace h := h2; replace hs := hs.call hs2; clear h2 hs2
   refine S.p hf hs (.bool (y4 == 0)) rfl rfl fun a hf => ?_
   refine S.split hf hs (b := y4 == 0) rfl rfl rfl (V.pure rfl) (fun hc a hf => ?_) (fun hc a hf => ?_)
   ·replace h := h.1 hc
    refine S.call hf rfl rfl rfl (call_fn (vs := []) rfl rfl rfl Tryd.call5) (R_route_awake  _  _ h) (fun v a w' hf hr => ?_)
    obtain ⟨y5, rfl, h2, hs2⟩ := hr
    replace h := h2; replace hs := hs.call hs2; clear h2 hs2
    refine S.p hf hs (.bool y5) rfl rfl fun a hf => S.p hf hs (.bool y5) rfl rfl fun a hf => R.nil (X.then_ (wp_ret ?_))
    exact L.ret hf (run_results1 Tryd.results3 (ResIs.tmp hf rfl)) ⟨y5, rfl, h, hs.nil⟩
   ·replace h := h.2 hc
    refine S.k hf rfl fun a hf => S.p hf hs (.bool false) rfl rfl fun a hf => S.p hf hs (.bool false) rfl rfl fun a hf => R.nil (X.then_ (wp_ret ?_))
    exact L.ret hf (run_results1 Tryd.results3 (ResIs.tmp hf rfl)) ⟨false, rfl, h, hs.nil⟩
  | cons xk1 llk1 =>
   have hltk1 := range_lt hkk1; have hc := range_go hkk1; have hxk1 := range_get hlk1
   obtain ⟨next1, hnext1⟩ : ∃ X : Prop, X = (forIn' (fun k x (s : Unit) next => M_law_Keeps_L1 c Q y1 k x (next ())) (fun (s : Unit) => M_route_CheckGrid y1 fun y4 => cnd (y4 == 0) (M_route_awake  fun y5 => Q y5) (Q false)) llk1 (k1 + 1) ()) := ⟨_, rfl⟩
   replace h : M_law_Keeps_L1 c Q y1 k1 xk1  next1 := by rw [hnext1]; exact h
   unfold M_law_Keeps_L1 at h
   refine wp_seq (R.list (S.v hf hs (.bool true) rfl (V.cmp true rfl rfl rfl rfl hc) fun a hf => R.nil (X.then_ (wp_seq (C.yes hf rfl (wp_skip (X.then_ (wp_seq (wp_block (wp_seq (R.list ?_)))))))))))
   obtain ⟨cs1, he1, hr1⟩ := hv_r.at_ _ _ hxk1
   obtain ⟨u1A, u1C, rfl, hvu1⟩ := hr1
   refine S.v hf hs (elemPtr rA (k1 * 2)) rfl (V.index rfl rfl rfl Tryd.runUnderlying28 Tryd.sizeOf37 (hv_r.some_ (lt_of_get hxk1)) (Int.natCast_nonneg _) (lt_of_get hxk1) rfl) fun a hf => S.v hf hs (.agg #[.string (ba xk1.Net), .slice u1A xk1.Ways.length u1C]) rfl (V.loadEl (off := 0) (Ag.args _ _ _) he1 rfl rfl rfl Tryd.isAgg37 Tryd.sizeOf37 rfl rfl) fun a hf => S.alloc hf hs rfl rfl rfl [.string (ba []), .slice none 0 0] rfl Tryd.zeroValue37 rfl (fun g5 a w hf hs => S.storeBox 0 hf hs rfl rfl [.string (ba xk1.Net), .slice u1A xk1.Ways.length u1C] [.string (ba xk1.Net), .slice u1A xk1.Ways.length u1C] rfl rfl rfl rfl rfl Tryd.sizeOf37 rfl rfl rfl rfl (fun a w hf hs => R.nil (X.then_ (wp_seq (R.list (S.v hf hs ((pn g5 1)) rfl (V.fieldBox rfl rfl Tryd.runUnderlying37 rfl Tryd.sizeOf35 rfl rfl) fun a hf => S.v hf hs (.slice u1A xk1.Ways.length u1C) rfl (V.loadBox 0 rfl rfl rfl Tryd.isAgg35 Tryd.sizeOf35 rfl rfl) fun a hf => S.v hf hs (iv (xk1.Ways.length : Int)) rfl (V.len rfl rfl Tryd.runUnderlying35) fun a hf => ?_))))))
   refine S.p hf hs (iv 0) rfl rfl fun a hf => R.nil (X.then_ (wp_block ?_))
   have hlenk2 := hvu1.len64
   refine C.range (fun (ll : List (List Cell)) a w => ∃ (k2 : Nat) , xk1.Ways.drop k2 = ll ∧ k2 + ll.length = xk1.Ways.length ∧ forIn' (fun k x (s : Unit) next => M_law_Keeps_L2 c Q y1 k x (next ())) (fun (s : Unit) => next1) ll k2 () ∧ FrOk 76 [(45, iv (k2 : Int)), (6, (pn g2 0)), (11, (pn g4 0)), (36, .slice rA r.length rC), (37, iv (r.length : Int)), (38, iv (k1 : Int)), (43, .slice u1A xk1.Ways.length u1C), (44, iv (xk1.Ways.length : Int))] a ∧ Sat w0 none_ [hbox g5 37 [.string (ba xk1.Net), .slice u1A xk1.Ways.length u1C], hbox g4 24 [iv y1.W, iv y1.H, iv y1.Layers, .slice y1_BlockedA y1.Blocked.length y1_BlockedC], hown 30 y1_BlockedA y1_BlockedC y1.Blocked, hbox g3 30 [iv from_.X, iv from_.Y, iv from_.Layer], hbox g2 26 [iv c.Step, iv c.Via, iv c.Turn, iv c.Against], hbox g1 24 [iv g.W, iv g.H, iv g.Layers, .slice g_BlockedA g.Blocked.length g_BlockedC]] w) xk1.Ways ⟨0, rfl, Nat.zero_add _, h, ((((((((hf.nil.cons (hf.get 44 _ rfl)).cons (hf.get 43 _ rfl)).cons (hf.get 38 _ rfl)).cons (hf.get 37 _ rfl)).cons (hf.get 36 _ rfl)).cons (hf.get 11 _ rfl)).cons (hf.get 6 _ rfl)).cons (hf.get 45 _ rfl)), hs⟩ ?_
   clear h hf hs
   rintro llk2 a w ⟨k2, hlk2, hkk2, h, hf, hs⟩
   cases llk2 with
   | nil =>
    have hc := range_done hkk2
    replace h : next1 := h
    refine wp_seq (R.list (S.v hf hs (.bool false) rfl (V.cmp false rfl rfl rfl rfl hc) fun a hf => R.nil (X.then_ (wp_seq (C.no hf rfl (wp_exit (X.then_exit (X.then_exit (X.blk_exit (X.blk (X.then_ (R.list (S.v hf hs (iv ((k1 + 1 : Nat) : Int)) rfl (V.incr rfl rfl rfl hltk1 hlenk1) fun a hf => S.p hf hs (iv ((k1 + 1 : Nat) : Int)) rfl rfl fun a hf => R.nil (X.then_ ?_))))))))))))))
    exact ⟨xk1, llk1, rfl, k1 + 1, range_drop hlk1, range_len hkk1, (by rw [hnext1] at h; exact h), (((((hf.nil.cons (hf.get 37 _ rfl)).cons (hf.get 36 _ rfl)).cons (hf.get 11 _ rfl)).cons (hf.get 6 _ rfl)).cons (hf.get 38 _ rfl)), hs.drop⟩
   | cons xk2 llk2 =>
    have hltk2 := range_lt hkk2; have hc := range_go hkk2; have hxk2 := range_get hlk2
    obtain ⟨next2, hnext2⟩ : ∃ X : Prop, X = (forIn' (fun k x (s : Unit) next => M_law_Keeps_L2 c Q y1 k x (next ())) (fun (s : Unit) => next1) llk2 (k2 + 1) ()) := ⟨_, rfl⟩
    replace h : M_law_Keeps_L2 c Q y1 k2 xk2  next2 := by rw [hnext2]; exact h
    unfold M_law_Keeps_L2 at h
    refine wp_seq (R.list (S.v hf hs (.bool true) rfl (V.cmp true rfl rfl rfl rfl hc) fun a hf => R.nil (X.then_ (wp_seq (C.yes hf rfl (wp_skip (X.then_ (wp_seq (wp_block (wp_seq (R.list ?_)))))))))))
    obtain ⟨cs2, he2, hr2⟩ := hvu1.at_ _ _ hxk2
    obtain ⟨u2A, u2C, rfl, hvu2⟩ := hr2
    refine S.v hf hs (elemPtr u1A (k2 * 1)) rfl (V.index rfl rfl rfl Tryd.runUnderlying35 Tryd.sizeOf22 (hvu1.some_ (lt_of_get hxk2)) (Int.natCast_nonneg _) (lt_of_get hxk2) rfl) fun a hf => S.v hf hs (.slice u2A xk2.length u2C) rfl (V.loadEl (off := 0) (Ag.args _ _ _) he2 rfl rfl rfl Tryd.isAgg22 Tryd.sizeOf22 rfl rfl) fun a hf => S.p hf hs (.slice u2A xk2.length u2C) rfl rfl fun a hf => R.nil (X.then_ (wp_seq (wp_seq (R.list (S.v hf hs (.agg #[iv y1.W, iv y1.H, iv y1.Layers, .slice y1_BlockedA y1.Blocked.length y1_BlockedC]) rfl (V.loadBox 1 rfl rfl rfl Tryd.isAgg24 Tryd.sizeOf24 rfl rfl) fun a hf => S.p hf hs (.slice u2A xk2.length u2C) rfl rfl fun a hf => S.call hf rfl rfl rfl (call_fn (vs := [.agg #[iv y1.W, iv y1.H, iv y1.Layers, .slice y1_BlockedA y1.Blocked.length y1_BlockedC], .slice u2A xk2.length u2C]) rfl rfl rfl Tryd.call6) (R_route_CheckWay y1 xk2 _ y1_BlockedA y1_BlockedC (hs.ownView 2 rfl) u2A u2C ((Ag.args _ _ _).view hvu2 hs) _ h) (fun v a w' hf hr => ?_))))))
    obtain ⟨y6, rfl, h2, hs2⟩ := hr
    replace h := h2; replace hs := hs.call hs2; clear h2 hs2
    refine S.p hf hs (.bool (y6 != 14)) rfl rfl fun a hf => R.nil (X.then_ ?_)
    refine C.cond hf (b := y6 != 14) rfl (fun hc => ?_) (fun hc => ?_)
    ·replace h := h.1 hc
     refine wp_seq (R.list (S.p hf hs (.bool false) rfl rfl fun a hf => R.nil (X.then_ (wp_ret (X.then_ret (X.blk_ret (X.then_ret (X.then_ret (X.blk_ret (X.blk_ret (X.then_ret (X.then_ret (X.blk_ret (X.then_ret ?_))))))))))))))
     exact L.ret hf (run_results1 Tryd.results3 (ResIs.tmp hf rfl)) ⟨false, rfl, h, hs.nil⟩
    ·replace h := h.2 hc
     refine wp_skip (X.then_ (wp_seq (H.start (S := Sat w0 none_ [hbox g5 37 [.string (ba xk1.Net), .slice u1A xk1.Ways.length u1C], hbox g4 24 [iv y1.W, iv y1.H, iv y1.Layers, .slice y1_BlockedA y1.Blocked.length y1_BlockedC], hown 30 y1_BlockedA y1_BlockedC y1.Blocked, hbox g3 30 [iv from_.X, iv from_.Y, iv from_.Layer], hbox g2 26 [iv c.Step, iv c.Via, iv c.Turn, iv c.Against], hbox g1 24 [iv g.W, iv g.H, iv g.Layers, .slice g_BlockedA g.Blocked.length g_BlockedC]]) mo ?_)))
     replace hs := hs.drew
     refine H.v hf hs (.agg #[iv y1.W, iv y1.H, iv y1.Layers, .slice y1_BlockedA y1.Blocked.length y1_BlockedC]) 0 rfl rfl (by kernel_rfl) (V.loadBox 1 rfl rfl rfl Tryd.isAgg24 Tryd.sizeOf24 rfl rfl) fun a hf => H.v hf hs (.agg #[iv c.Step, iv c.Via, iv c.Turn, iv c.Against]) 1 rfl rfl (by kernel_rfl) (V.loadBox 4 rfl rfl rfl Tryd.isAgg26 Tryd.sizeOf26 rfl rfl) fun a hf => H.v hf hs (.slice u2A xk2.length u2C) 2 rfl rfl (by kernel_rfl) (V.pure rfl) fun a hf => ?_
     obtain ⟨h0x1, x1, hx1, h⟩ := h
     refine H.v hf hs (elemPtr u2A (0 * 3)) 3 rfl rfl (by kernel_rfl) (V.index rfl rfl rfl Tryd.runUnderlying22 Tryd.sizeOf30 (hvu2.some_ (lt_of_get hx1)) h0x1 (lt_of_get hx1) rfl) fun a hf => H.v hf hs (.agg #[iv x1.X, iv x1.Y, iv x1.Layer]) 4 rfl rfl (by kernel_rfl) (V.loadEl (off := 0) (Ag.args _ _ _) (hvu2.flat hx1) rfl rfl rfl Tryd.isAgg30 Tryd.sizeOf30 rfl rfl) fun a hf => H.v hf hs (.slice u2A xk2.length u2C) 5 rfl rfl (by kernel_rfl) (V.pure rfl) fun a hf => H.v hf hs (elemPtr u2A (0 * 3)) 6 rfl rfl (by kernel_rfl) (V.index rfl rfl rfl Tryd.runUnderlying22 Tryd.sizeOf30 (hvu2.some_ (lt_of_get hx1)) h0x1 (lt_of_get hx1) rfl) fun a hf => H.v hf hs (.agg #[iv x1.X, iv x1.Y, iv x1.Layer]) 7 rfl rfl (by kernel_rfl) (V.loadEl (off := 0) (Ag.args _ _ _) (hvu2.flat hx1) rfl rfl rfl Tryd.isAgg30 Tryd.sizeOf30 rfl rfl) fun a hf => H.one (i := 8) rfl (by kernel_rfl) (S.call hf rfl rfl rfl (call_fn (vs := [.agg #[iv y1.W, iv y1.H, iv y1.Layers, .slice y1_BlockedA y1.Blocked.length y1_BlockedC], .agg #[iv c.Step, iv c.Via, iv c.Turn, iv c.Against], .agg #[iv x1.X, iv x1.Y, iv x1.Layer], .agg #[iv x1.X, iv x1.Y, iv x1.Layer]]) rfl rfl rfl Tryd.call7) (R_route_Way y1 c x1 x1 _ y1_BlockedA y1_BlockedC (hs.ownView 2 rfl) _ h) (fun v a w' hf hr => ?_))
     obtain ⟨y7, y7A, y7C, y8, y9, rfl, h2, hs2⟩ := hr
     replace h := h2; replace hs := hs.call hs2; clear h2 hs2
     refine R.nil (X.then_ (⟨(hs.mask [false, true, true, true, true, true, true]), (H.val hf (hs.mask [false, true, true, true, true, true, true]) (v := .tuple #[.slice y7A y7.length y7C, .bool y8, iv y9]) (i := 9) rfl rfl rfl rfl (by kernel_rfl) (by kernel_rfl) (by kernel_rfl) (V.pure rfl) (fun a hf => H.val hf (hs.mask [false, true, true, true, true, true, true]) (v := .slice y7A y7.length y7C) (i := 10) rfl rfl rfl rfl (by kernel_rfl) (by kernel_rfl) (by kernel_rfl) (V.pure rfl) (fun a hf => H.val hf (hs.mask [false, true, true, true, true, true, true]) (v := .bool y8) (i := 11) rfl rfl rfl rfl (by kernel_rfl) (by kernel_rfl) (by kernel_rfl) (V.pure rfl) (fun a hf => H.val hf (hs.mask [false, true, true, true, true, true, true]) (v := iv y9) (i := 12) rfl rfl rfl rfl (by kernel_rfl) (by kernel_rfl) (by kernel_rfl) (V.pure rfl) (fun a hf => H.val hf (hs.mask [false, true, true, true, true, true, true]) (v := .slice y7A y7.length y7C) (i := 13) rfl rfl rfl rfl (by kernel_rfl) (by kernel_rfl) (by kernel_rfl) (V.pure rfl) (fun a hf => H.val hf (hs.mask [false, true, true, true, true, true, true]) (v := .bool y8) (i := 14) rfl rfl rfl rfl (by kernel_rfl) (by kernel_rfl) (by kernel_rfl) (V.pure rfl) (fun a hf => ?_)))))))⟩))
     refine H.val hf (hs.mask [false, true, true, true, true, true, true]) (v := iv y9) (i := 15) rfl rfl rfl rfl (by kernel_rfl) (by kernel_rfl) (by kernel_rfl) (V.pure rfl) (fun a hf => H.done (by kernel_rfl) (X.then_ (wp_seq (R.list (S.p hf hs (iv y9) rfl rfl fun a hf => S.p hf hs (.bool (y9 == 0)) rfl rfl fun a hf => R.nil (X.then_ ?_))))))
     refine C.cond hf (b := y9 == 0) rfl (fun hc => ?_) (fun hc => ?_)
     ·replace h := h.1 hc
      refine wp_seq (R.list (S.p hf hs (.bool false) rfl rfl fun a hf => R.nil (X.then_ (wp_ret (X.blk_ret (X.then_ret (X.then_ret (X.blk_ret (X.blk_ret (X.then_ret (X.then_ret (X.blk_ret (X.then_ret ?_)))))))))))))
      exact L.ret hf (run_results1 Tryd.results3 (ResIs.tmp hf rfl)) ⟨false, rfl, h, hs.nil⟩
     ·replace h := h.2 hc
      refine wp_skip (X.blk (X.then_ (R.list (S.v hf hs (iv ((k2 + 1 : Nat) : Int)) rfl (V.incr rfl rfl rfl hltk2 hlenk2) fun a hf => S.p hf hs (iv ((k2 + 1 : Nat) : Int)) rfl rfl fun a hf => R.nil (X.then_ ?_)))))
      exact ⟨xk2, llk2, rfl, k2 + 1, range_drop hlk2, range_len hkk2, (by rw [hnext2] at h; exact h), ((((((((hf.nil.cons (hf.get 44 _ rfl)).cons (hf.get 43 _ rfl)).cons (hf.get 38 _ rfl)).cons (hf.get 37 _ rfl)).cons (hf.get 36 _ rfl)).cons (hf.get 11 _ rfl)).cons (hf.get 6 _ rfl)).cons (hf.get 45 _ rfl)), hs.drop⟩
end Go.Proofs.YtihjaehkdgdenaaDoor
