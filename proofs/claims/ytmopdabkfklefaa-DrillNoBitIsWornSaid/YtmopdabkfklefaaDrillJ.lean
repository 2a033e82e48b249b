/- Chapter 8: between two changes a bit drills at most as many holes as it can. -/
import Derived.Test.YtmopdabkfklefaaDrillH
namespace Go.Proofs.Ytmopdabkfklefaa
open Go Go.RowKit
set_option linter.unusedVariables false

set_option linter.unusedVariables false
def M_law_NoBitIsWorn_k5 (Q : Bool → Prop) (next4 : Prop) (c1 : Bool) : Prop :=
  cnd c1 (Q false) (next4)
def M_law_NoBitIsWorn_L4 (Q : Bool → Prop) (xk1 : Job) (n5 : Int) (k4 : Nat) (xk4 : Bit)  (next4 : Prop) : Prop :=
  cnd (xk4.Name == xk1.Tool) (M_law_NoBitIsWorn_k5 Q next4 (decide (n5 > xk4.Stack))) (M_law_NoBitIsWorn_k5 Q next4 false)
def M_law_NoBitIsWorn_k6 (Q : Bool → Prop) (xk3 : Change) (n5 : Int) (next3 : Int → Int → Prop) (c2 : Bool) : Prop :=
  cnd c2 (Q false) (next3 (w64 (n5 + 1)) xk3.Hole)
def M_law_NoBitIsWorn_L3 (Q : Bool → Prop) (k1 : Nat) (xk1 : Job) (n2 : Int) (k3 : Nat) (xk3 : Change) (n5 : Int) (n6 : Int) (next3 : Int → Int → Prop) : Prop :=
  cnd (xk3.Job != (k1 : Int)) (next3 n5 n6) (cnd (!(xk3.Tool == xk1.Tool)) (M_law_NoBitIsWorn_k6 Q xk3 n5 next3 true) (cnd (decide (w64 (xk3.Hole - n6) > n2)) (M_law_NoBitIsWorn_k6 Q xk3 n5 next3 true) (M_law_NoBitIsWorn_k6 Q xk3 n5 next3 (decide (xk3.Hole ≤ n6)))))
def M_law_NoBitIsWorn_L2 (xk1 : Job) (k2 : Nat) (xk2 : Bit) (n2 : Int) (next2 : Int → Prop) : Prop :=
  cnd (xk2.Name == xk1.Tool) (next2 xk2.Life) (next2 n2)
def M_law_NoBitIsWorn_L1 (t : (List Bit)) (Q : Bool → Prop) (y1 : (List Change)) (k1 : Nat) (xk1 : Job)  (next1 : Prop) : Prop :=
  forIn' (fun k x (s : Int) next => M_law_NoBitIsWorn_L2 xk1 k x s (fun n2 => next n2)) (fun (s : Int) => (fun (n2 : Int) => forIn' (fun k x (s : Int × Int) next => M_law_NoBitIsWorn_L3 Q k1 xk1 n2 k x s.1 s.2 (fun n5 n6 => next (n5, n6))) (fun (s : Int × Int) => (fun (n5 : Int) (n6 : Int) => cnd (decide (w64 ((xk1.Holes.length : Int) - n6) > n2)) (Q false) (forIn' (fun k x (s : Unit) next => M_law_NoBitIsWorn_L4 Q xk1 n5 k x (next ())) (fun (s : Unit) => next1) t 0 ())) s.1 s.2) y1 0 (1, 0)) s) t 0 0
def M_law_NoBitIsWorn (t : (List Bit)) (j : (List Job)) (Q : Bool → Prop) : Prop :=
  M_drill_Changes t j fun y1 y2 => cnd (y2 != 0) (cnd ((y1.length : Int) == 0) (M_awake  fun y3 => Q y3) (Q false)) (forIn' (fun k x (s : Unit) next => M_law_NoBitIsWorn_L1 t Q y1 k x (next ())) (fun (s : Unit) => M_awake  fun y4 => Q y4) j 0 ())
set_option maxHeartbeats 1000000 in
theorem R_law_NoBitIsWorn (t : (List Bit)) (j : (List Job)) (w0 : World) (tA : Option Addr) (tC : Nat) (hv_t : View w0 (old w0 none_) tA tC t) (jA : Option Addr) (jC : Nat) (hv_j : View w0 (old w0 none_) jA jC j) (Q : Bool → Prop) (h : M_law_NoBitIsWorn t j Q) :
    Ret Try.prog 9 #[.slice tA t.length tC, .slice jA j.length jC] w0 fun v w' => ∃ (r0 : Bool), v = .bool r0 ∧ Q r0 ∧ Sat w0 none_ [] w' := by
  refine fn_enter Try.func9 rfl Try.ntmps9 rfl (fs := [(0, .slice tA t.length tC), (1, .slice jA j.length jC)]) rfl (fun a hf => ?_)
  have hs := Sat.start w0 none_
  unfold M_law_NoBitIsWorn at h
  refine wp_seq ?_
  refine R.list ?_
  refine S.val hf hs (v := .bool false) rfl rfl rfl (V.pure rfl) (fun a hf => ?_)
  refine R.nil ?_
  refine X.then_ ?_
  refine wp_seq ?_
  refine R.list ?_
  refine S.val hf hs (v := .slice tA t.length tC) rfl rfl rfl (V.pure rfl) (fun a hf => ?_)
  refine S.val hf hs (v := .slice jA j.length jC) rfl rfl rfl (V.pure rfl) (fun a hf => ?_)
  refine S.call hf rfl rfl rfl (call_fn (vs := [.slice tA t.length tC, .slice jA j.length jC]) rfl rfl rfl Try.call32) (R_drill_Changes t j _ tA tC ((Ag.args _ _ _).view hv_t hs) jA jC ((Ag.args _ _ _).view hv_j hs) _ h) (fun v a w' hf hr => ?_)
  obtain ⟨y1, y1A, y1C, y2, rfl, h2, hs2⟩ := hr
  replace h := h2; replace hs := hs.call hs2; clear h2 hs2
  refine S.val hf hs (v := .tuple #[.slice y1A y1.length y1C, .int .i64 y2]) rfl rfl rfl (V.pure rfl) (fun a hf => ?_)
  refine S.val hf hs (v := .slice y1A y1.length y1C) rfl rfl rfl (V.pure rfl) (fun a hf => ?_)
  refine S.val hf hs (v := .int .i64 y2) rfl rfl rfl (V.pure rfl) (fun a hf => ?_)
  refine S.val hf hs (v := .slice y1A y1.length y1C) rfl rfl rfl (V.pure rfl) (fun a hf => ?_)
  refine S.val hf hs (v := .int .i64 y2) rfl rfl rfl (V.pure rfl) (fun a hf => ?_)
  refine R.nil ?_
  refine X.then_ ?_
  refine wp_seq ?_
  refine wp_seq ?_
  refine R.list ?_
  refine S.val hf hs (v := .int .i64 y2) rfl rfl rfl (V.pure rfl) (fun a hf => ?_)
  refine S.val hf hs (v := .bool (y2 != 0)) rfl rfl rfl (V.pure rfl) (fun a hf => ?_)
  refine R.nil ?_
  refine X.then_ ?_
  refine C.cond hf (b := y2 != 0) rfl (fun hc => ?_) (fun hc => ?_)
  · replace h := h.1 hc
    refine wp_seq ?_
    refine R.list ?_
    refine S.val hf hs (v := .slice y1A y1.length y1C) rfl rfl rfl (V.pure rfl) (fun a hf => ?_)
    refine S.val hf hs (v := .int .i64 (y1.length : Int)) rfl rfl rfl (V.len rfl rfl Try.runUnderlying50) (fun a hf => ?_)
    refine S.val hf hs (v := .bool ((y1.length : Int) == 0)) rfl rfl rfl (V.pure rfl) (fun a hf => ?_)
    refine S.split hf hs (b := (y1.length : Int) == 0) rfl rfl rfl (V.pure rfl) (fun hc a hf => ?_) (fun hc a hf => ?_)
    · replace h := h.1 hc
      refine S.call hf rfl rfl rfl (call_fn (vs := []) rfl rfl rfl Try.call20) (R_awake  _  _ h) (fun v a w' hf hr => ?_)
      obtain ⟨y3, rfl, h2, hs2⟩ := hr
      replace h := h2; replace hs := hs.call hs2; clear h2 hs2
      refine S.val hf hs (v := .bool y3) rfl rfl rfl (V.pure rfl) (fun a hf => ?_)
      refine S.val hf hs (v := .bool y3) rfl rfl rfl (V.pure rfl) (fun a hf => ?_)
      refine R.nil ?_
      refine X.then_ ?_
      refine wp_ret ?_
      refine X.then_ret ?_
      exact L.ret hf (run_results1 Try.results9 (ResIs.tmp hf rfl)) ⟨y3, rfl, h, hs.nil⟩
    · replace h := h.2 hc
      refine S.skip hf rfl rfl rfl (fun a hf => ?_)
      refine S.val hf hs (v := .bool false) rfl rfl rfl (V.pure rfl) (fun a hf => ?_)
      refine S.val hf hs (v := .bool false) rfl rfl rfl (V.pure rfl) (fun a hf => ?_)
      refine R.nil ?_
      refine X.then_ ?_
      refine wp_ret ?_
      refine X.then_ret ?_
      exact L.ret hf (run_results1 Try.results9 (ResIs.tmp hf rfl)) ⟨false, rfl, h, hs.nil⟩
  · replace h := h.2 hc
    refine wp_skip ?_
    refine X.then_ ?_
    refine wp_seq ?_
    refine wp_seq ?_
    refine R.list ?_
    refine S.val hf hs (v := .slice jA j.length jC) rfl rfl rfl (V.pure rfl) (fun a hf => ?_)
    refine S.val hf hs (v := .int .i64 (j.length : Int)) rfl rfl rfl (V.len rfl rfl Try.runUnderlying49) (fun a hf => ?_)
    refine S.val hf hs (v := .int .i64 0) rfl rfl rfl (V.pure rfl) (fun a hf => ?_)
    refine R.nil ?_
    refine X.then_ ?_
    refine wp_block ?_
    have hlenk1 := hv_j.len64
    refine C.range (fun (ll : List Job) a w => ∃ (k1 : Nat) , j.drop k1 = ll ∧ k1 + ll.length = j.length ∧ forIn' (fun k x (s : Unit) next => M_law_NoBitIsWorn_L1 t Q y1 k x (next ())) (fun (s : Unit) => M_awake  fun y4 => Q y4) ll k1 () ∧ FrOk 114 [(34, .int .i64 (k1 : Int)), (0, .slice tA t.length tC), (5, .slice y1A y1.length y1C), (32, .slice jA j.length jC), (33, .int .i64 (j.length : Int))] a ∧ Sat w0 none_ [hown 58 y1A y1C y1] w) j ⟨0, rfl, Nat.zero_add _, h, (((((hf.nil.cons (hf.get 33 _ rfl)).cons (hf.get 32 _ rfl)).cons (hf.get 5 _ rfl)).cons (hf.get 0 _ rfl)).cons (hf.get 34 _ rfl)), hs⟩ ?_
    clear h hf hs
    rintro ll a w ⟨k1, hlk1, hkk1, h, hf, hs⟩
    cases ll with
    | nil =>
      have hc := range_done hkk1
      replace h : M_awake  fun y4 => Q y4 := h
      refine wp_seq ?_
      refine R.list ?_
      refine S.val hf hs (v := .bool false) rfl rfl rfl (V.cmp false rfl rfl rfl rfl hc) (fun a hf => ?_)
      refine R.nil ?_
      refine X.then_ ?_
      refine wp_seq ?_
      refine C.no hf rfl ?_
      refine wp_exit ?_
      refine X.then_exit ?_
      refine X.then_exit ?_
      refine X.blk_exit ?_
      refine X.then_ ?_
      refine wp_seq ?_
      refine R.list ?_
      refine S.call hf rfl rfl rfl (call_fn (vs := []) rfl rfl rfl Try.call20) (R_awake  _  _ h) (fun v a w' hf hr => ?_)
      obtain ⟨y4, rfl, h2, hs2⟩ := hr
      replace h := h2; replace hs := hs.call hs2; clear h2 hs2
      refine S.val hf hs (v := .bool y4) rfl rfl rfl (V.pure rfl) (fun a hf => ?_)
      refine R.nil ?_
      refine X.then_ ?_
      refine wp_ret ?_
      exact L.ret hf (run_results1 Try.results9 (ResIs.tmp hf rfl)) ⟨y4, rfl, h, hs.nil⟩
    | cons xk1 ll =>
      have hltk1 := range_lt hkk1; have hc := range_go hkk1; have hxk1 := range_get hlk1
      obtain ⟨next1, hnext1⟩ : ∃ X : Prop, X = (forIn' (fun k x (s : Unit) next => M_law_NoBitIsWorn_L1 t Q y1 k x (next ())) (fun (s : Unit) => M_awake  fun y4 => Q y4) ll (k1 + 1) ()) := ⟨_, rfl⟩
      replace h : M_law_NoBitIsWorn_L1 t Q y1 k1 xk1  next1 := by rw [hnext1]; exact h
      unfold M_law_NoBitIsWorn_L1 at h
      refine wp_seq ?_
      refine R.list ?_
      refine S.val hf hs (v := .bool true) rfl rfl rfl (V.cmp true rfl rfl rfl rfl hc) (fun a hf => ?_)
      refine R.nil ?_
      refine X.then_ ?_
      refine wp_seq ?_
      refine C.yes hf rfl ?_
      refine wp_skip ?_
      refine X.then_ ?_
      refine wp_seq ?_
      refine wp_block ?_
      refine wp_seq ?_
      refine R.list ?_
      refine S.val hf hs (v := .int .i64 (k1 : Int)) rfl rfl rfl (V.pure rfl) (fun a hf => ?_)
      obtain ⟨cs1, he1, hr1⟩ := hv_j.at_ _ _ hxk1
      obtain ⟨u1A, u1C, rfl, hvu1⟩ := hr1
      refine S.val hf hs (v := elemPtr jA (k1 * 2)) rfl rfl rfl (V.index rfl rfl rfl Try.runUnderlying49 Try.sizeOf54 (hv_j.some_ (lt_of_get hxk1)) (Int.natCast_nonneg _) (lt_of_get hxk1) rfl) (fun a hf => ?_)
      refine S.val hf hs (v := .agg #[.string (ba xk1.Tool), .slice u1A xk1.Holes.length u1C]) rfl rfl rfl (V.loadEl (off := 0) (Ag.args _ _ _) he1 rfl rfl rfl Try.isAgg54 Try.sizeOf54 rfl rfl) (fun a hf => ?_)
      refine S.alloc hf hs rfl rfl rfl [.string (ba []), .slice none 0 0] rfl Try.zeroValue54 rfl (fun g1 a w hf hs => ?_)
      refine S.val hf hs (v := .int .i64 (k1 : Int)) rfl rfl rfl (V.pure rfl) (fun a hf => ?_)
      refine S.storeBox 0 hf hs rfl rfl [.string (ba xk1.Tool), .slice u1A xk1.Holes.length u1C] [.string (ba xk1.Tool), .slice u1A xk1.Holes.length u1C] rfl rfl rfl rfl rfl Try.sizeOf54 rfl rfl rfl rfl (fun a w hf hs => ?_)
      refine R.nil ?_
      refine X.then_ ?_
      refine wp_seq ?_
      refine R.list ?_
      refine S.val hf hs (v := .int .i64 0) rfl rfl rfl (V.pure rfl) (fun a hf => ?_)
      refine S.val hf hs (v := .int .i64 1) rfl rfl rfl (V.pure rfl) (fun a hf => ?_)
      refine R.nil ?_
      refine X.then_ ?_
      refine wp_seq ?_
      refine wp_seq ?_
      refine R.list ?_
      refine S.val hf hs (v := .slice tA t.length tC) rfl rfl rfl (V.pure rfl) (fun a hf => ?_)
      refine S.val hf hs (v := .int .i64 (t.length : Int)) rfl rfl rfl (V.len rfl rfl Try.runUnderlying48) (fun a hf => ?_)
      refine S.val hf hs (v := .int .i64 0) rfl rfl rfl (V.pure rfl) (fun a hf => ?_)
      refine R.nil ?_
      refine X.then_ ?_
      refine wp_block ?_
      have hlenk2 := hv_t.len64
      refine C.range (fun (ll : List Bit) a w => ∃ (k2 : Nat) (n2 : Int), t.drop k2 = ll ∧ k2 + ll.length = t.length ∧ forIn' (fun k x (s : Int) next => M_law_NoBitIsWorn_L2 xk1 k x s (fun n2 => next n2)) (fun (s : Int) => (fun (n2 : Int) => forIn' (fun k x (s : Int × Int) next => M_law_NoBitIsWorn_L3 Q k1 xk1 n2 k x s.1 s.2 (fun n5 n6 => next (n5, n6))) (fun (s : Int × Int) => (fun (n5 : Int) (n6 : Int) => cnd (decide (w64 ((xk1.Holes.length : Int) - n6) > n2)) (Q false) (forIn' (fun k x (s : Unit) next => M_law_NoBitIsWorn_L4 Q xk1 n5 k x (next ())) (fun (s : Unit) => next1) t 0 ())) s.1 s.2) y1 0 (1, 0)) s) ll k2 n2 ∧ FrOk 114 [(41, .int .i64 (k2 : Int)), (0, .slice tA t.length tC), (5, .slice y1A y1.length y1C), (7, .int .i64 (k1 : Int)), (8, .pointer (some ⟨g1, 0, none⟩)), (9, .int .i64 n2), (10, .int .i64 1), (32, .slice jA j.length jC), (33, .int .i64 (j.length : Int)), (34, .int .i64 (k1 : Int)), (39, .slice tA t.length tC), (40, .int .i64 (t.length : Int))] a ∧ Sat w0 none_ [hbox g1 54 [.string (ba xk1.Tool), .slice u1A xk1.Holes.length u1C], hown 58 y1A y1C y1] w) t ⟨0, 0, rfl, Nat.zero_add _, h, ((((((((((((hf.nil.cons (hf.get 40 _ rfl)).cons (hf.get 39 _ rfl)).cons (hf.get 34 _ rfl)).cons (hf.get 33 _ rfl)).cons (hf.get 32 _ rfl)).cons (hf.get 10 _ rfl)).cons (hf.get 9 _ rfl)).cons (hf.get 8 _ rfl)).cons (hf.get 7 _ rfl)).cons (hf.get 5 _ rfl)).cons (hf.get 0 _ rfl)).cons (hf.get 41 _ rfl)), hs⟩ ?_
      clear h hf hs
      rintro ll a w ⟨k2, n2, hlk2, hkk2, h, hf, hs⟩
      cases ll with
      | nil =>
        have hc := range_done hkk2
        replace h : (fun (n2 : Int) => forIn' (fun k x (s : Int × Int) next => M_law_NoBitIsWorn_L3 Q k1 xk1 n2 k x s.1 s.2 (fun n5 n6 => next (n5, n6))) (fun (s : Int × Int) => (fun (n5 : Int) (n6 : Int) => cnd (decide (w64 ((xk1.Holes.length : Int) - n6) > n2)) (Q false) (forIn' (fun k x (s : Unit) next => M_law_NoBitIsWorn_L4 Q xk1 n5 k x (next ())) (fun (s : Unit) => next1) t 0 ())) s.1 s.2) y1 0 (1, 0)) n2 := h
        refine wp_seq ?_
        refine R.list ?_
        refine S.val hf hs (v := .bool false) rfl rfl rfl (V.cmp false rfl rfl rfl rfl hc) (fun a hf => ?_)
        refine R.nil ?_
        refine X.then_ ?_
        refine wp_seq ?_
        refine C.no hf rfl ?_
        refine wp_exit ?_
        refine X.then_exit ?_
        refine X.then_exit ?_
        refine X.blk_exit ?_
        refine X.then_ ?_
        refine wp_seq ?_
        refine R.list ?_
        refine S.val hf hs (v := .int .i64 0) rfl rfl rfl (V.pure rfl) (fun a hf => ?_)
        refine R.nil ?_
        refine X.then_ ?_
        refine wp_seq ?_
        refine wp_seq ?_
        refine R.list ?_
        refine S.val hf hs (v := .slice y1A y1.length y1C) rfl rfl rfl (V.pure rfl) (fun a hf => ?_)
        refine S.val hf hs (v := .int .i64 (y1.length : Int)) rfl rfl rfl (V.len rfl rfl Try.runUnderlying50) (fun a hf => ?_)
        refine S.val hf hs (v := .int .i64 0) rfl rfl rfl (V.pure rfl) (fun a hf => ?_)
        refine R.nil ?_
        refine X.then_ ?_
        refine wp_block ?_
        have hlenk3 := (hs.ownView 1 rfl).len64
        refine C.range (fun (ll : List Change) a w => ∃ (k3 : Nat) (n5 : Int) (n6 : Int), y1.drop k3 = ll ∧ k3 + ll.length = y1.length ∧ forIn' (fun k x (s : Int × Int) next => M_law_NoBitIsWorn_L3 Q k1 xk1 n2 k x s.1 s.2 (fun n5 n6 => next (n5, n6))) (fun (s : Int × Int) => (fun (n5 : Int) (n6 : Int) => cnd (decide (w64 ((xk1.Holes.length : Int) - n6) > n2)) (Q false) (forIn' (fun k x (s : Unit) next => M_law_NoBitIsWorn_L4 Q xk1 n5 k x (next ())) (fun (s : Unit) => next1) t 0 ())) s.1 s.2) ll k3 (n5, n6) ∧ FrOk 114 [(55, .int .i64 (k3 : Int)), (0, .slice tA t.length tC), (5, .slice y1A y1.length y1C), (7, .int .i64 (k1 : Int)), (8, .pointer (some ⟨g1, 0, none⟩)), (9, .int .i64 n2), (10, .int .i64 n5), (13, .int .i64 n6), (32, .slice jA j.length jC), (33, .int .i64 (j.length : Int)), (34, .int .i64 (k1 : Int)), (53, .slice y1A y1.length y1C), (54, .int .i64 (y1.length : Int))] a ∧ Sat w0 none_ [hbox g1 54 [.string (ba xk1.Tool), .slice u1A xk1.Holes.length u1C], hown 58 y1A y1C y1] w) y1 ⟨0, 1, 0, rfl, Nat.zero_add _, h, (((((((((((((hf.nil.cons (hf.get 54 _ rfl)).cons (hf.get 53 _ rfl)).cons (hf.get 34 _ rfl)).cons (hf.get 33 _ rfl)).cons (hf.get 32 _ rfl)).cons (hf.get 13 _ rfl)).cons (hf.get 10 _ rfl)).cons (hf.get 9 _ rfl)).cons (hf.get 8 _ rfl)).cons (hf.get 7 _ rfl)).cons (hf.get 5 _ rfl)).cons (hf.get 0 _ rfl)).cons (hf.get 55 _ rfl)), hs⟩ ?_
        clear h hf hs
        rintro ll a w ⟨k3, n5, n6, hlk3, hkk3, h, hf, hs⟩
        cases ll with
        | nil =>
          have hc := range_done hkk3
          replace h : (fun (n5 : Int) (n6 : Int) => cnd (decide (w64 ((xk1.Holes.length : Int) - n6) > n2)) (Q false) (forIn' (fun k x (s : Unit) next => M_law_NoBitIsWorn_L4 Q xk1 n5 k x (next ())) (fun (s : Unit) => next1) t 0 ())) n5 n6 := h
          refine wp_seq ?_
          refine R.list ?_
          refine S.val hf hs (v := .bool false) rfl rfl rfl (V.cmp false rfl rfl rfl rfl hc) (fun a hf => ?_)
          refine R.nil ?_
          refine X.then_ ?_
          refine wp_seq ?_
          refine C.no hf rfl ?_
          refine wp_exit ?_
          refine X.then_exit ?_
          refine X.then_exit ?_
          refine X.blk_exit ?_
          refine X.then_ ?_
          refine wp_seq ?_
          refine wp_seq ?_
          refine R.list ?_
          refine S.val hf hs (v := .pointer (some ⟨g1, 1, none⟩)) rfl rfl rfl (V.fieldBox rfl rfl Try.runUnderlying54 rfl Try.sizeOf34 rfl rfl) (fun a hf => ?_)
          refine S.val hf hs (v := .slice u1A xk1.Holes.length u1C) rfl rfl rfl (V.loadBox 0 rfl rfl rfl Try.isAgg34 Try.sizeOf34 rfl rfl) (fun a hf => ?_)
          refine S.val hf hs (v := .int .i64 (xk1.Holes.length : Int)) rfl rfl rfl (V.len rfl rfl Try.runUnderlying34) (fun a hf => ?_)
          refine S.val hf hs (v := .int .i64 n6) rfl rfl rfl (V.pure rfl) (fun a hf => ?_)
          refine S.val hf hs (v := .int .i64 (w64 ((xk1.Holes.length : Int) - n6))) rfl rfl rfl (V.pure rfl) (fun a hf => ?_)
          refine S.val hf hs (v := .int .i64 n2) rfl rfl rfl (V.pure rfl) (fun a hf => ?_)
          refine S.val hf hs (v := .bool (decide (w64 ((xk1.Holes.length : Int) - n6) > n2))) rfl rfl rfl (V.pure rfl) (fun a hf => ?_)
          refine R.nil ?_
          refine X.then_ ?_
          refine C.cond hf (b := decide (w64 ((xk1.Holes.length : Int) - n6) > n2)) rfl (fun hc => ?_) (fun hc => ?_)
          · replace h := h.1 hc
            refine wp_seq ?_
            refine R.list ?_
            refine S.val hf hs (v := .bool false) rfl rfl rfl (V.pure rfl) (fun a hf => ?_)
            refine R.nil ?_
            refine X.then_ ?_
            refine wp_ret ?_
            refine X.then_ret ?_
            refine X.blk_ret ?_
            refine X.then_ret ?_
            refine X.then_ret ?_
            refine X.blk_ret ?_
            refine X.then_ret ?_
            exact L.ret hf (run_results1 Try.results9 (ResIs.tmp hf rfl)) ⟨false, rfl, h, hs.nil⟩
          · replace h := h.2 hc
            refine wp_skip ?_
            refine X.then_ ?_
            refine wp_seq ?_
            refine R.list ?_
            refine S.val hf hs (v := .slice tA t.length tC) rfl rfl rfl (V.pure rfl) (fun a hf => ?_)
            refine S.val hf hs (v := .int .i64 (t.length : Int)) rfl rfl rfl (V.len rfl rfl Try.runUnderlying48) (fun a hf => ?_)
            refine S.val hf hs (v := .int .i64 0) rfl rfl rfl (V.pure rfl) (fun a hf => ?_)
            refine R.nil ?_
            refine X.then_ ?_
            refine wp_block ?_
            have hlenk4 := hv_t.len64
            refine C.range (fun (ll : List Bit) a w => ∃ (k4 : Nat) , t.drop k4 = ll ∧ k4 + ll.length = t.length ∧ forIn' (fun k x (s : Unit) next => M_law_NoBitIsWorn_L4 Q xk1 n5 k x (next ())) (fun (s : Unit) => next1) ll k4 () ∧ FrOk 114 [(96, .int .i64 (k4 : Int)), (0, .slice tA t.length tC), (5, .slice y1A y1.length y1C), (8, .pointer (some ⟨g1, 0, none⟩)), (10, .int .i64 n5), (32, .slice jA j.length jC), (33, .int .i64 (j.length : Int)), (34, .int .i64 (k1 : Int)), (94, .slice tA t.length tC), (95, .int .i64 (t.length : Int))] a ∧ Sat w0 none_ [hbox g1 54 [.string (ba xk1.Tool), .slice u1A xk1.Holes.length u1C], hown 58 y1A y1C y1] w) t ⟨0, rfl, Nat.zero_add _, h, ((((((((((hf.nil.cons (hf.get 95 _ rfl)).cons (hf.get 94 _ rfl)).cons (hf.get 34 _ rfl)).cons (hf.get 33 _ rfl)).cons (hf.get 32 _ rfl)).cons (hf.get 10 _ rfl)).cons (hf.get 8 _ rfl)).cons (hf.get 5 _ rfl)).cons (hf.get 0 _ rfl)).cons (hf.get 96 _ rfl)), hs⟩ ?_
            clear h hf hs
            rintro ll a w ⟨k4, hlk4, hkk4, h, hf, hs⟩
            cases ll with
            | nil =>
              have hc := range_done hkk4
              replace h : next1 := h
              refine wp_seq ?_
              refine R.list ?_
              refine S.val hf hs (v := .bool false) rfl rfl rfl (V.cmp false rfl rfl rfl rfl hc) (fun a hf => ?_)
              refine R.nil ?_
              refine X.then_ ?_
              refine wp_seq ?_
              refine C.no hf rfl ?_
              refine wp_exit ?_
              refine X.then_exit ?_
              refine X.then_exit ?_
              refine X.blk_exit ?_
              refine X.blk ?_
              refine X.then_ ?_
              refine R.list ?_
              refine S.val hf hs (v := .int .i64 ((k1 + 1 : Nat) : Int)) rfl rfl rfl (V.incr rfl rfl rfl hltk1 hlenk1) (fun a hf => ?_)
              refine S.val hf hs (v := .int .i64 ((k1 + 1 : Nat) : Int)) rfl rfl rfl (V.pure rfl) (fun a hf => ?_)
              refine R.nil ?_
              refine X.then_ ?_
              exact ⟨xk1, ll, rfl, k1 + 1, range_drop hlk1, range_len hkk1, (by rw [hnext1] at h; exact h), (((((hf.nil.cons (hf.get 33 _ rfl)).cons (hf.get 32 _ rfl)).cons (hf.get 5 _ rfl)).cons (hf.get 0 _ rfl)).cons (hf.get 34 _ rfl)), hs.drop⟩
            | cons xk4 ll =>
              have hltk4 := range_lt hkk4; have hc := range_go hkk4; have hxk4 := range_get hlk4
              obtain ⟨next4, hnext4⟩ : ∃ X : Prop, X = (forIn' (fun k x (s : Unit) next => M_law_NoBitIsWorn_L4 Q xk1 n5 k x (next ())) (fun (s : Unit) => next1) ll (k4 + 1) ()) := ⟨_, rfl⟩
              replace h : M_law_NoBitIsWorn_L4 Q xk1 n5 k4 xk4  next4 := by rw [hnext4]; exact h
              unfold M_law_NoBitIsWorn_L4 at h
              refine wp_seq ?_
              refine R.list ?_
              refine S.val hf hs (v := .bool true) rfl rfl rfl (V.cmp true rfl rfl rfl rfl hc) (fun a hf => ?_)
              refine R.nil ?_
              refine X.then_ ?_
              refine wp_seq ?_
              refine C.yes hf rfl ?_
              refine wp_skip ?_
              refine X.then_ ?_
              refine wp_seq ?_
              refine wp_block ?_
              refine wp_seq ?_
              refine R.list ?_
              refine S.val hf hs (v := elemPtr tA (k4 * 4)) rfl rfl rfl (V.index rfl rfl rfl Try.runUnderlying48 Try.sizeOf56 (hv_t.some_ (lt_of_get hxk4)) (Int.natCast_nonneg _) (lt_of_get hxk4) rfl) (fun a hf => ?_)
              refine S.val hf hs (v := .agg #[.string (ba xk4.Name), .int .i64 xk4.Size, .int .i64 xk4.Life, .int .i64 xk4.Stack]) rfl rfl rfl (V.loadEl (off := 0) (Ag.args _ _ _) (hv_t.flat hxk4) rfl rfl rfl Try.isAgg56 Try.sizeOf56 rfl rfl) (fun a hf => ?_)
              refine S.alloc hf hs rfl rfl rfl [.string (ba []), .int .i64 0, .int .i64 0, .int .i64 0] rfl Try.zeroValue56 rfl (fun g2 a w hf hs => ?_)
              refine S.storeBox 0 hf hs rfl rfl [.string (ba xk4.Name), .int .i64 xk4.Size, .int .i64 xk4.Life, .int .i64 xk4.Stack] [.string (ba xk4.Name), .int .i64 xk4.Size, .int .i64 xk4.Life, .int .i64 xk4.Stack] rfl rfl rfl rfl rfl Try.sizeOf56 rfl rfl rfl rfl (fun a w hf hs => ?_)
              refine R.nil ?_
              refine X.then_ ?_
              refine wp_seq ?_
              refine C.cut (J := fun a w => ∃ (c1 : Bool), M_law_NoBitIsWorn_k5 Q next4 c1 ∧ FrOk 114 [(0, .slice tA t.length tC), (5, .slice y1A y1.length y1C), (8, .pointer (some ⟨g1, 0, none⟩)), (10, .int .i64 n5), (32, .slice jA j.length jC), (33, .int .i64 (j.length : Int)), (34, .int .i64 (k1 : Int)), (94, .slice tA t.length tC), (95, .int .i64 (t.length : Int)), (96, .int .i64 (k4 : Int)), (110, .bool c1)] a ∧ Sat w0 none_ [hbox g2 56 [.string (ba xk4.Name), .int .i64 xk4.Size, .int .i64 xk4.Life, .int .i64 xk4.Stack], hbox g1 54 [.string (ba xk1.Tool), .slice u1A xk1.Holes.length u1C], hown 58 y1A y1C y1] w) ?_ ?_
              · rintro a w ⟨c1, h, hf, hs⟩
                unfold M_law_NoBitIsWorn_k5 at h
                refine C.cond hf (b := c1) rfl (fun hc => ?_) (fun hc => ?_)
                · replace h := h.1 hc
                  refine wp_seq ?_
                  refine R.list ?_
                  refine S.val hf hs (v := .bool false) rfl rfl rfl (V.pure rfl) (fun a hf => ?_)
                  refine R.nil ?_
                  refine X.then_ ?_
                  refine wp_ret ?_
                  refine X.blk_ret ?_
                  refine X.then_ret ?_
                  refine X.then_ret ?_
                  refine X.blk_ret ?_
                  refine X.blk_ret ?_
                  refine X.then_ret ?_
                  refine X.then_ret ?_
                  refine X.blk_ret ?_
                  refine X.then_ret ?_
                  exact L.ret hf (run_results1 Try.results9 (ResIs.tmp hf rfl)) ⟨false, rfl, h, hs.nil⟩
                · replace h := h.2 hc
                  refine wp_skip ?_
                  refine X.blk ?_
                  refine X.then_ ?_
                  refine R.list ?_
                  refine S.val hf hs (v := .int .i64 ((k4 + 1 : Nat) : Int)) rfl rfl rfl (V.incr rfl rfl rfl hltk4 hlenk4) (fun a hf => ?_)
                  refine S.val hf hs (v := .int .i64 ((k4 + 1 : Nat) : Int)) rfl rfl rfl (V.pure rfl) (fun a hf => ?_)
                  refine R.nil ?_
                  refine X.then_ ?_
                  exact ⟨xk4, ll, rfl, k4 + 1, range_drop hlk4, range_len hkk4, (by rw [hnext4] at h; exact h), ((((((((((hf.nil.cons (hf.get 95 _ rfl)).cons (hf.get 94 _ rfl)).cons (hf.get 34 _ rfl)).cons (hf.get 33 _ rfl)).cons (hf.get 32 _ rfl)).cons (hf.get 10 _ rfl)).cons (hf.get 8 _ rfl)).cons (hf.get 5 _ rfl)).cons (hf.get 0 _ rfl)).cons (hf.get 96 _ rfl)), hs.drop⟩
              · skip
                refine R.list ?_
                refine S.val hf hs (v := .pointer (some ⟨g2, 0, none⟩)) rfl rfl rfl (V.fieldBox rfl rfl Try.runUnderlying56 rfl Try.sizeOf9 rfl rfl) (fun a hf => ?_)
                refine S.val hf hs (v := .string (ba xk4.Name)) rfl rfl rfl (V.loadBox 0 rfl rfl rfl Try.isAgg9 Try.sizeOf9 rfl rfl) (fun a hf => ?_)
                refine S.val hf hs (v := .pointer (some ⟨g1, 0, none⟩)) rfl rfl rfl (V.fieldBox rfl rfl Try.runUnderlying54 rfl Try.sizeOf9 rfl rfl) (fun a hf => ?_)
                refine S.val hf hs (v := .string (ba xk1.Tool)) rfl rfl rfl (V.loadBox 1 rfl rfl rfl Try.isAgg9 Try.sizeOf9 rfl rfl) (fun a hf => ?_)
                refine S.val hf hs (v := .bool (xk4.Name == xk1.Tool)) rfl rfl rfl (V.strCmp (xk4.Name == xk1.Tool) rfl rfl rfl rfl) (fun a hf => ?_)
                refine S.split hf hs (b := xk4.Name == xk1.Tool) rfl rfl rfl (V.pure rfl) (fun hc a hf => ?_) (fun hc a hf => ?_)
                · replace h := h.1 hc
                  refine S.val hf hs (v := .int .i64 n5) rfl rfl rfl (V.pure rfl) (fun a hf => ?_)
                  refine S.val hf hs (v := .pointer (some ⟨g2, 3, none⟩)) rfl rfl rfl (V.fieldBox rfl rfl Try.runUnderlying56 rfl Try.sizeOf3 rfl rfl) (fun a hf => ?_)
                  refine S.val hf hs (v := .int .i64 xk4.Stack) rfl rfl rfl (V.loadBox 0 rfl rfl rfl Try.isAgg3 Try.sizeOf3 rfl rfl) (fun a hf => ?_)
                  refine S.val hf hs (v := .bool (decide (n5 > xk4.Stack))) rfl rfl rfl (V.pure rfl) (fun a hf => ?_)
                  refine S.val hf hs (v := .bool (decide (n5 > xk4.Stack))) rfl rfl rfl (V.pure rfl) (fun a hf => ?_)
                  refine R.nil ?_
                  refine X.then_ ?_
                  exact ⟨(decide (n5 > xk4.Stack)), h, (((((((((((hf.nil.cons (hf.get 110 _ rfl)).cons (hf.get 96 _ rfl)).cons (hf.get 95 _ rfl)).cons (hf.get 94 _ rfl)).cons (hf.get 34 _ rfl)).cons (hf.get 33 _ rfl)).cons (hf.get 32 _ rfl)).cons (hf.get 10 _ rfl)).cons (hf.get 8 _ rfl)).cons (hf.get 5 _ rfl)).cons (hf.get 0 _ rfl)), hs⟩
                · replace h := h.2 hc
                  refine S.skip hf rfl rfl rfl (fun a hf => ?_)
                  refine S.skip hf rfl rfl rfl (fun a hf => ?_)
                  refine S.skip hf rfl rfl rfl (fun a hf => ?_)
                  refine S.skip hf rfl rfl rfl (fun a hf => ?_)
                  refine S.val hf hs (v := .bool false) rfl rfl rfl (V.pure rfl) (fun a hf => ?_)
                  refine R.nil ?_
                  refine X.then_ ?_
                  exact ⟨false, h, (((((((((((hf.nil.cons (hf.get 110 _ rfl)).cons (hf.get 96 _ rfl)).cons (hf.get 95 _ rfl)).cons (hf.get 94 _ rfl)).cons (hf.get 34 _ rfl)).cons (hf.get 33 _ rfl)).cons (hf.get 32 _ rfl)).cons (hf.get 10 _ rfl)).cons (hf.get 8 _ rfl)).cons (hf.get 5 _ rfl)).cons (hf.get 0 _ rfl)), hs⟩
        | cons xk3 ll =>
          have hltk3 := range_lt hkk3; have hc := range_go hkk3; have hxk3 := range_get hlk3
          obtain ⟨next3, hnext3⟩ : ∃ X : Int → Int → Prop, X = (fun n5 n6 => forIn' (fun k x (s : Int × Int) next => M_law_NoBitIsWorn_L3 Q k1 xk1 n2 k x s.1 s.2 (fun n5 n6 => next (n5, n6))) (fun (s : Int × Int) => (fun (n5 : Int) (n6 : Int) => cnd (decide (w64 ((xk1.Holes.length : Int) - n6) > n2)) (Q false) (forIn' (fun k x (s : Unit) next => M_law_NoBitIsWorn_L4 Q xk1 n5 k x (next ())) (fun (s : Unit) => next1) t 0 ())) s.1 s.2) ll (k3 + 1) (n5, n6)) := ⟨_, rfl⟩
          replace h : M_law_NoBitIsWorn_L3 Q k1 xk1 n2 k3 xk3 n5 n6 next3 := by rw [hnext3]; exact h
          unfold M_law_NoBitIsWorn_L3 at h
          refine wp_seq ?_
          refine R.list ?_
          refine S.val hf hs (v := .bool true) rfl rfl rfl (V.cmp true rfl rfl rfl rfl hc) (fun a hf => ?_)
          refine R.nil ?_
          refine X.then_ ?_
          refine wp_seq ?_
          refine C.yes hf rfl ?_
          refine wp_skip ?_
          refine X.then_ ?_
          refine wp_seq ?_
          refine wp_block ?_
          refine wp_seq ?_
          refine R.list ?_
          refine S.val hf hs (v := elemPtr y1A (k3 * 3)) rfl rfl rfl (V.index rfl rfl rfl Try.runUnderlying50 Try.sizeOf58 (hs.ownSome 1 rfl (lt_of_get hxk3)) (Int.natCast_nonneg _) (lt_of_get hxk3) rfl) (fun a hf => ?_)
          refine S.val hf hs (v := .agg #[.string (ba xk3.Tool), .int .i64 xk3.Job, .int .i64 xk3.Hole]) rfl rfl rfl (V.loadOwn (off := 0) 1 rfl hxk3 rfl rfl rfl Try.isAgg58 Try.sizeOf58 rfl rfl) (fun a hf => ?_)
          refine S.alloc hf hs rfl rfl rfl [.string (ba []), .int .i64 0, .int .i64 0] rfl Try.zeroValue58 rfl (fun g3 a w hf hs => ?_)
          refine S.storeBox 0 hf hs rfl rfl [.string (ba xk3.Tool), .int .i64 xk3.Job, .int .i64 xk3.Hole] [.string (ba xk3.Tool), .int .i64 xk3.Job, .int .i64 xk3.Hole] rfl rfl rfl rfl rfl Try.sizeOf58 rfl rfl rfl rfl (fun a w hf hs => ?_)
          refine R.nil ?_
          refine X.then_ ?_
          refine wp_seq ?_
          refine wp_seq ?_
          refine R.list ?_
          refine S.val hf hs (v := .pointer (some ⟨g3, 1, none⟩)) rfl rfl rfl (V.fieldBox rfl rfl Try.runUnderlying58 rfl Try.sizeOf3 rfl rfl) (fun a hf => ?_)
          refine S.val hf hs (v := .int .i64 xk3.Job) rfl rfl rfl (V.loadBox 0 rfl rfl rfl Try.isAgg3 Try.sizeOf3 rfl rfl) (fun a hf => ?_)
          refine S.val hf hs (v := .int .i64 (k1 : Int)) rfl rfl rfl (V.pure rfl) (fun a hf => ?_)
          refine S.val hf hs (v := .bool (xk3.Job != (k1 : Int))) rfl rfl rfl (V.pure rfl) (fun a hf => ?_)
          refine R.nil ?_
          refine X.then_ ?_
          refine C.cond hf (b := xk3.Job != (k1 : Int)) rfl (fun hc => ?_) (fun hc => ?_)
          · replace h := h.1 hc
            refine wp_exit ?_
            refine X.then_exit ?_
            refine X.blk_exit ?_
            refine X.then_ ?_
            refine R.list ?_
            refine S.val hf hs (v := .int .i64 ((k3 + 1 : Nat) : Int)) rfl rfl rfl (V.incr rfl rfl rfl hltk3 hlenk3) (fun a hf => ?_)
            refine S.val hf hs (v := .int .i64 ((k3 + 1 : Nat) : Int)) rfl rfl rfl (V.pure rfl) (fun a hf => ?_)
            refine R.nil ?_
            refine X.then_ ?_
            exact ⟨xk3, ll, rfl, k3 + 1, n5, n6, range_drop hlk3, range_len hkk3, (by rw [hnext3] at h; exact h), (((((((((((((hf.nil.cons (hf.get 54 _ rfl)).cons (hf.get 53 _ rfl)).cons (hf.get 34 _ rfl)).cons (hf.get 33 _ rfl)).cons (hf.get 32 _ rfl)).cons (hf.get 13 _ rfl)).cons (hf.get 10 _ rfl)).cons (hf.get 9 _ rfl)).cons (hf.get 8 _ rfl)).cons (hf.get 7 _ rfl)).cons (hf.get 5 _ rfl)).cons (hf.get 0 _ rfl)).cons (hf.get 55 _ rfl)), hs.drop⟩
          · replace h := h.2 hc
            refine wp_skip ?_
            refine X.then_ ?_
            refine wp_seq ?_
            refine wp_seq ?_
            refine C.cut (J := fun a w => ∃ (c2 : Bool), M_law_NoBitIsWorn_k6 Q xk3 n5 next3 c2 ∧ FrOk 114 [(0, .slice tA t.length tC), (5, .slice y1A y1.length y1C), (7, .int .i64 (k1 : Int)), (8, .pointer (some ⟨g1, 0, none⟩)), (9, .int .i64 n2), (10, .int .i64 n5), (15, .pointer (some ⟨g3, 0, none⟩)), (32, .slice jA j.length jC), (33, .int .i64 (j.length : Int)), (34, .int .i64 (k1 : Int)), (53, .slice y1A y1.length y1C), (54, .int .i64 (y1.length : Int)), (55, .int .i64 (k3 : Int)), (81, .bool c2)] a ∧ Sat w0 none_ [hbox g3 58 [.string (ba xk3.Tool), .int .i64 xk3.Job, .int .i64 xk3.Hole], hbox g1 54 [.string (ba xk1.Tool), .slice u1A xk1.Holes.length u1C], hown 58 y1A y1C y1] w) ?_ ?_
            · rintro a w ⟨c2, h, hf, hs⟩
              unfold M_law_NoBitIsWorn_k6 at h
              refine C.cond hf (b := c2) rfl (fun hc => ?_) (fun hc => ?_)
              · replace h := h.1 hc
                refine wp_seq ?_
                refine R.list ?_
                refine S.val hf hs (v := .bool false) rfl rfl rfl (V.pure rfl) (fun a hf => ?_)
                refine R.nil ?_
                refine X.then_ ?_
                refine wp_ret ?_
                refine X.then_ret ?_
                refine X.blk_ret ?_
                refine X.then_ret ?_
                refine X.then_ret ?_
                refine X.blk_ret ?_
                refine X.then_ret ?_
                refine X.blk_ret ?_
                refine X.then_ret ?_
                refine X.then_ret ?_
                refine X.blk_ret ?_
                refine X.then_ret ?_
                exact L.ret hf (run_results1 Try.results9 (ResIs.tmp hf rfl)) ⟨false, rfl, h, hs.nil⟩
              · replace h := h.2 hc
                refine wp_skip ?_
                refine X.then_ ?_
                refine wp_seq ?_
                refine R.list ?_
                refine S.val hf hs (v := .pointer (some ⟨g3, 2, none⟩)) rfl rfl rfl (V.fieldBox rfl rfl Try.runUnderlying58 rfl Try.sizeOf3 rfl rfl) (fun a hf => ?_)
                refine S.val hf hs (v := .int .i64 xk3.Hole) rfl rfl rfl (V.loadBox 0 rfl rfl rfl Try.isAgg3 Try.sizeOf3 rfl rfl) (fun a hf => ?_)
                refine S.val hf hs (v := .int .i64 xk3.Hole) rfl rfl rfl (V.pure rfl) (fun a hf => ?_)
                refine R.nil ?_
                refine X.then_ ?_
                refine R.list ?_
                refine S.val hf hs (v := .int .i64 n5) rfl rfl rfl (V.pure rfl) (fun a hf => ?_)
                refine S.val hf hs (v := .int .i64 (w64 (n5 + 1))) rfl rfl rfl (V.pure rfl) (fun a hf => ?_)
                refine S.val hf hs (v := .int .i64 (w64 (n5 + 1))) rfl rfl rfl (V.pure rfl) (fun a hf => ?_)
                refine R.nil ?_
                refine X.blk ?_
                refine X.then_ ?_
                refine R.list ?_
                refine S.val hf hs (v := .int .i64 ((k3 + 1 : Nat) : Int)) rfl rfl rfl (V.incr rfl rfl rfl hltk3 hlenk3) (fun a hf => ?_)
                refine S.val hf hs (v := .int .i64 ((k3 + 1 : Nat) : Int)) rfl rfl rfl (V.pure rfl) (fun a hf => ?_)
                refine R.nil ?_
                refine X.then_ ?_
                exact ⟨xk3, ll, rfl, k3 + 1, (w64 (n5 + 1)), xk3.Hole, range_drop hlk3, range_len hkk3, (by rw [hnext3] at h; exact h), (((((((((((((hf.nil.cons (hf.get 54 _ rfl)).cons (hf.get 53 _ rfl)).cons (hf.get 34 _ rfl)).cons (hf.get 33 _ rfl)).cons (hf.get 32 _ rfl)).cons (hf.get 13 _ rfl)).cons (hf.get 10 _ rfl)).cons (hf.get 9 _ rfl)).cons (hf.get 8 _ rfl)).cons (hf.get 7 _ rfl)).cons (hf.get 5 _ rfl)).cons (hf.get 0 _ rfl)).cons (hf.get 55 _ rfl)), hs.drop⟩
            · skip
              refine R.list ?_
              refine S.val hf hs (v := .pointer (some ⟨g3, 0, none⟩)) rfl rfl rfl (V.fieldBox rfl rfl Try.runUnderlying58 rfl Try.sizeOf9 rfl rfl) (fun a hf => ?_)
              refine S.val hf hs (v := .string (ba xk3.Tool)) rfl rfl rfl (V.loadBox 0 rfl rfl rfl Try.isAgg9 Try.sizeOf9 rfl rfl) (fun a hf => ?_)
              refine S.val hf hs (v := .pointer (some ⟨g1, 0, none⟩)) rfl rfl rfl (V.fieldBox rfl rfl Try.runUnderlying54 rfl Try.sizeOf9 rfl rfl) (fun a hf => ?_)
              refine S.val hf hs (v := .string (ba xk1.Tool)) rfl rfl rfl (V.loadBox 1 rfl rfl rfl Try.isAgg9 Try.sizeOf9 rfl rfl) (fun a hf => ?_)
              refine S.val hf hs (v := .bool (!(xk3.Tool == xk1.Tool))) rfl rfl rfl (V.strCmp (!(xk3.Tool == xk1.Tool)) rfl rfl rfl rfl) (fun a hf => ?_)
              refine S.split hf hs (b := !(xk3.Tool == xk1.Tool)) rfl rfl rfl (V.pure rfl) (fun hc a hf => ?_) (fun hc a hf => ?_)
              · replace h := h.1 hc
                refine S.skip hf rfl rfl rfl (fun a hf => ?_)
                refine S.skip hf rfl rfl rfl (fun a hf => ?_)
                refine S.skip hf rfl rfl rfl (fun a hf => ?_)
                refine S.skip hf rfl rfl rfl (fun a hf => ?_)
                refine S.skip hf rfl rfl rfl (fun a hf => ?_)
                refine S.skip hf rfl rfl rfl (fun a hf => ?_)
                refine S.val hf hs (v := .bool true) rfl rfl rfl (V.pure rfl) (fun a hf => ?_)
                refine S.val hf hs (v := .bool true) rfl rfl rfl (V.pure rfl) (fun a hf => ?_)
                refine S.skip hf rfl rfl rfl (fun a hf => ?_)
                refine S.skip hf rfl rfl rfl (fun a hf => ?_)
                refine S.skip hf rfl rfl rfl (fun a hf => ?_)
                refine S.skip hf rfl rfl rfl (fun a hf => ?_)
                refine S.val hf hs (v := .bool true) rfl rfl rfl (V.pure rfl) (fun a hf => ?_)
                refine R.nil ?_
                refine X.then_ ?_
                exact ⟨true, h, ((((((((((((((hf.nil.cons (hf.get 81 _ rfl)).cons (hf.get 55 _ rfl)).cons (hf.get 54 _ rfl)).cons (hf.get 53 _ rfl)).cons (hf.get 34 _ rfl)).cons (hf.get 33 _ rfl)).cons (hf.get 32 _ rfl)).cons (hf.get 15 _ rfl)).cons (hf.get 10 _ rfl)).cons (hf.get 9 _ rfl)).cons (hf.get 8 _ rfl)).cons (hf.get 7 _ rfl)).cons (hf.get 5 _ rfl)).cons (hf.get 0 _ rfl)), hs⟩
              · replace h := h.2 hc
                refine S.val hf hs (v := .pointer (some ⟨g3, 2, none⟩)) rfl rfl rfl (V.fieldBox rfl rfl Try.runUnderlying58 rfl Try.sizeOf3 rfl rfl) (fun a hf => ?_)
                refine S.val hf hs (v := .int .i64 xk3.Hole) rfl rfl rfl (V.loadBox 0 rfl rfl rfl Try.isAgg3 Try.sizeOf3 rfl rfl) (fun a hf => ?_)
                refine S.val hf hs (v := .int .i64 n6) rfl rfl rfl (V.pure rfl) (fun a hf => ?_)
                refine S.val hf hs (v := .int .i64 (w64 (xk3.Hole - n6))) rfl rfl rfl (V.pure rfl) (fun a hf => ?_)
                refine S.val hf hs (v := .int .i64 n2) rfl rfl rfl (V.pure rfl) (fun a hf => ?_)
                refine S.val hf hs (v := .bool (decide (w64 (xk3.Hole - n6) > n2))) rfl rfl rfl (V.pure rfl) (fun a hf => ?_)
                refine S.val hf hs (v := .bool (decide (w64 (xk3.Hole - n6) > n2))) rfl rfl rfl (V.pure rfl) (fun a hf => ?_)
                refine S.split hf hs (b := decide (w64 (xk3.Hole - n6) > n2)) rfl rfl rfl (V.pure rfl) (fun hc a hf => ?_) (fun hc a hf => ?_)
                · replace h := h.1 hc
                  refine S.skip hf rfl rfl rfl (fun a hf => ?_)
                  refine S.skip hf rfl rfl rfl (fun a hf => ?_)
                  refine S.skip hf rfl rfl rfl (fun a hf => ?_)
                  refine S.skip hf rfl rfl rfl (fun a hf => ?_)
                  refine S.val hf hs (v := .bool true) rfl rfl rfl (V.pure rfl) (fun a hf => ?_)
                  refine R.nil ?_
                  refine X.then_ ?_
                  exact ⟨true, h, ((((((((((((((hf.nil.cons (hf.get 81 _ rfl)).cons (hf.get 55 _ rfl)).cons (hf.get 54 _ rfl)).cons (hf.get 53 _ rfl)).cons (hf.get 34 _ rfl)).cons (hf.get 33 _ rfl)).cons (hf.get 32 _ rfl)).cons (hf.get 15 _ rfl)).cons (hf.get 10 _ rfl)).cons (hf.get 9 _ rfl)).cons (hf.get 8 _ rfl)).cons (hf.get 7 _ rfl)).cons (hf.get 5 _ rfl)).cons (hf.get 0 _ rfl)), hs⟩
                · replace h := h.2 hc
                  refine S.val hf hs (v := .pointer (some ⟨g3, 2, none⟩)) rfl rfl rfl (V.fieldBox rfl rfl Try.runUnderlying58 rfl Try.sizeOf3 rfl rfl) (fun a hf => ?_)
                  refine S.val hf hs (v := .int .i64 xk3.Hole) rfl rfl rfl (V.loadBox 0 rfl rfl rfl Try.isAgg3 Try.sizeOf3 rfl rfl) (fun a hf => ?_)
                  refine S.val hf hs (v := .int .i64 n6) rfl rfl rfl (V.pure rfl) (fun a hf => ?_)
                  refine S.val hf hs (v := .bool (decide (xk3.Hole ≤ n6))) rfl rfl rfl (V.pure rfl) (fun a hf => ?_)
                  refine S.val hf hs (v := .bool (decide (xk3.Hole ≤ n6))) rfl rfl rfl (V.pure rfl) (fun a hf => ?_)
                  refine R.nil ?_
                  refine X.then_ ?_
                  exact ⟨(decide (xk3.Hole ≤ n6)), h, ((((((((((((((hf.nil.cons (hf.get 81 _ rfl)).cons (hf.get 55 _ rfl)).cons (hf.get 54 _ rfl)).cons (hf.get 53 _ rfl)).cons (hf.get 34 _ rfl)).cons (hf.get 33 _ rfl)).cons (hf.get 32 _ rfl)).cons (hf.get 15 _ rfl)).cons (hf.get 10 _ rfl)).cons (hf.get 9 _ rfl)).cons (hf.get 8 _ rfl)).cons (hf.get 7 _ rfl)).cons (hf.get 5 _ rfl)).cons (hf.get 0 _ rfl)), hs⟩
      | cons xk2 ll =>
        have hltk2 := range_lt hkk2; have hc := range_go hkk2; have hxk2 := range_get hlk2
        obtain ⟨next2, hnext2⟩ : ∃ X : Int → Prop, X = (fun n2 => forIn' (fun k x (s : Int) next => M_law_NoBitIsWorn_L2 xk1 k x s (fun n2 => next n2)) (fun (s : Int) => (fun (n2 : Int) => forIn' (fun k x (s : Int × Int) next => M_law_NoBitIsWorn_L3 Q k1 xk1 n2 k x s.1 s.2 (fun n5 n6 => next (n5, n6))) (fun (s : Int × Int) => (fun (n5 : Int) (n6 : Int) => cnd (decide (w64 ((xk1.Holes.length : Int) - n6) > n2)) (Q false) (forIn' (fun k x (s : Unit) next => M_law_NoBitIsWorn_L4 Q xk1 n5 k x (next ())) (fun (s : Unit) => next1) t 0 ())) s.1 s.2) y1 0 (1, 0)) s) ll (k2 + 1) n2) := ⟨_, rfl⟩
        replace h : M_law_NoBitIsWorn_L2 xk1 k2 xk2 n2 next2 := by rw [hnext2]; exact h
        unfold M_law_NoBitIsWorn_L2 at h
        refine wp_seq ?_
        refine R.list ?_
        refine S.val hf hs (v := .bool true) rfl rfl rfl (V.cmp true rfl rfl rfl rfl hc) (fun a hf => ?_)
        refine R.nil ?_
        refine X.then_ ?_
        refine wp_seq ?_
        refine C.yes hf rfl ?_
        refine wp_skip ?_
        refine X.then_ ?_
        refine wp_seq ?_
        refine wp_block ?_
        refine wp_seq ?_
        refine R.list ?_
        refine S.val hf hs (v := elemPtr tA (k2 * 4)) rfl rfl rfl (V.index rfl rfl rfl Try.runUnderlying48 Try.sizeOf56 (hv_t.some_ (lt_of_get hxk2)) (Int.natCast_nonneg _) (lt_of_get hxk2) rfl) (fun a hf => ?_)
        refine S.val hf hs (v := .agg #[.string (ba xk2.Name), .int .i64 xk2.Size, .int .i64 xk2.Life, .int .i64 xk2.Stack]) rfl rfl rfl (V.loadEl (off := 0) (Ag.args _ _ _) (hv_t.flat hxk2) rfl rfl rfl Try.isAgg56 Try.sizeOf56 rfl rfl) (fun a hf => ?_)
        refine S.alloc hf hs rfl rfl rfl [.string (ba []), .int .i64 0, .int .i64 0, .int .i64 0] rfl Try.zeroValue56 rfl (fun g4 a w hf hs => ?_)
        refine S.storeBox 0 hf hs rfl rfl [.string (ba xk2.Name), .int .i64 xk2.Size, .int .i64 xk2.Life, .int .i64 xk2.Stack] [.string (ba xk2.Name), .int .i64 xk2.Size, .int .i64 xk2.Life, .int .i64 xk2.Stack] rfl rfl rfl rfl rfl Try.sizeOf56 rfl rfl rfl rfl (fun a w hf hs => ?_)
        refine R.nil ?_
        refine X.then_ ?_
        refine wp_seq ?_
        refine R.list ?_
        refine S.val hf hs (v := .pointer (some ⟨g4, 0, none⟩)) rfl rfl rfl (V.fieldBox rfl rfl Try.runUnderlying56 rfl Try.sizeOf9 rfl rfl) (fun a hf => ?_)
        refine S.val hf hs (v := .string (ba xk2.Name)) rfl rfl rfl (V.loadBox 0 rfl rfl rfl Try.isAgg9 Try.sizeOf9 rfl rfl) (fun a hf => ?_)
        refine S.val hf hs (v := .pointer (some ⟨g1, 0, none⟩)) rfl rfl rfl (V.fieldBox rfl rfl Try.runUnderlying54 rfl Try.sizeOf9 rfl rfl) (fun a hf => ?_)
        refine S.val hf hs (v := .string (ba xk1.Tool)) rfl rfl rfl (V.loadBox 1 rfl rfl rfl Try.isAgg9 Try.sizeOf9 rfl rfl) (fun a hf => ?_)
        refine S.val hf hs (v := .bool (xk2.Name == xk1.Tool)) rfl rfl rfl (V.strCmp (xk2.Name == xk1.Tool) rfl rfl rfl rfl) (fun a hf => ?_)
        refine R.nil ?_
        refine X.then_ ?_
        refine C.cond hf (b := xk2.Name == xk1.Tool) rfl (fun hc => ?_) (fun hc => ?_)
        · replace h := h.1 hc
          refine R.list ?_
          refine S.val hf hs (v := .pointer (some ⟨g4, 2, none⟩)) rfl rfl rfl (V.fieldBox rfl rfl Try.runUnderlying56 rfl Try.sizeOf3 rfl rfl) (fun a hf => ?_)
          refine S.val hf hs (v := .int .i64 xk2.Life) rfl rfl rfl (V.loadBox 0 rfl rfl rfl Try.isAgg3 Try.sizeOf3 rfl rfl) (fun a hf => ?_)
          refine S.val hf hs (v := .int .i64 xk2.Life) rfl rfl rfl (V.pure rfl) (fun a hf => ?_)
          refine R.nil ?_
          refine X.blk ?_
          refine X.then_ ?_
          refine R.list ?_
          refine S.val hf hs (v := .int .i64 ((k2 + 1 : Nat) : Int)) rfl rfl rfl (V.incr rfl rfl rfl hltk2 hlenk2) (fun a hf => ?_)
          refine S.val hf hs (v := .int .i64 ((k2 + 1 : Nat) : Int)) rfl rfl rfl (V.pure rfl) (fun a hf => ?_)
          refine R.nil ?_
          refine X.then_ ?_
          exact ⟨xk2, ll, rfl, k2 + 1, xk2.Life, range_drop hlk2, range_len hkk2, (by rw [hnext2] at h; exact h), ((((((((((((hf.nil.cons (hf.get 40 _ rfl)).cons (hf.get 39 _ rfl)).cons (hf.get 34 _ rfl)).cons (hf.get 33 _ rfl)).cons (hf.get 32 _ rfl)).cons (hf.get 10 _ rfl)).cons (hf.get 9 _ rfl)).cons (hf.get 8 _ rfl)).cons (hf.get 7 _ rfl)).cons (hf.get 5 _ rfl)).cons (hf.get 0 _ rfl)).cons (hf.get 41 _ rfl)), hs.drop⟩
        · replace h := h.2 hc
          refine wp_skip ?_
          refine X.blk ?_
          refine X.then_ ?_
          refine R.list ?_
          refine S.val hf hs (v := .int .i64 ((k2 + 1 : Nat) : Int)) rfl rfl rfl (V.incr rfl rfl rfl hltk2 hlenk2) (fun a hf => ?_)
          refine S.val hf hs (v := .int .i64 ((k2 + 1 : Nat) : Int)) rfl rfl rfl (V.pure rfl) (fun a hf => ?_)
          refine R.nil ?_
          refine X.then_ ?_
          exact ⟨xk2, ll, rfl, k2 + 1, n2, range_drop hlk2, range_len hkk2, (by rw [hnext2] at h; exact h), ((((((((((((hf.nil.cons (hf.get 40 _ rfl)).cons (hf.get 39 _ rfl)).cons (hf.get 34 _ rfl)).cons (hf.get 33 _ rfl)).cons (hf.get 32 _ rfl)).cons (hf.get 10 _ rfl)).cons (hf.get 9 _ rfl)).cons (hf.get 8 _ rfl)).cons (hf.get 7 _ rfl)).cons (hf.get 5 _ rfl)).cons (hf.get 0 _ rfl)).cons (hf.get 41 _ rfl)), hs.drop⟩


theorem forIn_cons {α σ : Type} {body : Nat → α → σ → (σ → Prop) → Prop} {done : σ → Prop} (x : α) (r : List α) (k : Nat) (s : σ) : forIn' body done (x :: r) k s = body k x s (fun s' => forIn' body done r (k + 1) s') := rfl
theorem forIn_append {α σ : Type} {body : Nat → α → σ → (σ → Prop) → Prop} {done : σ → Prop} : ∀ (l m : List α) (k : Nat) (s : σ), forIn' body done (l ++ m) k s = forIn' body (fun s => forIn' body done m (k + l.length) s) l k s
  | [], m, k, s => rfl
  | x :: r, m, k, s => by
    show body k x s (fun s' => forIn' body done (r ++ m) (k + 1) s') = body k x s (fun s' => forIn' body (fun s => forIn' body done m (k + (x :: r).length) s) r (k + 1) s')
    congr 1
    funext s'
    rw [forIn_append r m (k + 1) s', show k + 1 + r.length = k + (x :: r).length by simp only [List.length_cons]; omega]
theorem changesTo_job {t : List Bit} {j : List Job} : ∀ k, ∀ c ∈ changesTo t j k, 0 ≤ c.Job ∧ c.Job < k
  | 0, c, hc => by simp [changesTo] at hc
  | k + 1, c, hc => by
    rcases List.mem_append.1 hc with h | h
    · have := changesTo_job k c h; omega
    · unfold changesAt at h
      obtain ⟨i, _, rfl⟩ := List.mem_map.1 h
      simp only; omega
theorem changesTo_split {t : List Bit} {j : List Job} {k : Nat} : ∀ n, k < n → ∃ B, changesTo t j n = changesTo t j k ++ (changesAt t (j.getD k default) k (manyOf t (j.getD k default)) ++ B) ∧ ∀ c ∈ B, (k : Int) < c.Job
  | 0, h => by omega
  | n + 1, h => by
    rcases Nat.lt_or_ge k n with h1 | h1
    · obtain ⟨B, hB, hj⟩ := changesTo_split n h1
      refine ⟨B ++ changesAt t (j.getD n default) n (manyOf t (j.getD n default)), by rw [changesTo, hB]; simp [List.append_assoc], fun c hc => ?_⟩
      rcases List.mem_append.1 hc with h2 | h2
      · exact hj c h2
      · unfold changesAt at h2
        obtain ⟨i, _, rfl⟩ := List.mem_map.1 h2
        simp only; omega
    · obtain rfl : k = n := by omega
      exact ⟨[], by rw [changesTo]; simp, fun c hc => by simp at hc⟩
theorem skip_other {Q : Bool → Prop} {k : Nat} {x : Job} {life : Int} {done : Int × Int → Prop} : ∀ (l : List Change) (i : Nat) (s : Int × Int), (∀ c ∈ l, c.Job ≠ (k : Int)) → done s →
    forIn' (fun i c (s : Int × Int) next => M_law_NoBitIsWorn_L3 Q k x life i c s.1 s.2 (fun n5 n6 => next (n5, n6))) done l i s
  | [], _, _, _, h => h
  | c :: r, i, s, hc, h => by
    rw [forIn_cons]
    unfold M_law_NoBitIsWorn_L3
    have : (c.Job != (k : Int)) = true := by simpa using hc c (List.mem_cons_self ..)
    rw [this, cnd_true]
    exact skip_other r (i + 1) s (fun d hd => hc d (List.mem_cons_of_mem _ hd)) h
theorem law_NoBitIsWorn_true (t : List Bit) (j : List Job) (ht : Fits.fits t) : M_law_NoBitIsWorn t j (· = true) := by
  unfold M_law_NoBitIsWorn
  have aw : M_awake (fun y => y = true) := S_awake rfl
  refine S_drill_Changes ht ?_
  split
  · rename_i e
    simp only [bne_self_eq_false, cnd_false]
    obtain ⟨h0, hst⟩ := changes_ok e
    obtain ⟨htf, hj, hbad, _⟩ := jobs_ok h0
    obtain ⟨htl, hr, _⟩ := tools_ok htf
    refine forIn0 (fun _ _ => True) trivial (fun k x s hx _ next hn => ?_) (fun _ _ => aw)
    obtain ⟨h1, h2, h3, h4, h5⟩ := life_ok h0 hx
    have hmem := findTool_mem h1
    obtain ⟨m, hm⟩ := List.getElem?_of_mem hmem.1
    have only : ∀ i b, t[i]? = some b → b.Name = x.Tool → i = m ∧ b = toolOf t x := fun i b hb hn => by
      have : i = m := rising_inj hr hb hm (by rw [hn, hmem.2])
      subst this; rw [hb] at hm; injection hm with hm; exact ⟨rfl, hm⟩
    have hst' := hst k x hx
    unfold stackBad at hst'
    have hstack : (manyOf t x : Int) + 1 ≤ (toolOf t x).Stack := by
      split at hst'
      · omega
      · omega
    have hmany := many_le (t := t) (x := x)
    have hml : manyOf t x * lifeOf t x ≤ x.Holes.length := by
      rcases Nat.eq_zero_or_pos (manyOf t x) with h | h
      · rw [h]; omega
      · have := many_lt (t := t) h3 (m := manyOf t x - 1) (by omega)
        rw [show manyOf t x - 1 + 1 = manyOf t x by omega] at this; omega
    have hge := many_ge (t := t) (x := x) h3
    rw [Nat.add_mul, Nat.one_mul] at hge
    unfold M_law_NoBitIsWorn_L1
    refine forIn0 (fun i s => s = if m < i then (toolOf t x).Life else 0) (by simp) (fun i b s hb hI next2 hn2 => ?_) (fun s hI => ?_)
    · subst hI
      unfold M_law_NoBitIsWorn_L2
      refine cnd_of (fun e2 => hn2 _ ?_) (fun e2 => hn2 _ ?_)
      · obtain ⟨rfl, rfl⟩ := only i b hb (by simpa using e2)
        rw [if_pos (by omega)]
      · have hne : i ≠ m := fun he => by subst he; rw [hb] at hm; injection hm with hm; subst hm; simp [hmem.2] at e2
        have : (m < i) ↔ (m < i + 1) := by omega
        simp only [this]
    · have hml2 := lt_of_get hm
      rw [if_pos hml2] at hI
      subst hI
      obtain ⟨B, hB, hBj⟩ := changesTo_split (t := t) (j := j) (k := k) j.length (lt_of_get hx)
      rw [getD_of hx] at hB
      have hfin : (fun (s : Int × Int) => (fun (n5 : Int) (n6 : Int) => cnd (decide (w64 ((x.Holes.length : Int) - n6) > (toolOf t x).Life)) (false = true) (forIn' (fun k x_1 (s : Unit) next => M_law_NoBitIsWorn_L4 (· = true) x n5 k x_1 (next ())) (fun (s : Unit) => next ()) t 0 ())) s.1 s.2) (((manyOf t x : Int) + 1), ((manyOf t x * lifeOf t x : Nat) : Int)) := by
        show cnd _ _ _
        rw [w64_id (by omega) (by omega), h2, show decide ((x.Holes.length : Int) - ((manyOf t x * lifeOf t x : Nat) : Int) > (lifeOf t x : Int)) = false from decide_eq_false (by omega), cnd_false]
        refine forIn0 (fun _ _ => True) trivial (fun i b s hb _ next3 hn3 => ?_) (fun _ _ => hn _ trivial)
        unfold M_law_NoBitIsWorn_L4 M_law_NoBitIsWorn_k5
        refine cnd_of (fun e2 => ?_) (fun _ => by rw [cnd_false]; exact hn3 _ trivial)
        obtain ⟨_, rfl⟩ := only i b hb (by simpa using e2)
        rw [show decide ((manyOf t x : Int) + 1 > (toolOf t x).Stack) = false from decide_eq_false (by omega), cnd_false]
        exact hn3 _ trivial
      rw [hB]
      show forIn' _ _ _ _ _
      rw [forIn_append]
      refine skip_other _ _ _ (fun c hc => by have := changesTo_job k c hc; omega) ?_
      show forIn' _ _ _ _ _
      rw [forIn_append]
      have seg : ∀ (i d : Nat), i + d = manyOf t x → ∀ q, forIn' (fun i c (s : Int × Int) next => M_law_NoBitIsWorn_L3 (· = true) k x (toolOf t x).Life i c s.1 s.2 (fun n5 n6 => next (n5, n6))) (fun s => forIn' (fun i c (s : Int × Int) next => M_law_NoBitIsWorn_L3 (· = true) k x (toolOf t x).Life i c s.1 s.2 (fun n5 n6 => next (n5, n6))) (fun (s : Int × Int) => (fun (n5 : Int) (n6 : Int) => cnd (decide (w64 ((x.Holes.length : Int) - n6) > (toolOf t x).Life)) (false = true) (forIn' (fun k x_1 (s : Unit) next => M_law_NoBitIsWorn_L4 (· = true) x n5 k x_1 (next ())) (fun (s : Unit) => next ()) t 0 ())) s.1 s.2) B (0 + (changesTo t j k).length + (changesAt t x k (manyOf t x)).length) s)
          ((List.range' i d).map (fun i => (⟨x.Tool, (k : Int), (((i + 1) * lifeOf t x : Nat) : Int)⟩ : Change))) q ((i : Int) + 1, ((i * lifeOf t x : Nat) : Int)) := by
        intro i d
        induction d generalizing i with
        | zero =>
          intro hi q
          have : i = manyOf t x := by omega
          subst this
          exact skip_other B _ _ (fun c hc => by have := hBj c hc; omega) hfin
        | succ d ih =>
          intro hi q
          rw [List.range'_succ, List.map_cons]
          rw [forIn_cons]
          have hlt := many_lt (t := t) h3 (m := i) (by omega)
          have hs : (i + 1) * lifeOf t x = i * lifeOf t x + lifeOf t x := by rw [Nat.add_mul, Nat.one_mul]
          unfold M_law_NoBitIsWorn_L3 M_law_NoBitIsWorn_k6
          simp only [bne_self_eq_false, cnd_false, beq_self_eq_true, Bool.not_true]
          rw [w64_id (n := (((i + 1) * lifeOf t x : Nat) : Int) - _) (by omega) (by omega), h2]
          rw [show decide ((((i + 1) * lifeOf t x : Nat) : Int) - ((i * lifeOf t x : Nat) : Int) > (lifeOf t x : Int)) = false from decide_eq_false (by omega), cnd_false]
          rw [show decide ((((i + 1) * lifeOf t x : Nat) : Int) ≤ ((i * lifeOf t x : Nat) : Int)) = false from decide_eq_false (by omega), cnd_false]
          rw [w64_id (n := (i : Int) + 1 + 1) (by omega) (by omega)]
          have := ih (i + 1) (by omega) (q + 1)
          rw [h2] at this
          exact this
      have := seg 0 (manyOf t x) (by omega) (0 + (changesTo t j k).length)
      rw [← List.range_eq_range', Nat.zero_mul] at this
      exact this
  · rename_i e
    rw [show (changesFault t j != 0) = true by simpa using e, cnd_true]
    simpa using aw
end Go.Proofs.Ytmopdabkfklefaa
