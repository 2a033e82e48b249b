/- Chapter 8: holes, and the pairs that are near. -/
import Derived.Test.YtmopdabkfklefaaDrillB
namespace Go.Proofs.Ytmopdabkfklefaa
open Go Go.RowKit
set_option linter.unusedVariables false

set_option linter.unusedVariables false
def M_drill_CheckHoles_k2 (Q : Int → Prop) (next1 : Prop) (c1 : Bool) : Prop :=
  cnd c1 (Q 1) (next1)
def M_drill_CheckHoles_L1 (Q : Int → Prop) (k1 : Nat) (xk1 : Hole)  (next1 : Prop) : Prop :=
  cnd (!(isPoint xk1.At)) (M_drill_CheckHoles_k2 Q next1 true) (cnd (!(within xk1.Size 1 10000)) (M_drill_CheckHoles_k2 Q next1 true) (M_drill_CheckHoles_k2 Q next1 (!(within xk1.Depth 1 100000))))
def M_drill_CheckHoles (l : (List Hole)) (Q : Int → Prop) : Prop :=
  cnd (decide ((l.length : Int) > 2000)) (Q 2) (forIn' (fun k x (s : Unit) next => M_drill_CheckHoles_L1 Q k x (next ())) (fun (s : Unit) => Q 0) l 0 ())
set_option maxHeartbeats 1000000 in
theorem R_drill_CheckHoles (l : (List Hole)) (w0 : World) (lA : Option Addr) (lC : Nat) (hv_l : View w0 (old w0 none_) lA lC l) (Q : Int → Prop) (h : M_drill_CheckHoles l Q) :
    Ret Try.prog 54 #[.slice lA l.length lC] w0 fun v w' => ∃ (r0 : Int), v = .int .i64 r0 ∧ Q r0 ∧ Sat w0 none_ [] w' := by
  refine fn_enter Try.func54 rfl Try.ntmps54 rfl (fs := [(0, .slice lA l.length lC)]) rfl (fun a hf => ?_)
  have hs := Sat.start w0 none_
  unfold M_drill_CheckHoles at h
  refine wp_seq ?_
  refine R.list ?_
  refine S.val hf hs (v := .int .i64 0) rfl rfl rfl (V.pure rfl) (fun a hf => ?_)
  refine R.nil ?_
  refine X.then_ ?_
  refine wp_seq ?_
  refine wp_seq ?_
  refine R.list ?_
  refine S.val hf hs (v := .slice lA l.length lC) rfl rfl rfl (V.pure rfl) (fun a hf => ?_)
  refine S.val hf hs (v := .int .i64 (l.length : Int)) rfl rfl rfl (V.len rfl rfl Try.runUnderlying34) (fun a hf => ?_)
  refine S.val hf hs (v := .bool (decide ((l.length : Int) > 2000))) rfl rfl rfl (V.pure rfl) (fun a hf => ?_)
  refine R.nil ?_
  refine X.then_ ?_
  refine C.cond hf (b := decide ((l.length : Int) > 2000)) rfl (fun hc => ?_) (fun hc => ?_)
  · replace h := h.1 hc
    refine wp_seq ?_
    refine R.list ?_
    refine S.val hf hs (v := .int .i64 2) rfl rfl rfl (V.pure rfl) (fun a hf => ?_)
    refine R.nil ?_
    refine X.then_ ?_
    refine wp_ret ?_
    refine X.then_ret ?_
    exact L.ret hf (run_results1 Try.results54 (ResIs.tmp hf rfl)) ⟨2, rfl, h, hs.nil⟩
  · replace h := h.2 hc
    refine wp_skip ?_
    refine X.then_ ?_
    refine wp_seq ?_
    refine wp_seq ?_
    refine R.list ?_
    refine S.val hf hs (v := .slice lA l.length lC) rfl rfl rfl (V.pure rfl) (fun a hf => ?_)
    refine S.val hf hs (v := .int .i64 (l.length : Int)) rfl rfl rfl (V.len rfl rfl Try.runUnderlying34) (fun a hf => ?_)
    refine S.val hf hs (v := .int .i64 0) rfl rfl rfl (V.pure rfl) (fun a hf => ?_)
    refine R.nil ?_
    refine X.then_ ?_
    refine wp_block ?_
    have hlenk1 := hv_l.len64
    refine C.range (fun (ll : List Hole) a w => ∃ (k1 : Nat) , l.drop k1 = ll ∧ k1 + ll.length = l.length ∧ forIn' (fun k x (s : Unit) next => M_drill_CheckHoles_L1 Q k x (next ())) (fun (s : Unit) => Q 0) ll k1 () ∧ FrOk 31 [(10, .int .i64 (k1 : Int)), (8, .slice lA l.length lC), (9, .int .i64 (l.length : Int))] a ∧ Sat w0 none_ [] w) l ⟨0, rfl, Nat.zero_add _, h, (((hf.nil.cons (hf.get 9 _ rfl)).cons (hf.get 8 _ rfl)).cons (hf.get 10 _ rfl)), hs⟩ ?_
    clear h hf hs
    rintro llk1 a w ⟨k1, hlk1, hkk1, h, hf, hs⟩
    cases llk1 with
    | nil =>
      have hc := range_done hkk1
      replace h : Q 0 := h
      refine wp_seq ?_
      refine R.list ?_
      refine S.val hf hs (v := .bool false) rfl rfl rfl (V.cmp false rfl rfl rfl rfl hc) (fun a hf => ?_)
      refine R.nil ?_
      refine X.then_ ?_
      refine wp_seq ?_
      refine C.no hf rfl ?_
      refine wp_exit ?_
      refine X.then_exit ?_
      refine X.then_exit ?_
      refine X.blk_exit ?_
      refine X.then_ ?_
      refine wp_seq ?_
      refine R.list ?_
      refine S.val hf hs (v := .int .i64 0) rfl rfl rfl (V.pure rfl) (fun a hf => ?_)
      refine R.nil ?_
      refine X.then_ ?_
      refine wp_ret ?_
      exact L.ret hf (run_results1 Try.results54 (ResIs.tmp hf rfl)) ⟨0, rfl, h, hs.nil⟩
    | cons xk1 llk1 =>
      have hltk1 := range_lt hkk1; have hc := range_go hkk1; have hxk1 := range_get hlk1
      obtain ⟨next1, hnext1⟩ : ∃ X : Prop, X = (forIn' (fun k x (s : Unit) next => M_drill_CheckHoles_L1 Q k x (next ())) (fun (s : Unit) => Q 0) llk1 (k1 + 1) ()) := ⟨_, rfl⟩
      replace h : M_drill_CheckHoles_L1 Q k1 xk1  next1 := by rw [hnext1]; exact h
      unfold M_drill_CheckHoles_L1 at h
      refine wp_seq ?_
      refine R.list ?_
      refine S.val hf hs (v := .bool true) rfl rfl rfl (V.cmp true rfl rfl rfl rfl hc) (fun a hf => ?_)
      refine R.nil ?_
      refine X.then_ ?_
      refine wp_seq ?_
      refine C.yes hf rfl ?_
      refine wp_skip ?_
      refine X.then_ ?_
      refine wp_seq ?_
      refine wp_block ?_
      refine wp_seq ?_
      refine R.list ?_
      refine S.val hf hs (v := elemPtr lA (k1 * 5)) rfl rfl rfl (V.index rfl rfl rfl Try.runUnderlying34 Try.sizeOf76 (hv_l.some_ (lt_of_get hxk1)) (Int.natCast_nonneg _) (lt_of_get hxk1) rfl) (fun a hf => ?_)
      refine S.val hf hs (v := .agg #[.int .i64 xk1.At.X, .int .i64 xk1.At.Y, .int .i64 xk1.Size, .int .i64 xk1.Depth, .bool xk1.Plated]) rfl rfl rfl (V.loadEl (off := 0) (Ag.args _ _ _) (hv_l.flat hxk1) rfl rfl rfl Try.isAgg76 Try.sizeOf76 rfl rfl) (fun a hf => ?_)
      refine S.alloc hf hs rfl rfl rfl [.int .i64 0, .int .i64 0, .int .i64 0, .int .i64 0, .bool false] rfl Try.zeroValue76 rfl (fun g1 a w hf hs => ?_)
      refine S.storeBox 0 hf hs rfl rfl [.int .i64 xk1.At.X, .int .i64 xk1.At.Y, .int .i64 xk1.Size, .int .i64 xk1.Depth, .bool xk1.Plated] [.int .i64 xk1.At.X, .int .i64 xk1.At.Y, .int .i64 xk1.Size, .int .i64 xk1.Depth, .bool xk1.Plated] rfl rfl rfl rfl rfl Try.sizeOf76 rfl rfl rfl rfl (fun a w hf hs => ?_)
      refine R.nil ?_
      refine X.then_ ?_
      refine wp_seq ?_
      refine C.cut (J := fun a w => ∃ (c1 : Bool), M_drill_CheckHoles_k2 Q next1 c1 ∧ FrOk 31 [(8, .slice lA l.length lC), (9, .int .i64 (l.length : Int)), (10, .int .i64 (k1 : Int)), (29, .bool c1)] a ∧ Sat w0 none_ [hbox g1 76 [.int .i64 xk1.At.X, .int .i64 xk1.At.Y, .int .i64 xk1.Size, .int .i64 xk1.Depth, .bool xk1.Plated]] w) ?_ ?_
      · rintro a w ⟨c1, h, hf, hs⟩
        unfold M_drill_CheckHoles_k2 at h
        refine C.cond hf (b := c1) rfl (fun hc => ?_) (fun hc => ?_)
        · replace h := h.1 hc
          refine wp_seq ?_
          refine R.list ?_
          refine S.val hf hs (v := .int .i64 1) rfl rfl rfl (V.pure rfl) (fun a hf => ?_)
          refine R.nil ?_
          refine X.then_ ?_
          refine wp_ret ?_
          refine X.blk_ret ?_
          refine X.then_ret ?_
          refine X.then_ret ?_
          refine X.blk_ret ?_
          refine X.then_ret ?_
          exact L.ret hf (run_results1 Try.results54 (ResIs.tmp hf rfl)) ⟨1, rfl, h, hs.nil⟩
        · replace h := h.2 hc
          refine wp_skip ?_
          refine X.blk ?_
          refine X.then_ ?_
          refine R.list ?_
          refine S.val hf hs (v := .int .i64 ((k1 + 1 : Nat) : Int)) rfl rfl rfl (V.incr rfl rfl rfl hltk1 hlenk1) (fun a hf => ?_)
          refine S.val hf hs (v := .int .i64 ((k1 + 1 : Nat) : Int)) rfl rfl rfl (V.pure rfl) (fun a hf => ?_)
          refine R.nil ?_
          refine X.then_ ?_
          exact ⟨xk1, llk1, rfl, k1 + 1, range_drop hlk1, range_len hkk1, (by rw [hnext1] at h; exact h), (((hf.nil.cons (hf.get 9 _ rfl)).cons (hf.get 8 _ rfl)).cons (hf.get 10 _ rfl)), hs.drop⟩
      · skip
        refine R.list ?_
        refine S.val hf hs (v := .pointer (some ⟨g1, 0, none⟩)) rfl rfl rfl (V.fieldBox rfl rfl Try.runUnderlying76 rfl Try.sizeOf24 rfl rfl) (fun a hf => ?_)
        refine S.val hf hs (v := .agg #[.int .i64 xk1.At.X, .int .i64 xk1.At.Y]) rfl rfl rfl (V.loadBox 0 rfl rfl rfl Try.isAgg24 Try.sizeOf24 rfl rfl) (fun a hf => ?_)
        refine S.callv hf rfl rfl rfl (call_fn (vs := [.agg #[.int .i64 xk1.At.X, .int .i64 xk1.At.Y]]) rfl rfl rfl Try.call74) (C_shape_IsPoint xk1.At _ ) (fun a w hf hs' => ?_)
        replace hs := hs.call hs'; clear hs'
        refine S.val hf hs (v := .bool (!(isPoint xk1.At))) rfl rfl rfl (V.pure rfl) (fun a hf => ?_)
        refine S.split hf hs (b := !(isPoint xk1.At)) rfl rfl rfl (V.pure rfl) (fun hc a hf => ?_) (fun hc a hf => ?_)
        · replace h := h.1 hc
          refine S.skip hf rfl rfl rfl (fun a hf => ?_)
          refine S.skip hf rfl rfl rfl (fun a hf => ?_)
          refine S.skip hf rfl rfl rfl (fun a hf => ?_)
          refine S.skip hf rfl rfl rfl (fun a hf => ?_)
          refine S.val hf hs (v := .bool true) rfl rfl rfl (V.pure rfl) (fun a hf => ?_)
          refine S.val hf hs (v := .bool true) rfl rfl rfl (V.pure rfl) (fun a hf => ?_)
          refine S.skip hf rfl rfl rfl (fun a hf => ?_)
          refine S.skip hf rfl rfl rfl (fun a hf => ?_)
          refine S.skip hf rfl rfl rfl (fun a hf => ?_)
          refine S.skip hf rfl rfl rfl (fun a hf => ?_)
          refine S.val hf hs (v := .bool true) rfl rfl rfl (V.pure rfl) (fun a hf => ?_)
          refine R.nil ?_
          refine X.then_ ?_
          exact ⟨true, h, ((((hf.nil.cons (hf.get 29 _ rfl)).cons (hf.get 10 _ rfl)).cons (hf.get 9 _ rfl)).cons (hf.get 8 _ rfl)), hs⟩
        · replace h := h.2 hc
          refine S.val hf hs (v := .pointer (some ⟨g1, 2, none⟩)) rfl rfl rfl (V.fieldBox rfl rfl Try.runUnderlying76 rfl Try.sizeOf3 rfl rfl) (fun a hf => ?_)
          refine S.val hf hs (v := .int .i64 xk1.Size) rfl rfl rfl (V.loadBox 0 rfl rfl rfl Try.isAgg3 Try.sizeOf3 rfl rfl) (fun a hf => ?_)
          refine S.callv hf rfl rfl rfl (call_fn (vs := [.int .i64 xk1.Size, .int .i64 1, .int .i64 10000]) rfl rfl rfl Try.call55) (C_drill_within xk1.Size 1 10000 _ ) (fun a w hf hs' => ?_)
          replace hs := hs.call hs'; clear hs'
          refine S.val hf hs (v := .bool (!(within xk1.Size 1 10000))) rfl rfl rfl (V.pure rfl) (fun a hf => ?_)
          refine S.val hf hs (v := .bool (!(within xk1.Size 1 10000))) rfl rfl rfl (V.pure rfl) (fun a hf => ?_)
          refine S.split hf hs (b := !(within xk1.Size 1 10000)) rfl rfl rfl (V.pure rfl) (fun hc a hf => ?_) (fun hc a hf => ?_)
          · replace h := h.1 hc
            refine S.skip hf rfl rfl rfl (fun a hf => ?_)
            refine S.skip hf rfl rfl rfl (fun a hf => ?_)
            refine S.skip hf rfl rfl rfl (fun a hf => ?_)
            refine S.skip hf rfl rfl rfl (fun a hf => ?_)
            refine S.val hf hs (v := .bool true) rfl rfl rfl (V.pure rfl) (fun a hf => ?_)
            refine R.nil ?_
            refine X.then_ ?_
            exact ⟨true, h, ((((hf.nil.cons (hf.get 29 _ rfl)).cons (hf.get 10 _ rfl)).cons (hf.get 9 _ rfl)).cons (hf.get 8 _ rfl)), hs⟩
          · replace h := h.2 hc
            refine S.val hf hs (v := .pointer (some ⟨g1, 3, none⟩)) rfl rfl rfl (V.fieldBox rfl rfl Try.runUnderlying76 rfl Try.sizeOf3 rfl rfl) (fun a hf => ?_)
            refine S.val hf hs (v := .int .i64 xk1.Depth) rfl rfl rfl (V.loadBox 0 rfl rfl rfl Try.isAgg3 Try.sizeOf3 rfl rfl) (fun a hf => ?_)
            refine S.callv hf rfl rfl rfl (call_fn (vs := [.int .i64 xk1.Depth, .int .i64 1, .int .i64 100000]) rfl rfl rfl Try.call55) (C_drill_within xk1.Depth 1 100000 _ ) (fun a w hf hs' => ?_)
            replace hs := hs.call hs'; clear hs'
            refine S.val hf hs (v := .bool (!(within xk1.Depth 1 100000))) rfl rfl rfl (V.pure rfl) (fun a hf => ?_)
            refine S.val hf hs (v := .bool (!(within xk1.Depth 1 100000))) rfl rfl rfl (V.pure rfl) (fun a hf => ?_)
            refine R.nil ?_
            refine X.then_ ?_
            exact ⟨(!(within xk1.Depth 1 100000)), h, ((((hf.nil.cons (hf.get 29 _ rfl)).cons (hf.get 10 _ rfl)).cons (hf.get 9 _ rfl)).cons (hf.get 8 _ rfl)), hs⟩

set_option linter.unusedVariables false
def M_ref8_CheckHoles_k2 (Q : Int → Prop) (next1 : Prop) (c1 : Bool) : Prop :=
  cnd c1 (Q 1) (next1)
def M_ref8_CheckHoles_L1 (Q : Int → Prop) (k1 : Nat) (xk1 : Hole)  (next1 : Prop) : Prop :=
  cnd (!(isPoint xk1.At)) (M_ref8_CheckHoles_k2 Q next1 true) (cnd (!(within xk1.Size 1 10000)) (M_ref8_CheckHoles_k2 Q next1 true) (M_ref8_CheckHoles_k2 Q next1 (!(within xk1.Depth 1 100000))))
def M_ref8_CheckHoles (l : (List Hole)) (Q : Int → Prop) : Prop :=
  cnd (decide ((l.length : Int) > 2000)) (Q 2) (forIn' (fun k x (s : Unit) next => M_ref8_CheckHoles_L1 Q k x (next ())) (fun (s : Unit) => Q 0) l 0 ())
set_option maxHeartbeats 1000000 in
theorem R_ref8_CheckHoles (l : (List Hole)) (w0 : World) (lA : Option Addr) (lC : Nat) (hv_l : View w0 (old w0 none_) lA lC l) (Q : Int → Prop) (h : M_ref8_CheckHoles l Q) :
    Ret Try.prog 58 #[.slice lA l.length lC] w0 fun v w' => ∃ (r0 : Int), v = .int .i64 r0 ∧ Q r0 ∧ Sat w0 none_ [] w' := by
  refine fn_enter Try.func58 rfl Try.ntmps58 rfl (fs := [(0, .slice lA l.length lC)]) rfl (fun a hf => ?_)
  have hs := Sat.start w0 none_
  unfold M_ref8_CheckHoles at h
  refine wp_seq ?_
  refine R.list ?_
  refine S.val hf hs (v := .int .i64 0) rfl rfl rfl (V.pure rfl) (fun a hf => ?_)
  refine R.nil ?_
  refine X.then_ ?_
  refine wp_seq ?_
  refine wp_seq ?_
  refine R.list ?_
  refine S.val hf hs (v := .slice lA l.length lC) rfl rfl rfl (V.pure rfl) (fun a hf => ?_)
  refine S.val hf hs (v := .int .i64 (l.length : Int)) rfl rfl rfl (V.len rfl rfl Try.runUnderlying34) (fun a hf => ?_)
  refine S.val hf hs (v := .bool (decide ((l.length : Int) > 2000))) rfl rfl rfl (V.pure rfl) (fun a hf => ?_)
  refine R.nil ?_
  refine X.then_ ?_
  refine C.cond hf (b := decide ((l.length : Int) > 2000)) rfl (fun hc => ?_) (fun hc => ?_)
  · replace h := h.1 hc
    refine wp_seq ?_
    refine R.list ?_
    refine S.val hf hs (v := .int .i64 2) rfl rfl rfl (V.pure rfl) (fun a hf => ?_)
    refine R.nil ?_
    refine X.then_ ?_
    refine wp_ret ?_
    refine X.then_ret ?_
    exact L.ret hf (run_results1 Try.results58 (ResIs.tmp hf rfl)) ⟨2, rfl, h, hs.nil⟩
  · replace h := h.2 hc
    refine wp_skip ?_
    refine X.then_ ?_
    refine wp_seq ?_
    refine wp_seq ?_
    refine R.list ?_
    refine S.val hf hs (v := .slice lA l.length lC) rfl rfl rfl (V.pure rfl) (fun a hf => ?_)
    refine S.val hf hs (v := .int .i64 (l.length : Int)) rfl rfl rfl (V.len rfl rfl Try.runUnderlying34) (fun a hf => ?_)
    refine S.val hf hs (v := .int .i64 0) rfl rfl rfl (V.pure rfl) (fun a hf => ?_)
    refine R.nil ?_
    refine X.then_ ?_
    refine wp_block ?_
    have hlenk1 := hv_l.len64
    refine C.range (fun (ll : List Hole) a w => ∃ (k1 : Nat) , l.drop k1 = ll ∧ k1 + ll.length = l.length ∧ forIn' (fun k x (s : Unit) next => M_ref8_CheckHoles_L1 Q k x (next ())) (fun (s : Unit) => Q 0) ll k1 () ∧ FrOk 31 [(10, .int .i64 (k1 : Int)), (8, .slice lA l.length lC), (9, .int .i64 (l.length : Int))] a ∧ Sat w0 none_ [] w) l ⟨0, rfl, Nat.zero_add _, h, (((hf.nil.cons (hf.get 9 _ rfl)).cons (hf.get 8 _ rfl)).cons (hf.get 10 _ rfl)), hs⟩ ?_
    clear h hf hs
    rintro llk1 a w ⟨k1, hlk1, hkk1, h, hf, hs⟩
    cases llk1 with
    | nil =>
      have hc := range_done hkk1
      replace h : Q 0 := h
      refine wp_seq ?_
      refine R.list ?_
      refine S.val hf hs (v := .bool false) rfl rfl rfl (V.cmp false rfl rfl rfl rfl hc) (fun a hf => ?_)
      refine R.nil ?_
      refine X.then_ ?_
      refine wp_seq ?_
      refine C.no hf rfl ?_
      refine wp_exit ?_
      refine X.then_exit ?_
      refine X.then_exit ?_
      refine X.blk_exit ?_
      refine X.then_ ?_
      refine wp_seq ?_
      refine R.list ?_
      refine S.val hf hs (v := .int .i64 0) rfl rfl rfl (V.pure rfl) (fun a hf => ?_)
      refine R.nil ?_
      refine X.then_ ?_
      refine wp_ret ?_
      exact L.ret hf (run_results1 Try.results58 (ResIs.tmp hf rfl)) ⟨0, rfl, h, hs.nil⟩
    | cons xk1 llk1 =>
      have hltk1 := range_lt hkk1; have hc := range_go hkk1; have hxk1 := range_get hlk1
      obtain ⟨next1, hnext1⟩ : ∃ X : Prop, X = (forIn' (fun k x (s : Unit) next => M_ref8_CheckHoles_L1 Q k x (next ())) (fun (s : Unit) => Q 0) llk1 (k1 + 1) ()) := ⟨_, rfl⟩
      replace h : M_ref8_CheckHoles_L1 Q k1 xk1  next1 := by rw [hnext1]; exact h
      unfold M_ref8_CheckHoles_L1 at h
      refine wp_seq ?_
      refine R.list ?_
      refine S.val hf hs (v := .bool true) rfl rfl rfl (V.cmp true rfl rfl rfl rfl hc) (fun a hf => ?_)
      refine R.nil ?_
      refine X.then_ ?_
      refine wp_seq ?_
      refine C.yes hf rfl ?_
      refine wp_skip ?_
      refine X.then_ ?_
      refine wp_seq ?_
      refine wp_block ?_
      refine wp_seq ?_
      refine R.list ?_
      refine S.val hf hs (v := elemPtr lA (k1 * 5)) rfl rfl rfl (V.index rfl rfl rfl Try.runUnderlying34 Try.sizeOf76 (hv_l.some_ (lt_of_get hxk1)) (Int.natCast_nonneg _) (lt_of_get hxk1) rfl) (fun a hf => ?_)
      refine S.val hf hs (v := .agg #[.int .i64 xk1.At.X, .int .i64 xk1.At.Y, .int .i64 xk1.Size, .int .i64 xk1.Depth, .bool xk1.Plated]) rfl rfl rfl (V.loadEl (off := 0) (Ag.args _ _ _) (hv_l.flat hxk1) rfl rfl rfl Try.isAgg76 Try.sizeOf76 rfl rfl) (fun a hf => ?_)
      refine S.alloc hf hs rfl rfl rfl [.int .i64 0, .int .i64 0, .int .i64 0, .int .i64 0, .bool false] rfl Try.zeroValue76 rfl (fun g1 a w hf hs => ?_)
      refine S.storeBox 0 hf hs rfl rfl [.int .i64 xk1.At.X, .int .i64 xk1.At.Y, .int .i64 xk1.Size, .int .i64 xk1.Depth, .bool xk1.Plated] [.int .i64 xk1.At.X, .int .i64 xk1.At.Y, .int .i64 xk1.Size, .int .i64 xk1.Depth, .bool xk1.Plated] rfl rfl rfl rfl rfl Try.sizeOf76 rfl rfl rfl rfl (fun a w hf hs => ?_)
      refine R.nil ?_
      refine X.then_ ?_
      refine wp_seq ?_
      refine C.cut (J := fun a w => ∃ (c1 : Bool), M_ref8_CheckHoles_k2 Q next1 c1 ∧ FrOk 31 [(8, .slice lA l.length lC), (9, .int .i64 (l.length : Int)), (10, .int .i64 (k1 : Int)), (29, .bool c1)] a ∧ Sat w0 none_ [hbox g1 76 [.int .i64 xk1.At.X, .int .i64 xk1.At.Y, .int .i64 xk1.Size, .int .i64 xk1.Depth, .bool xk1.Plated]] w) ?_ ?_
      · rintro a w ⟨c1, h, hf, hs⟩
        unfold M_ref8_CheckHoles_k2 at h
        refine C.cond hf (b := c1) rfl (fun hc => ?_) (fun hc => ?_)
        · replace h := h.1 hc
          refine wp_seq ?_
          refine R.list ?_
          refine S.val hf hs (v := .int .i64 1) rfl rfl rfl (V.pure rfl) (fun a hf => ?_)
          refine R.nil ?_
          refine X.then_ ?_
          refine wp_ret ?_
          refine X.blk_ret ?_
          refine X.then_ret ?_
          refine X.then_ret ?_
          refine X.blk_ret ?_
          refine X.then_ret ?_
          exact L.ret hf (run_results1 Try.results58 (ResIs.tmp hf rfl)) ⟨1, rfl, h, hs.nil⟩
        · replace h := h.2 hc
          refine wp_skip ?_
          refine X.blk ?_
          refine X.then_ ?_
          refine R.list ?_
          refine S.val hf hs (v := .int .i64 ((k1 + 1 : Nat) : Int)) rfl rfl rfl (V.incr rfl rfl rfl hltk1 hlenk1) (fun a hf => ?_)
          refine S.val hf hs (v := .int .i64 ((k1 + 1 : Nat) : Int)) rfl rfl rfl (V.pure rfl) (fun a hf => ?_)
          refine R.nil ?_
          refine X.then_ ?_
          exact ⟨xk1, llk1, rfl, k1 + 1, range_drop hlk1, range_len hkk1, (by rw [hnext1] at h; exact h), (((hf.nil.cons (hf.get 9 _ rfl)).cons (hf.get 8 _ rfl)).cons (hf.get 10 _ rfl)), hs.drop⟩
      · skip
        refine R.list ?_
        refine S.val hf hs (v := .pointer (some ⟨g1, 0, none⟩)) rfl rfl rfl (V.fieldBox rfl rfl Try.runUnderlying76 rfl Try.sizeOf24 rfl rfl) (fun a hf => ?_)
        refine S.val hf hs (v := .agg #[.int .i64 xk1.At.X, .int .i64 xk1.At.Y]) rfl rfl rfl (V.loadBox 0 rfl rfl rfl Try.isAgg24 Try.sizeOf24 rfl rfl) (fun a hf => ?_)
        refine S.callv hf rfl rfl rfl (call_fn (vs := [.agg #[.int .i64 xk1.At.X, .int .i64 xk1.At.Y]]) rfl rfl rfl Try.call80) (C_ref8_isPoint xk1.At _ ) (fun a w hf hs' => ?_)
        replace hs := hs.call hs'; clear hs'
        refine S.val hf hs (v := .bool (!(isPoint xk1.At))) rfl rfl rfl (V.pure rfl) (fun a hf => ?_)
        refine S.split hf hs (b := !(isPoint xk1.At)) rfl rfl rfl (V.pure rfl) (fun hc a hf => ?_) (fun hc a hf => ?_)
        · replace h := h.1 hc
          refine S.skip hf rfl rfl rfl (fun a hf => ?_)
          refine S.skip hf rfl rfl rfl (fun a hf => ?_)
          refine S.skip hf rfl rfl rfl (fun a hf => ?_)
          refine S.skip hf rfl rfl rfl (fun a hf => ?_)
          refine S.val hf hs (v := .bool true) rfl rfl rfl (V.pure rfl) (fun a hf => ?_)
          refine S.val hf hs (v := .bool true) rfl rfl rfl (V.pure rfl) (fun a hf => ?_)
          refine S.skip hf rfl rfl rfl (fun a hf => ?_)
          refine S.skip hf rfl rfl rfl (fun a hf => ?_)
          refine S.skip hf rfl rfl rfl (fun a hf => ?_)
          refine S.skip hf rfl rfl rfl (fun a hf => ?_)
          refine S.val hf hs (v := .bool true) rfl rfl rfl (V.pure rfl) (fun a hf => ?_)
          refine R.nil ?_
          refine X.then_ ?_
          exact ⟨true, h, ((((hf.nil.cons (hf.get 29 _ rfl)).cons (hf.get 10 _ rfl)).cons (hf.get 9 _ rfl)).cons (hf.get 8 _ rfl)), hs⟩
        · replace h := h.2 hc
          refine S.val hf hs (v := .pointer (some ⟨g1, 2, none⟩)) rfl rfl rfl (V.fieldBox rfl rfl Try.runUnderlying76 rfl Try.sizeOf3 rfl rfl) (fun a hf => ?_)
          refine S.val hf hs (v := .int .i64 xk1.Size) rfl rfl rfl (V.loadBox 0 rfl rfl rfl Try.isAgg3 Try.sizeOf3 rfl rfl) (fun a hf => ?_)
          refine S.callv hf rfl rfl rfl (call_fn (vs := [.int .i64 xk1.Size, .int .i64 1, .int .i64 10000]) rfl rfl rfl Try.call59) (C_ref8_within xk1.Size 1 10000 _ ) (fun a w hf hs' => ?_)
          replace hs := hs.call hs'; clear hs'
          refine S.val hf hs (v := .bool (!(within xk1.Size 1 10000))) rfl rfl rfl (V.pure rfl) (fun a hf => ?_)
          refine S.val hf hs (v := .bool (!(within xk1.Size 1 10000))) rfl rfl rfl (V.pure rfl) (fun a hf => ?_)
          refine S.split hf hs (b := !(within xk1.Size 1 10000)) rfl rfl rfl (V.pure rfl) (fun hc a hf => ?_) (fun hc a hf => ?_)
          · replace h := h.1 hc
            refine S.skip hf rfl rfl rfl (fun a hf => ?_)
            refine S.skip hf rfl rfl rfl (fun a hf => ?_)
            refine S.skip hf rfl rfl rfl (fun a hf => ?_)
            refine S.skip hf rfl rfl rfl (fun a hf => ?_)
            refine S.val hf hs (v := .bool true) rfl rfl rfl (V.pure rfl) (fun a hf => ?_)
            refine R.nil ?_
            refine X.then_ ?_
            exact ⟨true, h, ((((hf.nil.cons (hf.get 29 _ rfl)).cons (hf.get 10 _ rfl)).cons (hf.get 9 _ rfl)).cons (hf.get 8 _ rfl)), hs⟩
          · replace h := h.2 hc
            refine S.val hf hs (v := .pointer (some ⟨g1, 3, none⟩)) rfl rfl rfl (V.fieldBox rfl rfl Try.runUnderlying76 rfl Try.sizeOf3 rfl rfl) (fun a hf => ?_)
            refine S.val hf hs (v := .int .i64 xk1.Depth) rfl rfl rfl (V.loadBox 0 rfl rfl rfl Try.isAgg3 Try.sizeOf3 rfl rfl) (fun a hf => ?_)
            refine S.callv hf rfl rfl rfl (call_fn (vs := [.int .i64 xk1.Depth, .int .i64 1, .int .i64 100000]) rfl rfl rfl Try.call59) (C_ref8_within xk1.Depth 1 100000 _ ) (fun a w hf hs' => ?_)
            replace hs := hs.call hs'; clear hs'
            refine S.val hf hs (v := .bool (!(within xk1.Depth 1 100000))) rfl rfl rfl (V.pure rfl) (fun a hf => ?_)
            refine S.val hf hs (v := .bool (!(within xk1.Depth 1 100000))) rfl rfl rfl (V.pure rfl) (fun a hf => ?_)
            refine R.nil ?_
            refine X.then_ ?_
            exact ⟨(!(within xk1.Depth 1 100000)), h, ((((hf.nil.cons (hf.get 29 _ rfl)).cons (hf.get 10 _ rfl)).cons (hf.get 9 _ rfl)).cons (hf.get 8 _ rfl)), hs⟩

set_option linter.unusedVariables false
def M_drill_Near_k3 (k1 : Nat) (xk1 : Hole) (l4 : List Pair) (n2 : Int) (again2 : List Pair → Int → Prop) (x1 : Hole) (c1 : Bool) : Prop :=
  cnd c1 (must (room (l4 ++ [(⟨(k1 : Int), n2, max (max 0 (w64 ((apart xk1.At.X x1.At.X) - (w64 ((w64 (xk1.Size + x1.Size)).tdiv 2))))) (w64 ((apart xk1.At.Y x1.At.Y) - (w64 ((w64 (xk1.Size + x1.Size)).tdiv 2))))⟩ : Pair)]).length 24) (again2 (l4 ++ [(⟨(k1 : Int), n2, max (max 0 (w64 ((apart xk1.At.X x1.At.X) - (w64 ((w64 (xk1.Size + x1.Size)).tdiv 2))))) (w64 ((apart xk1.At.Y x1.At.Y) - (w64 ((w64 (xk1.Size + x1.Size)).tdiv 2))))⟩ : Pair)]) (w64 (n2 + 1)))) (again2 l4 (w64 (n2 + 1)))
def M_drill_Near_L2 (l : (List Hole)) (below : Int) (k1 : Nat) (xk1 : Hole) (next1 : List Pair → Prop) (again2 : List Pair → Int → Prop) (l4 : List Pair) (n2 : Int) : Prop :=
  cnd (decide (n2 < (l.length : Int))) (idx l n2 fun x1 => cnd (decide (max (max 0 (w64 ((apart xk1.At.X x1.At.X) - (w64 ((w64 (xk1.Size + x1.Size)).tdiv 2))))) (w64 ((apart xk1.At.Y x1.At.Y) - (w64 ((w64 (xk1.Size + x1.Size)).tdiv 2)))) < below)) (M_drill_Near_k3 k1 xk1 l4 n2 again2 x1 (!(decide (xk1.At = x1.At)))) (M_drill_Near_k3 k1 xk1 l4 n2 again2 x1 false)) (next1 l4)
def M_drill_Near_L1 (l : (List Hole)) (below : Int) (k1 : Nat) (xk1 : Hole) (l2 : List Pair) (next1 : List Pair → Prop) : Prop :=
  lp (fun again (s : List Pair × Int) => M_drill_Near_L2 l below k1 xk1 next1 (fun l4 n2 => again (l4, n2)) s.1 s.2) (l2, ((k1 + 1 : Nat) : Int))
def M_drill_Near (l : (List Hole)) (below : Int) (Q : (List Pair) → Int → Prop) : Prop :=
  M_drill_CheckHoles l fun y1 => cnd (y1 != 0) (Q ([] : List Pair) y1) (cnd (!(within below 0 10000)) (Q ([] : List Pair) 1) (forIn' (fun k x (s : List Pair) next => M_drill_Near_L1 l below k x s (fun l2 => next l2)) (fun (s : List Pair) => (fun (l2 : List Pair) => Q l2 0) s) l 0 ([] : List Pair)))
set_option maxHeartbeats 1000000 in
theorem R_drill_Near (l : (List Hole)) (below : Int) (w0 : World) (lA : Option Addr) (lC : Nat) (hv_l : View w0 (old w0 none_) lA lC l) (Q : (List Pair) → Int → Prop) (h : M_drill_Near l below Q) :
    Ret Try.prog 21 #[.slice lA l.length lC, .int .i64 below] w0 fun v w' => ∃ (r0 : (List Pair)) (r0A : Option Addr) (r0C : Nat) (r1 : Int), v = .tuple #[.slice r0A r0.length r0C, .int .i64 r1] ∧ Q r0 r1 ∧ Sat w0 none_ [hown 39 r0A r0C r0] w' := by
  refine fn_enter Try.func21 rfl Try.ntmps21 rfl (fs := [(0, .slice lA l.length lC), (1, .int .i64 below)]) rfl (fun a hf => ?_)
  have hs := Sat.start w0 none_
  unfold M_drill_Near at h
  refine wp_seq ?_
  refine R.list ?_
  refine S.val hf hs (v := .slice none 0 0) rfl rfl rfl (V.pure rfl) (fun a hf => ?_)
  refine S.val hf hs (v := .int .i64 0) rfl rfl rfl (V.pure rfl) (fun a hf => ?_)
  refine R.nil ?_
  refine X.then_ ?_
  refine wp_seq ?_
  refine wp_seq ?_
  refine R.list ?_
  refine S.val hf hs (v := .slice lA l.length lC) rfl rfl rfl (V.pure rfl) (fun a hf => ?_)
  refine S.call hf rfl rfl rfl (call_fn (vs := [.slice lA l.length lC]) rfl rfl rfl Try.call54) (R_drill_CheckHoles l _ lA lC ((Ag.args _ _ _).view hv_l hs) _ h) (fun v a w' hf hr => ?_)
  obtain ⟨y1, rfl, h2, hs2⟩ := hr
  replace h := h2; replace hs := hs.call hs2; clear h2 hs2
  refine S.val hf hs (v := .int .i64 y1) rfl rfl rfl (V.pure rfl) (fun a hf => ?_)
  refine R.nil ?_
  refine X.then_ ?_
  refine wp_seq ?_
  refine R.list ?_
  refine S.val hf hs (v := .int .i64 y1) rfl rfl rfl (V.pure rfl) (fun a hf => ?_)
  refine S.val hf hs (v := .bool (y1 != 0)) rfl rfl rfl (V.pure rfl) (fun a hf => ?_)
  refine R.nil ?_
  refine X.then_ ?_
  refine C.cond hf (b := y1 != 0) rfl (fun hc => ?_) (fun hc => ?_)
  · replace h := h.1 hc
    refine wp_seq ?_
    refine R.list ?_
    refine S.val hf hs (v := .int .i64 y1) rfl rfl rfl (V.pure rfl) (fun a hf => ?_)
    refine S.val hf hs (v := .slice none 0 0) rfl rfl rfl (V.pure rfl) (fun a hf => ?_)
    refine S.val hf hs (v := .int .i64 y1) rfl rfl rfl (V.pure rfl) (fun a hf => ?_)
    refine R.nil ?_
    refine X.then_ ?_
    refine wp_ret ?_
    refine X.then_ret ?_
    replace hs := hs.nilOwn (α := Pair) 39
    replace hs := hs.take 1
    exact L.ret hf (run_results2 Try.results21 (ResIs.tmp hf rfl) (ResIs.tmp hf rfl)) ⟨([] : List Pair), none, 0, y1, rfl, h, hs⟩
  · replace h := h.2 hc
    refine wp_skip ?_
    refine X.then_ ?_
    refine wp_seq ?_
    refine wp_seq ?_
    refine R.list ?_
    refine S.val hf hs (v := .int .i64 below) rfl rfl rfl (V.pure rfl) (fun a hf => ?_)
    refine S.callv hf rfl rfl rfl (call_fn (vs := [.int .i64 below, .int .i64 0, .int .i64 10000]) rfl rfl rfl Try.call55) (C_drill_within below 0 10000 _ ) (fun a w hf hs' => ?_)
    replace hs := hs.call hs'; clear hs'
    refine S.val hf hs (v := .bool (!(within below 0 10000))) rfl rfl rfl (V.pure rfl) (fun a hf => ?_)
    refine R.nil ?_
    refine X.then_ ?_
    refine C.cond hf (b := !(within below 0 10000)) rfl (fun hc => ?_) (fun hc => ?_)
    · replace h := h.1 hc
      refine wp_seq ?_
      refine R.list ?_
      refine S.val hf hs (v := .slice none 0 0) rfl rfl rfl (V.pure rfl) (fun a hf => ?_)
      refine S.val hf hs (v := .int .i64 1) rfl rfl rfl (V.pure rfl) (fun a hf => ?_)
      refine R.nil ?_
      refine X.then_ ?_
      refine wp_ret ?_
      refine X.then_ret ?_
      replace hs := hs.nilOwn (α := Pair) 39
      replace hs := hs.take 1
      exact L.ret hf (run_results2 Try.results21 (ResIs.tmp hf rfl) (ResIs.tmp hf rfl)) ⟨([] : List Pair), none, 0, 1, rfl, h, hs⟩
    · replace h := h.2 hc
      refine wp_skip ?_
      refine X.then_ ?_
      refine wp_seq ?_
      refine R.list ?_
      refine S.val hf hs (v := .slice none 0 0) rfl rfl rfl (V.pure rfl) (fun a hf => ?_)
      refine R.nil ?_
      refine X.then_ ?_
      refine wp_seq ?_
      refine wp_seq ?_
      refine R.list ?_
      refine S.val hf hs (v := .slice lA l.length lC) rfl rfl rfl (V.pure rfl) (fun a hf => ?_)
      refine S.val hf hs (v := .int .i64 (l.length : Int)) rfl rfl rfl (V.len rfl rfl Try.runUnderlying34) (fun a hf => ?_)
      refine S.val hf hs (v := .int .i64 0) rfl rfl rfl (V.pure rfl) (fun a hf => ?_)
      refine R.nil ?_
      refine X.then_ ?_
      refine wp_block ?_
      replace hs := hs.nilOwn (α := Pair) 39
      have hlenk1 := hv_l.len64
      refine C.range (fun (ll : List Hole) a w => ∃ (k1 : Nat) (l2 : List Pair) (l2A : Option Addr) (l2C : Nat), l.drop k1 = ll ∧ k1 + ll.length = l.length ∧ forIn' (fun k x (s : List Pair) next => M_drill_Near_L1 l below k x s (fun l2 => next l2)) (fun (s : List Pair) => (fun (l2 : List Pair) => Q l2 0) s) ll k1 l2 ∧ FrOk 85 [(24, .int .i64 (k1 : Int)), (0, .slice lA l.length lC), (1, .int .i64 below), (7, .slice l2A l2.length l2C), (22, .slice lA l.length lC), (23, .int .i64 (l.length : Int))] a ∧ Sat w0 none_ [hown 39 l2A l2C l2] w) l ⟨0, ([] : List Pair), none, 0, rfl, Nat.zero_add _, h, ((((((hf.nil.cons (hf.get 23 _ rfl)).cons (hf.get 22 _ rfl)).cons (hf.get 7 _ rfl)).cons (hf.get 1 _ rfl)).cons (hf.get 0 _ rfl)).cons (hf.get 24 _ rfl)), hs⟩ ?_
      clear h hf hs
      rintro llk1 a w ⟨k1, l2, l2A, l2C, hlk1, hkk1, h, hf, hs⟩
      cases llk1 with
      | nil =>
        have hc := range_done hkk1
        replace h : (fun (l2 : List Pair) => Q l2 0) l2 := h
        refine wp_seq ?_
        refine R.list ?_
        refine S.val hf hs (v := .bool false) rfl rfl rfl (V.cmp false rfl rfl rfl rfl hc) (fun a hf => ?_)
        refine R.nil ?_
        refine X.then_ ?_
        refine wp_seq ?_
        refine C.no hf rfl ?_
        refine wp_exit ?_
        refine X.then_exit ?_
        refine X.then_exit ?_
        refine X.blk_exit ?_
        refine X.then_ ?_
        refine wp_seq ?_
        refine R.list ?_
        refine S.val hf hs (v := .slice l2A l2.length l2C) rfl rfl rfl (V.pure rfl) (fun a hf => ?_)
        refine S.val hf hs (v := .slice l2A l2.length l2C) rfl rfl rfl (V.pure rfl) (fun a hf => ?_)
        refine S.val hf hs (v := .int .i64 0) rfl rfl rfl (V.pure rfl) (fun a hf => ?_)
        refine R.nil ?_
        refine X.then_ ?_
        refine wp_ret ?_
        replace hs := hs.take 1
        exact L.ret hf (run_results2 Try.results21 (ResIs.tmp hf rfl) (ResIs.tmp hf rfl)) ⟨l2, l2A, l2C, 0, rfl, h, hs⟩
      | cons xk1 llk1 =>
        have hltk1 := range_lt hkk1; have hc := range_go hkk1; have hxk1 := range_get hlk1
        obtain ⟨next1, hnext1⟩ : ∃ X : List Pair → Prop, X = (fun l2 => forIn' (fun k x (s : List Pair) next => M_drill_Near_L1 l below k x s (fun l2 => next l2)) (fun (s : List Pair) => (fun (l2 : List Pair) => Q l2 0) s) llk1 (k1 + 1) l2) := ⟨_, rfl⟩
        replace h : M_drill_Near_L1 l below k1 xk1 l2 next1 := by rw [hnext1]; exact h
        unfold M_drill_Near_L1 at h
        refine wp_seq ?_
        refine R.list ?_
        refine S.val hf hs (v := .bool true) rfl rfl rfl (V.cmp true rfl rfl rfl rfl hc) (fun a hf => ?_)
        refine R.nil ?_
        refine X.then_ ?_
        refine wp_seq ?_
        refine C.yes hf rfl ?_
        refine wp_skip ?_
        refine X.then_ ?_
        refine wp_seq ?_
        refine wp_block ?_
        refine wp_seq ?_
        refine R.list ?_
        refine S.val hf hs (v := .int .i64 (k1 : Int)) rfl rfl rfl (V.pure rfl) (fun a hf => ?_)
        refine S.val hf hs (v := elemPtr lA (k1 * 5)) rfl rfl rfl (V.index rfl rfl rfl Try.runUnderlying34 Try.sizeOf76 (hv_l.some_ (lt_of_get hxk1)) (Int.natCast_nonneg _) (lt_of_get hxk1) rfl) (fun a hf => ?_)
        refine S.val hf hs (v := .agg #[.int .i64 xk1.At.X, .int .i64 xk1.At.Y, .int .i64 xk1.Size, .int .i64 xk1.Depth, .bool xk1.Plated]) rfl rfl rfl (V.loadEl (off := 0) (Ag.args _ _ _) (hv_l.flat hxk1) rfl rfl rfl Try.isAgg76 Try.sizeOf76 rfl rfl) (fun a hf => ?_)
        refine S.alloc hf hs rfl rfl rfl [.int .i64 0, .int .i64 0, .int .i64 0, .int .i64 0, .bool false] rfl Try.zeroValue76 rfl (fun g1 a w hf hs => ?_)
        refine S.val hf hs (v := .int .i64 (k1 : Int)) rfl rfl rfl (V.pure rfl) (fun a hf => ?_)
        refine S.storeBox 0 hf hs rfl rfl [.int .i64 xk1.At.X, .int .i64 xk1.At.Y, .int .i64 xk1.Size, .int .i64 xk1.Depth, .bool xk1.Plated] [.int .i64 xk1.At.X, .int .i64 xk1.At.Y, .int .i64 xk1.Size, .int .i64 xk1.Depth, .bool xk1.Plated] rfl rfl rfl rfl rfl Try.sizeOf76 rfl rfl rfl rfl (fun a w hf hs => ?_)
        refine R.nil ?_
        refine X.then_ ?_
        refine wp_seq ?_
        refine R.list ?_
        refine S.val hf hs (v := .int .i64 (k1 : Int)) rfl rfl rfl (V.pure rfl) (fun a hf => ?_)
        refine S.val hf hs (v := .int .i64 ((k1 + 1 : Nat) : Int)) rfl rfl rfl (V.incr rfl rfl rfl hltk1 hlenk1) (fun a hf => ?_)
        refine S.val hf hs (v := .int .i64 ((k1 + 1 : Nat) : Int)) rfl rfl rfl (V.pure rfl) (fun a hf => ?_)
        refine R.nil ?_
        refine X.then_ ?_
        refine wp_block ?_
        obtain ⟨kk, h⟩ := h
        refine C.loop (fun kk a w => ∃ (l4 : List Pair) (l4A : Option Addr) (l4C : Nat) (n2 : Int), iterF (fun again (s : List Pair × Int) => M_drill_Near_L2 l below k1 xk1 next1 (fun l4 n2 => again (l4, n2)) s.1 s.2) kk (l4, n2) ∧ FrOk 85 [(0, .slice lA l.length lC), (1, .int .i64 below), (7, .slice l4A l4.length l4C), (8, .int .i64 (k1 : Int)), (9, .pointer (some ⟨g1, 0, none⟩)), (10, .int .i64 n2), (22, .slice lA l.length lC), (23, .int .i64 (l.length : Int)), (24, .int .i64 (k1 : Int))] a ∧ Sat w0 none_ [hbox g1 76 [.int .i64 xk1.At.X, .int .i64 xk1.At.Y, .int .i64 xk1.Size, .int .i64 xk1.Depth, .bool xk1.Plated], hown 39 l4A l4C l4] w) kk ⟨l2, l2A, l2C, ((k1 + 1 : Nat) : Int), h, (((((((((hf.nil.cons (hf.get 24 _ rfl)).cons (hf.get 23 _ rfl)).cons (hf.get 22 _ rfl)).cons (hf.get 10 _ rfl)).cons (hf.get 9 _ rfl)).cons (hf.get 8 _ rfl)).cons (hf.get 7 _ rfl)).cons (hf.get 1 _ rfl)).cons (hf.get 0 _ rfl)), hs⟩ (fun a w ⟨_, _, _, _, h, _, _⟩ => h) ?_
        clear h hf hs
        rintro kk a w ⟨l4, l4A, l4C, n2, h, hf, hs⟩
        obtain ⟨again2, hagain2⟩ : ∃ X : List Pair → Int → Prop, X = (fun l4 n2 => iterF (fun again (s : List Pair × Int) => M_drill_Near_L2 l below k1 xk1 next1 (fun l4 n2 => again (l4, n2)) s.1 s.2) kk (l4, n2)) := ⟨_, rfl⟩
        replace h : M_drill_Near_L2 l below k1 xk1 next1 again2 l4 n2 := by rw [hagain2]; exact h
        unfold M_drill_Near_L2 at h
        refine wp_seq ?_
        refine wp_seq ?_
        refine R.list ?_
        refine S.val hf hs (v := .int .i64 n2) rfl rfl rfl (V.pure rfl) (fun a hf => ?_)
        refine S.val hf hs (v := .slice lA l.length lC) rfl rfl rfl (V.pure rfl) (fun a hf => ?_)
        refine S.val hf hs (v := .int .i64 (l.length : Int)) rfl rfl rfl (V.len rfl rfl Try.runUnderlying34) (fun a hf => ?_)
        refine S.val hf hs (v := .bool (decide (n2 < (l.length : Int)))) rfl rfl rfl (V.pure rfl) (fun a hf => ?_)
        refine R.nil ?_
        refine X.then_ ?_
        refine C.cond hf (b := decide (n2 < (l.length : Int))) rfl (fun hc => ?_) (fun hc => ?_)
        · replace h := h.1 hc
          refine wp_skip ?_
          refine X.then_ ?_
          refine wp_seq ?_
          refine wp_block ?_
          refine wp_seq ?_
          refine R.list ?_
          refine S.val hf hs (v := .slice lA l.length lC) rfl rfl rfl (V.pure rfl) (fun a hf => ?_)
          refine S.val hf hs (v := .int .i64 n2) rfl rfl rfl (V.pure rfl) (fun a hf => ?_)
          obtain ⟨h0x1, x1, hx1, h⟩ := h
          refine S.val hf hs (v := elemPtr lA (n2.toNat * 5)) rfl rfl rfl (V.index rfl rfl rfl Try.runUnderlying34 Try.sizeOf76 (hv_l.some_ (lt_of_get hx1)) h0x1 (lt_of_get hx1) rfl) (fun a hf => ?_)
          refine S.val hf hs (v := .agg #[.int .i64 x1.At.X, .int .i64 x1.At.Y, .int .i64 x1.Size, .int .i64 x1.Depth, .bool x1.Plated]) rfl rfl rfl (V.loadEl (off := 0) (Ag.args _ _ _) (hv_l.flat hx1) rfl rfl rfl Try.isAgg76 Try.sizeOf76 rfl rfl) (fun a hf => ?_)
          refine S.alloc hf hs rfl rfl rfl [.int .i64 0, .int .i64 0, .int .i64 0, .int .i64 0, .bool false] rfl Try.zeroValue76 rfl (fun g2 a w hf hs => ?_)
          refine S.storeBox 0 hf hs rfl rfl [.int .i64 x1.At.X, .int .i64 x1.At.Y, .int .i64 x1.Size, .int .i64 x1.Depth, .bool x1.Plated] [.int .i64 x1.At.X, .int .i64 x1.At.Y, .int .i64 x1.Size, .int .i64 x1.Depth, .bool x1.Plated] rfl rfl rfl rfl rfl Try.sizeOf76 rfl rfl rfl rfl (fun a w hf hs => ?_)
          refine R.nil ?_
          refine X.then_ ?_
          refine wp_seq ?_
          refine R.list ?_
          refine S.val hf hs (v := .pointer (some ⟨g1, 2, none⟩)) rfl rfl rfl (V.fieldBox rfl rfl Try.runUnderlying76 rfl Try.sizeOf3 rfl rfl) (fun a hf => ?_)
          refine S.val hf hs (v := .int .i64 xk1.Size) rfl rfl rfl (V.loadBox 1 rfl rfl rfl Try.isAgg3 Try.sizeOf3 rfl rfl) (fun a hf => ?_)
          refine S.val hf hs (v := .pointer (some ⟨g2, 2, none⟩)) rfl rfl rfl (V.fieldBox rfl rfl Try.runUnderlying76 rfl Try.sizeOf3 rfl rfl) (fun a hf => ?_)
          refine S.val hf hs (v := .int .i64 x1.Size) rfl rfl rfl (V.loadBox 0 rfl rfl rfl Try.isAgg3 Try.sizeOf3 rfl rfl) (fun a hf => ?_)
          refine S.val hf hs (v := .int .i64 (w64 (xk1.Size + x1.Size))) rfl rfl rfl (V.pure rfl) (fun a hf => ?_)
          refine S.val hf hs (v := .int .i64 (w64 ((w64 (xk1.Size + x1.Size)).tdiv 2))) rfl rfl rfl (V.quo rfl rfl rfl (by decide)) (fun a hf => ?_)
          refine S.val hf hs (v := .int .i64 (w64 ((w64 (xk1.Size + x1.Size)).tdiv 2))) rfl rfl rfl (V.pure rfl) (fun a hf => ?_)
          refine R.nil ?_
          refine X.then_ ?_
          refine wp_seq ?_
          refine R.draw mo (by kernel_rfl) hs ?_
          refine D.val hf (v := .pointer (some ⟨g1, 0, none⟩)) rfl rfl rfl (V.fieldBox rfl rfl Try.runUnderlying76 rfl Try.sizeOf24 rfl rfl) (fun a hf => ?_)
          refine D.val hf (v := .pointer (some ⟨g1, 0, none⟩)) rfl rfl rfl (V.fieldBox rfl rfl Try.runUnderlying24 rfl Try.sizeOf3 rfl rfl) (fun a hf => ?_)
          refine D.val hf (v := .int .i64 xk1.At.X) rfl rfl rfl (V.loadBox 1 rfl rfl rfl Try.isAgg3 Try.sizeOf3 rfl rfl) (fun a hf => ?_)
          refine D.val hf (v := .pointer (some ⟨g2, 0, none⟩)) rfl rfl rfl (V.fieldBox rfl rfl Try.runUnderlying76 rfl Try.sizeOf24 rfl rfl) (fun a hf => ?_)
          refine D.val hf (v := .pointer (some ⟨g2, 0, none⟩)) rfl rfl rfl (V.fieldBox rfl rfl Try.runUnderlying24 rfl Try.sizeOf3 rfl rfl) (fun a hf => ?_)
          refine D.val hf (v := .int .i64 x1.At.X) rfl rfl rfl (V.loadBox 0 rfl rfl rfl Try.isAgg3 Try.sizeOf3 rfl rfl) (fun a hf => ?_)
          refine D.call hf (v := .int .i64 (apart xk1.At.X x1.At.X)) rfl rfl rfl (call_fn (vs := [.int .i64 xk1.At.X, .int .i64 x1.At.X]) rfl rfl rfl Try.call56) (fun w hs => Ret.quiet hs (C_drill_apart xk1.At.X x1.At.X w )) (fun a hf => ?_)
          refine D.val hf (v := .int .i64 (w64 ((w64 (xk1.Size + x1.Size)).tdiv 2))) rfl rfl rfl (V.pure rfl) (fun a hf => ?_)
          refine D.val hf (v := .int .i64 (w64 ((apart xk1.At.X x1.At.X) - (w64 ((w64 (xk1.Size + x1.Size)).tdiv 2))))) rfl rfl rfl (V.pure rfl) (fun a hf => ?_)
          refine D.val hf (v := .pointer (some ⟨g1, 0, none⟩)) rfl rfl rfl (V.fieldBox rfl rfl Try.runUnderlying76 rfl Try.sizeOf24 rfl rfl) (fun a hf => ?_)
          refine D.val hf (v := .pointer (some ⟨g1, 1, none⟩)) rfl rfl rfl (V.fieldBox rfl rfl Try.runUnderlying24 rfl Try.sizeOf3 rfl rfl) (fun a hf => ?_)
          refine D.val hf (v := .int .i64 xk1.At.Y) rfl rfl rfl (V.loadBox 1 rfl rfl rfl Try.isAgg3 Try.sizeOf3 rfl rfl) (fun a hf => ?_)
          refine D.val hf (v := .pointer (some ⟨g2, 0, none⟩)) rfl rfl rfl (V.fieldBox rfl rfl Try.runUnderlying76 rfl Try.sizeOf24 rfl rfl) (fun a hf => ?_)
          refine D.val hf (v := .pointer (some ⟨g2, 1, none⟩)) rfl rfl rfl (V.fieldBox rfl rfl Try.runUnderlying24 rfl Try.sizeOf3 rfl rfl) (fun a hf => ?_)
          refine D.val hf (v := .int .i64 x1.At.Y) rfl rfl rfl (V.loadBox 0 rfl rfl rfl Try.isAgg3 Try.sizeOf3 rfl rfl) (fun a hf => ?_)
          refine D.call hf (v := .int .i64 (apart xk1.At.Y x1.At.Y)) rfl rfl rfl (call_fn (vs := [.int .i64 xk1.At.Y, .int .i64 x1.At.Y]) rfl rfl rfl Try.call56) (fun w hs => Ret.quiet hs (C_drill_apart xk1.At.Y x1.At.Y w )) (fun a hf => ?_)
          refine D.val hf (v := .int .i64 (w64 ((w64 (xk1.Size + x1.Size)).tdiv 2))) rfl rfl rfl (V.pure rfl) (fun a hf => ?_)
          refine D.val hf (v := .int .i64 (w64 ((apart xk1.At.Y x1.At.Y) - (w64 ((w64 (xk1.Size + x1.Size)).tdiv 2))))) rfl rfl rfl (V.pure rfl) (fun a hf => ?_)
          refine D.val hf (v := .int .i64 (max (max 0 (w64 ((apart xk1.At.X x1.At.X) - (w64 ((w64 (xk1.Size + x1.Size)).tdiv 2))))) (w64 ((apart xk1.At.Y x1.At.Y) - (w64 ((w64 (xk1.Size + x1.Size)).tdiv 2)))))) rfl rfl rfl (V.max3 rfl rfl rfl rfl) (fun a hf => ?_)
          refine D.val hf (v := .int .i64 (max (max 0 (w64 ((apart xk1.At.X x1.At.X) - (w64 ((w64 (xk1.Size + x1.Size)).tdiv 2))))) (w64 ((apart xk1.At.Y x1.At.Y) - (w64 ((w64 (xk1.Size + x1.Size)).tdiv 2)))))) rfl rfl rfl (V.pure rfl) (fun a hf => ?_)
          refine D.done (fun w hs => ?_)
          refine X.then_ ?_
          refine wp_seq ?_
          refine C.cut (J := fun a w => ∃ (c1 : Bool), M_drill_Near_k3 k1 xk1 l4 n2 again2 x1 c1 ∧ FrOk 85 [(0, .slice lA l.length lC), (1, .int .i64 below), (7, .slice l4A l4.length l4C), (8, .int .i64 (k1 : Int)), (9, .pointer (some ⟨g1, 0, none⟩)), (10, .int .i64 n2), (13, .int .i64 (max (max 0 (w64 ((apart xk1.At.X x1.At.X) - (w64 ((w64 (xk1.Size + x1.Size)).tdiv 2))))) (w64 ((apart xk1.At.Y x1.At.Y) - (w64 ((w64 (xk1.Size + x1.Size)).tdiv 2)))))), (22, .slice lA l.length lC), (23, .int .i64 (l.length : Int)), (24, .int .i64 (k1 : Int)), (75, .bool c1)] a ∧ Sat w0 none_ [hbox g2 76 [.int .i64 x1.At.X, .int .i64 x1.At.Y, .int .i64 x1.Size, .int .i64 x1.Depth, .bool x1.Plated], hbox g1 76 [.int .i64 xk1.At.X, .int .i64 xk1.At.Y, .int .i64 xk1.Size, .int .i64 xk1.Depth, .bool xk1.Plated], hown 39 l4A l4C l4] w) ?_ ?_
          · rintro a w ⟨c1, h, hf, hs⟩
            unfold M_drill_Near_k3 at h
            refine C.cond hf (b := c1) rfl (fun hc => ?_) (fun hc => ?_)
            · replace h := h.1 hc
              refine R.list ?_
              refine S.val hf hs (v := .slice l4A l4.length l4C) rfl rfl rfl (V.pure rfl) (fun a hf => ?_)
              refine S.val hf hs (v := .int .i64 (k1 : Int)) rfl rfl rfl (V.pure rfl) (fun a hf => ?_)
              refine S.val hf hs (v := .int .i64 n2) rfl rfl rfl (V.pure rfl) (fun a hf => ?_)
              refine S.val hf hs (v := .int .i64 (max (max 0 (w64 ((apart xk1.At.X x1.At.X) - (w64 ((w64 (xk1.Size + x1.Size)).tdiv 2))))) (w64 ((apart xk1.At.Y x1.At.Y) - (w64 ((w64 (xk1.Size + x1.Size)).tdiv 2)))))) rfl rfl rfl (V.pure rfl) (fun a hf => ?_)
              refine S.val hf hs (v := .agg #[.int .i64 (k1 : Int), .int .i64 n2, .int .i64 (max (max 0 (w64 ((apart xk1.At.X x1.At.X) - (w64 ((w64 (xk1.Size + x1.Size)).tdiv 2))))) (w64 ((apart xk1.At.Y x1.At.Y) - (w64 ((w64 (xk1.Size + x1.Size)).tdiv 2)))))]) rfl rfl rfl (V.build (places := #[(0, 1), (1, 1), (2, 1)]) rfl Try.zeroValue39 Try.runUnderlying39 (by intro w; simp [Try.sizeOf3]) rfl rfl) (fun a hf => ?_)
              refine S.build1 hf hs rfl rfl rfl (α := Pair) (⟨(k1 : Int), n2, max (max 0 (w64 ((apart xk1.At.X x1.At.X) - (w64 ((w64 (xk1.Size + x1.Size)).tdiv 2))))) (w64 ((apart xk1.At.Y x1.At.Y) - (w64 ((w64 (xk1.Size + x1.Size)).tdiv 2))))⟩ : Pair) rfl rfl rfl Try.runUnderlying35 Try.sizeOf39 Try.zeroValue39 rfl (by decide) (fun A1 a w hf hs => ?_)
              obtain ⟨hroom, h⟩ := h
              refine S.appendCells 3 hf hs rfl rfl rfl rfl rfl rfl rfl Try.underlying35 info39 rfl hroom ((hs.ownView 0 rfl).some_ (i := 0) (by simp)) (hs.ownView 0 rfl) (fun A2 C1 a w hf hs => ?_)
              replace hs := hs.drop
              refine S.val hf hs (v := .slice A2 (l4 ++ [(⟨(k1 : Int), n2, max (max 0 (w64 ((apart xk1.At.X x1.At.X) - (w64 ((w64 (xk1.Size + x1.Size)).tdiv 2))))) (w64 ((apart xk1.At.Y x1.At.Y) - (w64 ((w64 (xk1.Size + x1.Size)).tdiv 2))))⟩ : Pair)]).length C1) rfl rfl rfl (V.pure rfl) (fun a hf => ?_)
              refine R.nil ?_
              refine X.blk ?_
              refine X.then_ ?_
              refine R.list ?_
              refine S.val hf hs (v := .int .i64 n2) rfl rfl rfl (V.pure rfl) (fun a hf => ?_)
              refine S.val hf hs (v := .int .i64 (w64 (n2 + 1))) rfl rfl rfl (V.pure rfl) (fun a hf => ?_)
              refine S.val hf hs (v := .int .i64 (w64 (n2 + 1))) rfl rfl rfl (V.pure rfl) (fun a hf => ?_)
              refine R.nil ?_
              refine X.then_ ?_
              exact ⟨(l4 ++ [(⟨(k1 : Int), n2, max (max 0 (w64 ((apart xk1.At.X x1.At.X) - (w64 ((w64 (xk1.Size + x1.Size)).tdiv 2))))) (w64 ((apart xk1.At.Y x1.At.Y) - (w64 ((w64 (xk1.Size + x1.Size)).tdiv 2))))⟩ : Pair)]), A2, C1, (w64 (n2 + 1)), (by rw [hagain2] at h; exact h), (((((((((hf.nil.cons (hf.get 24 _ rfl)).cons (hf.get 23 _ rfl)).cons (hf.get 22 _ rfl)).cons (hf.get 10 _ rfl)).cons (hf.get 9 _ rfl)).cons (hf.get 8 _ rfl)).cons (hf.get 7 _ rfl)).cons (hf.get 1 _ rfl)).cons (hf.get 0 _ rfl)), hs.drop⟩
            · replace h := h.2 hc
              refine wp_skip ?_
              refine X.blk ?_
              refine X.then_ ?_
              refine R.list ?_
              refine S.val hf hs (v := .int .i64 n2) rfl rfl rfl (V.pure rfl) (fun a hf => ?_)
              refine S.val hf hs (v := .int .i64 (w64 (n2 + 1))) rfl rfl rfl (V.pure rfl) (fun a hf => ?_)
              refine S.val hf hs (v := .int .i64 (w64 (n2 + 1))) rfl rfl rfl (V.pure rfl) (fun a hf => ?_)
              refine R.nil ?_
              refine X.then_ ?_
              exact ⟨l4, l4A, l4C, (w64 (n2 + 1)), (by rw [hagain2] at h; exact h), (((((((((hf.nil.cons (hf.get 24 _ rfl)).cons (hf.get 23 _ rfl)).cons (hf.get 22 _ rfl)).cons (hf.get 10 _ rfl)).cons (hf.get 9 _ rfl)).cons (hf.get 8 _ rfl)).cons (hf.get 7 _ rfl)).cons (hf.get 1 _ rfl)).cons (hf.get 0 _ rfl)), hs.drop⟩
          · skip
            refine R.list ?_
            refine S.val hf hs (v := .int .i64 (max (max 0 (w64 ((apart xk1.At.X x1.At.X) - (w64 ((w64 (xk1.Size + x1.Size)).tdiv 2))))) (w64 ((apart xk1.At.Y x1.At.Y) - (w64 ((w64 (xk1.Size + x1.Size)).tdiv 2)))))) rfl rfl rfl (V.pure rfl) (fun a hf => ?_)
            refine S.val hf hs (v := .int .i64 below) rfl rfl rfl (V.pure rfl) (fun a hf => ?_)
            refine S.val hf hs (v := .bool (decide (max (max 0 (w64 ((apart xk1.At.X x1.At.X) - (w64 ((w64 (xk1.Size + x1.Size)).tdiv 2))))) (w64 ((apart xk1.At.Y x1.At.Y) - (w64 ((w64 (xk1.Size + x1.Size)).tdiv 2)))) < below))) rfl rfl rfl (V.pure rfl) (fun a hf => ?_)
            refine S.split hf hs (b := decide (max (max 0 (w64 ((apart xk1.At.X x1.At.X) - (w64 ((w64 (xk1.Size + x1.Size)).tdiv 2))))) (w64 ((apart xk1.At.Y x1.At.Y) - (w64 ((w64 (xk1.Size + x1.Size)).tdiv 2)))) < below)) rfl rfl rfl (V.pure rfl) (fun hc a hf => ?_) (fun hc a hf => ?_)
            · replace h := h.1 hc
              refine S.val hf hs (v := .pointer (some ⟨g1, 0, none⟩)) rfl rfl rfl (V.fieldBox rfl rfl Try.runUnderlying76 rfl Try.sizeOf24 rfl rfl) (fun a hf => ?_)
              refine S.val hf hs (v := .agg #[.int .i64 xk1.At.X, .int .i64 xk1.At.Y]) rfl rfl rfl (V.loadBox 1 rfl rfl rfl Try.isAgg24 Try.sizeOf24 rfl rfl) (fun a hf => ?_)
              refine S.val hf hs (v := .pointer (some ⟨g2, 0, none⟩)) rfl rfl rfl (V.fieldBox rfl rfl Try.runUnderlying76 rfl Try.sizeOf24 rfl rfl) (fun a hf => ?_)
              refine S.val hf hs (v := .agg #[.int .i64 x1.At.X, .int .i64 x1.At.Y]) rfl rfl rfl (V.loadBox 0 rfl rfl rfl Try.isAgg24 Try.sizeOf24 rfl rfl) (fun a hf => ?_)
              refine S.val hf hs (v := .bool (!(decide (xk1.At = x1.At)))) rfl rfl rfl (V.aggneq rfl rfl rfl (by kernel_rfl) (fun w => eqS24 xk1.At x1.At w)) (fun a hf => ?_)
              refine S.val hf hs (v := .bool (!(decide (xk1.At = x1.At)))) rfl rfl rfl (V.pure rfl) (fun a hf => ?_)
              refine R.nil ?_
              refine X.then_ ?_
              exact ⟨(!(decide (xk1.At = x1.At))), h, (((((((((((hf.nil.cons (hf.get 75 _ rfl)).cons (hf.get 24 _ rfl)).cons (hf.get 23 _ rfl)).cons (hf.get 22 _ rfl)).cons (hf.get 13 _ rfl)).cons (hf.get 10 _ rfl)).cons (hf.get 9 _ rfl)).cons (hf.get 8 _ rfl)).cons (hf.get 7 _ rfl)).cons (hf.get 1 _ rfl)).cons (hf.get 0 _ rfl)), hs⟩
            · replace h := h.2 hc
              refine S.skip hf rfl rfl rfl (fun a hf => ?_)
              refine S.skip hf rfl rfl rfl (fun a hf => ?_)
              refine S.skip hf rfl rfl rfl (fun a hf => ?_)
              refine S.skip hf rfl rfl rfl (fun a hf => ?_)
              refine S.skip hf rfl rfl rfl (fun a hf => ?_)
              refine S.val hf hs (v := .bool false) rfl rfl rfl (V.pure rfl) (fun a hf => ?_)
              refine R.nil ?_
              refine X.then_ ?_
              exact ⟨false, h, (((((((((((hf.nil.cons (hf.get 75 _ rfl)).cons (hf.get 24 _ rfl)).cons (hf.get 23 _ rfl)).cons (hf.get 22 _ rfl)).cons (hf.get 13 _ rfl)).cons (hf.get 10 _ rfl)).cons (hf.get 9 _ rfl)).cons (hf.get 8 _ rfl)).cons (hf.get 7 _ rfl)).cons (hf.get 1 _ rfl)).cons (hf.get 0 _ rfl)), hs⟩
        · replace h := h.2 hc
          refine wp_exit ?_
          refine X.then_exit ?_
          refine X.then_exit ?_
          refine X.blk_exit ?_
          refine X.blk ?_
          refine X.then_ ?_
          refine R.list ?_
          refine S.val hf hs (v := .int .i64 ((k1 + 1 : Nat) : Int)) rfl rfl rfl (V.incr rfl rfl rfl hltk1 hlenk1) (fun a hf => ?_)
          refine S.val hf hs (v := .int .i64 ((k1 + 1 : Nat) : Int)) rfl rfl rfl (V.pure rfl) (fun a hf => ?_)
          refine R.nil ?_
          refine X.then_ ?_
          exact ⟨xk1, llk1, rfl, k1 + 1, l4, l4A, l4C, range_drop hlk1, range_len hkk1, (by rw [hnext1] at h; exact h), ((((((hf.nil.cons (hf.get 23 _ rfl)).cons (hf.get 22 _ rfl)).cons (hf.get 7 _ rfl)).cons (hf.get 1 _ rfl)).cons (hf.get 0 _ rfl)).cons (hf.get 24 _ rfl)), hs.drop⟩

set_option linter.unusedVariables false
def M_ref8_between (a_ : Hole) (b : Hole) (Q : Int → Prop) : Prop :=
  Q (max (max 0 (w64 ((rabs (w64 (a_.At.X - b.At.X))) - (w64 ((w64 (a_.Size + b.Size)).tdiv 2))))) (w64 ((rabs (w64 (a_.At.Y - b.At.Y))) - (w64 ((w64 (a_.Size + b.Size)).tdiv 2)))))
set_option maxHeartbeats 1000000 in
theorem R_ref8_between (a_ : Hole) (b : Hole) (w0 : World)  (Q : Int → Prop) (h : M_ref8_between a_ b Q) :
    Ret Try.prog 60 #[.agg #[.int .i64 a_.At.X, .int .i64 a_.At.Y, .int .i64 a_.Size, .int .i64 a_.Depth, .bool a_.Plated], .agg #[.int .i64 b.At.X, .int .i64 b.At.Y, .int .i64 b.Size, .int .i64 b.Depth, .bool b.Plated]] w0 fun v w' => ∃ (r0 : Int), v = .int .i64 r0 ∧ Q r0 ∧ Sat w0 none_ [] w' := by
  refine fn_enter Try.func60 rfl Try.ntmps60 rfl (fs := [(0, .agg #[.int .i64 a_.At.X, .int .i64 a_.At.Y, .int .i64 a_.Size, .int .i64 a_.Depth, .bool a_.Plated]), (1, .agg #[.int .i64 b.At.X, .int .i64 b.At.Y, .int .i64 b.Size, .int .i64 b.Depth, .bool b.Plated])]) rfl (fun a hf => ?_)
  have hs := Sat.start w0 none_
  unfold M_ref8_between at h
  refine wp_seq ?_
  refine R.list ?_
  refine S.box hf hs rfl rfl rfl [.int .i64 a_.At.X, .int .i64 a_.At.Y, .int .i64 a_.Size, .int .i64 a_.Depth, .bool a_.Plated] rfl rfl rfl (fun g1 a w hf hs => ?_)
  refine S.box hf hs rfl rfl rfl [.int .i64 b.At.X, .int .i64 b.At.Y, .int .i64 b.Size, .int .i64 b.Depth, .bool b.Plated] rfl rfl rfl (fun g2 a w hf hs => ?_)
  refine S.val hf hs (v := .int .i64 0) rfl rfl rfl (V.pure rfl) (fun a hf => ?_)
  refine R.nil ?_
  refine X.then_ ?_
  refine wp_seq ?_
  refine R.list ?_
  refine S.val hf hs (v := .pointer (some ⟨g1, 2, none⟩)) rfl rfl rfl (V.fieldBox rfl rfl Try.runUnderlying76 rfl Try.sizeOf3 rfl rfl) (fun a hf => ?_)
  refine S.val hf hs (v := .int .i64 a_.Size) rfl rfl rfl (V.loadBox 1 rfl rfl rfl Try.isAgg3 Try.sizeOf3 rfl rfl) (fun a hf => ?_)
  refine S.val hf hs (v := .pointer (some ⟨g2, 2, none⟩)) rfl rfl rfl (V.fieldBox rfl rfl Try.runUnderlying76 rfl Try.sizeOf3 rfl rfl) (fun a hf => ?_)
  refine S.val hf hs (v := .int .i64 b.Size) rfl rfl rfl (V.loadBox 0 rfl rfl rfl Try.isAgg3 Try.sizeOf3 rfl rfl) (fun a hf => ?_)
  refine S.val hf hs (v := .int .i64 (w64 (a_.Size + b.Size))) rfl rfl rfl (V.pure rfl) (fun a hf => ?_)
  refine S.val hf hs (v := .int .i64 (w64 ((w64 (a_.Size + b.Size)).tdiv 2))) rfl rfl rfl (V.quo rfl rfl rfl (by decide)) (fun a hf => ?_)
  refine S.val hf hs (v := .int .i64 (w64 ((w64 (a_.Size + b.Size)).tdiv 2))) rfl rfl rfl (V.pure rfl) (fun a hf => ?_)
  refine R.nil ?_
  refine X.then_ ?_
  refine wp_seq ?_
  refine R.draw mo (by kernel_rfl) hs ?_
  refine D.val hf (v := .pointer (some ⟨g1, 0, none⟩)) rfl rfl rfl (V.fieldBox rfl rfl Try.runUnderlying76 rfl Try.sizeOf24 rfl rfl) (fun a hf => ?_)
  refine D.val hf (v := .pointer (some ⟨g1, 0, none⟩)) rfl rfl rfl (V.fieldBox rfl rfl Try.runUnderlying24 rfl Try.sizeOf3 rfl rfl) (fun a hf => ?_)
  refine D.val hf (v := .int .i64 a_.At.X) rfl rfl rfl (V.loadBox 1 rfl rfl rfl Try.isAgg3 Try.sizeOf3 rfl rfl) (fun a hf => ?_)
  refine D.val hf (v := .pointer (some ⟨g2, 0, none⟩)) rfl rfl rfl (V.fieldBox rfl rfl Try.runUnderlying76 rfl Try.sizeOf24 rfl rfl) (fun a hf => ?_)
  refine D.val hf (v := .pointer (some ⟨g2, 0, none⟩)) rfl rfl rfl (V.fieldBox rfl rfl Try.runUnderlying24 rfl Try.sizeOf3 rfl rfl) (fun a hf => ?_)
  refine D.val hf (v := .int .i64 b.At.X) rfl rfl rfl (V.loadBox 0 rfl rfl rfl Try.isAgg3 Try.sizeOf3 rfl rfl) (fun a hf => ?_)
  refine D.val hf (v := .int .i64 (w64 (a_.At.X - b.At.X))) rfl rfl rfl (V.pure rfl) (fun a hf => ?_)
  refine D.call hf (v := .int .i64 (rabs (w64 (a_.At.X - b.At.X)))) rfl rfl rfl (call_fn (vs := [.int .i64 (w64 (a_.At.X - b.At.X))]) rfl rfl rfl Try.call84) (fun w hs => Ret.quiet hs (C_ref8_abs (w64 (a_.At.X - b.At.X)) w )) (fun a hf => ?_)
  refine D.val hf (v := .int .i64 (w64 ((w64 (a_.Size + b.Size)).tdiv 2))) rfl rfl rfl (V.pure rfl) (fun a hf => ?_)
  refine D.val hf (v := .int .i64 (w64 ((rabs (w64 (a_.At.X - b.At.X))) - (w64 ((w64 (a_.Size + b.Size)).tdiv 2))))) rfl rfl rfl (V.pure rfl) (fun a hf => ?_)
  refine D.val hf (v := .pointer (some ⟨g1, 0, none⟩)) rfl rfl rfl (V.fieldBox rfl rfl Try.runUnderlying76 rfl Try.sizeOf24 rfl rfl) (fun a hf => ?_)
  refine D.val hf (v := .pointer (some ⟨g1, 1, none⟩)) rfl rfl rfl (V.fieldBox rfl rfl Try.runUnderlying24 rfl Try.sizeOf3 rfl rfl) (fun a hf => ?_)
  refine D.val hf (v := .int .i64 a_.At.Y) rfl rfl rfl (V.loadBox 1 rfl rfl rfl Try.isAgg3 Try.sizeOf3 rfl rfl) (fun a hf => ?_)
  refine D.val hf (v := .pointer (some ⟨g2, 0, none⟩)) rfl rfl rfl (V.fieldBox rfl rfl Try.runUnderlying76 rfl Try.sizeOf24 rfl rfl) (fun a hf => ?_)
  refine D.val hf (v := .pointer (some ⟨g2, 1, none⟩)) rfl rfl rfl (V.fieldBox rfl rfl Try.runUnderlying24 rfl Try.sizeOf3 rfl rfl) (fun a hf => ?_)
  refine D.val hf (v := .int .i64 b.At.Y) rfl rfl rfl (V.loadBox 0 rfl rfl rfl Try.isAgg3 Try.sizeOf3 rfl rfl) (fun a hf => ?_)
  refine D.val hf (v := .int .i64 (w64 (a_.At.Y - b.At.Y))) rfl rfl rfl (V.pure rfl) (fun a hf => ?_)
  refine D.call hf (v := .int .i64 (rabs (w64 (a_.At.Y - b.At.Y)))) rfl rfl rfl (call_fn (vs := [.int .i64 (w64 (a_.At.Y - b.At.Y))]) rfl rfl rfl Try.call84) (fun w hs => Ret.quiet hs (C_ref8_abs (w64 (a_.At.Y - b.At.Y)) w )) (fun a hf => ?_)
  refine D.val hf (v := .int .i64 (w64 ((w64 (a_.Size + b.Size)).tdiv 2))) rfl rfl rfl (V.pure rfl) (fun a hf => ?_)
  refine D.val hf (v := .int .i64 (w64 ((rabs (w64 (a_.At.Y - b.At.Y))) - (w64 ((w64 (a_.Size + b.Size)).tdiv 2))))) rfl rfl rfl (V.pure rfl) (fun a hf => ?_)
  refine D.val hf (v := .int .i64 (max (max 0 (w64 ((rabs (w64 (a_.At.X - b.At.X))) - (w64 ((w64 (a_.Size + b.Size)).tdiv 2))))) (w64 ((rabs (w64 (a_.At.Y - b.At.Y))) - (w64 ((w64 (a_.Size + b.Size)).tdiv 2)))))) rfl rfl rfl (V.max3 rfl rfl rfl rfl) (fun a hf => ?_)
  refine D.val hf (v := .int .i64 (max (max 0 (w64 ((rabs (w64 (a_.At.X - b.At.X))) - (w64 ((w64 (a_.Size + b.Size)).tdiv 2))))) (w64 ((rabs (w64 (a_.At.Y - b.At.Y))) - (w64 ((w64 (a_.Size + b.Size)).tdiv 2)))))) rfl rfl rfl (V.pure rfl) (fun a hf => ?_)
  refine D.done (fun w hs => ?_)
  refine X.then_ ?_
  refine wp_ret ?_
  exact L.ret hf (run_results1 Try.results60 (ResIs.tmp hf rfl)) ⟨(max (max 0 (w64 ((rabs (w64 (a_.At.X - b.At.X))) - (w64 ((w64 (a_.Size + b.Size)).tdiv 2))))) (w64 ((rabs (w64 (a_.At.Y - b.At.Y))) - (w64 ((w64 (a_.Size + b.Size)).tdiv 2))))), rfl, h, hs.nil⟩

set_option linter.unusedVariables false
def M_ref8_Near_k3 (k1 : Nat) (l4 : List Pair) (n2 : Int) (again2 : List Pair → Int → Prop) (y2 : Int) (c1 : Bool) : Prop :=
  cnd c1 (must (room (l4 ++ [(⟨(k1 : Int), n2, y2⟩ : Pair)]).length 24) (again2 (l4 ++ [(⟨(k1 : Int), n2, y2⟩ : Pair)]) (w64 (n2 + 1)))) (again2 l4 (w64 (n2 + 1)))
def M_ref8_Near_L2 (l : (List Hole)) (below : Int) (k1 : Nat) (xk1 : Hole) (next1 : List Pair → Prop) (again2 : List Pair → Int → Prop) (l4 : List Pair) (n2 : Int) : Prop :=
  cnd (decide (n2 < (l.length : Int))) (idx l n2 fun x1 => M_ref8_between xk1 x1 fun y2 => cnd (!(decide (xk1.At = x1.At))) (M_ref8_Near_k3 k1 l4 n2 again2 y2 (decide (y2 < below))) (M_ref8_Near_k3 k1 l4 n2 again2 y2 false)) (next1 l4)
def M_ref8_Near_L1 (l : (List Hole)) (below : Int) (k1 : Nat) (xk1 : Hole) (l2 : List Pair) (next1 : List Pair → Prop) : Prop :=
  lp (fun again (s : List Pair × Int) => M_ref8_Near_L2 l below k1 xk1 next1 (fun l4 n2 => again (l4, n2)) s.1 s.2) (l2, ((k1 + 1 : Nat) : Int))
def M_ref8_Near (l : (List Hole)) (below : Int) (Q : (List Pair) → Int → Prop) : Prop :=
  M_ref8_CheckHoles l fun y1 => cnd (y1 != 0) (Q ([] : List Pair) y1) (cnd (!(within below 0 10000)) (Q ([] : List Pair) 1) (forIn' (fun k x (s : List Pair) next => M_ref8_Near_L1 l below k x s (fun l2 => next l2)) (fun (s : List Pair) => (fun (l2 : List Pair) => Q l2 0) s) l 0 ([] : List Pair)))
set_option maxHeartbeats 1000000 in
theorem R_ref8_Near (l : (List Hole)) (below : Int) (w0 : World) (lA : Option Addr) (lC : Nat) (hv_l : View w0 (old w0 none_) lA lC l) (Q : (List Pair) → Int → Prop) (h : M_ref8_Near l below Q) :
    Ret Try.prog 25 #[.slice lA l.length lC, .int .i64 below] w0 fun v w' => ∃ (r0 : (List Pair)) (r0A : Option Addr) (r0C : Nat) (r1 : Int), v = .tuple #[.slice r0A r0.length r0C, .int .i64 r1] ∧ Q r0 r1 ∧ Sat w0 none_ [hown 39 r0A r0C r0] w' := by
  refine fn_enter Try.func25 rfl Try.ntmps25 rfl (fs := [(0, .slice lA l.length lC), (1, .int .i64 below)]) rfl (fun a hf => ?_)
  have hs := Sat.start w0 none_
  unfold M_ref8_Near at h
  refine wp_seq ?_
  refine R.list ?_
  refine S.val hf hs (v := .slice none 0 0) rfl rfl rfl (V.pure rfl) (fun a hf => ?_)
  refine S.val hf hs (v := .int .i64 0) rfl rfl rfl (V.pure rfl) (fun a hf => ?_)
  refine R.nil ?_
  refine X.then_ ?_
  refine wp_seq ?_
  refine wp_seq ?_
  refine R.list ?_
  refine S.val hf hs (v := .slice lA l.length lC) rfl rfl rfl (V.pure rfl) (fun a hf => ?_)
  refine S.call hf rfl rfl rfl (call_fn (vs := [.slice lA l.length lC]) rfl rfl rfl Try.call58) (R_ref8_CheckHoles l _ lA lC ((Ag.args _ _ _).view hv_l hs) _ h) (fun v a w' hf hr => ?_)
  obtain ⟨y1, rfl, h2, hs2⟩ := hr
  replace h := h2; replace hs := hs.call hs2; clear h2 hs2
  refine S.val hf hs (v := .int .i64 y1) rfl rfl rfl (V.pure rfl) (fun a hf => ?_)
  refine R.nil ?_
  refine X.then_ ?_
  refine wp_seq ?_
  refine R.list ?_
  refine S.val hf hs (v := .int .i64 y1) rfl rfl rfl (V.pure rfl) (fun a hf => ?_)
  refine S.val hf hs (v := .bool (y1 != 0)) rfl rfl rfl (V.pure rfl) (fun a hf => ?_)
  refine R.nil ?_
  refine X.then_ ?_
  refine C.cond hf (b := y1 != 0) rfl (fun hc => ?_) (fun hc => ?_)
  · replace h := h.1 hc
    refine wp_seq ?_
    refine R.list ?_
    refine S.val hf hs (v := .int .i64 y1) rfl rfl rfl (V.pure rfl) (fun a hf => ?_)
    refine S.val hf hs (v := .slice none 0 0) rfl rfl rfl (V.pure rfl) (fun a hf => ?_)
    refine S.val hf hs (v := .int .i64 y1) rfl rfl rfl (V.pure rfl) (fun a hf => ?_)
    refine R.nil ?_
    refine X.then_ ?_
    refine wp_ret ?_
    refine X.then_ret ?_
    replace hs := hs.nilOwn (α := Pair) 39
    replace hs := hs.take 1
    exact L.ret hf (run_results2 Try.results25 (ResIs.tmp hf rfl) (ResIs.tmp hf rfl)) ⟨([] : List Pair), none, 0, y1, rfl, h, hs⟩
  · replace h := h.2 hc
    refine wp_skip ?_
    refine X.then_ ?_
    refine wp_seq ?_
    refine wp_seq ?_
    refine R.list ?_
    refine S.val hf hs (v := .int .i64 below) rfl rfl rfl (V.pure rfl) (fun a hf => ?_)
    refine S.callv hf rfl rfl rfl (call_fn (vs := [.int .i64 below, .int .i64 0, .int .i64 10000]) rfl rfl rfl Try.call59) (C_ref8_within below 0 10000 _ ) (fun a w hf hs' => ?_)
    replace hs := hs.call hs'; clear hs'
    refine S.val hf hs (v := .bool (!(within below 0 10000))) rfl rfl rfl (V.pure rfl) (fun a hf => ?_)
    refine R.nil ?_
    refine X.then_ ?_
    refine C.cond hf (b := !(within below 0 10000)) rfl (fun hc => ?_) (fun hc => ?_)
    · replace h := h.1 hc
      refine wp_seq ?_
      refine R.list ?_
      refine S.val hf hs (v := .slice none 0 0) rfl rfl rfl (V.pure rfl) (fun a hf => ?_)
      refine S.val hf hs (v := .int .i64 1) rfl rfl rfl (V.pure rfl) (fun a hf => ?_)
      refine R.nil ?_
      refine X.then_ ?_
      refine wp_ret ?_
      refine X.then_ret ?_
      replace hs := hs.nilOwn (α := Pair) 39
      replace hs := hs.take 1
      exact L.ret hf (run_results2 Try.results25 (ResIs.tmp hf rfl) (ResIs.tmp hf rfl)) ⟨([] : List Pair), none, 0, 1, rfl, h, hs⟩
    · replace h := h.2 hc
      refine wp_skip ?_
      refine X.then_ ?_
      refine wp_seq ?_
      refine R.list ?_
      refine S.val hf hs (v := .slice none 0 0) rfl rfl rfl (V.pure rfl) (fun a hf => ?_)
      refine R.nil ?_
      refine X.then_ ?_
      refine wp_seq ?_
      refine wp_seq ?_
      refine R.list ?_
      refine S.val hf hs (v := .slice lA l.length lC) rfl rfl rfl (V.pure rfl) (fun a hf => ?_)
      refine S.val hf hs (v := .int .i64 (l.length : Int)) rfl rfl rfl (V.len rfl rfl Try.runUnderlying34) (fun a hf => ?_)
      refine S.val hf hs (v := .int .i64 0) rfl rfl rfl (V.pure rfl) (fun a hf => ?_)
      refine R.nil ?_
      refine X.then_ ?_
      refine wp_block ?_
      replace hs := hs.nilOwn (α := Pair) 39
      have hlenk1 := hv_l.len64
      refine C.range (fun (ll : List Hole) a w => ∃ (k1 : Nat) (l2 : List Pair) (l2A : Option Addr) (l2C : Nat), l.drop k1 = ll ∧ k1 + ll.length = l.length ∧ forIn' (fun k x (s : List Pair) next => M_ref8_Near_L1 l below k x s (fun l2 => next l2)) (fun (s : List Pair) => (fun (l2 : List Pair) => Q l2 0) s) ll k1 l2 ∧ FrOk 63 [(22, .int .i64 (k1 : Int)), (0, .slice lA l.length lC), (1, .int .i64 below), (7, .slice l2A l2.length l2C), (20, .slice lA l.length lC), (21, .int .i64 (l.length : Int))] a ∧ Sat w0 none_ [hown 39 l2A l2C l2] w) l ⟨0, ([] : List Pair), none, 0, rfl, Nat.zero_add _, h, ((((((hf.nil.cons (hf.get 21 _ rfl)).cons (hf.get 20 _ rfl)).cons (hf.get 7 _ rfl)).cons (hf.get 1 _ rfl)).cons (hf.get 0 _ rfl)).cons (hf.get 22 _ rfl)), hs⟩ ?_
      clear h hf hs
      rintro llk1 a w ⟨k1, l2, l2A, l2C, hlk1, hkk1, h, hf, hs⟩
      cases llk1 with
      | nil =>
        have hc := range_done hkk1
        replace h : (fun (l2 : List Pair) => Q l2 0) l2 := h
        refine wp_seq ?_
        refine R.list ?_
        refine S.val hf hs (v := .bool false) rfl rfl rfl (V.cmp false rfl rfl rfl rfl hc) (fun a hf => ?_)
        refine R.nil ?_
        refine X.then_ ?_
        refine wp_seq ?_
        refine C.no hf rfl ?_
        refine wp_exit ?_
        refine X.then_exit ?_
        refine X.then_exit ?_
        refine X.blk_exit ?_
        refine X.then_ ?_
        refine wp_seq ?_
        refine R.list ?_
        refine S.val hf hs (v := .slice l2A l2.length l2C) rfl rfl rfl (V.pure rfl) (fun a hf => ?_)
        refine S.val hf hs (v := .slice l2A l2.length l2C) rfl rfl rfl (V.pure rfl) (fun a hf => ?_)
        refine S.val hf hs (v := .int .i64 0) rfl rfl rfl (V.pure rfl) (fun a hf => ?_)
        refine R.nil ?_
        refine X.then_ ?_
        refine wp_ret ?_
        replace hs := hs.take 1
        exact L.ret hf (run_results2 Try.results25 (ResIs.tmp hf rfl) (ResIs.tmp hf rfl)) ⟨l2, l2A, l2C, 0, rfl, h, hs⟩
      | cons xk1 llk1 =>
        have hltk1 := range_lt hkk1; have hc := range_go hkk1; have hxk1 := range_get hlk1
        obtain ⟨next1, hnext1⟩ : ∃ X : List Pair → Prop, X = (fun l2 => forIn' (fun k x (s : List Pair) next => M_ref8_Near_L1 l below k x s (fun l2 => next l2)) (fun (s : List Pair) => (fun (l2 : List Pair) => Q l2 0) s) llk1 (k1 + 1) l2) := ⟨_, rfl⟩
        replace h : M_ref8_Near_L1 l below k1 xk1 l2 next1 := by rw [hnext1]; exact h
        unfold M_ref8_Near_L1 at h
        refine wp_seq ?_
        refine R.list ?_
        refine S.val hf hs (v := .bool true) rfl rfl rfl (V.cmp true rfl rfl rfl rfl hc) (fun a hf => ?_)
        refine R.nil ?_
        refine X.then_ ?_
        refine wp_seq ?_
        refine C.yes hf rfl ?_
        refine wp_skip ?_
        refine X.then_ ?_
        refine wp_seq ?_
        refine wp_block ?_
        refine wp_seq ?_
        refine R.list ?_
        refine S.val hf hs (v := .int .i64 (k1 : Int)) rfl rfl rfl (V.pure rfl) (fun a hf => ?_)
        refine S.val hf hs (v := elemPtr lA (k1 * 5)) rfl rfl rfl (V.index rfl rfl rfl Try.runUnderlying34 Try.sizeOf76 (hv_l.some_ (lt_of_get hxk1)) (Int.natCast_nonneg _) (lt_of_get hxk1) rfl) (fun a hf => ?_)
        refine S.val hf hs (v := .agg #[.int .i64 xk1.At.X, .int .i64 xk1.At.Y, .int .i64 xk1.Size, .int .i64 xk1.Depth, .bool xk1.Plated]) rfl rfl rfl (V.loadEl (off := 0) (Ag.args _ _ _) (hv_l.flat hxk1) rfl rfl rfl Try.isAgg76 Try.sizeOf76 rfl rfl) (fun a hf => ?_)
        refine S.alloc hf hs rfl rfl rfl [.int .i64 0, .int .i64 0, .int .i64 0, .int .i64 0, .bool false] rfl Try.zeroValue76 rfl (fun g1 a w hf hs => ?_)
        refine S.val hf hs (v := .int .i64 (k1 : Int)) rfl rfl rfl (V.pure rfl) (fun a hf => ?_)
        refine S.storeBox 0 hf hs rfl rfl [.int .i64 xk1.At.X, .int .i64 xk1.At.Y, .int .i64 xk1.Size, .int .i64 xk1.Depth, .bool xk1.Plated] [.int .i64 xk1.At.X, .int .i64 xk1.At.Y, .int .i64 xk1.Size, .int .i64 xk1.Depth, .bool xk1.Plated] rfl rfl rfl rfl rfl Try.sizeOf76 rfl rfl rfl rfl (fun a w hf hs => ?_)
        refine R.nil ?_
        refine X.then_ ?_
        refine wp_seq ?_
        refine R.list ?_
        refine S.val hf hs (v := .int .i64 (k1 : Int)) rfl rfl rfl (V.pure rfl) (fun a hf => ?_)
        refine S.val hf hs (v := .int .i64 ((k1 + 1 : Nat) : Int)) rfl rfl rfl (V.incr rfl rfl rfl hltk1 hlenk1) (fun a hf => ?_)
        refine S.val hf hs (v := .int .i64 ((k1 + 1 : Nat) : Int)) rfl rfl rfl (V.pure rfl) (fun a hf => ?_)
        refine R.nil ?_
        refine X.then_ ?_
        refine wp_block ?_
        obtain ⟨kk, h⟩ := h
        refine C.loop (fun kk a w => ∃ (l4 : List Pair) (l4A : Option Addr) (l4C : Nat) (n2 : Int), iterF (fun again (s : List Pair × Int) => M_ref8_Near_L2 l below k1 xk1 next1 (fun l4 n2 => again (l4, n2)) s.1 s.2) kk (l4, n2) ∧ FrOk 63 [(0, .slice lA l.length lC), (1, .int .i64 below), (7, .slice l4A l4.length l4C), (8, .int .i64 (k1 : Int)), (9, .pointer (some ⟨g1, 0, none⟩)), (10, .int .i64 n2), (20, .slice lA l.length lC), (21, .int .i64 (l.length : Int)), (22, .int .i64 (k1 : Int))] a ∧ Sat w0 none_ [hbox g1 76 [.int .i64 xk1.At.X, .int .i64 xk1.At.Y, .int .i64 xk1.Size, .int .i64 xk1.Depth, .bool xk1.Plated], hown 39 l4A l4C l4] w) kk ⟨l2, l2A, l2C, ((k1 + 1 : Nat) : Int), h, (((((((((hf.nil.cons (hf.get 22 _ rfl)).cons (hf.get 21 _ rfl)).cons (hf.get 20 _ rfl)).cons (hf.get 10 _ rfl)).cons (hf.get 9 _ rfl)).cons (hf.get 8 _ rfl)).cons (hf.get 7 _ rfl)).cons (hf.get 1 _ rfl)).cons (hf.get 0 _ rfl)), hs⟩ (fun a w ⟨_, _, _, _, h, _, _⟩ => h) ?_
        clear h hf hs
        rintro kk a w ⟨l4, l4A, l4C, n2, h, hf, hs⟩
        obtain ⟨again2, hagain2⟩ : ∃ X : List Pair → Int → Prop, X = (fun l4 n2 => iterF (fun again (s : List Pair × Int) => M_ref8_Near_L2 l below k1 xk1 next1 (fun l4 n2 => again (l4, n2)) s.1 s.2) kk (l4, n2)) := ⟨_, rfl⟩
        replace h : M_ref8_Near_L2 l below k1 xk1 next1 again2 l4 n2 := by rw [hagain2]; exact h
        unfold M_ref8_Near_L2 at h
        refine wp_seq ?_
        refine wp_seq ?_
        refine R.list ?_
        refine S.val hf hs (v := .int .i64 n2) rfl rfl rfl (V.pure rfl) (fun a hf => ?_)
        refine S.val hf hs (v := .slice lA l.length lC) rfl rfl rfl (V.pure rfl) (fun a hf => ?_)
        refine S.val hf hs (v := .int .i64 (l.length : Int)) rfl rfl rfl (V.len rfl rfl Try.runUnderlying34) (fun a hf => ?_)
        refine S.val hf hs (v := .bool (decide (n2 < (l.length : Int)))) rfl rfl rfl (V.pure rfl) (fun a hf => ?_)
        refine R.nil ?_
        refine X.then_ ?_
        refine C.cond hf (b := decide (n2 < (l.length : Int))) rfl (fun hc => ?_) (fun hc => ?_)
        · replace h := h.1 hc
          refine wp_skip ?_
          refine X.then_ ?_
          refine wp_seq ?_
          refine wp_block ?_
          refine wp_seq ?_
          refine H.start (S := Sat w0 none_ [hbox g1 76 [.int .i64 xk1.At.X, .int .i64 xk1.At.Y, .int .i64 xk1.Size, .int .i64 xk1.Depth, .bool xk1.Plated], hown 39 l4A l4C l4]) mo ?_
          replace hs := hs.drew
          refine H.val hf hs (v := .agg #[.int .i64 xk1.At.X, .int .i64 xk1.At.Y, .int .i64 xk1.Size, .int .i64 xk1.Depth, .bool xk1.Plated]) (i := 0) rfl rfl rfl rfl (by kernel_rfl) (by kernel_rfl) (by kernel_rfl) (V.loadBox 0 rfl rfl rfl Try.isAgg76 Try.sizeOf76 rfl rfl) (fun a hf => ?_)
          refine H.val hf hs (v := .slice lA l.length lC) (i := 1) rfl rfl rfl rfl (by kernel_rfl) (by kernel_rfl) (by kernel_rfl) (V.pure rfl) (fun a hf => ?_)
          refine H.val hf hs (v := .int .i64 n2) (i := 2) rfl rfl rfl rfl (by kernel_rfl) (by kernel_rfl) (by kernel_rfl) (V.pure rfl) (fun a hf => ?_)
          obtain ⟨h0x1, x1, hx1, h⟩ := h
          refine H.val hf hs (v := elemPtr lA (n2.toNat * 5)) (i := 3) rfl rfl rfl rfl (by kernel_rfl) (by kernel_rfl) (by kernel_rfl) (V.index rfl rfl rfl Try.runUnderlying34 Try.sizeOf76 (hv_l.some_ (lt_of_get hx1)) h0x1 (lt_of_get hx1) rfl) (fun a hf => ?_)
          refine H.val hf hs (v := .agg #[.int .i64 x1.At.X, .int .i64 x1.At.Y, .int .i64 x1.Size, .int .i64 x1.Depth, .bool x1.Plated]) (i := 4) rfl rfl rfl rfl (by kernel_rfl) (by kernel_rfl) (by kernel_rfl) (V.loadEl (off := 0) (Ag.args _ _ _) (hv_l.flat hx1) rfl rfl rfl Try.isAgg76 Try.sizeOf76 rfl rfl) (fun a hf => ?_)
          refine H.one (i := 5) rfl (by kernel_rfl) ?_
          refine S.call hf rfl rfl rfl (call_fn (vs := [.agg #[.int .i64 xk1.At.X, .int .i64 xk1.At.Y, .int .i64 xk1.Size, .int .i64 xk1.Depth, .bool xk1.Plated], .agg #[.int .i64 x1.At.X, .int .i64 x1.At.Y, .int .i64 x1.Size, .int .i64 x1.Depth, .bool x1.Plated]]) rfl rfl rfl Try.call60) (R_ref8_between xk1 x1 _  _ h) (fun v a w' hf hr => ?_)
          obtain ⟨y2, rfl, h2, hs2⟩ := hr
          replace h := h2; replace hs := hs.call hs2; clear h2 hs2
          refine R.nil ?_
          refine X.then_ ?_
          refine ⟨hs, ?_⟩
          refine H.val hf hs (v := .int .i64 y2) (i := 6) rfl rfl rfl rfl (by kernel_rfl) (by kernel_rfl) (by kernel_rfl) (V.pure rfl) (fun a hf => ?_)
          refine H.done (by kernel_rfl) ?_
          refine X.then_ ?_
          refine wp_seq ?_
          refine C.cut (J := fun a w => ∃ (c1 : Bool), M_ref8_Near_k3 k1 l4 n2 again2 y2 c1 ∧ FrOk 63 [(0, .slice lA l.length lC), (1, .int .i64 below), (7, .slice l4A l4.length l4C), (8, .int .i64 (k1 : Int)), (9, .pointer (some ⟨g1, 0, none⟩)), (10, .int .i64 n2), (11, .int .i64 y2), (20, .slice lA l.length lC), (21, .int .i64 (l.length : Int)), (22, .int .i64 (k1 : Int)), (53, .bool c1)] a ∧ Sat w0 none_ [hbox g1 76 [.int .i64 xk1.At.X, .int .i64 xk1.At.Y, .int .i64 xk1.Size, .int .i64 xk1.Depth, .bool xk1.Plated], hown 39 l4A l4C l4] w) ?_ ?_
          · rintro a w ⟨c1, h, hf, hs⟩
            unfold M_ref8_Near_k3 at h
            refine C.cond hf (b := c1) rfl (fun hc => ?_) (fun hc => ?_)
            · replace h := h.1 hc
              refine R.list ?_
              refine S.val hf hs (v := .slice l4A l4.length l4C) rfl rfl rfl (V.pure rfl) (fun a hf => ?_)
              refine S.val hf hs (v := .int .i64 (k1 : Int)) rfl rfl rfl (V.pure rfl) (fun a hf => ?_)
              refine S.val hf hs (v := .int .i64 n2) rfl rfl rfl (V.pure rfl) (fun a hf => ?_)
              refine S.val hf hs (v := .int .i64 y2) rfl rfl rfl (V.pure rfl) (fun a hf => ?_)
              refine S.val hf hs (v := .agg #[.int .i64 (k1 : Int), .int .i64 n2, .int .i64 y2]) rfl rfl rfl (V.build (places := #[(0, 1), (1, 1), (2, 1)]) rfl Try.zeroValue39 Try.runUnderlying39 (by intro w; simp [Try.sizeOf3]) rfl rfl) (fun a hf => ?_)
              refine S.build1 hf hs rfl rfl rfl (α := Pair) (⟨(k1 : Int), n2, y2⟩ : Pair) rfl rfl rfl Try.runUnderlying35 Try.sizeOf39 Try.zeroValue39 rfl (by decide) (fun A1 a w hf hs => ?_)
              obtain ⟨hroom, h⟩ := h
              refine S.appendCells 2 hf hs rfl rfl rfl rfl rfl rfl rfl Try.underlying35 info39 rfl hroom ((hs.ownView 0 rfl).some_ (i := 0) (by simp)) (hs.ownView 0 rfl) (fun A2 C1 a w hf hs => ?_)
              replace hs := hs.drop
              refine S.val hf hs (v := .slice A2 (l4 ++ [(⟨(k1 : Int), n2, y2⟩ : Pair)]).length C1) rfl rfl rfl (V.pure rfl) (fun a hf => ?_)
              refine R.nil ?_
              refine X.blk ?_
              refine X.then_ ?_
              refine R.list ?_
              refine S.val hf hs (v := .int .i64 n2) rfl rfl rfl (V.pure rfl) (fun a hf => ?_)
              refine S.val hf hs (v := .int .i64 (w64 (n2 + 1))) rfl rfl rfl (V.pure rfl) (fun a hf => ?_)
              refine S.val hf hs (v := .int .i64 (w64 (n2 + 1))) rfl rfl rfl (V.pure rfl) (fun a hf => ?_)
              refine R.nil ?_
              refine X.then_ ?_
              exact ⟨(l4 ++ [(⟨(k1 : Int), n2, y2⟩ : Pair)]), A2, C1, (w64 (n2 + 1)), (by rw [hagain2] at h; exact h), (((((((((hf.nil.cons (hf.get 22 _ rfl)).cons (hf.get 21 _ rfl)).cons (hf.get 20 _ rfl)).cons (hf.get 10 _ rfl)).cons (hf.get 9 _ rfl)).cons (hf.get 8 _ rfl)).cons (hf.get 7 _ rfl)).cons (hf.get 1 _ rfl)).cons (hf.get 0 _ rfl)), hs⟩
            · replace h := h.2 hc
              refine wp_skip ?_
              refine X.blk ?_
              refine X.then_ ?_
              refine R.list ?_
              refine S.val hf hs (v := .int .i64 n2) rfl rfl rfl (V.pure rfl) (fun a hf => ?_)
              refine S.val hf hs (v := .int .i64 (w64 (n2 + 1))) rfl rfl rfl (V.pure rfl) (fun a hf => ?_)
              refine S.val hf hs (v := .int .i64 (w64 (n2 + 1))) rfl rfl rfl (V.pure rfl) (fun a hf => ?_)
              refine R.nil ?_
              refine X.then_ ?_
              exact ⟨l4, l4A, l4C, (w64 (n2 + 1)), (by rw [hagain2] at h; exact h), (((((((((hf.nil.cons (hf.get 22 _ rfl)).cons (hf.get 21 _ rfl)).cons (hf.get 20 _ rfl)).cons (hf.get 10 _ rfl)).cons (hf.get 9 _ rfl)).cons (hf.get 8 _ rfl)).cons (hf.get 7 _ rfl)).cons (hf.get 1 _ rfl)).cons (hf.get 0 _ rfl)), hs⟩
          · skip
            refine R.draw mo (by kernel_rfl) hs ?_
            refine D.val hf (v := .pointer (some ⟨g1, 0, none⟩)) rfl rfl rfl (V.fieldBox rfl rfl Try.runUnderlying76 rfl Try.sizeOf24 rfl rfl) (fun a hf => ?_)
            refine D.val hf (v := .agg #[.int .i64 xk1.At.X, .int .i64 xk1.At.Y]) rfl rfl rfl (V.loadBox 0 rfl rfl rfl Try.isAgg24 Try.sizeOf24 rfl rfl) (fun a hf => ?_)
            refine D.val hf (v := .slice lA l.length lC) rfl rfl rfl (V.pure rfl) (fun a hf => ?_)
            refine D.val hf (v := .int .i64 n2) rfl rfl rfl (V.pure rfl) (fun a hf => ?_)
            refine D.val hf (v := elemPtr lA (n2.toNat * 5)) rfl rfl rfl (V.index rfl rfl rfl Try.runUnderlying34 Try.sizeOf76 (hv_l.some_ (lt_of_get hx1)) h0x1 (lt_of_get hx1) rfl) (fun a hf => ?_)
            refine D.val hf (v := elemPtr lA (n2.toNat * 5)) rfl rfl rfl (V.fieldEl rfl rfl (hv_l.some_ (lt_of_get hx1)) Try.runUnderlying76 rfl Try.sizeOf24 rfl rfl) (fun a hf => ?_)
            refine D.val hf (v := .agg #[.int .i64 x1.At.X, .int .i64 x1.At.Y]) rfl rfl rfl (V.loadEl (off := 0) (Ag.args _ _ _) (hv_l.flat hx1) rfl rfl rfl Try.isAgg24 Try.sizeOf24 rfl rfl) (fun a hf => ?_)
            refine D.val hf (v := .bool (!(decide (xk1.At = x1.At)))) rfl rfl rfl (V.aggneq rfl rfl rfl (by kernel_rfl) (fun w => eqS24 xk1.At x1.At w)) (fun a hf => ?_)
            refine D.split hf (b := !(decide (xk1.At = x1.At))) rfl rfl rfl (V.pure rfl) (fun hc a hf => ?_) (fun hc a hf => ?_)
            · replace h := h.1 hc
              refine D.val hf (v := .int .i64 y2) rfl rfl rfl (V.pure rfl) (fun a hf => ?_)
              refine D.val hf (v := .int .i64 below) rfl rfl rfl (V.pure rfl) (fun a hf => ?_)
              refine D.val hf (v := .bool (decide (y2 < below))) rfl rfl rfl (V.pure rfl) (fun a hf => ?_)
              refine D.val hf (v := .bool (decide (y2 < below))) rfl rfl rfl (V.pure rfl) (fun a hf => ?_)
              refine D.done (fun w hs => ?_)
              refine X.then_ ?_
              exact ⟨(decide (y2 < below)), h, (((((((((((hf.nil.cons (hf.get 53 _ rfl)).cons (hf.get 22 _ rfl)).cons (hf.get 21 _ rfl)).cons (hf.get 20 _ rfl)).cons (hf.get 11 _ rfl)).cons (hf.get 10 _ rfl)).cons (hf.get 9 _ rfl)).cons (hf.get 8 _ rfl)).cons (hf.get 7 _ rfl)).cons (hf.get 1 _ rfl)).cons (hf.get 0 _ rfl)), hs⟩
            · replace h := h.2 hc
              refine D.skip hf rfl rfl rfl (fun a hf => ?_)
              refine D.skip hf rfl rfl rfl (fun a hf => ?_)
              refine D.skip hf rfl rfl rfl (fun a hf => ?_)
              refine D.val hf (v := .bool false) rfl rfl rfl (V.pure rfl) (fun a hf => ?_)
              refine D.done (fun w hs => ?_)
              refine X.then_ ?_
              exact ⟨false, h, (((((((((((hf.nil.cons (hf.get 53 _ rfl)).cons (hf.get 22 _ rfl)).cons (hf.get 21 _ rfl)).cons (hf.get 20 _ rfl)).cons (hf.get 11 _ rfl)).cons (hf.get 10 _ rfl)).cons (hf.get 9 _ rfl)).cons (hf.get 8 _ rfl)).cons (hf.get 7 _ rfl)).cons (hf.get 1 _ rfl)).cons (hf.get 0 _ rfl)), hs⟩
        · replace h := h.2 hc
          refine wp_exit ?_
          refine X.then_exit ?_
          refine X.then_exit ?_
          refine X.blk_exit ?_
          refine X.blk ?_
          refine X.then_ ?_
          refine R.list ?_
          refine S.val hf hs (v := .int .i64 ((k1 + 1 : Nat) : Int)) rfl rfl rfl (V.incr rfl rfl rfl hltk1 hlenk1) (fun a hf => ?_)
          refine S.val hf hs (v := .int .i64 ((k1 + 1 : Nat) : Int)) rfl rfl rfl (V.pure rfl) (fun a hf => ?_)
          refine R.nil ?_
          refine X.then_ ?_
          exact ⟨xk1, llk1, rfl, k1 + 1, l4, l4A, l4C, range_drop hlk1, range_len hkk1, (by rw [hnext1] at h; exact h), ((((((hf.nil.cons (hf.get 21 _ rfl)).cons (hf.get 20 _ rfl)).cons (hf.get 7 _ rfl)).cons (hf.get 1 _ rfl)).cons (hf.get 0 _ rfl)).cons (hf.get 22 _ rfl)), hs.drop⟩

set_option linter.unusedVariables false
def M_index_pair_L1 (v_ : Pair) (Q : Int → Prop) (k1 : Nat) (xk1 : Pair)  (next1 : Prop) : Prop :=
  cnd (decide (v_ = xk1)) (Q (k1 : Int)) (next1)
def M_index_pair (l : (List Pair)) (v_ : Pair) (Q : Int → Prop) : Prop :=
  forIn' (fun k x (s : Unit) next => M_index_pair_L1 v_ Q k x (next ())) (fun (s : Unit) => Q (-1)) l 0 ()
set_option maxHeartbeats 1000000 in
theorem R_index_pair (l : (List Pair)) (v_ : Pair) (w0 : World) (lA : Option Addr) (lC : Nat) (hv_l : View w0 (old w0 none_) lA lC l) (Q : Int → Prop) (h : M_index_pair l v_ Q) :
    Ret Try.prog 57 #[.slice lA l.length lC, .agg #[.int .i64 v_.A, .int .i64 v_.B, .int .i64 v_.Distance]] w0 fun v w' => ∃ (r0 : Int), v = .int .i64 r0 ∧ Q r0 ∧ Sat w0 none_ [] w' := by
  refine fn_enter Try.func57 rfl Try.ntmps57 rfl (fs := [(0, .slice lA l.length lC), (1, .agg #[.int .i64 v_.A, .int .i64 v_.B, .int .i64 v_.Distance])]) rfl (fun a hf => ?_)
  have hs := Sat.start w0 none_
  unfold M_index_pair at h
  refine wp_seq ?_
  refine R.list ?_
  refine S.box hf hs rfl rfl rfl [.int .i64 v_.A, .int .i64 v_.B, .int .i64 v_.Distance] rfl rfl rfl (fun g1 a w hf hs => ?_)
  refine S.val hf hs (v := .int .i64 0) rfl rfl rfl (V.pure rfl) (fun a hf => ?_)
  refine R.nil ?_
  refine X.then_ ?_
  refine wp_seq ?_
  refine wp_seq ?_
  refine R.list ?_
  refine S.val hf hs (v := .slice lA l.length lC) rfl rfl rfl (V.pure rfl) (fun a hf => ?_)
  refine S.val hf hs (v := .int .i64 (l.length : Int)) rfl rfl rfl (V.len rfl rfl Try.runUnderlying35) (fun a hf => ?_)
  refine S.val hf hs (v := .int .i64 0) rfl rfl rfl (V.pure rfl) (fun a hf => ?_)
  refine R.nil ?_
  refine X.then_ ?_
  refine wp_block ?_
  have hlenk1 := hv_l.len64
  refine C.range (fun (ll : List Pair) a w => ∃ (k1 : Nat) , l.drop k1 = ll ∧ k1 + ll.length = l.length ∧ forIn' (fun k x (s : Unit) next => M_index_pair_L1 v_ Q k x (next ())) (fun (s : Unit) => Q (-1)) ll k1 () ∧ FrOk 19 [(8, .int .i64 (k1 : Int)), (0, .slice lA l.length lC), (3, .pointer (some ⟨g1, 0, none⟩)), (7, .int .i64 (l.length : Int))] a ∧ Sat w0 none_ [hbox g1 39 [.int .i64 v_.A, .int .i64 v_.B, .int .i64 v_.Distance]] w) l ⟨0, rfl, Nat.zero_add _, h, ((((hf.nil.cons (hf.get 7 _ rfl)).cons (hf.get 3 _ rfl)).cons (hf.get 0 _ rfl)).cons (hf.get 8 _ rfl)), hs⟩ ?_
  clear h hf hs
  rintro llk1 a w ⟨k1, hlk1, hkk1, h, hf, hs⟩
  cases llk1 with
  | nil =>
    have hc := range_done hkk1
    replace h : Q (-1) := h
    refine wp_seq ?_
    refine R.list ?_
    refine S.val hf hs (v := .bool false) rfl rfl rfl (V.cmp false rfl rfl rfl rfl hc) (fun a hf => ?_)
    refine R.nil ?_
    refine X.then_ ?_
    refine wp_seq ?_
    refine C.no hf rfl ?_
    refine wp_exit ?_
    refine X.then_exit ?_
    refine X.then_exit ?_
    refine X.blk_exit ?_
    refine X.then_ ?_
    refine wp_seq ?_
    refine R.list ?_
    refine S.val hf hs (v := .int .i64 (-1)) rfl rfl rfl (V.pure rfl) (fun a hf => ?_)
    refine R.nil ?_
    refine X.then_ ?_
    refine wp_ret ?_
    exact L.ret hf (run_results1 Try.results57 (ResIs.tmp hf rfl)) ⟨(-1), rfl, h, hs.nil⟩
  | cons xk1 llk1 =>
    have hltk1 := range_lt hkk1; have hc := range_go hkk1; have hxk1 := range_get hlk1
    obtain ⟨next1, hnext1⟩ : ∃ X : Prop, X = (forIn' (fun k x (s : Unit) next => M_index_pair_L1 v_ Q k x (next ())) (fun (s : Unit) => Q (-1)) llk1 (k1 + 1) ()) := ⟨_, rfl⟩
    replace h : M_index_pair_L1 v_ Q k1 xk1  next1 := by rw [hnext1]; exact h
    unfold M_index_pair_L1 at h
    refine wp_seq ?_
    refine R.list ?_
    refine S.val hf hs (v := .bool true) rfl rfl rfl (V.cmp true rfl rfl rfl rfl hc) (fun a hf => ?_)
    refine R.nil ?_
    refine X.then_ ?_
    refine wp_seq ?_
    refine C.yes hf rfl ?_
    refine wp_skip ?_
    refine X.then_ ?_
    refine wp_seq ?_
    refine wp_block ?_
    refine wp_seq ?_
    refine R.list ?_
    refine S.val hf hs (v := .int .i64 (k1 : Int)) rfl rfl rfl (V.pure rfl) (fun a hf => ?_)
    refine S.val hf hs (v := .int .i64 (k1 : Int)) rfl rfl rfl (V.pure rfl) (fun a hf => ?_)
    refine R.nil ?_
    refine X.then_ ?_
    refine wp_seq ?_
    refine R.draw mo (by kernel_rfl) hs ?_
    refine D.val hf (v := .agg #[.int .i64 v_.A, .int .i64 v_.B, .int .i64 v_.Distance]) rfl rfl rfl (V.loadBox 0 rfl rfl rfl Try.isAgg39 Try.sizeOf39 rfl rfl) (fun a hf => ?_)
    refine D.val hf (v := .slice lA l.length lC) rfl rfl rfl (V.pure rfl) (fun a hf => ?_)
    refine D.val hf (v := .int .i64 (k1 : Int)) rfl rfl rfl (V.pure rfl) (fun a hf => ?_)
    refine D.val hf (v := elemPtr lA (k1 * 3)) rfl rfl rfl (V.index rfl rfl rfl Try.runUnderlying35 Try.sizeOf39 (hv_l.some_ (lt_of_get hxk1)) (Int.natCast_nonneg _) (lt_of_get hxk1) rfl) (fun a hf => ?_)
    refine D.val hf (v := .agg #[.int .i64 xk1.A, .int .i64 xk1.B, .int .i64 xk1.Distance]) rfl rfl rfl (V.loadEl (off := 0) (Ag.args _ _ _) (hv_l.flat hxk1) rfl rfl rfl Try.isAgg39 Try.sizeOf39 rfl rfl) (fun a hf => ?_)
    refine D.val hf (v := .bool (decide (v_ = xk1))) rfl rfl rfl (V.aggeql rfl rfl rfl (by kernel_rfl) (fun w => eqS39 v_ xk1 w)) (fun a hf => ?_)
    refine D.done (fun w hs => ?_)
    refine X.then_ ?_
    refine C.cond hf (b := decide (v_ = xk1)) rfl (fun hc => ?_) (fun hc => ?_)
    · replace h := h.1 hc
      refine wp_seq ?_
      refine R.list ?_
      refine S.val hf hs (v := .int .i64 (k1 : Int)) rfl rfl rfl (V.pure rfl) (fun a hf => ?_)
      refine S.val hf hs (v := .int .i64 (k1 : Int)) rfl rfl rfl (V.pure rfl) (fun a hf => ?_)
      refine R.nil ?_
      refine X.then_ ?_
      refine wp_ret ?_
      refine X.blk_ret ?_
      refine X.then_ret ?_
      refine X.then_ret ?_
      refine X.blk_ret ?_
      refine X.then_ret ?_
      exact L.ret hf (run_results1 Try.results57 (ResIs.tmp hf rfl)) ⟨(k1 : Int), rfl, h, hs.nil⟩
    · replace h := h.2 hc
      refine wp_skip ?_
      refine X.blk ?_
      refine X.then_ ?_
      refine R.list ?_
      refine S.val hf hs (v := .int .i64 ((k1 + 1 : Nat) : Int)) rfl rfl rfl (V.incr rfl rfl rfl hltk1 hlenk1) (fun a hf => ?_)
      refine S.val hf hs (v := .int .i64 ((k1 + 1 : Nat) : Int)) rfl rfl rfl (V.pure rfl) (fun a hf => ?_)
      refine R.nil ?_
      refine X.then_ ?_
      exact ⟨xk1, llk1, rfl, k1 + 1, range_drop hlk1, range_len hkk1, (by rw [hnext1] at h; exact h), ((((hf.nil.cons (hf.get 7 _ rfl)).cons (hf.get 3 _ rfl)).cons (hf.get 0 _ rfl)).cons (hf.get 8 _ rfl)), hs⟩

set_option linter.unusedVariables false
def M_contains_pair (l : (List Pair)) (v_ : Pair) (Q : Bool → Prop) : Prop :=
  M_index_pair l v_ fun y1 => Q (decide (y1 ≥ 0))
set_option maxHeartbeats 1000000 in
theorem R_contains_pair (l : (List Pair)) (v_ : Pair) (w0 : World) (lA : Option Addr) (lC : Nat) (hv_l : View w0 (old w0 none_) lA lC l) (Q : Bool → Prop) (h : M_contains_pair l v_ Q) :
    Ret Try.prog 22 #[.slice lA l.length lC, .agg #[.int .i64 v_.A, .int .i64 v_.B, .int .i64 v_.Distance]] w0 fun v w' => ∃ (r0 : Bool), v = .bool r0 ∧ Q r0 ∧ Sat w0 none_ [] w' := by
  refine fn_enter Try.func22 rfl Try.ntmps22 rfl (fs := [(0, .slice lA l.length lC), (1, .agg #[.int .i64 v_.A, .int .i64 v_.B, .int .i64 v_.Distance])]) rfl (fun a hf => ?_)
  have hs := Sat.start w0 none_
  unfold M_contains_pair at h
  refine wp_seq ?_
  refine R.list ?_
  refine S.box hf hs rfl rfl rfl [.int .i64 v_.A, .int .i64 v_.B, .int .i64 v_.Distance] rfl rfl rfl (fun g1 a w hf hs => ?_)
  refine S.val hf hs (v := .bool false) rfl rfl rfl (V.pure rfl) (fun a hf => ?_)
  refine R.nil ?_
  refine X.then_ ?_
  refine wp_seq ?_
  refine R.list ?_
  refine S.val hf hs (v := .slice lA l.length lC) rfl rfl rfl (V.pure rfl) (fun a hf => ?_)
  refine S.val hf hs (v := .agg #[.int .i64 v_.A, .int .i64 v_.B, .int .i64 v_.Distance]) rfl rfl rfl (V.loadBox 0 rfl rfl rfl Try.isAgg39 Try.sizeOf39 rfl rfl) (fun a hf => ?_)
  refine S.call hf rfl rfl rfl (call_fn (vs := [.slice lA l.length lC, .agg #[.int .i64 v_.A, .int .i64 v_.B, .int .i64 v_.Distance]]) rfl rfl rfl Try.call57) (R_index_pair l v_ _ lA lC ((Ag.args _ _ _).view hv_l hs) _ h) (fun v a w' hf hr => ?_)
  obtain ⟨y1, rfl, h2, hs2⟩ := hr
  replace h := h2; replace hs := hs.call hs2; clear h2 hs2
  refine S.val hf hs (v := .bool (decide (y1 ≥ 0))) rfl rfl rfl (V.pure rfl) (fun a hf => ?_)
  refine S.val hf hs (v := .bool (decide (y1 ≥ 0))) rfl rfl rfl (V.pure rfl) (fun a hf => ?_)
  refine R.nil ?_
  refine X.then_ ?_
  refine wp_ret ?_
  exact L.ret hf (run_results1 Try.results22 (ResIs.tmp hf rfl)) ⟨(decide (y1 ≥ 0)), rfl, h, hs.nil⟩

set_option linter.unusedVariables false
def M_law_NearGrows_k4 (Q : Bool → Prop) (next2 : Prop) (c2 : Bool) : Prop :=
  cnd c2 (Q false) (next2)
def M_law_NearGrows_L2 (below : Int) (Q : Bool → Prop) (y1 : (List Pair)) (k3 : Nat) (xk3 : Pair)  (next2 : Prop) : Prop :=
  cnd (decide (xk3.Distance < below)) (M_contains_pair y1 xk3 fun y8 => M_law_NearGrows_k4 Q next2 (!y8)) (M_law_NearGrows_k4 Q next2 false)
def M_law_NearGrows_k5 (Q : Bool → Prop) (next1 : Prop) (c3 : Bool) : Prop :=
  cnd c3 (Q false) (next1)
def M_law_NearGrows_L1 (below : Int) (Q : Bool → Prop) (y3 : (List Pair)) (k2 : Nat) (xk2 : Pair)  (next1 : Prop) : Prop :=
  M_contains_pair y3 xk2 fun y9 => cnd (!y9) (M_law_NearGrows_k5 Q next1 true) (cnd (decide (xk2.Distance ≥ below)) (M_law_NearGrows_k5 Q next1 true) (M_law_NearGrows_k5 Q next1 (decide (xk2.A ≥ xk2.B))))
def M_law_NearGrows_k1 (below : Int) (Q : Bool → Prop) (y1 : (List Pair)) (y2 : Int) (y3 : (List Pair)) (c1 : Bool) : Prop :=
  cnd c1 (cnd (y2 == 0) (M_awake  fun y5 => Q y5) (cnd ((y1.length : Int) == 0) (M_awake  fun y6 => Q y6) (Q false))) (forIn' (fun k x (s : Unit) next => M_law_NearGrows_L1 below Q y3 k x (next ())) (fun (s : Unit) => forIn' (fun k x (s : Unit) next => M_law_NearGrows_L2 below Q y1 k x (next ())) (fun (s : Unit) => M_awake  fun y7 => Q y7) y3 0 ()) y1 0 ())
def M_law_NearGrows (l : (List Hole)) (below : Int) (more : Int) (Q : Bool → Prop) : Prop :=
  M_drill_Near l below fun y1 y2 => M_drill_Near l more fun y3 y4 => cnd (y2 != 0) (M_law_NearGrows_k1 below Q y1 y2 y3 true) (cnd (y4 != 0) (M_law_NearGrows_k1 below Q y1 y2 y3 true) (M_law_NearGrows_k1 below Q y1 y2 y3 (decide (more < below))))
set_option maxHeartbeats 1000000 in
theorem R_law_NearGrows (l : (List Hole)) (below : Int) (more : Int) (w0 : World) (lA : Option Addr) (lC : Nat) (hv_l : View w0 (old w0 none_) lA lC l) (Q : Bool → Prop) (h : M_law_NearGrows l below more Q) :
    Ret Try.prog 4 #[.slice lA l.length lC, .int .i64 below, .int .i64 more] w0 fun v w' => ∃ (r0 : Bool), v = .bool r0 ∧ Q r0 ∧ Sat w0 none_ [] w' := by
  refine fn_enter Try.func4 rfl Try.ntmps4 rfl (fs := [(0, .slice lA l.length lC), (1, .int .i64 below), (2, .int .i64 more)]) rfl (fun a hf => ?_)
  have hs := Sat.start w0 none_
  unfold M_law_NearGrows at h
  refine wp_seq ?_
  refine R.list ?_
  refine S.val hf hs (v := .bool false) rfl rfl rfl (V.pure rfl) (fun a hf => ?_)
  refine R.nil ?_
  refine X.then_ ?_
  refine wp_seq ?_
  refine R.list ?_
  refine S.val hf hs (v := .slice lA l.length lC) rfl rfl rfl (V.pure rfl) (fun a hf => ?_)
  refine S.val hf hs (v := .int .i64 below) rfl rfl rfl (V.pure rfl) (fun a hf => ?_)
  refine S.call hf rfl rfl rfl (call_fn (vs := [.slice lA l.length lC, .int .i64 below]) rfl rfl rfl Try.call21) (R_drill_Near l below _ lA lC ((Ag.args _ _ _).view hv_l hs) _ h) (fun v a w' hf hr => ?_)
  obtain ⟨y1, y1A, y1C, y2, rfl, h2, hs2⟩ := hr
  replace h := h2; replace hs := hs.call hs2; clear h2 hs2
  refine S.val hf hs (v := .tuple #[.slice y1A y1.length y1C, .int .i64 y2]) rfl rfl rfl (V.pure rfl) (fun a hf => ?_)
  refine S.val hf hs (v := .slice y1A y1.length y1C) rfl rfl rfl (V.pure rfl) (fun a hf => ?_)
  refine S.val hf hs (v := .int .i64 y2) rfl rfl rfl (V.pure rfl) (fun a hf => ?_)
  refine S.val hf hs (v := .slice y1A y1.length y1C) rfl rfl rfl (V.pure rfl) (fun a hf => ?_)
  refine S.val hf hs (v := .int .i64 y2) rfl rfl rfl (V.pure rfl) (fun a hf => ?_)
  refine R.nil ?_
  refine X.then_ ?_
  refine wp_seq ?_
  refine R.list ?_
  refine S.val hf hs (v := .slice lA l.length lC) rfl rfl rfl (V.pure rfl) (fun a hf => ?_)
  refine S.val hf hs (v := .int .i64 more) rfl rfl rfl (V.pure rfl) (fun a hf => ?_)
  refine S.call hf rfl rfl rfl (call_fn (vs := [.slice lA l.length lC, .int .i64 more]) rfl rfl rfl Try.call21) (R_drill_Near l more _ lA lC ((Ag.args _ _ _).view hv_l hs) _ h) (fun v a w' hf hr => ?_)
  obtain ⟨y3, y3A, y3C, y4, rfl, h2, hs2⟩ := hr
  replace h := h2; replace hs := hs.call hs2; clear h2 hs2
  refine S.val hf hs (v := .tuple #[.slice y3A y3.length y3C, .int .i64 y4]) rfl rfl rfl (V.pure rfl) (fun a hf => ?_)
  refine S.val hf hs (v := .slice y3A y3.length y3C) rfl rfl rfl (V.pure rfl) (fun a hf => ?_)
  refine S.val hf hs (v := .int .i64 y4) rfl rfl rfl (V.pure rfl) (fun a hf => ?_)
  refine S.val hf hs (v := .slice y3A y3.length y3C) rfl rfl rfl (V.pure rfl) (fun a hf => ?_)
  refine S.val hf hs (v := .int .i64 y4) rfl rfl rfl (V.pure rfl) (fun a hf => ?_)
  refine R.nil ?_
  refine X.then_ ?_
  refine wp_seq ?_
  refine wp_seq ?_
  refine C.cut (J := fun a w => ∃ (c1 : Bool), M_law_NearGrows_k1 below Q y1 y2 y3 c1 ∧ FrOk 90 [(1, .int .i64 below), (7, .slice y1A y1.length y1C), (8, .int .i64 y2), (9, .slice y3A y3.length y3C), (37, .bool c1)] a ∧ Sat w0 none_ [hown 39 y3A y3C y3, hown 39 y1A y1C y1] w) ?_ ?_
  · rintro a w ⟨c1, h, hf, hs⟩
    unfold M_law_NearGrows_k1 at h
    refine C.cond hf (b := c1) rfl (fun hc => ?_) (fun hc => ?_)
    · replace h := h.1 hc
      refine wp_seq ?_
      refine R.list ?_
      refine S.val hf hs (v := .int .i64 y2) rfl rfl rfl (V.pure rfl) (fun a hf => ?_)
      refine S.val hf hs (v := .bool (y2 == 0)) rfl rfl rfl (V.pure rfl) (fun a hf => ?_)
      refine S.split hf hs (b := y2 == 0) rfl rfl rfl (V.pure rfl) (fun hc a hf => ?_) (fun hc a hf => ?_)
      · replace h := h.1 hc
        refine S.skip hf rfl rfl rfl (fun a hf => ?_)
        refine S.skip hf rfl rfl rfl (fun a hf => ?_)
        refine S.skip hf rfl rfl rfl (fun a hf => ?_)
        refine S.val hf hs (v := .bool true) rfl rfl rfl (V.pure rfl) (fun a hf => ?_)
        refine S.val hf hs (v := .bool true) rfl rfl rfl (V.pure rfl) (fun a hf => ?_)
        refine S.call hf rfl rfl rfl (call_fn (vs := []) rfl rfl rfl Try.call20) (R_awake  _  _ h) (fun v a w' hf hr => ?_)
        obtain ⟨y5, rfl, h2, hs2⟩ := hr
        replace h := h2; replace hs := hs.call hs2; clear h2 hs2
        refine S.val hf hs (v := .bool y5) rfl rfl rfl (V.pure rfl) (fun a hf => ?_)
        refine S.val hf hs (v := .bool y5) rfl rfl rfl (V.pure rfl) (fun a hf => ?_)
        refine R.nil ?_
        refine X.then_ ?_
        refine wp_ret ?_
        refine X.then_ret ?_
        exact L.ret hf (run_results1 Try.results4 (ResIs.tmp hf rfl)) ⟨y5, rfl, h, hs.nil⟩
      · replace h := h.2 hc
        refine S.val hf hs (v := .slice y1A y1.length y1C) rfl rfl rfl (V.pure rfl) (fun a hf => ?_)
        refine S.val hf hs (v := .int .i64 (y1.length : Int)) rfl rfl rfl (V.len rfl rfl Try.runUnderlying35) (fun a hf => ?_)
        refine S.val hf hs (v := .bool ((y1.length : Int) == 0)) rfl rfl rfl (V.pure rfl) (fun a hf => ?_)
        refine S.val hf hs (v := .bool ((y1.length : Int) == 0)) rfl rfl rfl (V.pure rfl) (fun a hf => ?_)
        refine S.split hf hs (b := (y1.length : Int) == 0) rfl rfl rfl (V.pure rfl) (fun hc a hf => ?_) (fun hc a hf => ?_)
        · replace h := h.1 hc
          refine S.call hf rfl rfl rfl (call_fn (vs := []) rfl rfl rfl Try.call20) (R_awake  _  _ h) (fun v a w' hf hr => ?_)
          obtain ⟨y6, rfl, h2, hs2⟩ := hr
          replace h := h2; replace hs := hs.call hs2; clear h2 hs2
          refine S.val hf hs (v := .bool y6) rfl rfl rfl (V.pure rfl) (fun a hf => ?_)
          refine S.val hf hs (v := .bool y6) rfl rfl rfl (V.pure rfl) (fun a hf => ?_)
          refine R.nil ?_
          refine X.then_ ?_
          refine wp_ret ?_
          refine X.then_ret ?_
          exact L.ret hf (run_results1 Try.results4 (ResIs.tmp hf rfl)) ⟨y6, rfl, h, hs.nil⟩
        · replace h := h.2 hc
          refine S.skip hf rfl rfl rfl (fun a hf => ?_)
          refine S.val hf hs (v := .bool false) rfl rfl rfl (V.pure rfl) (fun a hf => ?_)
          refine S.val hf hs (v := .bool false) rfl rfl rfl (V.pure rfl) (fun a hf => ?_)
          refine R.nil ?_
          refine X.then_ ?_
          refine wp_ret ?_
          refine X.then_ret ?_
          exact L.ret hf (run_results1 Try.results4 (ResIs.tmp hf rfl)) ⟨false, rfl, h, hs.nil⟩
    · replace h := h.2 hc
      refine wp_skip ?_
      refine X.then_ ?_
      refine wp_seq ?_
      refine wp_seq ?_
      refine R.list ?_
      refine S.val hf hs (v := .slice y1A y1.length y1C) rfl rfl rfl (V.pure rfl) (fun a hf => ?_)
      refine S.val hf hs (v := .int .i64 (y1.length : Int)) rfl rfl rfl (V.len rfl rfl Try.runUnderlying35) (fun a hf => ?_)
      refine S.val hf hs (v := .int .i64 0) rfl rfl rfl (V.pure rfl) (fun a hf => ?_)
      refine R.nil ?_
      refine X.then_ ?_
      refine wp_block ?_
      have hlenk2 := (hs.ownView 1 rfl).len64
      refine C.range (fun (ll : List Pair) a w => ∃ (k2 : Nat) , y1.drop k2 = ll ∧ k2 + ll.length = y1.length ∧ forIn' (fun k x (s : Unit) next => M_law_NearGrows_L1 below Q y3 k x (next ())) (fun (s : Unit) => forIn' (fun k x (s : Unit) next => M_law_NearGrows_L2 below Q y1 k x (next ())) (fun (s : Unit) => M_awake  fun y7 => Q y7) y3 0 ()) ll k2 () ∧ FrOk 90 [(50, .int .i64 (k2 : Int)), (1, .int .i64 below), (7, .slice y1A y1.length y1C), (9, .slice y3A y3.length y3C), (48, .slice y1A y1.length y1C), (49, .int .i64 (y1.length : Int))] a ∧ Sat w0 none_ [hown 39 y3A y3C y3, hown 39 y1A y1C y1] w) y1 ⟨0, rfl, Nat.zero_add _, h, ((((((hf.nil.cons (hf.get 49 _ rfl)).cons (hf.get 48 _ rfl)).cons (hf.get 9 _ rfl)).cons (hf.get 7 _ rfl)).cons (hf.get 1 _ rfl)).cons (hf.get 50 _ rfl)), hs⟩ ?_
      clear h hf hs
      rintro llk2 a w ⟨k2, hlk2, hkk2, h, hf, hs⟩
      cases llk2 with
      | nil =>
        have hc := range_done hkk2
        replace h : forIn' (fun k x (s : Unit) next => M_law_NearGrows_L2 below Q y1 k x (next ())) (fun (s : Unit) => M_awake  fun y7 => Q y7) y3 0 () := h
        refine wp_seq ?_
        refine R.list ?_
        refine S.val hf hs (v := .bool false) rfl rfl rfl (V.cmp false rfl rfl rfl rfl hc) (fun a hf => ?_)
        refine R.nil ?_
        refine X.then_ ?_
        refine wp_seq ?_
        refine C.no hf rfl ?_
        refine wp_exit ?_
        refine X.then_exit ?_
        refine X.then_exit ?_
        refine X.blk_exit ?_
        refine X.then_ ?_
        refine wp_seq ?_
        refine wp_seq ?_
        refine R.list ?_
        refine S.val hf hs (v := .slice y3A y3.length y3C) rfl rfl rfl (V.pure rfl) (fun a hf => ?_)
        refine S.val hf hs (v := .int .i64 (y3.length : Int)) rfl rfl rfl (V.len rfl rfl Try.runUnderlying35) (fun a hf => ?_)
        refine S.val hf hs (v := .int .i64 0) rfl rfl rfl (V.pure rfl) (fun a hf => ?_)
        refine R.nil ?_
        refine X.then_ ?_
        refine wp_block ?_
        have hlenk3 := (hs.ownView 0 rfl).len64
        refine C.range (fun (ll : List Pair) a w => ∃ (k3 : Nat) , y3.drop k3 = ll ∧ k3 + ll.length = y3.length ∧ forIn' (fun k x (s : Unit) next => M_law_NearGrows_L2 below Q y1 k x (next ())) (fun (s : Unit) => M_awake  fun y7 => Q y7) ll k3 () ∧ FrOk 90 [(74, .int .i64 (k3 : Int)), (1, .int .i64 below), (7, .slice y1A y1.length y1C), (72, .slice y3A y3.length y3C), (73, .int .i64 (y3.length : Int))] a ∧ Sat w0 none_ [hown 39 y3A y3C y3, hown 39 y1A y1C y1] w) y3 ⟨0, rfl, Nat.zero_add _, h, (((((hf.nil.cons (hf.get 73 _ rfl)).cons (hf.get 72 _ rfl)).cons (hf.get 7 _ rfl)).cons (hf.get 1 _ rfl)).cons (hf.get 74 _ rfl)), hs⟩ ?_
        clear h hf hs
        rintro llk3 a w ⟨k3, hlk3, hkk3, h, hf, hs⟩
        cases llk3 with
        | nil =>
          have hc := range_done hkk3
          replace h : M_awake  fun y7 => Q y7 := h
          refine wp_seq ?_
          refine R.list ?_
          refine S.val hf hs (v := .bool false) rfl rfl rfl (V.cmp false rfl rfl rfl rfl hc) (fun a hf => ?_)
          refine R.nil ?_
          refine X.then_ ?_
          refine wp_seq ?_
          refine C.no hf rfl ?_
          refine wp_exit ?_
          refine X.then_exit ?_
          refine X.then_exit ?_
          refine X.blk_exit ?_
          refine X.then_ ?_
          refine wp_seq ?_
          refine R.list ?_
          refine S.call hf rfl rfl rfl (call_fn (vs := []) rfl rfl rfl Try.call20) (R_awake  _  _ h) (fun v a w' hf hr => ?_)
          obtain ⟨y7, rfl, h2, hs2⟩ := hr
          replace h := h2; replace hs := hs.call hs2; clear h2 hs2
          refine S.val hf hs (v := .bool y7) rfl rfl rfl (V.pure rfl) (fun a hf => ?_)
          refine R.nil ?_
          refine X.then_ ?_
          refine wp_ret ?_
          exact L.ret hf (run_results1 Try.results4 (ResIs.tmp hf rfl)) ⟨y7, rfl, h, hs.nil⟩
        | cons xk3 llk3 =>
          have hltk3 := range_lt hkk3; have hc := range_go hkk3; have hxk3 := range_get hlk3
          obtain ⟨next2, hnext2⟩ : ∃ X : Prop, X = (forIn' (fun k x (s : Unit) next => M_law_NearGrows_L2 below Q y1 k x (next ())) (fun (s : Unit) => M_awake  fun y7 => Q y7) llk3 (k3 + 1) ()) := ⟨_, rfl⟩
          replace h : M_law_NearGrows_L2 below Q y1 k3 xk3  next2 := by rw [hnext2]; exact h
          unfold M_law_NearGrows_L2 at h
          refine wp_seq ?_
          refine R.list ?_
          refine S.val hf hs (v := .bool true) rfl rfl rfl (V.cmp true rfl rfl rfl rfl hc) (fun a hf => ?_)
          refine R.nil ?_
          refine X.then_ ?_
          refine wp_seq ?_
          refine C.yes hf rfl ?_
          refine wp_skip ?_
          refine X.then_ ?_
          refine wp_seq ?_
          refine wp_block ?_
          refine wp_seq ?_
          refine R.list ?_
          refine S.val hf hs (v := elemPtr y3A (k3 * 3)) rfl rfl rfl (V.index rfl rfl rfl Try.runUnderlying35 Try.sizeOf39 (hs.ownSome 0 rfl (lt_of_get hxk3)) (Int.natCast_nonneg _) (lt_of_get hxk3) rfl) (fun a hf => ?_)
          refine S.val hf hs (v := .agg #[.int .i64 xk3.A, .int .i64 xk3.B, .int .i64 xk3.Distance]) rfl rfl rfl (V.loadOwn (off := 0) 0 rfl hxk3 rfl rfl rfl Try.isAgg39 Try.sizeOf39 rfl rfl) (fun a hf => ?_)
          refine S.alloc hf hs rfl rfl rfl [.int .i64 0, .int .i64 0, .int .i64 0] rfl Try.zeroValue39 rfl (fun g1 a w hf hs => ?_)
          refine S.storeBox 0 hf hs rfl rfl [.int .i64 xk3.A, .int .i64 xk3.B, .int .i64 xk3.Distance] [.int .i64 xk3.A, .int .i64 xk3.B, .int .i64 xk3.Distance] rfl rfl rfl rfl rfl Try.sizeOf39 rfl rfl rfl rfl (fun a w hf hs => ?_)
          refine R.nil ?_
          refine X.then_ ?_
          refine wp_seq ?_
          refine C.cut (J := fun a w => ∃ (c2 : Bool), M_law_NearGrows_k4 Q next2 c2 ∧ FrOk 90 [(1, .int .i64 below), (7, .slice y1A y1.length y1C), (72, .slice y3A y3.length y3C), (73, .int .i64 (y3.length : Int)), (74, .int .i64 (k3 : Int)), (87, .bool c2)] a ∧ Sat w0 none_ [hbox g1 39 [.int .i64 xk3.A, .int .i64 xk3.B, .int .i64 xk3.Distance], hown 39 y3A y3C y3, hown 39 y1A y1C y1] w) ?_ ?_
          · rintro a w ⟨c2, h, hf, hs⟩
            unfold M_law_NearGrows_k4 at h
            refine C.cond hf (b := c2) rfl (fun hc => ?_) (fun hc => ?_)
            · replace h := h.1 hc
              refine wp_seq ?_
              refine R.list ?_
              refine S.val hf hs (v := .bool false) rfl rfl rfl (V.pure rfl) (fun a hf => ?_)
              refine R.nil ?_
              refine X.then_ ?_
              refine wp_ret ?_
              refine X.blk_ret ?_
              refine X.then_ret ?_
              refine X.then_ret ?_
              refine X.blk_ret ?_
              refine X.then_ret ?_
              exact L.ret hf (run_results1 Try.results4 (ResIs.tmp hf rfl)) ⟨false, rfl, h, hs.nil⟩
            · replace h := h.2 hc
              refine wp_skip ?_
              refine X.blk ?_
              refine X.then_ ?_
              refine R.list ?_
              refine S.val hf hs (v := .int .i64 ((k3 + 1 : Nat) : Int)) rfl rfl rfl (V.incr rfl rfl rfl hltk3 hlenk3) (fun a hf => ?_)
              refine S.val hf hs (v := .int .i64 ((k3 + 1 : Nat) : Int)) rfl rfl rfl (V.pure rfl) (fun a hf => ?_)
              refine R.nil ?_
              refine X.then_ ?_
              exact ⟨xk3, llk3, rfl, k3 + 1, range_drop hlk3, range_len hkk3, (by rw [hnext2] at h; exact h), (((((hf.nil.cons (hf.get 73 _ rfl)).cons (hf.get 72 _ rfl)).cons (hf.get 7 _ rfl)).cons (hf.get 1 _ rfl)).cons (hf.get 74 _ rfl)), hs.drop⟩
          · skip
            refine R.list ?_
            refine S.val hf hs (v := .pointer (some ⟨g1, 2, none⟩)) rfl rfl rfl (V.fieldBox rfl rfl Try.runUnderlying39 rfl Try.sizeOf3 rfl rfl) (fun a hf => ?_)
            refine S.val hf hs (v := .int .i64 xk3.Distance) rfl rfl rfl (V.loadBox 0 rfl rfl rfl Try.isAgg3 Try.sizeOf3 rfl rfl) (fun a hf => ?_)
            refine S.val hf hs (v := .int .i64 below) rfl rfl rfl (V.pure rfl) (fun a hf => ?_)
            refine S.val hf hs (v := .bool (decide (xk3.Distance < below))) rfl rfl rfl (V.pure rfl) (fun a hf => ?_)
            refine S.split hf hs (b := decide (xk3.Distance < below)) rfl rfl rfl (V.pure rfl) (fun hc a hf => ?_) (fun hc a hf => ?_)
            · replace h := h.1 hc
              refine S.val hf hs (v := .slice y1A y1.length y1C) rfl rfl rfl (V.pure rfl) (fun a hf => ?_)
              refine S.val hf hs (v := .agg #[.int .i64 xk3.A, .int .i64 xk3.B, .int .i64 xk3.Distance]) rfl rfl rfl (V.loadBox 0 rfl rfl rfl Try.isAgg39 Try.sizeOf39 rfl rfl) (fun a hf => ?_)
              refine S.call hf rfl rfl rfl (call_fn (vs := [.slice y1A y1.length y1C, .agg #[.int .i64 xk3.A, .int .i64 xk3.B, .int .i64 xk3.Distance]]) rfl rfl rfl Try.call22) (R_contains_pair y1 xk3 _ y1A y1C (hs.ownView 2 rfl) _ h) (fun v a w' hf hr => ?_)
              obtain ⟨y8, rfl, h2, hs2⟩ := hr
              replace h := h2; replace hs := hs.call hs2; clear h2 hs2
              refine S.val hf hs (v := .bool (!y8)) rfl rfl rfl (V.pure rfl) (fun a hf => ?_)
              refine S.val hf hs (v := .bool (!y8)) rfl rfl rfl (V.pure rfl) (fun a hf => ?_)
              refine R.nil ?_
              refine X.then_ ?_
              exact ⟨(!y8), h, ((((((hf.nil.cons (hf.get 87 _ rfl)).cons (hf.get 74 _ rfl)).cons (hf.get 73 _ rfl)).cons (hf.get 72 _ rfl)).cons (hf.get 7 _ rfl)).cons (hf.get 1 _ rfl)), hs⟩
            · replace h := h.2 hc
              refine S.skip hf rfl rfl rfl (fun a hf => ?_)
              refine S.skip hf rfl rfl rfl (fun a hf => ?_)
              refine S.skip hf rfl rfl rfl (fun a hf => ?_)
              refine S.skip hf rfl rfl rfl (fun a hf => ?_)
              refine S.val hf hs (v := .bool false) rfl rfl rfl (V.pure rfl) (fun a hf => ?_)
              refine R.nil ?_
              refine X.then_ ?_
              exact ⟨false, h, ((((((hf.nil.cons (hf.get 87 _ rfl)).cons (hf.get 74 _ rfl)).cons (hf.get 73 _ rfl)).cons (hf.get 72 _ rfl)).cons (hf.get 7 _ rfl)).cons (hf.get 1 _ rfl)), hs⟩
      | cons xk2 llk2 =>
        have hltk2 := range_lt hkk2; have hc := range_go hkk2; have hxk2 := range_get hlk2
        obtain ⟨next1, hnext1⟩ : ∃ X : Prop, X = (forIn' (fun k x (s : Unit) next => M_law_NearGrows_L1 below Q y3 k x (next ())) (fun (s : Unit) => forIn' (fun k x (s : Unit) next => M_law_NearGrows_L2 below Q y1 k x (next ())) (fun (s : Unit) => M_awake  fun y7 => Q y7) y3 0 ()) llk2 (k2 + 1) ()) := ⟨_, rfl⟩
        replace h : M_law_NearGrows_L1 below Q y3 k2 xk2  next1 := by rw [hnext1]; exact h
        unfold M_law_NearGrows_L1 at h
        refine wp_seq ?_
        refine R.list ?_
        refine S.val hf hs (v := .bool true) rfl rfl rfl (V.cmp true rfl rfl rfl rfl hc) (fun a hf => ?_)
        refine R.nil ?_
        refine X.then_ ?_
        refine wp_seq ?_
        refine C.yes hf rfl ?_
        refine wp_skip ?_
        refine X.then_ ?_
        refine wp_seq ?_
        refine wp_block ?_
        refine wp_seq ?_
        refine R.list ?_
        refine S.val hf hs (v := elemPtr y1A (k2 * 3)) rfl rfl rfl (V.index rfl rfl rfl Try.runUnderlying35 Try.sizeOf39 (hs.ownSome 1 rfl (lt_of_get hxk2)) (Int.natCast_nonneg _) (lt_of_get hxk2) rfl) (fun a hf => ?_)
        refine S.val hf hs (v := .agg #[.int .i64 xk2.A, .int .i64 xk2.B, .int .i64 xk2.Distance]) rfl rfl rfl (V.loadOwn (off := 0) 1 rfl hxk2 rfl rfl rfl Try.isAgg39 Try.sizeOf39 rfl rfl) (fun a hf => ?_)
        refine S.alloc hf hs rfl rfl rfl [.int .i64 0, .int .i64 0, .int .i64 0] rfl Try.zeroValue39 rfl (fun g2 a w hf hs => ?_)
        refine S.storeBox 0 hf hs rfl rfl [.int .i64 xk2.A, .int .i64 xk2.B, .int .i64 xk2.Distance] [.int .i64 xk2.A, .int .i64 xk2.B, .int .i64 xk2.Distance] rfl rfl rfl rfl rfl Try.sizeOf39 rfl rfl rfl rfl (fun a w hf hs => ?_)
        refine R.nil ?_
        refine X.then_ ?_
        refine wp_seq ?_
        refine C.cut (J := fun a w => ∃ (c3 : Bool), M_law_NearGrows_k5 Q next1 c3 ∧ FrOk 90 [(1, .int .i64 below), (7, .slice y1A y1.length y1C), (9, .slice y3A y3.length y3C), (48, .slice y1A y1.length y1C), (49, .int .i64 (y1.length : Int)), (50, .int .i64 (k2 : Int)), (70, .bool c3)] a ∧ Sat w0 none_ [hbox g2 39 [.int .i64 xk2.A, .int .i64 xk2.B, .int .i64 xk2.Distance], hown 39 y3A y3C y3, hown 39 y1A y1C y1] w) ?_ ?_
        · rintro a w ⟨c3, h, hf, hs⟩
          unfold M_law_NearGrows_k5 at h
          refine C.cond hf (b := c3) rfl (fun hc => ?_) (fun hc => ?_)
          · replace h := h.1 hc
            refine wp_seq ?_
            refine R.list ?_
            refine S.val hf hs (v := .bool false) rfl rfl rfl (V.pure rfl) (fun a hf => ?_)
            refine R.nil ?_
            refine X.then_ ?_
            refine wp_ret ?_
            refine X.blk_ret ?_
            refine X.then_ret ?_
            refine X.then_ret ?_
            refine X.blk_ret ?_
            refine X.then_ret ?_
            exact L.ret hf (run_results1 Try.results4 (ResIs.tmp hf rfl)) ⟨false, rfl, h, hs.nil⟩
          · replace h := h.2 hc
            refine wp_skip ?_
            refine X.blk ?_
            refine X.then_ ?_
            refine R.list ?_
            refine S.val hf hs (v := .int .i64 ((k2 + 1 : Nat) : Int)) rfl rfl rfl (V.incr rfl rfl rfl hltk2 hlenk2) (fun a hf => ?_)
            refine S.val hf hs (v := .int .i64 ((k2 + 1 : Nat) : Int)) rfl rfl rfl (V.pure rfl) (fun a hf => ?_)
            refine R.nil ?_
            refine X.then_ ?_
            exact ⟨xk2, llk2, rfl, k2 + 1, range_drop hlk2, range_len hkk2, (by rw [hnext1] at h; exact h), ((((((hf.nil.cons (hf.get 49 _ rfl)).cons (hf.get 48 _ rfl)).cons (hf.get 9 _ rfl)).cons (hf.get 7 _ rfl)).cons (hf.get 1 _ rfl)).cons (hf.get 50 _ rfl)), hs.drop⟩
        · skip
          refine R.list ?_
          refine S.val hf hs (v := .slice y3A y3.length y3C) rfl rfl rfl (V.pure rfl) (fun a hf => ?_)
          refine S.val hf hs (v := .agg #[.int .i64 xk2.A, .int .i64 xk2.B, .int .i64 xk2.Distance]) rfl rfl rfl (V.loadBox 0 rfl rfl rfl Try.isAgg39 Try.sizeOf39 rfl rfl) (fun a hf => ?_)
          refine S.call hf rfl rfl rfl (call_fn (vs := [.slice y3A y3.length y3C, .agg #[.int .i64 xk2.A, .int .i64 xk2.B, .int .i64 xk2.Distance]]) rfl rfl rfl Try.call22) (R_contains_pair y3 xk2 _ y3A y3C (hs.ownView 1 rfl) _ h) (fun v a w' hf hr => ?_)
          obtain ⟨y9, rfl, h2, hs2⟩ := hr
          replace h := h2; replace hs := hs.call hs2; clear h2 hs2
          refine S.val hf hs (v := .bool (!y9)) rfl rfl rfl (V.pure rfl) (fun a hf => ?_)
          refine S.split hf hs (b := !y9) rfl rfl rfl (V.pure rfl) (fun hc a hf => ?_) (fun hc a hf => ?_)
          · replace h := h.1 hc
            refine S.skip hf rfl rfl rfl (fun a hf => ?_)
            refine S.skip hf rfl rfl rfl (fun a hf => ?_)
            refine S.skip hf rfl rfl rfl (fun a hf => ?_)
            refine S.skip hf rfl rfl rfl (fun a hf => ?_)
            refine S.val hf hs (v := .bool true) rfl rfl rfl (V.pure rfl) (fun a hf => ?_)
            refine S.val hf hs (v := .bool true) rfl rfl rfl (V.pure rfl) (fun a hf => ?_)
            refine S.skip hf rfl rfl rfl (fun a hf => ?_)
            refine S.skip hf rfl rfl rfl (fun a hf => ?_)
            refine S.skip hf rfl rfl rfl (fun a hf => ?_)
            refine S.skip hf rfl rfl rfl (fun a hf => ?_)
            refine S.skip hf rfl rfl rfl (fun a hf => ?_)
            refine S.val hf hs (v := .bool true) rfl rfl rfl (V.pure rfl) (fun a hf => ?_)
            refine R.nil ?_
            refine X.then_ ?_
            exact ⟨true, h, (((((((hf.nil.cons (hf.get 70 _ rfl)).cons (hf.get 50 _ rfl)).cons (hf.get 49 _ rfl)).cons (hf.get 48 _ rfl)).cons (hf.get 9 _ rfl)).cons (hf.get 7 _ rfl)).cons (hf.get 1 _ rfl)), hs⟩
          · replace h := h.2 hc
            refine S.val hf hs (v := .pointer (some ⟨g2, 2, none⟩)) rfl rfl rfl (V.fieldBox rfl rfl Try.runUnderlying39 rfl Try.sizeOf3 rfl rfl) (fun a hf => ?_)
            refine S.val hf hs (v := .int .i64 xk2.Distance) rfl rfl rfl (V.loadBox 0 rfl rfl rfl Try.isAgg3 Try.sizeOf3 rfl rfl) (fun a hf => ?_)
            refine S.val hf hs (v := .int .i64 below) rfl rfl rfl (V.pure rfl) (fun a hf => ?_)
            refine S.val hf hs (v := .bool (decide (xk2.Distance ≥ below))) rfl rfl rfl (V.pure rfl) (fun a hf => ?_)
            refine S.val hf hs (v := .bool (decide (xk2.Distance ≥ below))) rfl rfl rfl (V.pure rfl) (fun a hf => ?_)
            refine S.split hf hs (b := decide (xk2.Distance ≥ below)) rfl rfl rfl (V.pure rfl) (fun hc a hf => ?_) (fun hc a hf => ?_)
            · replace h := h.1 hc
              refine S.skip hf rfl rfl rfl (fun a hf => ?_)
              refine S.skip hf rfl rfl rfl (fun a hf => ?_)
              refine S.skip hf rfl rfl rfl (fun a hf => ?_)
              refine S.skip hf rfl rfl rfl (fun a hf => ?_)
              refine S.skip hf rfl rfl rfl (fun a hf => ?_)
              refine S.val hf hs (v := .bool true) rfl rfl rfl (V.pure rfl) (fun a hf => ?_)
              refine R.nil ?_
              refine X.then_ ?_
              exact ⟨true, h, (((((((hf.nil.cons (hf.get 70 _ rfl)).cons (hf.get 50 _ rfl)).cons (hf.get 49 _ rfl)).cons (hf.get 48 _ rfl)).cons (hf.get 9 _ rfl)).cons (hf.get 7 _ rfl)).cons (hf.get 1 _ rfl)), hs⟩
            · replace h := h.2 hc
              refine S.val hf hs (v := .pointer (some ⟨g2, 0, none⟩)) rfl rfl rfl (V.fieldBox rfl rfl Try.runUnderlying39 rfl Try.sizeOf3 rfl rfl) (fun a hf => ?_)
              refine S.val hf hs (v := .int .i64 xk2.A) rfl rfl rfl (V.loadBox 0 rfl rfl rfl Try.isAgg3 Try.sizeOf3 rfl rfl) (fun a hf => ?_)
              refine S.val hf hs (v := .pointer (some ⟨g2, 1, none⟩)) rfl rfl rfl (V.fieldBox rfl rfl Try.runUnderlying39 rfl Try.sizeOf3 rfl rfl) (fun a hf => ?_)
              refine S.val hf hs (v := .int .i64 xk2.B) rfl rfl rfl (V.loadBox 0 rfl rfl rfl Try.isAgg3 Try.sizeOf3 rfl rfl) (fun a hf => ?_)
              refine S.val hf hs (v := .bool (decide (xk2.A ≥ xk2.B))) rfl rfl rfl (V.pure rfl) (fun a hf => ?_)
              refine S.val hf hs (v := .bool (decide (xk2.A ≥ xk2.B))) rfl rfl rfl (V.pure rfl) (fun a hf => ?_)
              refine R.nil ?_
              refine X.then_ ?_
              exact ⟨(decide (xk2.A ≥ xk2.B)), h, (((((((hf.nil.cons (hf.get 70 _ rfl)).cons (hf.get 50 _ rfl)).cons (hf.get 49 _ rfl)).cons (hf.get 48 _ rfl)).cons (hf.get 9 _ rfl)).cons (hf.get 7 _ rfl)).cons (hf.get 1 _ rfl)), hs⟩
  · skip
    refine R.list ?_
    refine S.val hf hs (v := .int .i64 y2) rfl rfl rfl (V.pure rfl) (fun a hf => ?_)
    refine S.val hf hs (v := .bool (y2 != 0)) rfl rfl rfl (V.pure rfl) (fun a hf => ?_)
    refine S.split hf hs (b := y2 != 0) rfl rfl rfl (V.pure rfl) (fun hc a hf => ?_) (fun hc a hf => ?_)
    · replace h := h.1 hc
      refine S.skip hf rfl rfl rfl (fun a hf => ?_)
      refine S.skip hf rfl rfl rfl (fun a hf => ?_)
      refine S.val hf hs (v := .bool true) rfl rfl rfl (V.pure rfl) (fun a hf => ?_)
      refine S.val hf hs (v := .bool true) rfl rfl rfl (V.pure rfl) (fun a hf => ?_)
      refine S.skip hf rfl rfl rfl (fun a hf => ?_)
      refine S.skip hf rfl rfl rfl (fun a hf => ?_)
      refine S.skip hf rfl rfl rfl (fun a hf => ?_)
      refine S.val hf hs (v := .bool true) rfl rfl rfl (V.pure rfl) (fun a hf => ?_)
      refine R.nil ?_
      refine X.then_ ?_
      exact ⟨true, h, (((((hf.nil.cons (hf.get 37 _ rfl)).cons (hf.get 9 _ rfl)).cons (hf.get 8 _ rfl)).cons (hf.get 7 _ rfl)).cons (hf.get 1 _ rfl)), hs⟩
    · replace h := h.2 hc
      refine S.val hf hs (v := .int .i64 y4) rfl rfl rfl (V.pure rfl) (fun a hf => ?_)
      refine S.val hf hs (v := .bool (y4 != 0)) rfl rfl rfl (V.pure rfl) (fun a hf => ?_)
      refine S.val hf hs (v := .bool (y4 != 0)) rfl rfl rfl (V.pure rfl) (fun a hf => ?_)
      refine S.split hf hs (b := y4 != 0) rfl rfl rfl (V.pure rfl) (fun hc a hf => ?_) (fun hc a hf => ?_)
      · replace h := h.1 hc
        refine S.skip hf rfl rfl rfl (fun a hf => ?_)
        refine S.skip hf rfl rfl rfl (fun a hf => ?_)
        refine S.skip hf rfl rfl rfl (fun a hf => ?_)
        refine S.val hf hs (v := .bool true) rfl rfl rfl (V.pure rfl) (fun a hf => ?_)
        refine R.nil ?_
        refine X.then_ ?_
        exact ⟨true, h, (((((hf.nil.cons (hf.get 37 _ rfl)).cons (hf.get 9 _ rfl)).cons (hf.get 8 _ rfl)).cons (hf.get 7 _ rfl)).cons (hf.get 1 _ rfl)), hs⟩
      · replace h := h.2 hc
        refine S.val hf hs (v := .int .i64 more) rfl rfl rfl (V.pure rfl) (fun a hf => ?_)
        refine S.val hf hs (v := .int .i64 below) rfl rfl rfl (V.pure rfl) (fun a hf => ?_)
        refine S.val hf hs (v := .bool (decide (more < below))) rfl rfl rfl (V.pure rfl) (fun a hf => ?_)
        refine S.val hf hs (v := .bool (decide (more < below))) rfl rfl rfl (V.pure rfl) (fun a hf => ?_)
        refine R.nil ?_
        refine X.then_ ?_
        exact ⟨(decide (more < below)), h, (((((hf.nil.cons (hf.get 37 _ rfl)).cons (hf.get 9 _ rfl)).cons (hf.get 8 _ rfl)).cons (hf.get 7 _ rfl)).cons (hf.get 1 _ rfl)), hs⟩

end Go.Proofs.Ytmopdabkfklefaa
