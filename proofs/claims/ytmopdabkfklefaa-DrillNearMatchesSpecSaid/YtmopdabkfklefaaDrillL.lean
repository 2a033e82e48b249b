/- Chapter 8: holes at one point; the pairs that are near. -/
import Derived.Test.YtmopdabkfklefaaDrillD
namespace Go.Proofs.Ytmopdabkfklefaa
open Go Go.RowKit
set_option linter.unusedVariables false

set_option linter.unusedVariables false
def M_drill_Repeated_k2 (xk1 : Hole) (m2 : List (Point × Bool)) (next1 : List Int → List (Point × Bool) → Prop) (l3 : List Int) : Prop :=
  next1 l3 (mput m2 xk1.At true)
def M_drill_Repeated_L1  (k1 : Nat) (xk1 : Hole) (l2 : List Int) (m2 : List (Point × Bool)) (next1 : List Int → List (Point × Bool) → Prop) : Prop :=
  cnd ((mget m2 xk1.At).getD false) (must (room (l2 ++ [(k1 : Int)]).length 8) (M_drill_Repeated_k2 xk1 m2 next1 (l2 ++ [(k1 : Int)]))) (M_drill_Repeated_k2 xk1 m2 next1 l2)
def M_drill_Repeated (l : (List Hole)) (Q : (List Int) → Int → Prop) : Prop :=
  M_drill_CheckHoles l fun y1 => cnd (y1 != 0) (Q ([] : List Int) y1) (forIn' (fun k x (s : List Int × List (Point × Bool)) next => M_drill_Repeated_L1 k x s.1 s.2 (fun l2 m2 => next (l2, m2))) (fun (s : List Int × List (Point × Bool)) => (fun (l2 : List Int) (m2 : List (Point × Bool)) => Q l2 0) s.1 s.2) l 0 (([] : List Int), ([] : List (Point × Bool))))
set_option maxHeartbeats 1000000 in
theorem R_drill_Repeated (l : (List Hole)) (w0 : World) (lA : Option Addr) (lC : Nat) (hv_l : View w0 (old w0 none_) lA lC l) (Q : (List Int) → Int → Prop) (h : M_drill_Repeated l Q) :
    Ret Try.prog 23 #[.slice lA l.length lC] w0 fun v w' => ∃ (r0 : (List Int)) (r0A : Option Addr) (r0C : Nat) (r1 : Int), v = .tuple #[.slice r0A r0.length r0C, .int .i64 r1] ∧ Q r0 r1 ∧ Sat w0 none_ [hown 3 r0A r0C r0] w' := by
  refine fn_enter Try.func23 rfl Try.ntmps23 rfl (fs := [(0, .slice lA l.length lC)]) rfl (fun a hf => ?_)
  have hs := Sat.start w0 none_
  unfold M_drill_Repeated at h
  refine wp_seq ?_
  refine R.list ?_
  refine S.val hf hs (v := .slice none 0 0) rfl rfl rfl (V.pure rfl) (fun a hf => ?_)
  refine S.val hf hs (v := .int .i64 0) rfl rfl rfl (V.pure rfl) (fun a hf => ?_)
  refine R.nil ?_
  refine X.then_ ?_
  refine wp_seq ?_
  refine wp_seq ?_
  refine R.list ?_
  refine S.val hf hs (v := .slice lA l.length lC) rfl rfl rfl (V.pure rfl) (fun a hf => ?_)
  refine S.call hf rfl rfl rfl (call_fn (vs := [.slice lA l.length lC]) rfl rfl rfl Try.call54) (R_drill_CheckHoles l _ lA lC ((Ag.args _ _ _).view hv_l hs) _ h) (fun v a w' hf hr => ?_)
  obtain ⟨y1, rfl, h2, hs2⟩ := hr
  replace h := h2; replace hs := hs.call hs2; clear h2 hs2
  refine S.val hf hs (v := .int .i64 y1) rfl rfl rfl (V.pure rfl) (fun a hf => ?_)
  refine R.nil ?_
  refine X.then_ ?_
  refine wp_seq ?_
  refine R.list ?_
  refine S.val hf hs (v := .int .i64 y1) rfl rfl rfl (V.pure rfl) (fun a hf => ?_)
  refine S.val hf hs (v := .bool (y1 != 0)) rfl rfl rfl (V.pure rfl) (fun a hf => ?_)
  refine R.nil ?_
  refine X.then_ ?_
  refine C.cond hf (b := y1 != 0) rfl (fun hc => ?_) (fun hc => ?_)
  · replace h := h.1 hc
    refine wp_seq ?_
    refine R.list ?_
    refine S.val hf hs (v := .int .i64 y1) rfl rfl rfl (V.pure rfl) (fun a hf => ?_)
    refine S.val hf hs (v := .slice none 0 0) rfl rfl rfl (V.pure rfl) (fun a hf => ?_)
    refine S.val hf hs (v := .int .i64 y1) rfl rfl rfl (V.pure rfl) (fun a hf => ?_)
    refine R.nil ?_
    refine X.then_ ?_
    refine wp_ret ?_
    refine X.then_ret ?_
    replace hs := hs.nilOwn (α := Int) 3
    replace hs := hs.take 1
    exact L.ret hf (run_results2 Try.results23 (ResIs.tmp hf rfl) (ResIs.tmp hf rfl)) ⟨([] : List Int), none, 0, y1, rfl, h, hs⟩
  · replace h := h.2 hc
    refine wp_skip ?_
    refine X.then_ ?_
    refine wp_seq ?_
    refine R.list ?_
    refine S.makeMap hf hs rfl rfl rfl ek24 ek4 rfl (fun g1 a w hf hs => ?_)
    refine S.val hf hs (v := .map (some g1)) rfl rfl rfl (V.pure rfl) (fun a hf => ?_)
    refine R.nil ?_
    refine X.then_ ?_
    refine wp_seq ?_
    refine R.list ?_
    refine S.val hf hs (v := .slice none 0 0) rfl rfl rfl (V.pure rfl) (fun a hf => ?_)
    refine R.nil ?_
    refine X.then_ ?_
    refine wp_seq ?_
    refine wp_seq ?_
    refine R.list ?_
    refine S.val hf hs (v := .slice lA l.length lC) rfl rfl rfl (V.pure rfl) (fun a hf => ?_)
    refine S.val hf hs (v := .int .i64 (l.length : Int)) rfl rfl rfl (V.len rfl rfl Try.runUnderlying34) (fun a hf => ?_)
    refine S.val hf hs (v := .int .i64 0) rfl rfl rfl (V.pure rfl) (fun a hf => ?_)
    refine R.nil ?_
    refine X.then_ ?_
    refine wp_block ?_
    replace hs := hs.nilOwn (α := Int) 3
    have hlenk1 := hv_l.len64
    refine C.range (fun (ll : List Hole) a w => ∃ (k1 : Nat) (l2 : List Int) (l2A : Option Addr) (l2C : Nat) (m2 : List (Point × Bool)), l.drop k1 = ll ∧ k1 + ll.length = l.length ∧ forIn' (fun k x (s : List Int × List (Point × Bool)) next => M_drill_Repeated_L1 k x s.1 s.2 (fun l2 m2 => next (l2, m2))) (fun (s : List Int × List (Point × Bool)) => (fun (l2 : List Int) (m2 : List (Point × Bool)) => Q l2 0) s.1 s.2) ll k1 (l2, m2) ∧ FrOk 35 [(17, .int .i64 (k1 : Int)), (5, .map (some g1)), (6, .slice l2A l2.length l2C), (15, .slice lA l.length lC), (16, .int .i64 (l.length : Int))] a ∧ Sat w0 none_ [hown 3 l2A l2C l2, hmap g1 ek24 ek4 m2] w) l ⟨0, ([] : List Int), none, 0, ([] : List (Point × Bool)), rfl, Nat.zero_add _, h, (((((hf.nil.cons (hf.get 16 _ rfl)).cons (hf.get 15 _ rfl)).cons (hf.get 6 _ rfl)).cons (hf.get 5 _ rfl)).cons (hf.get 17 _ rfl)), hs⟩ ?_
    clear h hf hs
    rintro llk1 a w ⟨k1, l2, l2A, l2C, m2, hlk1, hkk1, h, hf, hs⟩
    cases llk1 with
    | nil =>
      have hc := range_done hkk1
      replace h : (fun (l2 : List Int) (m2 : List (Point × Bool)) => Q l2 0) l2 m2 := h
      refine wp_seq ?_
      refine R.list ?_
      refine S.val hf hs (v := .bool false) rfl rfl rfl (V.cmp false rfl rfl rfl rfl hc) (fun a hf => ?_)
      refine R.nil ?_
      refine X.then_ ?_
      refine wp_seq ?_
      refine C.no hf rfl ?_
      refine wp_exit ?_
      refine X.then_exit ?_
      refine X.then_exit ?_
      refine X.blk_exit ?_
      refine X.then_ ?_
      refine wp_seq ?_
      refine R.list ?_
      refine S.val hf hs (v := .slice l2A l2.length l2C) rfl rfl rfl (V.pure rfl) (fun a hf => ?_)
      refine S.val hf hs (v := .slice l2A l2.length l2C) rfl rfl rfl (V.pure rfl) (fun a hf => ?_)
      refine S.val hf hs (v := .int .i64 0) rfl rfl rfl (V.pure rfl) (fun a hf => ?_)
      refine R.nil ?_
      refine X.then_ ?_
      refine wp_ret ?_
      replace hs := hs.take 1
      exact L.ret hf (run_results2 Try.results23 (ResIs.tmp hf rfl) (ResIs.tmp hf rfl)) ⟨l2, l2A, l2C, 0, rfl, h, hs⟩
    | cons xk1 llk1 =>
      have hltk1 := range_lt hkk1; have hc := range_go hkk1; have hxk1 := range_get hlk1
      obtain ⟨next1, hnext1⟩ : ∃ X : List Int → List (Point × Bool) → Prop, X = (fun l2 m2 => forIn' (fun k x (s : List Int × List (Point × Bool)) next => M_drill_Repeated_L1 k x s.1 s.2 (fun l2 m2 => next (l2, m2))) (fun (s : List Int × List (Point × Bool)) => (fun (l2 : List Int) (m2 : List (Point × Bool)) => Q l2 0) s.1 s.2) llk1 (k1 + 1) (l2, m2)) := ⟨_, rfl⟩
      replace h : M_drill_Repeated_L1 k1 xk1 l2 m2 next1 := by rw [hnext1]; exact h
      unfold M_drill_Repeated_L1 at h
      refine wp_seq ?_
      refine R.list ?_
      refine S.val hf hs (v := .bool true) rfl rfl rfl (V.cmp true rfl rfl rfl rfl hc) (fun a hf => ?_)
      refine R.nil ?_
      refine X.then_ ?_
      refine wp_seq ?_
      refine C.yes hf rfl ?_
      refine wp_skip ?_
      refine X.then_ ?_
      refine wp_seq ?_
      refine wp_block ?_
      refine wp_seq ?_
      refine R.list ?_
      refine S.val hf hs (v := .int .i64 (k1 : Int)) rfl rfl rfl (V.pure rfl) (fun a hf => ?_)
      refine S.val hf hs (v := elemPtr lA (k1 * 5)) rfl rfl rfl (V.index rfl rfl rfl Try.runUnderlying34 Try.sizeOf76 (hv_l.some_ (lt_of_get hxk1)) (Int.natCast_nonneg _) (lt_of_get hxk1) rfl) (fun a hf => ?_)
      refine S.val hf hs (v := .agg #[.int .i64 xk1.At.X, .int .i64 xk1.At.Y, .int .i64 xk1.Size, .int .i64 xk1.Depth, .bool xk1.Plated]) rfl rfl rfl (V.loadEl (off := 0) (Ag.args _ _ _) (hv_l.flat hxk1) rfl rfl rfl Try.isAgg76 Try.sizeOf76 rfl rfl) (fun a hf => ?_)
      refine S.alloc hf hs rfl rfl rfl [.int .i64 0, .int .i64 0, .int .i64 0, .int .i64 0, .bool false] rfl Try.zeroValue76 rfl (fun g2 a w hf hs => ?_)
      refine S.val hf hs (v := .int .i64 (k1 : Int)) rfl rfl rfl (V.pure rfl) (fun a hf => ?_)
      refine S.storeBox 0 hf hs rfl rfl [.int .i64 xk1.At.X, .int .i64 xk1.At.Y, .int .i64 xk1.Size, .int .i64 xk1.Depth, .bool xk1.Plated] [.int .i64 xk1.At.X, .int .i64 xk1.At.Y, .int .i64 xk1.Size, .int .i64 xk1.Depth, .bool xk1.Plated] rfl rfl rfl rfl rfl Try.sizeOf76 rfl rfl rfl rfl (fun a w hf hs => ?_)
      refine R.nil ?_
      refine X.then_ ?_
      refine wp_seq ?_
      refine C.cut (J := fun a w => ∃ (l3 : List Int) (l3A : Option Addr) (l3C : Nat), M_drill_Repeated_k2 xk1 m2 next1 l3 ∧ FrOk 35 [(5, .map (some g1)), (6, .slice l3A l3.length l3C), (8, .pointer (some ⟨g2, 0, none⟩)), (15, .slice lA l.length lC), (16, .int .i64 (l.length : Int)), (17, .int .i64 (k1 : Int))] a ∧ Sat w0 none_ [hbox g2 76 [.int .i64 xk1.At.X, .int .i64 xk1.At.Y, .int .i64 xk1.Size, .int .i64 xk1.Depth, .bool xk1.Plated], hown 3 l3A l3C l3, hmap g1 ek24 ek4 m2] w) ?_ ?_
      · rintro a w ⟨l3, l3A, l3C, h, hf, hs⟩
        unfold M_drill_Repeated_k2 at h
        refine R.list ?_
        refine S.val hf hs (v := .map (some g1)) rfl rfl rfl (V.pure rfl) (fun a hf => ?_)
        refine S.val hf hs (v := .pointer (some ⟨g2, 0, none⟩)) rfl rfl rfl (V.fieldBox rfl rfl Try.runUnderlying76 rfl Try.sizeOf24 rfl rfl) (fun a hf => ?_)
        refine S.val hf hs (v := .agg #[.int .i64 xk1.At.X, .int .i64 xk1.At.Y]) rfl rfl rfl (V.loadBox 0 rfl rfl rfl Try.isAgg24 Try.sizeOf24 rfl rfl) (fun a hf => ?_)
        refine S.mapUpdate 2 hf hs rfl rfl rfl xk1.At true rfl rfl rfl rfl Try.runUnderlying86 key24 (fun a w hf hs => ?_)
        refine R.nil ?_
        refine X.blk ?_
        refine X.then_ ?_
        refine R.list ?_
        refine S.val hf hs (v := .int .i64 ((k1 + 1 : Nat) : Int)) rfl rfl rfl (V.incr rfl rfl rfl hltk1 hlenk1) (fun a hf => ?_)
        refine S.val hf hs (v := .int .i64 ((k1 + 1 : Nat) : Int)) rfl rfl rfl (V.pure rfl) (fun a hf => ?_)
        refine R.nil ?_
        refine X.then_ ?_
        exact ⟨xk1, llk1, rfl, k1 + 1, l3, l3A, l3C, (mput m2 xk1.At true), range_drop hlk1, range_len hkk1, (by rw [hnext1] at h; exact h), (((((hf.nil.cons (hf.get 16 _ rfl)).cons (hf.get 15 _ rfl)).cons (hf.get 6 _ rfl)).cons (hf.get 5 _ rfl)).cons (hf.get 17 _ rfl)), hs.drop⟩
      · skip
        refine wp_seq ?_
        refine R.list ?_
        refine S.val hf hs (v := .map (some g1)) rfl rfl rfl (V.pure rfl) (fun a hf => ?_)
        refine S.val hf hs (v := .pointer (some ⟨g2, 0, none⟩)) rfl rfl rfl (V.fieldBox rfl rfl Try.runUnderlying76 rfl Try.sizeOf24 rfl rfl) (fun a hf => ?_)
        refine S.val hf hs (v := .agg #[.int .i64 xk1.At.X, .int .i64 xk1.At.Y]) rfl rfl rfl (V.loadBox 0 rfl rfl rfl Try.isAgg24 Try.sizeOf24 rfl rfl) (fun a hf => ?_)
        refine S.val hf hs (v := .bool ((mget m2 xk1.At).getD false)) rfl rfl rfl (V.lookup 2 rfl (k := xk1.At) (u := ((mget m2 xk1.At).getD false)) (z := false) rfl rfl rfl Try.runUnderlying86 key24 Try.zeroValue4 rfl rfl) (fun a hf => ?_)
        refine R.nil ?_
        refine X.then_ ?_
        refine C.cond hf (b := ((mget m2 xk1.At).getD false)) rfl (fun hc => ?_) (fun hc => ?_)
        · replace h := h.1 hc
          refine R.list ?_
          refine S.val hf hs (v := .slice l2A l2.length l2C) rfl rfl rfl (V.pure rfl) (fun a hf => ?_)
          refine S.val hf hs (v := .int .i64 (k1 : Int)) rfl rfl rfl (V.pure rfl) (fun a hf => ?_)
          refine S.build1 hf hs rfl rfl rfl (α := Int) (k1 : Int) rfl rfl rfl Try.runUnderlying28 Try.sizeOf3 Try.zeroValue3 rfl (by decide) (fun A1 a w hf hs => ?_)
          obtain ⟨hroom, h⟩ := h
          refine S.appendCells 2 hf hs rfl rfl rfl rfl rfl rfl rfl Try.underlying28 info3 rfl hroom ((hs.ownView 0 rfl).some_ (i := 0) (by simp)) (hs.ownView 0 rfl) (fun A2 C1 a w hf hs => ?_)
          replace hs := hs.drop
          refine S.val hf hs (v := .slice A2 (l2 ++ [(k1 : Int)]).length C1) rfl rfl rfl (V.pure rfl) (fun a hf => ?_)
          refine R.nil ?_
          refine X.then_ ?_
          exact ⟨(l2 ++ [(k1 : Int)]), A2, C1, h, ((((((hf.nil.cons (hf.get 17 _ rfl)).cons (hf.get 16 _ rfl)).cons (hf.get 15 _ rfl)).cons (hf.get 8 _ rfl)).cons (hf.get 6 _ rfl)).cons (hf.get 5 _ rfl)), hs⟩
        · replace h := h.2 hc
          refine wp_skip ?_
          refine X.then_ ?_
          exact ⟨l2, l2A, l2C, h, ((((((hf.nil.cons (hf.get 17 _ rfl)).cons (hf.get 16 _ rfl)).cons (hf.get 15 _ rfl)).cons (hf.get 8 _ rfl)).cons (hf.get 6 _ rfl)).cons (hf.get 5 _ rfl)), hs⟩

set_option linter.unusedVariables false
def M_ref8_Repeated_L2 (k1 : Nat) (xk1 : Hole) (l2 : List Int) (next1 : List Int → Prop) (k2 : Nat) (xk2 : Hole)  (next2 : Prop) : Prop :=
  cnd (decide (xk2.At = xk1.At)) (must (room (l2 ++ [(k1 : Int)]).length 8) (next1 (l2 ++ [(k1 : Int)]))) (next2)
def M_ref8_Repeated_L1 (l : (List Hole)) (k1 : Nat) (xk1 : Hole) (l2 : List Int) (next1 : List Int → Prop) : Prop :=
  must (0 ≤ (0 : Int) ∧ (0 : Int) ≤ (k1 : Int) ∧ (k1 : Int) ≤ (l.length : Int)) (forIn' (fun k x (s : Unit) next => M_ref8_Repeated_L2 k1 xk1 l2 next1 k x (next ())) (fun (s : Unit) => next1 l2) (seg l (0 : Int) (k1 : Int)) 0 ())
def M_ref8_Repeated (l : (List Hole)) (Q : (List Int) → Int → Prop) : Prop :=
  M_ref8_CheckHoles l fun y1 => cnd (y1 != 0) (Q ([] : List Int) y1) (forIn' (fun k x (s : List Int) next => M_ref8_Repeated_L1 l k x s (fun l2 => next l2)) (fun (s : List Int) => (fun (l2 : List Int) => Q l2 0) s) l 0 ([] : List Int))
set_option maxHeartbeats 1000000 in
theorem R_ref8_Repeated (l : (List Hole)) (w0 : World) (lA : Option Addr) (lC : Nat) (hv_l : View w0 (old w0 none_) lA lC l) (Q : (List Int) → Int → Prop) (h : M_ref8_Repeated l Q) :
    Ret Try.prog 24 #[.slice lA l.length lC] w0 fun v w' => ∃ (r0 : (List Int)) (r0A : Option Addr) (r0C : Nat) (r1 : Int), v = .tuple #[.slice r0A r0.length r0C, .int .i64 r1] ∧ Q r0 r1 ∧ Sat w0 none_ [hown 3 r0A r0C r0] w' := by
  refine fn_enter Try.func24 rfl Try.ntmps24 rfl (fs := [(0, .slice lA l.length lC)]) rfl (fun a hf => ?_)
  have hs := Sat.start w0 none_
  unfold M_ref8_Repeated at h
  refine wp_seq ?_
  refine R.list ?_
  refine S.val hf hs (v := .slice none 0 0) rfl rfl rfl (V.pure rfl) (fun a hf => ?_)
  refine S.val hf hs (v := .int .i64 0) rfl rfl rfl (V.pure rfl) (fun a hf => ?_)
  refine R.nil ?_
  refine X.then_ ?_
  refine wp_seq ?_
  refine wp_seq ?_
  refine R.list ?_
  refine S.val hf hs (v := .slice lA l.length lC) rfl rfl rfl (V.pure rfl) (fun a hf => ?_)
  refine S.call hf rfl rfl rfl (call_fn (vs := [.slice lA l.length lC]) rfl rfl rfl Try.call58) (R_ref8_CheckHoles l _ lA lC ((Ag.args _ _ _).view hv_l hs) _ h) (fun v a w' hf hr => ?_)
  obtain ⟨y1, rfl, h2, hs2⟩ := hr
  replace h := h2; replace hs := hs.call hs2; clear h2 hs2
  refine S.val hf hs (v := .int .i64 y1) rfl rfl rfl (V.pure rfl) (fun a hf => ?_)
  refine R.nil ?_
  refine X.then_ ?_
  refine wp_seq ?_
  refine R.list ?_
  refine S.val hf hs (v := .int .i64 y1) rfl rfl rfl (V.pure rfl) (fun a hf => ?_)
  refine S.val hf hs (v := .bool (y1 != 0)) rfl rfl rfl (V.pure rfl) (fun a hf => ?_)
  refine R.nil ?_
  refine X.then_ ?_
  refine C.cond hf (b := y1 != 0) rfl (fun hc => ?_) (fun hc => ?_)
  · replace h := h.1 hc
    refine wp_seq ?_
    refine R.list ?_
    refine S.val hf hs (v := .int .i64 y1) rfl rfl rfl (V.pure rfl) (fun a hf => ?_)
    refine S.val hf hs (v := .slice none 0 0) rfl rfl rfl (V.pure rfl) (fun a hf => ?_)
    refine S.val hf hs (v := .int .i64 y1) rfl rfl rfl (V.pure rfl) (fun a hf => ?_)
    refine R.nil ?_
    refine X.then_ ?_
    refine wp_ret ?_
    refine X.then_ret ?_
    replace hs := hs.nilOwn (α := Int) 3
    replace hs := hs.take 1
    exact L.ret hf (run_results2 Try.results24 (ResIs.tmp hf rfl) (ResIs.tmp hf rfl)) ⟨([] : List Int), none, 0, y1, rfl, h, hs⟩
  · replace h := h.2 hc
    refine wp_skip ?_
    refine X.then_ ?_
    refine wp_seq ?_
    refine R.list ?_
    refine S.val hf hs (v := .slice none 0 0) rfl rfl rfl (V.pure rfl) (fun a hf => ?_)
    refine R.nil ?_
    refine X.then_ ?_
    refine wp_seq ?_
    refine wp_seq ?_
    refine R.list ?_
    refine S.val hf hs (v := .slice lA l.length lC) rfl rfl rfl (V.pure rfl) (fun a hf => ?_)
    refine S.val hf hs (v := .int .i64 (l.length : Int)) rfl rfl rfl (V.len rfl rfl Try.runUnderlying34) (fun a hf => ?_)
    refine S.val hf hs (v := .int .i64 0) rfl rfl rfl (V.pure rfl) (fun a hf => ?_)
    refine R.nil ?_
    refine X.then_ ?_
    refine wp_block ?_
    replace hs := hs.nilOwn (α := Int) 3
    have hlenk1 := hv_l.len64
    refine C.range (fun (ll : List Hole) a w => ∃ (k1 : Nat) (l2 : List Int) (l2A : Option Addr) (l2C : Nat), l.drop k1 = ll ∧ k1 + ll.length = l.length ∧ forIn' (fun k x (s : List Int) next => M_ref8_Repeated_L1 l k x s (fun l2 => next l2)) (fun (s : List Int) => (fun (l2 : List Int) => Q l2 0) s) ll k1 l2 ∧ FrOk 42 [(17, .int .i64 (k1 : Int)), (0, .slice lA l.length lC), (5, .slice l2A l2.length l2C), (15, .slice lA l.length lC), (16, .int .i64 (l.length : Int))] a ∧ Sat w0 none_ [hown 3 l2A l2C l2] w) l ⟨0, ([] : List Int), none, 0, rfl, Nat.zero_add _, h, (((((hf.nil.cons (hf.get 16 _ rfl)).cons (hf.get 15 _ rfl)).cons (hf.get 5 _ rfl)).cons (hf.get 0 _ rfl)).cons (hf.get 17 _ rfl)), hs⟩ ?_
    clear h hf hs
    rintro llk1 a w ⟨k1, l2, l2A, l2C, hlk1, hkk1, h, hf, hs⟩
    cases llk1 with
    | nil =>
      have hc := range_done hkk1
      replace h : (fun (l2 : List Int) => Q l2 0) l2 := h
      refine wp_seq ?_
      refine R.list ?_
      refine S.val hf hs (v := .bool false) rfl rfl rfl (V.cmp false rfl rfl rfl rfl hc) (fun a hf => ?_)
      refine R.nil ?_
      refine X.then_ ?_
      refine wp_seq ?_
      refine C.no hf rfl ?_
      refine wp_exit ?_
      refine X.then_exit ?_
      refine X.then_exit ?_
      refine X.blk_exit ?_
      refine X.then_ ?_
      refine wp_seq ?_
      refine R.list ?_
      refine S.val hf hs (v := .slice l2A l2.length l2C) rfl rfl rfl (V.pure rfl) (fun a hf => ?_)
      refine S.val hf hs (v := .slice l2A l2.length l2C) rfl rfl rfl (V.pure rfl) (fun a hf => ?_)
      refine S.val hf hs (v := .int .i64 0) rfl rfl rfl (V.pure rfl) (fun a hf => ?_)
      refine R.nil ?_
      refine X.then_ ?_
      refine wp_ret ?_
      replace hs := hs.take 1
      exact L.ret hf (run_results2 Try.results24 (ResIs.tmp hf rfl) (ResIs.tmp hf rfl)) ⟨l2, l2A, l2C, 0, rfl, h, hs⟩
    | cons xk1 llk1 =>
      have hltk1 := range_lt hkk1; have hc := range_go hkk1; have hxk1 := range_get hlk1
      obtain ⟨next1, hnext1⟩ : ∃ X : List Int → Prop, X = (fun l2 => forIn' (fun k x (s : List Int) next => M_ref8_Repeated_L1 l k x s (fun l2 => next l2)) (fun (s : List Int) => (fun (l2 : List Int) => Q l2 0) s) llk1 (k1 + 1) l2) := ⟨_, rfl⟩
      replace h : M_ref8_Repeated_L1 l k1 xk1 l2 next1 := by rw [hnext1]; exact h
      unfold M_ref8_Repeated_L1 at h
      refine wp_seq ?_
      refine R.list ?_
      refine S.val hf hs (v := .bool true) rfl rfl rfl (V.cmp true rfl rfl rfl rfl hc) (fun a hf => ?_)
      refine R.nil ?_
      refine X.then_ ?_
      refine wp_seq ?_
      refine C.yes hf rfl ?_
      refine wp_skip ?_
      refine X.then_ ?_
      refine wp_seq ?_
      refine wp_block ?_
      refine wp_seq ?_
      refine R.list ?_
      refine S.val hf hs (v := .int .i64 (k1 : Int)) rfl rfl rfl (V.pure rfl) (fun a hf => ?_)
      refine S.val hf hs (v := elemPtr lA (k1 * 5)) rfl rfl rfl (V.index rfl rfl rfl Try.runUnderlying34 Try.sizeOf76 (hv_l.some_ (lt_of_get hxk1)) (Int.natCast_nonneg _) (lt_of_get hxk1) rfl) (fun a hf => ?_)
      refine S.val hf hs (v := .agg #[.int .i64 xk1.At.X, .int .i64 xk1.At.Y, .int .i64 xk1.Size, .int .i64 xk1.Depth, .bool xk1.Plated]) rfl rfl rfl (V.loadEl (off := 0) (Ag.args _ _ _) (hv_l.flat hxk1) rfl rfl rfl Try.isAgg76 Try.sizeOf76 rfl rfl) (fun a hf => ?_)
      refine S.alloc hf hs rfl rfl rfl [.int .i64 0, .int .i64 0, .int .i64 0, .int .i64 0, .bool false] rfl Try.zeroValue76 rfl (fun g1 a w hf hs => ?_)
      refine S.val hf hs (v := .int .i64 (k1 : Int)) rfl rfl rfl (V.pure rfl) (fun a hf => ?_)
      refine S.storeBox 0 hf hs rfl rfl [.int .i64 xk1.At.X, .int .i64 xk1.At.Y, .int .i64 xk1.Size, .int .i64 xk1.Depth, .bool xk1.Plated] [.int .i64 xk1.At.X, .int .i64 xk1.At.Y, .int .i64 xk1.Size, .int .i64 xk1.Depth, .bool xk1.Plated] rfl rfl rfl rfl rfl Try.sizeOf76 rfl rfl rfl rfl (fun a w hf hs => ?_)
      refine R.nil ?_
      refine X.then_ ?_
      refine wp_seq ?_
      refine R.list ?_
      refine S.val hf hs (v := .slice lA l.length lC) rfl rfl rfl (V.pure rfl) (fun a hf => ?_)
      refine S.val hf hs (v := .int .i64 (k1 : Int)) rfl rfl rfl (V.pure rfl) (fun a hf => ?_)
      obtain ⟨hp1, h⟩ := h
      refine S.val hf hs (v := .slice (segA lA lC ((0 : Int) : Int).toNat 5) (seg l (0 : Int) (k1 : Int)).length (lC - ((0 : Int) : Int).toNat)) rfl rfl rfl (V.slice rfl rfl rfl rfl Try.runUnderlying34 Try.sizeOf76 rfl rfl hp1 hv_l.cap (seg_length (by have := hp1.2.2; omega))) (fun a hf => ?_)
      refine S.val hf hs (v := .int .i64 ((seg l (0 : Int) (k1 : Int)).length : Int)) rfl rfl rfl (V.len rfl rfl Try.runUnderlying34) (fun a hf => ?_)
      refine S.val hf hs (v := .int .i64 0) rfl rfl rfl (V.pure rfl) (fun a hf => ?_)
      refine R.nil ?_
      refine X.then_ ?_
      refine wp_block ?_
      have hlenk2 := (View.sub hv_l hp1).len64
      refine C.range (fun (ll : List Hole) a w => ∃ (k2 : Nat) , (seg l (0 : Int) (k1 : Int)).drop k2 = ll ∧ k2 + ll.length = (seg l (0 : Int) (k1 : Int)).length ∧ forIn' (fun k x (s : Unit) next => M_ref8_Repeated_L2 k1 xk1 l2 next1 k x (next ())) (fun (s : Unit) => next1 l2) ll k2 () ∧ FrOk 42 [(26, .int .i64 (k2 : Int)), (0, .slice lA l.length lC), (5, .slice l2A l2.length l2C), (6, .int .i64 (k1 : Int)), (7, .pointer (some ⟨g1, 0, none⟩)), (15, .slice lA l.length lC), (16, .int .i64 (l.length : Int)), (17, .int .i64 (k1 : Int)), (24, .slice (segA lA lC ((0 : Int) : Int).toNat 5) (seg l (0 : Int) (k1 : Int)).length (lC - ((0 : Int) : Int).toNat)), (25, .int .i64 ((seg l (0 : Int) (k1 : Int)).length : Int))] a ∧ Sat w0 none_ [hbox g1 76 [.int .i64 xk1.At.X, .int .i64 xk1.At.Y, .int .i64 xk1.Size, .int .i64 xk1.Depth, .bool xk1.Plated], hown 3 l2A l2C l2] w) (seg l (0 : Int) (k1 : Int)) ⟨0, rfl, Nat.zero_add _, h, ((((((((((hf.nil.cons (hf.get 25 _ rfl)).cons (hf.get 24 _ rfl)).cons (hf.get 17 _ rfl)).cons (hf.get 16 _ rfl)).cons (hf.get 15 _ rfl)).cons (hf.get 7 _ rfl)).cons (hf.get 6 _ rfl)).cons (hf.get 5 _ rfl)).cons (hf.get 0 _ rfl)).cons (hf.get 26 _ rfl)), hs⟩ ?_
      clear h hf hs
      rintro llk2 a w ⟨k2, hlk2, hkk2, h, hf, hs⟩
      cases llk2 with
      | nil =>
        have hc := range_done hkk2
        replace h : next1 l2 := h
        refine wp_seq ?_
        refine R.list ?_
        refine S.val hf hs (v := .bool false) rfl rfl rfl (V.cmp false rfl rfl rfl rfl hc) (fun a hf => ?_)
        refine R.nil ?_
        refine X.then_ ?_
        refine wp_seq ?_
        refine C.no hf rfl ?_
        refine wp_exit ?_
        refine X.then_exit ?_
        refine X.then_exit ?_
        refine X.blk_exit ?_
        refine X.blk ?_
        refine X.then_ ?_
        refine R.list ?_
        refine S.val hf hs (v := .int .i64 ((k1 + 1 : Nat) : Int)) rfl rfl rfl (V.incr rfl rfl rfl hltk1 hlenk1) (fun a hf => ?_)
        refine S.val hf hs (v := .int .i64 ((k1 + 1 : Nat) : Int)) rfl rfl rfl (V.pure rfl) (fun a hf => ?_)
        refine R.nil ?_
        refine X.then_ ?_
        exact ⟨xk1, llk1, rfl, k1 + 1, l2, l2A, l2C, range_drop hlk1, range_len hkk1, (by rw [hnext1] at h; exact h), (((((hf.nil.cons (hf.get 16 _ rfl)).cons (hf.get 15 _ rfl)).cons (hf.get 5 _ rfl)).cons (hf.get 0 _ rfl)).cons (hf.get 17 _ rfl)), hs.drop⟩
      | cons xk2 llk2 =>
        have hltk2 := range_lt hkk2; have hc := range_go hkk2; have hxk2 := range_get hlk2
        obtain ⟨next2, hnext2⟩ : ∃ X : Prop, X = (forIn' (fun k x (s : Unit) next => M_ref8_Repeated_L2 k1 xk1 l2 next1 k x (next ())) (fun (s : Unit) => next1 l2) llk2 (k2 + 1) ()) := ⟨_, rfl⟩
        replace h : M_ref8_Repeated_L2 k1 xk1 l2 next1 k2 xk2  next2 := by rw [hnext2]; exact h
        unfold M_ref8_Repeated_L2 at h
        refine wp_seq ?_
        refine R.list ?_
        refine S.val hf hs (v := .bool true) rfl rfl rfl (V.cmp true rfl rfl rfl rfl hc) (fun a hf => ?_)
        refine R.nil ?_
        refine X.then_ ?_
        refine wp_seq ?_
        refine C.yes hf rfl ?_
        refine wp_skip ?_
        refine X.then_ ?_
        refine wp_seq ?_
        refine wp_block ?_
        refine wp_seq ?_
        refine R.list ?_
        refine S.val hf hs (v := elemPtr (segA lA lC ((0 : Int) : Int).toNat 5) (k2 * 5)) rfl rfl rfl (V.index rfl rfl rfl Try.runUnderlying34 Try.sizeOf76 ((View.sub hv_l hp1).some_ (lt_of_get hxk2)) (Int.natCast_nonneg _) (lt_of_get hxk2) rfl) (fun a hf => ?_)
        refine S.val hf hs (v := .agg #[.int .i64 xk2.At.X, .int .i64 xk2.At.Y, .int .i64 xk2.Size, .int .i64 xk2.Depth, .bool xk2.Plated]) rfl rfl rfl (V.loadEl (off := 0) (Ag.args _ _ _) ((View.sub hv_l hp1).flat hxk2) rfl rfl rfl Try.isAgg76 Try.sizeOf76 rfl rfl) (fun a hf => ?_)
        refine S.alloc hf hs rfl rfl rfl [.int .i64 0, .int .i64 0, .int .i64 0, .int .i64 0, .bool false] rfl Try.zeroValue76 rfl (fun g2 a w hf hs => ?_)
        refine S.storeBox 0 hf hs rfl rfl [.int .i64 xk2.At.X, .int .i64 xk2.At.Y, .int .i64 xk2.Size, .int .i64 xk2.Depth, .bool xk2.Plated] [.int .i64 xk2.At.X, .int .i64 xk2.At.Y, .int .i64 xk2.Size, .int .i64 xk2.Depth, .bool xk2.Plated] rfl rfl rfl rfl rfl Try.sizeOf76 rfl rfl rfl rfl (fun a w hf hs => ?_)
        refine R.nil ?_
        refine X.then_ ?_
        refine wp_seq ?_
        refine R.list ?_
        refine S.val hf hs (v := .pointer (some ⟨g2, 0, none⟩)) rfl rfl rfl (V.fieldBox rfl rfl Try.runUnderlying76 rfl Try.sizeOf24 rfl rfl) (fun a hf => ?_)
        refine S.val hf hs (v := .agg #[.int .i64 xk2.At.X, .int .i64 xk2.At.Y]) rfl rfl rfl (V.loadBox 0 rfl rfl rfl Try.isAgg24 Try.sizeOf24 rfl rfl) (fun a hf => ?_)
        refine S.val hf hs (v := .pointer (some ⟨g1, 0, none⟩)) rfl rfl rfl (V.fieldBox rfl rfl Try.runUnderlying76 rfl Try.sizeOf24 rfl rfl) (fun a hf => ?_)
        refine S.val hf hs (v := .agg #[.int .i64 xk1.At.X, .int .i64 xk1.At.Y]) rfl rfl rfl (V.loadBox 1 rfl rfl rfl Try.isAgg24 Try.sizeOf24 rfl rfl) (fun a hf => ?_)
        refine S.val hf hs (v := .bool (decide (xk2.At = xk1.At))) rfl rfl rfl (V.aggeql rfl rfl rfl (by kernel_rfl) (fun w => eqS24 xk2.At xk1.At w)) (fun a hf => ?_)
        refine R.nil ?_
        refine X.then_ ?_
        refine C.cond hf (b := decide (xk2.At = xk1.At)) rfl (fun hc => ?_) (fun hc => ?_)
        · replace h := h.1 hc
          refine wp_seq ?_
          refine R.list ?_
          refine S.val hf hs (v := .slice l2A l2.length l2C) rfl rfl rfl (V.pure rfl) (fun a hf => ?_)
          refine S.val hf hs (v := .int .i64 (k1 : Int)) rfl rfl rfl (V.pure rfl) (fun a hf => ?_)
          refine S.build1 hf hs rfl rfl rfl (α := Int) (k1 : Int) rfl rfl rfl Try.runUnderlying28 Try.sizeOf3 Try.zeroValue3 rfl (by decide) (fun A1 a w hf hs => ?_)
          obtain ⟨hroom, h⟩ := h
          refine S.appendCells 3 hf hs rfl rfl rfl rfl rfl rfl rfl Try.underlying28 info3 rfl hroom ((hs.ownView 0 rfl).some_ (i := 0) (by simp)) (hs.ownView 0 rfl) (fun A2 C1 a w hf hs => ?_)
          replace hs := hs.drop
          refine S.val hf hs (v := .slice A2 (l2 ++ [(k1 : Int)]).length C1) rfl rfl rfl (V.pure rfl) (fun a hf => ?_)
          refine R.nil ?_
          refine X.then_ ?_
          refine wp_exit ?_
          refine X.blk_other rfl ?_
          refine X.then_exit ?_
          refine X.then_exit ?_
          refine X.blk_exit ?_
          refine X.blk ?_
          refine X.then_ ?_
          refine R.list ?_
          refine S.val hf hs (v := .int .i64 ((k1 + 1 : Nat) : Int)) rfl rfl rfl (V.incr rfl rfl rfl hltk1 hlenk1) (fun a hf => ?_)
          refine S.val hf hs (v := .int .i64 ((k1 + 1 : Nat) : Int)) rfl rfl rfl (V.pure rfl) (fun a hf => ?_)
          refine R.nil ?_
          refine X.then_ ?_
          exact ⟨xk1, llk1, rfl, k1 + 1, (l2 ++ [(k1 : Int)]), A2, C1, range_drop hlk1, range_len hkk1, (by rw [hnext1] at h; exact h), (((((hf.nil.cons (hf.get 16 _ rfl)).cons (hf.get 15 _ rfl)).cons (hf.get 5 _ rfl)).cons (hf.get 0 _ rfl)).cons (hf.get 17 _ rfl)), hs.drop.drop⟩
        · replace h := h.2 hc
          refine wp_skip ?_
          refine X.blk ?_
          refine X.then_ ?_
          refine R.list ?_
          refine S.val hf hs (v := .int .i64 ((k2 + 1 : Nat) : Int)) rfl rfl rfl (V.incr rfl rfl rfl hltk2 hlenk2) (fun a hf => ?_)
          refine S.val hf hs (v := .int .i64 ((k2 + 1 : Nat) : Int)) rfl rfl rfl (V.pure rfl) (fun a hf => ?_)
          refine R.nil ?_
          refine X.then_ ?_
          exact ⟨xk2, llk2, rfl, k2 + 1, range_drop hlk2, range_len hkk2, (by rw [hnext2] at h; exact h), ((((((((((hf.nil.cons (hf.get 25 _ rfl)).cons (hf.get 24 _ rfl)).cons (hf.get 17 _ rfl)).cons (hf.get 16 _ rfl)).cons (hf.get 15 _ rfl)).cons (hf.get 7 _ rfl)).cons (hf.get 6 _ rfl)).cons (hf.get 5 _ rfl)).cons (hf.get 0 _ rfl)).cons (hf.get 26 _ rfl)), hs.drop⟩

set_option linter.unusedVariables false
def M_equal_pair_L1 (s2 : (List Pair)) (Q : Bool → Prop) (k1 : Nat) (xk1 : Pair)  (next1 : Prop) : Prop :=
  idx s2 (k1 : Int) fun x1 => cnd (!(decide (xk1 = x1))) (Q false) (next1)
def M_equal_pair (s1 : (List Pair)) (s2 : (List Pair)) (Q : Bool → Prop) : Prop :=
  cnd ((s1.length : Int) != (s2.length : Int)) (Q false) (forIn' (fun k x (s : Unit) next => M_equal_pair_L1 s2 Q k x (next ())) (fun (s : Unit) => Q true) s1 0 ())
set_option maxHeartbeats 1000000 in
theorem R_equal_pair (s1 : (List Pair)) (s2 : (List Pair)) (w0 : World) (s1A : Option Addr) (s1C : Nat) (hv_s1 : View w0 (old w0 none_) s1A s1C s1) (s2A : Option Addr) (s2C : Nat) (hv_s2 : View w0 (old w0 none_) s2A s2C s2) (Q : Bool → Prop) (h : M_equal_pair s1 s2 Q) :
    Ret Try.prog 26 #[.slice s1A s1.length s1C, .slice s2A s2.length s2C] w0 fun v w' => ∃ (r0 : Bool), v = .bool r0 ∧ Q r0 ∧ Sat w0 none_ [] w' := by
  refine fn_enter Try.func26 rfl Try.ntmps26 rfl (fs := [(0, .slice s1A s1.length s1C), (1, .slice s2A s2.length s2C)]) rfl (fun a hf => ?_)
  have hs := Sat.start w0 none_
  unfold M_equal_pair at h
  refine wp_seq ?_
  refine R.list ?_
  refine S.val hf hs (v := .bool false) rfl rfl rfl (V.pure rfl) (fun a hf => ?_)
  refine R.nil ?_
  refine X.then_ ?_
  refine wp_seq ?_
  refine wp_seq ?_
  refine R.list ?_
  refine S.val hf hs (v := .slice s1A s1.length s1C) rfl rfl rfl (V.pure rfl) (fun a hf => ?_)
  refine S.val hf hs (v := .int .i64 (s1.length : Int)) rfl rfl rfl (V.len rfl rfl Try.runUnderlying35) (fun a hf => ?_)
  refine S.val hf hs (v := .slice s2A s2.length s2C) rfl rfl rfl (V.pure rfl) (fun a hf => ?_)
  refine S.val hf hs (v := .int .i64 (s2.length : Int)) rfl rfl rfl (V.len rfl rfl Try.runUnderlying35) (fun a hf => ?_)
  refine S.val hf hs (v := .bool ((s1.length : Int) != (s2.length : Int))) rfl rfl rfl (V.pure rfl) (fun a hf => ?_)
  refine R.nil ?_
  refine X.then_ ?_
  refine C.cond hf (b := (s1.length : Int) != (s2.length : Int)) rfl (fun hc => ?_) (fun hc => ?_)
  · replace h := h.1 hc
    refine wp_seq ?_
    refine R.list ?_
    refine S.val hf hs (v := .bool false) rfl rfl rfl (V.pure rfl) (fun a hf => ?_)
    refine R.nil ?_
    refine X.then_ ?_
    refine wp_ret ?_
    refine X.then_ret ?_
    exact L.ret hf (run_results1 Try.results26 (ResIs.tmp hf rfl)) ⟨false, rfl, h, hs.nil⟩
  · replace h := h.2 hc
    refine wp_skip ?_
    refine X.then_ ?_
    refine wp_seq ?_
    refine wp_seq ?_
    refine R.list ?_
    refine S.val hf hs (v := .slice s1A s1.length s1C) rfl rfl rfl (V.pure rfl) (fun a hf => ?_)
    refine S.val hf hs (v := .int .i64 (s1.length : Int)) rfl rfl rfl (V.len rfl rfl Try.runUnderlying35) (fun a hf => ?_)
    refine S.val hf hs (v := .int .i64 0) rfl rfl rfl (V.pure rfl) (fun a hf => ?_)
    refine R.nil ?_
    refine X.then_ ?_
    refine wp_block ?_
    have hlenk1 := hv_s1.len64
    refine C.range (fun (ll : List Pair) a w => ∃ (k1 : Nat) , s1.drop k1 = ll ∧ k1 + ll.length = s1.length ∧ forIn' (fun k x (s : Unit) next => M_equal_pair_L1 s2 Q k x (next ())) (fun (s : Unit) => Q true) ll k1 () ∧ FrOk 26 [(13, .int .i64 (k1 : Int)), (0, .slice s1A s1.length s1C), (1, .slice s2A s2.length s2C), (12, .int .i64 (s1.length : Int))] a ∧ Sat w0 none_ [] w) s1 ⟨0, rfl, Nat.zero_add _, h, ((((hf.nil.cons (hf.get 12 _ rfl)).cons (hf.get 1 _ rfl)).cons (hf.get 0 _ rfl)).cons (hf.get 13 _ rfl)), hs⟩ ?_
    clear h hf hs
    rintro llk1 a w ⟨k1, hlk1, hkk1, h, hf, hs⟩
    cases llk1 with
    | nil =>
      have hc := range_done hkk1
      replace h : Q true := h
      refine wp_seq ?_
      refine R.list ?_
      refine S.val hf hs (v := .bool false) rfl rfl rfl (V.cmp false rfl rfl rfl rfl hc) (fun a hf => ?_)
      refine R.nil ?_
      refine X.then_ ?_
      refine wp_seq ?_
      refine C.no hf rfl ?_
      refine wp_exit ?_
      refine X.then_exit ?_
      refine X.then_exit ?_
      refine X.blk_exit ?_
      refine X.then_ ?_
      refine wp_seq ?_
      refine R.list ?_
      refine S.val hf hs (v := .bool true) rfl rfl rfl (V.pure rfl) (fun a hf => ?_)
      refine R.nil ?_
      refine X.then_ ?_
      refine wp_ret ?_
      exact L.ret hf (run_results1 Try.results26 (ResIs.tmp hf rfl)) ⟨true, rfl, h, hs.nil⟩
    | cons xk1 llk1 =>
      have hltk1 := range_lt hkk1; have hc := range_go hkk1; have hxk1 := range_get hlk1
      obtain ⟨next1, hnext1⟩ : ∃ X : Prop, X = (forIn' (fun k x (s : Unit) next => M_equal_pair_L1 s2 Q k x (next ())) (fun (s : Unit) => Q true) llk1 (k1 + 1) ()) := ⟨_, rfl⟩
      replace h : M_equal_pair_L1 s2 Q k1 xk1  next1 := by rw [hnext1]; exact h
      unfold M_equal_pair_L1 at h
      refine wp_seq ?_
      refine R.list ?_
      refine S.val hf hs (v := .bool true) rfl rfl rfl (V.cmp true rfl rfl rfl rfl hc) (fun a hf => ?_)
      refine R.nil ?_
      refine X.then_ ?_
      refine wp_seq ?_
      refine C.yes hf rfl ?_
      refine wp_skip ?_
      refine X.then_ ?_
      refine wp_seq ?_
      refine wp_block ?_
      refine wp_seq ?_
      refine R.list ?_
      refine S.val hf hs (v := .int .i64 (k1 : Int)) rfl rfl rfl (V.pure rfl) (fun a hf => ?_)
      refine S.val hf hs (v := .int .i64 (k1 : Int)) rfl rfl rfl (V.pure rfl) (fun a hf => ?_)
      refine R.nil ?_
      refine X.then_ ?_
      refine wp_seq ?_
      refine R.draw mo (by kernel_rfl) hs ?_
      refine D.val hf (v := .slice s1A s1.length s1C) rfl rfl rfl (V.pure rfl) (fun a hf => ?_)
      refine D.val hf (v := .int .i64 (k1 : Int)) rfl rfl rfl (V.pure rfl) (fun a hf => ?_)
      refine D.val hf (v := elemPtr s1A (k1 * 3)) rfl rfl rfl (V.index rfl rfl rfl Try.runUnderlying35 Try.sizeOf39 (hv_s1.some_ (lt_of_get hxk1)) (Int.natCast_nonneg _) (lt_of_get hxk1) rfl) (fun a hf => ?_)
      refine D.val hf (v := .agg #[.int .i64 xk1.A, .int .i64 xk1.B, .int .i64 xk1.Distance]) rfl rfl rfl (V.loadEl (off := 0) (Ag.args _ _ _) (hv_s1.flat hxk1) rfl rfl rfl Try.isAgg39 Try.sizeOf39 rfl rfl) (fun a hf => ?_)
      refine D.val hf (v := .slice s2A s2.length s2C) rfl rfl rfl (V.pure rfl) (fun a hf => ?_)
      refine D.val hf (v := .int .i64 (k1 : Int)) rfl rfl rfl (V.pure rfl) (fun a hf => ?_)
      obtain ⟨h0x1, x1, hx1, h⟩ := h
      refine D.val hf (v := elemPtr s2A (k1 * 3)) rfl rfl rfl (V.index rfl rfl rfl Try.runUnderlying35 Try.sizeOf39 (hv_s2.some_ (lt_of_get hx1)) (Int.natCast_nonneg _) (lt_of_get hx1) rfl) (fun a hf => ?_)
      refine D.val hf (v := .agg #[.int .i64 x1.A, .int .i64 x1.B, .int .i64 x1.Distance]) rfl rfl rfl (V.loadEl (off := 0) (Ag.args _ _ _) (hv_s2.flat hx1) rfl rfl rfl Try.isAgg39 Try.sizeOf39 rfl rfl) (fun a hf => ?_)
      refine D.val hf (v := .bool (!(decide (xk1 = x1)))) rfl rfl rfl (V.aggneq rfl rfl rfl (by kernel_rfl) (fun w => eqS39 xk1 x1 w)) (fun a hf => ?_)
      refine D.done (fun w hs => ?_)
      refine X.then_ ?_
      refine C.cond hf (b := !(decide (xk1 = x1))) rfl (fun hc => ?_) (fun hc => ?_)
      · replace h := h.1 hc
        refine wp_seq ?_
        refine R.list ?_
        refine S.val hf hs (v := .bool false) rfl rfl rfl (V.pure rfl) (fun a hf => ?_)
        refine R.nil ?_
        refine X.then_ ?_
        refine wp_ret ?_
        refine X.blk_ret ?_
        refine X.then_ret ?_
        refine X.then_ret ?_
        refine X.blk_ret ?_
        refine X.then_ret ?_
        exact L.ret hf (run_results1 Try.results26 (ResIs.tmp hf rfl)) ⟨false, rfl, h, hs.nil⟩
      · replace h := h.2 hc
        refine wp_skip ?_
        refine X.blk ?_
        refine X.then_ ?_
        refine R.list ?_
        refine S.val hf hs (v := .int .i64 ((k1 + 1 : Nat) : Int)) rfl rfl rfl (V.incr rfl rfl rfl hltk1 hlenk1) (fun a hf => ?_)
        refine S.val hf hs (v := .int .i64 ((k1 + 1 : Nat) : Int)) rfl rfl rfl (V.pure rfl) (fun a hf => ?_)
        refine R.nil ?_
        refine X.then_ ?_
        exact ⟨xk1, llk1, rfl, k1 + 1, range_drop hlk1, range_len hkk1, (by rw [hnext1] at h; exact h), ((((hf.nil.cons (hf.get 12 _ rfl)).cons (hf.get 1 _ rfl)).cons (hf.get 0 _ rfl)).cons (hf.get 13 _ rfl)), hs⟩

set_option linter.unusedVariables false
def M_law_NearMatches_k1 (l : (List Hole)) (below : Int) (Q : Bool → Prop) (c1 : Bool) : Prop :=
  cnd c1 (Q false) (M_drill_Near l below fun y5 y6 => M_ref8_Near l below fun y7 y8 => cnd (y6 == y8) (M_equal_pair y5 y7 fun y9 => cnd y9 (M_awake  fun y10 => Q y10) (Q false)) (Q false))
def M_law_NearMatches (l : (List Hole)) (below : Int) (Q : Bool → Prop) : Prop :=
  M_drill_Repeated l fun y1 y2 => M_ref8_Repeated l fun y3 y4 => cnd (y2 != y4) (M_law_NearMatches_k1 l below Q true) (M_equal_int y1 y3 fun y11 => M_law_NearMatches_k1 l below Q (!y11))
set_option maxHeartbeats 1000000 in
theorem R_law_NearMatches (l : (List Hole)) (below : Int) (w0 : World) (lA : Option Addr) (lC : Nat) (hv_l : View w0 (old w0 none_) lA lC l) (Q : Bool → Prop) (h : M_law_NearMatches l below Q) :
    Ret Try.prog 5 #[.slice lA l.length lC, .int .i64 below] w0 fun v w' => ∃ (r0 : Bool), v = .bool r0 ∧ Q r0 ∧ Sat w0 none_ [] w' := by
  refine fn_enter Try.func5 rfl Try.ntmps5 rfl (fs := [(0, .slice lA l.length lC), (1, .int .i64 below)]) rfl (fun a hf => ?_)
  have hs := Sat.start w0 none_
  unfold M_law_NearMatches at h
  refine wp_seq ?_
  refine R.list ?_
  refine S.val hf hs (v := .bool false) rfl rfl rfl (V.pure rfl) (fun a hf => ?_)
  refine R.nil ?_
  refine X.then_ ?_
  refine wp_seq ?_
  refine R.list ?_
  refine S.val hf hs (v := .slice lA l.length lC) rfl rfl rfl (V.pure rfl) (fun a hf => ?_)
  refine S.call hf rfl rfl rfl (call_fn (vs := [.slice lA l.length lC]) rfl rfl rfl Try.call23) (R_drill_Repeated l _ lA lC ((Ag.args _ _ _).view hv_l hs) _ h) (fun v a w' hf hr => ?_)
  obtain ⟨y1, y1A, y1C, y2, rfl, h2, hs2⟩ := hr
  replace h := h2; replace hs := hs.call hs2; clear h2 hs2
  refine S.val hf hs (v := .tuple #[.slice y1A y1.length y1C, .int .i64 y2]) rfl rfl rfl (V.pure rfl) (fun a hf => ?_)
  refine S.val hf hs (v := .slice y1A y1.length y1C) rfl rfl rfl (V.pure rfl) (fun a hf => ?_)
  refine S.val hf hs (v := .int .i64 y2) rfl rfl rfl (V.pure rfl) (fun a hf => ?_)
  refine S.val hf hs (v := .slice y1A y1.length y1C) rfl rfl rfl (V.pure rfl) (fun a hf => ?_)
  refine S.val hf hs (v := .int .i64 y2) rfl rfl rfl (V.pure rfl) (fun a hf => ?_)
  refine R.nil ?_
  refine X.then_ ?_
  refine wp_seq ?_
  refine R.list ?_
  refine S.val hf hs (v := .slice lA l.length lC) rfl rfl rfl (V.pure rfl) (fun a hf => ?_)
  refine S.call hf rfl rfl rfl (call_fn (vs := [.slice lA l.length lC]) rfl rfl rfl Try.call24) (R_ref8_Repeated l _ lA lC ((Ag.args _ _ _).view hv_l hs) _ h) (fun v a w' hf hr => ?_)
  obtain ⟨y3, y3A, y3C, y4, rfl, h2, hs2⟩ := hr
  replace h := h2; replace hs := hs.call hs2; clear h2 hs2
  refine S.val hf hs (v := .tuple #[.slice y3A y3.length y3C, .int .i64 y4]) rfl rfl rfl (V.pure rfl) (fun a hf => ?_)
  refine S.val hf hs (v := .slice y3A y3.length y3C) rfl rfl rfl (V.pure rfl) (fun a hf => ?_)
  refine S.val hf hs (v := .int .i64 y4) rfl rfl rfl (V.pure rfl) (fun a hf => ?_)
  refine S.val hf hs (v := .slice y3A y3.length y3C) rfl rfl rfl (V.pure rfl) (fun a hf => ?_)
  refine S.val hf hs (v := .int .i64 y4) rfl rfl rfl (V.pure rfl) (fun a hf => ?_)
  refine R.nil ?_
  refine X.then_ ?_
  refine wp_seq ?_
  refine wp_seq ?_
  refine C.cut (J := fun a w => ∃ (c1 : Bool), M_law_NearMatches_k1 l below Q c1 ∧ FrOk 53 [(0, .slice lA l.length lC), (1, .int .i64 below), (29, .bool c1)] a ∧ Sat w0 none_ [hown 3 y3A y3C y3, hown 3 y1A y1C y1] w) ?_ ?_
  · rintro a w ⟨c1, h, hf, hs⟩
    unfold M_law_NearMatches_k1 at h
    refine C.cond hf (b := c1) rfl (fun hc => ?_) (fun hc => ?_)
    · replace h := h.1 hc
      refine wp_seq ?_
      refine R.list ?_
      refine S.val hf hs (v := .bool false) rfl rfl rfl (V.pure rfl) (fun a hf => ?_)
      refine R.nil ?_
      refine X.then_ ?_
      refine wp_ret ?_
      refine X.then_ret ?_
      exact L.ret hf (run_results1 Try.results5 (ResIs.tmp hf rfl)) ⟨false, rfl, h, hs.nil⟩
    · replace h := h.2 hc
      refine wp_skip ?_
      refine X.then_ ?_
      refine wp_seq ?_
      refine R.list ?_
      refine S.val hf hs (v := .slice lA l.length lC) rfl rfl rfl (V.pure rfl) (fun a hf => ?_)
      refine S.val hf hs (v := .int .i64 below) rfl rfl rfl (V.pure rfl) (fun a hf => ?_)
      refine S.call hf rfl rfl rfl (call_fn (vs := [.slice lA l.length lC, .int .i64 below]) rfl rfl rfl Try.call21) (R_drill_Near l below _ lA lC ((Ag.args _ _ _).view hv_l hs) _ h) (fun v a w' hf hr => ?_)
      obtain ⟨y5, y5A, y5C, y6, rfl, h2, hs2⟩ := hr
      replace h := h2; replace hs := hs.call hs2; clear h2 hs2
      refine S.val hf hs (v := .tuple #[.slice y5A y5.length y5C, .int .i64 y6]) rfl rfl rfl (V.pure rfl) (fun a hf => ?_)
      refine S.val hf hs (v := .slice y5A y5.length y5C) rfl rfl rfl (V.pure rfl) (fun a hf => ?_)
      refine S.val hf hs (v := .int .i64 y6) rfl rfl rfl (V.pure rfl) (fun a hf => ?_)
      refine S.val hf hs (v := .slice y5A y5.length y5C) rfl rfl rfl (V.pure rfl) (fun a hf => ?_)
      refine S.val hf hs (v := .int .i64 y6) rfl rfl rfl (V.pure rfl) (fun a hf => ?_)
      refine R.nil ?_
      refine X.then_ ?_
      refine wp_seq ?_
      refine R.list ?_
      refine S.val hf hs (v := .slice lA l.length lC) rfl rfl rfl (V.pure rfl) (fun a hf => ?_)
      refine S.val hf hs (v := .int .i64 below) rfl rfl rfl (V.pure rfl) (fun a hf => ?_)
      refine S.call hf rfl rfl rfl (call_fn (vs := [.slice lA l.length lC, .int .i64 below]) rfl rfl rfl Try.call25) (R_ref8_Near l below _ lA lC ((Ag.args _ _ _).view hv_l hs) _ h) (fun v a w' hf hr => ?_)
      obtain ⟨y7, y7A, y7C, y8, rfl, h2, hs2⟩ := hr
      replace h := h2; replace hs := hs.call hs2; clear h2 hs2
      refine S.val hf hs (v := .tuple #[.slice y7A y7.length y7C, .int .i64 y8]) rfl rfl rfl (V.pure rfl) (fun a hf => ?_)
      refine S.val hf hs (v := .slice y7A y7.length y7C) rfl rfl rfl (V.pure rfl) (fun a hf => ?_)
      refine S.val hf hs (v := .int .i64 y8) rfl rfl rfl (V.pure rfl) (fun a hf => ?_)
      refine S.val hf hs (v := .slice y7A y7.length y7C) rfl rfl rfl (V.pure rfl) (fun a hf => ?_)
      refine S.val hf hs (v := .int .i64 y8) rfl rfl rfl (V.pure rfl) (fun a hf => ?_)
      refine R.nil ?_
      refine X.then_ ?_
      refine wp_seq ?_
      refine R.list ?_
      refine S.val hf hs (v := .int .i64 y6) rfl rfl rfl (V.pure rfl) (fun a hf => ?_)
      refine S.val hf hs (v := .int .i64 y8) rfl rfl rfl (V.pure rfl) (fun a hf => ?_)
      refine S.val hf hs (v := .bool (y6 == y8)) rfl rfl rfl (V.pure rfl) (fun a hf => ?_)
      refine S.split hf hs (b := y6 == y8) rfl rfl rfl (V.pure rfl) (fun hc a hf => ?_) (fun hc a hf => ?_)
      · replace h := h.1 hc
        refine S.val hf hs (v := .slice y5A y5.length y5C) rfl rfl rfl (V.pure rfl) (fun a hf => ?_)
        refine S.val hf hs (v := .slice y7A y7.length y7C) rfl rfl rfl (V.pure rfl) (fun a hf => ?_)
        refine S.call hf rfl rfl rfl (call_fn (vs := [.slice y5A y5.length y5C, .slice y7A y7.length y7C]) rfl rfl rfl Try.call26) (R_equal_pair y5 y7 _ y5A y5C (hs.ownView 1 rfl) y7A y7C (hs.ownView 0 rfl) _ h) (fun v a w' hf hr => ?_)
        obtain ⟨y9, rfl, h2, hs2⟩ := hr
        replace h := h2; replace hs := hs.call hs2; clear h2 hs2
        refine S.val hf hs (v := .bool y9) rfl rfl rfl (V.pure rfl) (fun a hf => ?_)
        refine S.split hf hs (b := y9) rfl rfl rfl (V.pure rfl) (fun hc a hf => ?_) (fun hc a hf => ?_)
        · replace h := h.1 hc
          refine S.call hf rfl rfl rfl (call_fn (vs := []) rfl rfl rfl Try.call20) (R_awake  _  _ h) (fun v a w' hf hr => ?_)
          obtain ⟨y10, rfl, h2, hs2⟩ := hr
          replace h := h2; replace hs := hs.call hs2; clear h2 hs2
          refine S.val hf hs (v := .bool y10) rfl rfl rfl (V.pure rfl) (fun a hf => ?_)
          refine S.val hf hs (v := .bool y10) rfl rfl rfl (V.pure rfl) (fun a hf => ?_)
          refine R.nil ?_
          refine X.then_ ?_
          refine wp_ret ?_
          exact L.ret hf (run_results1 Try.results5 (ResIs.tmp hf rfl)) ⟨y10, rfl, h, hs.nil⟩
        · replace h := h.2 hc
          refine S.skip hf rfl rfl rfl (fun a hf => ?_)
          refine S.val hf hs (v := .bool false) rfl rfl rfl (V.pure rfl) (fun a hf => ?_)
          refine S.val hf hs (v := .bool false) rfl rfl rfl (V.pure rfl) (fun a hf => ?_)
          refine R.nil ?_
          refine X.then_ ?_
          refine wp_ret ?_
          exact L.ret hf (run_results1 Try.results5 (ResIs.tmp hf rfl)) ⟨false, rfl, h, hs.nil⟩
      · replace h := h.2 hc
        refine S.skip hf rfl rfl rfl (fun a hf => ?_)
        refine S.skip hf rfl rfl rfl (fun a hf => ?_)
        refine S.skip hf rfl rfl rfl (fun a hf => ?_)
        refine S.val hf hs (v := .bool false) rfl rfl rfl (V.pure rfl) (fun a hf => ?_)
        refine S.val hf hs (v := .bool false) rfl rfl rfl (V.pure rfl) (fun a hf => ?_)
        refine S.skip hf rfl rfl rfl (fun a hf => ?_)
        refine S.val hf hs (v := .bool false) rfl rfl rfl (V.pure rfl) (fun a hf => ?_)
        refine S.val hf hs (v := .bool false) rfl rfl rfl (V.pure rfl) (fun a hf => ?_)
        refine R.nil ?_
        refine X.then_ ?_
        refine wp_ret ?_
        exact L.ret hf (run_results1 Try.results5 (ResIs.tmp hf rfl)) ⟨false, rfl, h, hs.nil⟩
  · skip
    refine R.list ?_
    refine S.val hf hs (v := .int .i64 y2) rfl rfl rfl (V.pure rfl) (fun a hf => ?_)
    refine S.val hf hs (v := .int .i64 y4) rfl rfl rfl (V.pure rfl) (fun a hf => ?_)
    refine S.val hf hs (v := .bool (y2 != y4)) rfl rfl rfl (V.pure rfl) (fun a hf => ?_)
    refine S.split hf hs (b := y2 != y4) rfl rfl rfl (V.pure rfl) (fun hc a hf => ?_) (fun hc a hf => ?_)
    · replace h := h.1 hc
      refine S.skip hf rfl rfl rfl (fun a hf => ?_)
      refine S.skip hf rfl rfl rfl (fun a hf => ?_)
      refine S.skip hf rfl rfl rfl (fun a hf => ?_)
      refine S.skip hf rfl rfl rfl (fun a hf => ?_)
      refine S.val hf hs (v := .bool true) rfl rfl rfl (V.pure rfl) (fun a hf => ?_)
      refine R.nil ?_
      refine X.then_ ?_
      exact ⟨true, h, (((hf.nil.cons (hf.get 29 _ rfl)).cons (hf.get 1 _ rfl)).cons (hf.get 0 _ rfl)), hs⟩
    · replace h := h.2 hc
      refine S.val hf hs (v := .slice y1A y1.length y1C) rfl rfl rfl (V.pure rfl) (fun a hf => ?_)
      refine S.val hf hs (v := .slice y3A y3.length y3C) rfl rfl rfl (V.pure rfl) (fun a hf => ?_)
      refine S.call hf rfl rfl rfl (call_fn (vs := [.slice y1A y1.length y1C, .slice y3A y3.length y3C]) rfl rfl rfl Try.call19) (R_equal_int y1 y3 _ y1A y1C (hs.ownView 1 rfl) y3A y3C (hs.ownView 0 rfl) _ h) (fun v a w' hf hr => ?_)
      obtain ⟨y11, rfl, h2, hs2⟩ := hr
      replace h := h2; replace hs := hs.call hs2; clear h2 hs2
      refine S.val hf hs (v := .bool (!y11)) rfl rfl rfl (V.pure rfl) (fun a hf => ?_)
      refine S.val hf hs (v := .bool (!y11)) rfl rfl rfl (V.pure rfl) (fun a hf => ?_)
      refine R.nil ?_
      refine X.then_ ?_
      exact ⟨(!y11), h, (((hf.nil.cons (hf.get 29 _ rfl)).cons (hf.get 1 _ rfl)).cons (hf.get 0 _ rfl)), hs⟩


def repTo (l : List Hole) : Nat → List Int
  | 0 => []
  | k + 1 => repTo l k ++ (if (l.take k).any (fun h => decide (h.At = (l.getD k default).At)) = true then [(k : Int)] else [])
theorem repTo_len (l : List Hole) : ∀ k, (repTo l k).length ≤ k
  | 0 => by simp [repTo]
  | k + 1 => by have := repTo_len l k; simp only [repTo, List.length_append]; split <;> simp <;> omega
theorem S_drill_Repeated {l : List Hole} {Q : List Int → Int → Prop} (h : if holesFault l = 0 then Q (repTo l l.length) 0 else Q [] (holesFault l)) : M_drill_Repeated l Q := by
  unfold M_drill_Repeated
  refine S_drill_CheckHoles (cnd_of (fun e => ?_) (fun e => ?_))
  · rw [if_neg (by simpa using e)] at h; exact h
  · have e' : holesFault l = 0 := by simpa using e
    rw [if_pos e'] at h
    have hl := holes_len e'
    refine forIn0 (fun k s => s.1 = repTo l k ∧ ∀ p, (mget s.2 p).getD false = (l.take k).any (fun h => decide (h.At = p))) ⟨rfl, fun p => by simp [mget]⟩ (fun k x s hx hI next hn => ?_) (fun s hI => by dsimp only; rw [hI.1]; exact h)
    obtain ⟨s1, s2⟩ := s
    obtain ⟨h1, h2⟩ := hI
    dsimp only at h1 h2
    subst h1
    unfold M_drill_Repeated_L1 M_drill_Repeated_k2
    dsimp only
    rw [h2]
    have hm : ∀ p, (mget (mput s2 x.At true) p).getD false = (l.take (k + 1)).any (fun h => decide (h.At = p)) := by
      intro p
      rw [mget_put, List.take_add_one, hx, List.any_append]
      simp only [Option.toList, List.any_cons, List.any_nil, Bool.or_false]
      rw [← h2 p]
      by_cases hp : x.At = p <;> simp [hp]
    have hlen := repTo_len l k
    refine cnd_of (fun e2 => ⟨room_of (by have := lt_of_get hx; simp only [List.length_append, List.length_singleton]; omega) (by omega), hn _ ⟨?_, hm⟩⟩) (fun e2 => hn _ ⟨?_, hm⟩)
    · dsimp only; rw [repTo, getD_of hx, if_pos e2]
    · dsimp only; rw [repTo, getD_of hx, if_neg (by rw [e2]; simp)]; simp
theorem S_ref8_Repeated {l : List Hole} {Q : List Int → Int → Prop} (h : if holesFault l = 0 then Q (repTo l l.length) 0 else Q [] (holesFault l)) : M_ref8_Repeated l Q := by
  unfold M_ref8_Repeated
  refine S_ref8_CheckHoles (cnd_of (fun e => ?_) (fun e => ?_))
  · rw [if_neg (by simpa using e)] at h; exact h
  · have e' : holesFault l = 0 := by simpa using e
    rw [if_pos e'] at h
    have hl := holes_len e'
    refine forIn0 (fun k s => s = repTo l k) rfl (fun k x s hx hI next hn => ?_) (fun s hI => by subst hI; exact h)
    subst hI
    have hk := lt_of_get hx
    unfold M_ref8_Repeated_L1
    refine ⟨by omega, ?_⟩
    have hs : seg l (0 : Int) (k : Int) = l.take k := by simp [seg]
    rw [hs]
    have hlen := repTo_len l k
    refine forIn_any (fun h => decide (h.At = x.At)) (fun i y next2 h2 => by unfold M_ref8_Repeated_L2; exact cnd_iff.2 h2) (l.take k) 0 (A := must (room (repTo l k ++ [(k : Int)]).length 8) (next (repTo l k ++ [(k : Int)]))) ?_
    split
    · rename_i e2
      refine ⟨room_of (by simp only [List.length_append, List.length_singleton]; omega) (by omega), hn _ ?_⟩
      rw [repTo, getD_of hx, if_pos e2]
    · rename_i e2
      refine hn _ ?_
      rw [repTo, getD_of hx, if_neg e2]; simp
theorem S_equal_pair {xs ys : List Pair} {Q : Bool → Prop} (h : Q (decide (xs = ys))) : M_equal_pair xs ys Q := by
  unfold M_equal_pair
  exact equal_loop (fun k x next h => h) h
theorem law_NearMatches_true (l : List Hole) (below : Int) : M_law_NearMatches l below (· = true) := by
  unfold M_law_NearMatches
  have aw : M_awake (fun y => y = true) := S_awake rfl
  have k1 : M_law_NearMatches_k1 l below (· = true) false := by
    unfold M_law_NearMatches_k1
    rw [cnd_false]
    refine S_drill_Near ?_
    split
    · rename_i e
      refine S_ref8_Near ?_
      rw [if_pos e]
      simp only [beq_self_eq_true, cnd_true]
      exact S_equal_pair (by simpa using aw)
    · rename_i e
      refine S_ref8_Near ?_
      rw [if_neg e]
      simp only [beq_self_eq_true, cnd_true]
      exact S_equal_pair (by simpa using aw)
  refine S_drill_Repeated ?_
  split
  · rename_i e
    refine S_ref8_Repeated ?_
    rw [if_pos e]
    simp only [bne_self_eq_false, cnd_false]
    exact S_equal_int (by simpa using k1)
  · rename_i e
    refine S_ref8_Repeated ?_
    rw [if_neg e]
    simp only [bne_self_eq_false, cnd_false]
    exact S_equal_int (by simpa using k1)
end Go.Proofs.Ytmopdabkfklefaa
