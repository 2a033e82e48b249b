/- Chapter 8: the walks of changes and seconds. -/
import Derived.Test.YtmopdabkfklefaaDrillE
namespace Go.Proofs.Ytmopdabkfklefaa
open Go Go.RowKit
set_option linter.unusedVariables false

set_option linter.unusedVariables false
def M_drill_changesOf_L2 (Q : (List Change) → Int → Prop) (k1 : Nat) (xk1 : Job) (next1 : List Change → Prop) (y1 : Bit) (again2 : List Change → Int → Int → Prop) (l4 : List Change) (n3 : Int) (n4 : Int) : Prop :=
  cnd (decide (n4 < (xk1.Holes.length : Int))) (must (room (l4 ++ [(⟨xk1.Tool, (k1 : Int), n4⟩ : Change)]).length 32) (again2 (l4 ++ [(⟨xk1.Tool, (k1 : Int), n4⟩ : Change)]) (w64 (n3 + 1)) (w64 (n4 + y1.Life)))) (cnd (decide (y1.Stack < w64 (n3 + 1))) (Q ([] : List Change) 9) (next1 l4))
def M_drill_changesOf_L1 (t : (List Bit)) (Q : (List Change) → Int → Prop) (k1 : Nat) (xk1 : Job) (l2 : List Change) (next1 : List Change → Prop) : Prop :=
  M_drill_toolAt t xk1.Tool fun y1 y2 => lp (fun again (s : List Change × Int × Int) => M_drill_changesOf_L2 Q k1 xk1 next1 y1 (fun l4 n3 n4 => again (l4, n3, n4)) s.1 s.2.1 s.2.2) (l2, 0, y1.Life)
def M_drill_changesOf (t : (List Bit)) (j : (List Job)) (Q : (List Change) → Int → Prop) : Prop :=
  forIn' (fun k x (s : List Change) next => M_drill_changesOf_L1 t Q k x s (fun l2 => next l2)) (fun (s : List Change) => (fun (l2 : List Change) => Q l2 0) s) j 0 ([] : List Change)
set_option maxHeartbeats 1000000 in
theorem R_drill_changesOf (t : (List Bit)) (j : (List Job)) (w0 : World) (tA : Option Addr) (tC : Nat) (hv_t : View w0 (old w0 none_) tA tC t) (jA : Option Addr) (jC : Nat) (hv_j : View w0 (old w0 none_) jA jC j) (Q : (List Change) → Int → Prop) (h : M_drill_changesOf t j Q) :
    Ret Try.prog 67 #[.slice tA t.length tC, .slice jA j.length jC] w0 fun v w' => ∃ (r0 : (List Change)) (r0A : Option Addr) (r0C : Nat) (r1 : Int), v = .tuple #[.slice r0A r0.length r0C, .int .i64 r1] ∧ Q r0 r1 ∧ Sat w0 none_ [hown 58 r0A r0C r0] w' := by
  refine fn_enter Try.func67 rfl Try.ntmps67 rfl (fs := [(0, .slice tA t.length tC), (1, .slice jA j.length jC)]) rfl (fun a hf => ?_)
  have hs := Sat.start w0 none_
  unfold M_drill_changesOf at h
  refine wp_seq ?_
  refine R.list ?_
  refine S.val hf hs (v := .slice none 0 0) rfl rfl rfl (V.pure rfl) (fun a hf => ?_)
  refine S.val hf hs (v := .int .i64 0) rfl rfl rfl (V.pure rfl) (fun a hf => ?_)
  refine R.nil ?_
  refine X.then_ ?_
  refine wp_seq ?_
  refine R.list ?_
  refine S.val hf hs (v := .slice none 0 0) rfl rfl rfl (V.pure rfl) (fun a hf => ?_)
  refine R.nil ?_
  refine X.then_ ?_
  refine wp_seq ?_
  refine wp_seq ?_
  refine R.list ?_
  refine S.val hf hs (v := .slice jA j.length jC) rfl rfl rfl (V.pure rfl) (fun a hf => ?_)
  refine S.val hf hs (v := .int .i64 (j.length : Int)) rfl rfl rfl (V.len rfl rfl Try.runUnderlying49) (fun a hf => ?_)
  refine S.val hf hs (v := .int .i64 0) rfl rfl rfl (V.pure rfl) (fun a hf => ?_)
  refine R.nil ?_
  refine X.then_ ?_
  refine wp_block ?_
  replace hs := hs.nilOwn (α := Change) 58
  have hlenk1 := hv_j.len64
  refine C.range (fun (ll : List Job) a w => ∃ (k1 : Nat) (l2 : List Change) (l2A : Option Addr) (l2C : Nat), j.drop k1 = ll ∧ k1 + ll.length = j.length ∧ forIn' (fun k x (s : List Change) next => M_drill_changesOf_L1 t Q k x s (fun l2 => next l2)) (fun (s : List Change) => (fun (l2 : List Change) => Q l2 0) s) ll k1 l2 ∧ FrOk 55 [(15, .int .i64 (k1 : Int)), (0, .slice tA t.length tC), (6, .slice l2A l2.length l2C), (13, .slice jA j.length jC), (14, .int .i64 (j.length : Int))] a ∧ Sat w0 none_ [hown 58 l2A l2C l2] w) j ⟨0, ([] : List Change), none, 0, rfl, Nat.zero_add _, h, (((((hf.nil.cons (hf.get 14 _ rfl)).cons (hf.get 13 _ rfl)).cons (hf.get 6 _ rfl)).cons (hf.get 0 _ rfl)).cons (hf.get 15 _ rfl)), hs⟩ ?_
  clear h hf hs
  rintro llk1 a w ⟨k1, l2, l2A, l2C, hlk1, hkk1, h, hf, hs⟩
  cases llk1 with
  | nil =>
    have hc := range_done hkk1
    replace h : (fun (l2 : List Change) => Q l2 0) l2 := h
    refine wp_seq ?_
    refine R.list ?_
    refine S.val hf hs (v := .bool false) rfl rfl rfl (V.cmp false rfl rfl rfl rfl hc) (fun a hf => ?_)
    refine R.nil ?_
    refine X.then_ ?_
    refine wp_seq ?_
    refine C.no hf rfl ?_
    refine wp_exit ?_
    refine X.then_exit ?_
    refine X.then_exit ?_
    refine X.blk_exit ?_
    refine X.then_ ?_
    refine wp_seq ?_
    refine R.list ?_
    refine S.val hf hs (v := .slice l2A l2.length l2C) rfl rfl rfl (V.pure rfl) (fun a hf => ?_)
    refine S.val hf hs (v := .slice l2A l2.length l2C) rfl rfl rfl (V.pure rfl) (fun a hf => ?_)
    refine S.val hf hs (v := .int .i64 0) rfl rfl rfl (V.pure rfl) (fun a hf => ?_)
    refine R.nil ?_
    refine X.then_ ?_
    refine wp_ret ?_
    replace hs := hs.take 1
    exact L.ret hf (run_results2 Try.results67 (ResIs.tmp hf rfl) (ResIs.tmp hf rfl)) ⟨l2, l2A, l2C, 0, rfl, h, hs⟩
  | cons xk1 llk1 =>
    have hltk1 := range_lt hkk1; have hc := range_go hkk1; have hxk1 := range_get hlk1
    obtain ⟨next1, hnext1⟩ : ∃ X : List Change → Prop, X = (fun l2 => forIn' (fun k x (s : List Change) next => M_drill_changesOf_L1 t Q k x s (fun l2 => next l2)) (fun (s : List Change) => (fun (l2 : List Change) => Q l2 0) s) llk1 (k1 + 1) l2) := ⟨_, rfl⟩
    replace h : M_drill_changesOf_L1 t Q k1 xk1 l2 next1 := by rw [hnext1]; exact h
    unfold M_drill_changesOf_L1 at h
    refine wp_seq ?_
    refine R.list ?_
    refine S.val hf hs (v := .bool true) rfl rfl rfl (V.cmp true rfl rfl rfl rfl hc) (fun a hf => ?_)
    refine R.nil ?_
    refine X.then_ ?_
    refine wp_seq ?_
    refine C.yes hf rfl ?_
    refine wp_skip ?_
    refine X.then_ ?_
    refine wp_seq ?_
    refine wp_block ?_
    refine wp_seq ?_
    refine R.list ?_
    refine S.val hf hs (v := .int .i64 (k1 : Int)) rfl rfl rfl (V.pure rfl) (fun a hf => ?_)
    obtain ⟨cs1, he1, hr1⟩ := hv_j.at_ _ _ hxk1
    obtain ⟨u1A, u1C, rfl, hvu1⟩ := hr1
    refine S.val hf hs (v := elemPtr jA (k1 * 2)) rfl rfl rfl (V.index rfl rfl rfl Try.runUnderlying49 Try.sizeOf54 (hv_j.some_ (lt_of_get hxk1)) (Int.natCast_nonneg _) (lt_of_get hxk1) rfl) (fun a hf => ?_)
    refine S.val hf hs (v := .agg #[.string (ba xk1.Tool), .slice u1A xk1.Holes.length u1C]) rfl rfl rfl (V.loadEl (off := 0) (Ag.args _ _ _) he1 rfl rfl rfl Try.isAgg54 Try.sizeOf54 rfl rfl) (fun a hf => ?_)
    refine S.alloc hf hs rfl rfl rfl [.string (ba []), .slice none 0 0] rfl Try.zeroValue54 rfl (fun g1 a w hf hs => ?_)
    refine S.val hf hs (v := .int .i64 (k1 : Int)) rfl rfl rfl (V.pure rfl) (fun a hf => ?_)
    refine S.storeBox 0 hf hs rfl rfl [.string (ba xk1.Tool), .slice u1A xk1.Holes.length u1C] [.string (ba xk1.Tool), .slice u1A xk1.Holes.length u1C] rfl rfl rfl rfl rfl Try.sizeOf54 rfl rfl rfl rfl (fun a w hf hs => ?_)
    refine R.nil ?_
    refine X.then_ ?_
    refine wp_seq ?_
    refine R.list ?_
    refine S.val hf hs (v := .slice tA t.length tC) rfl rfl rfl (V.pure rfl) (fun a hf => ?_)
    refine S.val hf hs (v := .pointer (some ⟨g1, 0, none⟩)) rfl rfl rfl (V.fieldBox rfl rfl Try.runUnderlying54 rfl Try.sizeOf9 rfl rfl) (fun a hf => ?_)
    refine S.val hf hs (v := .string (ba xk1.Tool)) rfl rfl rfl (V.loadBox 0 rfl rfl rfl Try.isAgg9 Try.sizeOf9 rfl rfl) (fun a hf => ?_)
    refine S.call hf rfl rfl rfl (call_fn (vs := [.slice tA t.length tC, .string (ba xk1.Tool)]) rfl rfl rfl Try.call76) (R_drill_toolAt t xk1.Tool _ tA tC ((Ag.args _ _ _).view hv_t hs) _ h) (fun v a w' hf hr => ?_)
    obtain ⟨y1, y2, rfl, h2, hs2⟩ := hr
    replace h := h2; replace hs := hs.call hs2; clear h2 hs2
    refine S.val hf hs (v := .tuple #[.agg #[.string (ba y1.Name), .int .i64 y1.Size, .int .i64 y1.Life, .int .i64 y1.Stack], .bool y2]) rfl rfl rfl (V.pure rfl) (fun a hf => ?_)
    refine S.val hf hs (v := .agg #[.string (ba y1.Name), .int .i64 y1.Size, .int .i64 y1.Life, .int .i64 y1.Stack]) rfl rfl rfl (V.pure rfl) (fun a hf => ?_)
    refine S.val hf hs (v := .bool y2) rfl rfl rfl (V.pure rfl) (fun a hf => ?_)
    refine S.alloc hf hs rfl rfl rfl [.string (ba []), .int .i64 0, .int .i64 0, .int .i64 0] rfl Try.zeroValue56 rfl (fun g2 a w hf hs => ?_)
    refine S.storeBox 0 hf hs rfl rfl [.string (ba y1.Name), .int .i64 y1.Size, .int .i64 y1.Life, .int .i64 y1.Stack] [.string (ba y1.Name), .int .i64 y1.Size, .int .i64 y1.Life, .int .i64 y1.Stack] rfl rfl rfl rfl rfl Try.sizeOf56 rfl rfl rfl rfl (fun a w hf hs => ?_)
    refine S.val hf hs (v := .bool y2) rfl rfl rfl (V.pure rfl) (fun a hf => ?_)
    refine R.nil ?_
    refine X.then_ ?_
    refine wp_seq ?_
    refine R.list ?_
    refine S.val hf hs (v := .int .i64 0) rfl rfl rfl (V.pure rfl) (fun a hf => ?_)
    refine R.nil ?_
    refine X.then_ ?_
    refine wp_seq ?_
    refine wp_seq ?_
    refine R.list ?_
    refine S.val hf hs (v := .pointer (some ⟨g2, 2, none⟩)) rfl rfl rfl (V.fieldBox rfl rfl Try.runUnderlying56 rfl Try.sizeOf3 rfl rfl) (fun a hf => ?_)
    refine S.val hf hs (v := .int .i64 y1.Life) rfl rfl rfl (V.loadBox 0 rfl rfl rfl Try.isAgg3 Try.sizeOf3 rfl rfl) (fun a hf => ?_)
    refine S.val hf hs (v := .int .i64 y1.Life) rfl rfl rfl (V.pure rfl) (fun a hf => ?_)
    refine R.nil ?_
    refine X.then_ ?_
    refine wp_block ?_
    obtain ⟨kk, h⟩ := h
    refine C.loop (fun kk a w => ∃ (l4 : List Change) (l4A : Option Addr) (l4C : Nat) (n3 : Int) (n4 : Int), iterF (fun again (s : List Change × Int × Int) => M_drill_changesOf_L2 Q k1 xk1 next1 y1 (fun l4 n3 n4 => again (l4, n3, n4)) s.1 s.2.1 s.2.2) kk (l4, n3, n4) ∧ FrOk 55 [(0, .slice tA t.length tC), (6, .slice l4A l4.length l4C), (7, .int .i64 (k1 : Int)), (8, .pointer (some ⟨g1, 0, none⟩)), (9, .pointer (some ⟨g2, 0, none⟩)), (11, .int .i64 n3), (12, .int .i64 n4), (13, .slice jA j.length jC), (14, .int .i64 (j.length : Int)), (15, .int .i64 (k1 : Int))] a ∧ Sat w0 none_ [hbox g2 56 [.string (ba y1.Name), .int .i64 y1.Size, .int .i64 y1.Life, .int .i64 y1.Stack], hbox g1 54 [.string (ba xk1.Tool), .slice u1A xk1.Holes.length u1C], hown 58 l4A l4C l4] w) kk ⟨l2, l2A, l2C, 0, y1.Life, h, ((((((((((hf.nil.cons (hf.get 15 _ rfl)).cons (hf.get 14 _ rfl)).cons (hf.get 13 _ rfl)).cons (hf.get 12 _ rfl)).cons (hf.get 11 _ rfl)).cons (hf.get 9 _ rfl)).cons (hf.get 8 _ rfl)).cons (hf.get 7 _ rfl)).cons (hf.get 6 _ rfl)).cons (hf.get 0 _ rfl)), hs⟩ (fun a w ⟨_, _, _, _, _, h, _, _⟩ => h) ?_
    clear h hf hs
    rintro kk a w ⟨l4, l4A, l4C, n3, n4, h, hf, hs⟩
    obtain ⟨again2, hagain2⟩ : ∃ X : List Change → Int → Int → Prop, X = (fun l4 n3 n4 => iterF (fun again (s : List Change × Int × Int) => M_drill_changesOf_L2 Q k1 xk1 next1 y1 (fun l4 n3 n4 => again (l4, n3, n4)) s.1 s.2.1 s.2.2) kk (l4, n3, n4)) := ⟨_, rfl⟩
    replace h : M_drill_changesOf_L2 Q k1 xk1 next1 y1 again2 l4 n3 n4 := by rw [hagain2]; exact h
    unfold M_drill_changesOf_L2 at h
    refine wp_seq ?_
    refine wp_seq ?_
    refine R.list ?_
    refine S.val hf hs (v := .int .i64 n4) rfl rfl rfl (V.pure rfl) (fun a hf => ?_)
    refine S.val hf hs (v := .pointer (some ⟨g1, 1, none⟩)) rfl rfl rfl (V.fieldBox rfl rfl Try.runUnderlying54 rfl Try.sizeOf34 rfl rfl) (fun a hf => ?_)
    refine S.val hf hs (v := .slice u1A xk1.Holes.length u1C) rfl rfl rfl (V.loadBox 1 rfl rfl rfl Try.isAgg34 Try.sizeOf34 rfl rfl) (fun a hf => ?_)
    refine S.val hf hs (v := .int .i64 (xk1.Holes.length : Int)) rfl rfl rfl (V.len rfl rfl Try.runUnderlying34) (fun a hf => ?_)
    refine S.val hf hs (v := .bool (decide (n4 < (xk1.Holes.length : Int)))) rfl rfl rfl (V.pure rfl) (fun a hf => ?_)
    refine R.nil ?_
    refine X.then_ ?_
    refine C.cond hf (b := decide (n4 < (xk1.Holes.length : Int))) rfl (fun hc => ?_) (fun hc => ?_)
    · replace h := h.1 hc
      refine wp_skip ?_
      refine X.then_ ?_
      refine wp_seq ?_
      refine wp_block ?_
      refine wp_seq ?_
      refine R.list ?_
      refine S.val hf hs (v := .slice l4A l4.length l4C) rfl rfl rfl (V.pure rfl) (fun a hf => ?_)
      refine S.val hf hs (v := .pointer (some ⟨g1, 0, none⟩)) rfl rfl rfl (V.fieldBox rfl rfl Try.runUnderlying54 rfl Try.sizeOf9 rfl rfl) (fun a hf => ?_)
      refine S.val hf hs (v := .string (ba xk1.Tool)) rfl rfl rfl (V.loadBox 1 rfl rfl rfl Try.isAgg9 Try.sizeOf9 rfl rfl) (fun a hf => ?_)
      refine S.val hf hs (v := .int .i64 (k1 : Int)) rfl rfl rfl (V.pure rfl) (fun a hf => ?_)
      refine S.val hf hs (v := .int .i64 n4) rfl rfl rfl (V.pure rfl) (fun a hf => ?_)
      refine S.val hf hs (v := .agg #[.string (ba xk1.Tool), .int .i64 (k1 : Int), .int .i64 n4]) rfl rfl rfl (V.build (places := #[(0, 1), (1, 1), (2, 1)]) rfl Try.zeroValue58 Try.runUnderlying58 (by intro w; simp [Try.sizeOf3, Try.sizeOf9]) rfl rfl) (fun a hf => ?_)
      refine S.build1 hf hs rfl rfl rfl (α := Change) (⟨xk1.Tool, (k1 : Int), n4⟩ : Change) rfl rfl rfl Try.runUnderlying50 Try.sizeOf58 Try.zeroValue58 rfl (by decide) (fun A1 a w hf hs => ?_)
      obtain ⟨hroom, h⟩ := h
      refine S.appendCells 3 hf hs rfl rfl rfl rfl rfl rfl rfl Try.underlying50 info58 rfl hroom ((hs.ownView 0 rfl).some_ (i := 0) (by simp)) (hs.ownView 0 rfl) (fun A2 C1 a w hf hs => ?_)
      replace hs := hs.drop
      refine S.val hf hs (v := .slice A2 (l4 ++ [(⟨xk1.Tool, (k1 : Int), n4⟩ : Change)]).length C1) rfl rfl rfl (V.pure rfl) (fun a hf => ?_)
      refine R.nil ?_
      refine X.then_ ?_
      refine R.list ?_
      refine S.val hf hs (v := .int .i64 n3) rfl rfl rfl (V.pure rfl) (fun a hf => ?_)
      refine S.val hf hs (v := .int .i64 (w64 (n3 + 1))) rfl rfl rfl (V.pure rfl) (fun a hf => ?_)
      refine S.val hf hs (v := .int .i64 (w64 (n3 + 1))) rfl rfl rfl (V.pure rfl) (fun a hf => ?_)
      refine R.nil ?_
      refine X.blk ?_
      refine X.then_ ?_
      refine R.list ?_
      refine S.val hf hs (v := .int .i64 n4) rfl rfl rfl (V.pure rfl) (fun a hf => ?_)
      refine S.val hf hs (v := .pointer (some ⟨g2, 2, none⟩)) rfl rfl rfl (V.fieldBox rfl rfl Try.runUnderlying56 rfl Try.sizeOf3 rfl rfl) (fun a hf => ?_)
      refine S.val hf hs (v := .int .i64 y1.Life) rfl rfl rfl (V.loadBox 0 rfl rfl rfl Try.isAgg3 Try.sizeOf3 rfl rfl) (fun a hf => ?_)
      refine S.val hf hs (v := .int .i64 (w64 (n4 + y1.Life))) rfl rfl rfl (V.pure rfl) (fun a hf => ?_)
      refine S.val hf hs (v := .int .i64 (w64 (n4 + y1.Life))) rfl rfl rfl (V.pure rfl) (fun a hf => ?_)
      refine R.nil ?_
      refine X.then_ ?_
      exact ⟨(l4 ++ [(⟨xk1.Tool, (k1 : Int), n4⟩ : Change)]), A2, C1, (w64 (n3 + 1)), (w64 (n4 + y1.Life)), (by rw [hagain2] at h; exact h), ((((((((((hf.nil.cons (hf.get 15 _ rfl)).cons (hf.get 14 _ rfl)).cons (hf.get 13 _ rfl)).cons (hf.get 12 _ rfl)).cons (hf.get 11 _ rfl)).cons (hf.get 9 _ rfl)).cons (hf.get 8 _ rfl)).cons (hf.get 7 _ rfl)).cons (hf.get 6 _ rfl)).cons (hf.get 0 _ rfl)), hs⟩
    · replace h := h.2 hc
      refine wp_exit ?_
      refine X.then_exit ?_
      refine X.then_exit ?_
      refine X.blk_exit ?_
      refine X.then_ ?_
      refine wp_seq ?_
      refine R.list ?_
      refine S.val hf hs (v := .pointer (some ⟨g2, 3, none⟩)) rfl rfl rfl (V.fieldBox rfl rfl Try.runUnderlying56 rfl Try.sizeOf3 rfl rfl) (fun a hf => ?_)
      refine S.val hf hs (v := .int .i64 y1.Stack) rfl rfl rfl (V.loadBox 0 rfl rfl rfl Try.isAgg3 Try.sizeOf3 rfl rfl) (fun a hf => ?_)
      refine S.val hf hs (v := .int .i64 n3) rfl rfl rfl (V.pure rfl) (fun a hf => ?_)
      refine S.val hf hs (v := .int .i64 (w64 (n3 + 1))) rfl rfl rfl (V.pure rfl) (fun a hf => ?_)
      refine S.val hf hs (v := .bool (decide (y1.Stack < w64 (n3 + 1)))) rfl rfl rfl (V.pure rfl) (fun a hf => ?_)
      refine R.nil ?_
      refine X.then_ ?_
      refine C.cond hf (b := decide (y1.Stack < w64 (n3 + 1))) rfl (fun hc => ?_) (fun hc => ?_)
      · replace h := h.1 hc
        refine wp_seq ?_
        refine R.list ?_
        refine S.val hf hs (v := .slice none 0 0) rfl rfl rfl (V.pure rfl) (fun a hf => ?_)
        refine S.val hf hs (v := .int .i64 9) rfl rfl rfl (V.pure rfl) (fun a hf => ?_)
        refine R.nil ?_
        refine X.then_ ?_
        refine wp_ret ?_
        refine X.blk_ret ?_
        refine X.then_ret ?_
        refine X.then_ret ?_
        refine X.blk_ret ?_
        refine X.then_ret ?_
        replace hs := hs.nilOwn (α := Change) 58
        replace hs := hs.take 1
        exact L.ret hf (run_results2 Try.results67 (ResIs.tmp hf rfl) (ResIs.tmp hf rfl)) ⟨([] : List Change), none, 0, 9, rfl, h, hs⟩
      · replace h := h.2 hc
        refine wp_skip ?_
        refine X.blk ?_
        refine X.then_ ?_
        refine R.list ?_
        refine S.val hf hs (v := .int .i64 ((k1 + 1 : Nat) : Int)) rfl rfl rfl (V.incr rfl rfl rfl hltk1 hlenk1) (fun a hf => ?_)
        refine S.val hf hs (v := .int .i64 ((k1 + 1 : Nat) : Int)) rfl rfl rfl (V.pure rfl) (fun a hf => ?_)
        refine R.nil ?_
        refine X.then_ ?_
        exact ⟨xk1, llk1, rfl, k1 + 1, l4, l4A, l4C, range_drop hlk1, range_len hkk1, (by rw [hnext1] at h; exact h), (((((hf.nil.cons (hf.get 14 _ rfl)).cons (hf.get 13 _ rfl)).cons (hf.get 6 _ rfl)).cons (hf.get 0 _ rfl)).cons (hf.get 15 _ rfl)), hs.drop.drop⟩

set_option linter.unusedVariables false
def M_ref8_changes_L2 (Q : (List Change) → Int → Prop) (k1 : Nat) (xk1 : Job) (next1 : List Change → Prop) (x1 : Bit) (again2 : List Change → Int → Int → Prop) (l4 : List Change) (n3 : Int) (n4 : Int) : Prop :=
  cnd (decide (n4 < (xk1.Holes.length : Int))) (must (room (l4 ++ [(⟨xk1.Tool, (k1 : Int), n4⟩ : Change)]).length 32) (again2 (l4 ++ [(⟨xk1.Tool, (k1 : Int), n4⟩ : Change)]) (w64 (n3 + 1)) (w64 (n4 + x1.Life)))) (cnd (decide (w64 (n3 + 1) > x1.Stack)) (Q ([] : List Change) 9) (next1 l4))
def M_ref8_changes_L1 (t : (List Bit)) (Q : (List Change) → Int → Prop) (k1 : Nat) (xk1 : Job) (l2 : List Change) (next1 : List Change → Prop) : Prop :=
  M_ref8_bitOf t xk1.Tool fun y1 => idx t y1 fun x1 => lp (fun again (s : List Change × Int × Int) => M_ref8_changes_L2 Q k1 xk1 next1 x1 (fun l4 n3 n4 => again (l4, n3, n4)) s.1 s.2.1 s.2.2) (l2, 0, x1.Life)
def M_ref8_changes (t : (List Bit)) (j : (List Job)) (Q : (List Change) → Int → Prop) : Prop :=
  forIn' (fun k x (s : List Change) next => M_ref8_changes_L1 t Q k x s (fun l2 => next l2)) (fun (s : List Change) => (fun (l2 : List Change) => Q l2 0) s) j 0 ([] : List Change)
set_option maxHeartbeats 1000000 in
theorem R_ref8_changes (t : (List Bit)) (j : (List Job)) (w0 : World) (tA : Option Addr) (tC : Nat) (hv_t : View w0 (old w0 none_) tA tC t) (jA : Option Addr) (jC : Nat) (hv_j : View w0 (old w0 none_) jA jC j) (Q : (List Change) → Int → Prop) (h : M_ref8_changes t j Q) :
    Ret Try.prog 75 #[.slice tA t.length tC, .slice jA j.length jC] w0 fun v w' => ∃ (r0 : (List Change)) (r0A : Option Addr) (r0C : Nat) (r1 : Int), v = .tuple #[.slice r0A r0.length r0C, .int .i64 r1] ∧ Q r0 r1 ∧ Sat w0 none_ [hown 58 r0A r0C r0] w' := by
  refine fn_enter Try.func75 rfl Try.ntmps75 rfl (fs := [(0, .slice tA t.length tC), (1, .slice jA j.length jC)]) rfl (fun a hf => ?_)
  have hs := Sat.start w0 none_
  unfold M_ref8_changes at h
  refine wp_seq ?_
  refine R.list ?_
  refine S.val hf hs (v := .slice none 0 0) rfl rfl rfl (V.pure rfl) (fun a hf => ?_)
  refine S.val hf hs (v := .int .i64 0) rfl rfl rfl (V.pure rfl) (fun a hf => ?_)
  refine R.nil ?_
  refine X.then_ ?_
  refine wp_seq ?_
  refine R.list ?_
  refine S.val hf hs (v := .slice none 0 0) rfl rfl rfl (V.pure rfl) (fun a hf => ?_)
  refine R.nil ?_
  refine X.then_ ?_
  refine wp_seq ?_
  refine wp_seq ?_
  refine R.list ?_
  refine S.val hf hs (v := .slice jA j.length jC) rfl rfl rfl (V.pure rfl) (fun a hf => ?_)
  refine S.val hf hs (v := .int .i64 (j.length : Int)) rfl rfl rfl (V.len rfl rfl Try.runUnderlying49) (fun a hf => ?_)
  refine S.val hf hs (v := .int .i64 0) rfl rfl rfl (V.pure rfl) (fun a hf => ?_)
  refine R.nil ?_
  refine X.then_ ?_
  refine wp_block ?_
  replace hs := hs.nilOwn (α := Change) 58
  have hlenk1 := hv_j.len64
  refine C.range (fun (ll : List Job) a w => ∃ (k1 : Nat) (l2 : List Change) (l2A : Option Addr) (l2C : Nat), j.drop k1 = ll ∧ k1 + ll.length = j.length ∧ forIn' (fun k x (s : List Change) next => M_ref8_changes_L1 t Q k x s (fun l2 => next l2)) (fun (s : List Change) => (fun (l2 : List Change) => Q l2 0) s) ll k1 l2 ∧ FrOk 54 [(14, .int .i64 (k1 : Int)), (0, .slice tA t.length tC), (6, .slice l2A l2.length l2C), (12, .slice jA j.length jC), (13, .int .i64 (j.length : Int))] a ∧ Sat w0 none_ [hown 58 l2A l2C l2] w) j ⟨0, ([] : List Change), none, 0, rfl, Nat.zero_add _, h, (((((hf.nil.cons (hf.get 13 _ rfl)).cons (hf.get 12 _ rfl)).cons (hf.get 6 _ rfl)).cons (hf.get 0 _ rfl)).cons (hf.get 14 _ rfl)), hs⟩ ?_
  clear h hf hs
  rintro llk1 a w ⟨k1, l2, l2A, l2C, hlk1, hkk1, h, hf, hs⟩
  cases llk1 with
  | nil =>
    have hc := range_done hkk1
    replace h : (fun (l2 : List Change) => Q l2 0) l2 := h
    refine wp_seq ?_
    refine R.list ?_
    refine S.val hf hs (v := .bool false) rfl rfl rfl (V.cmp false rfl rfl rfl rfl hc) (fun a hf => ?_)
    refine R.nil ?_
    refine X.then_ ?_
    refine wp_seq ?_
    refine C.no hf rfl ?_
    refine wp_exit ?_
    refine X.then_exit ?_
    refine X.then_exit ?_
    refine X.blk_exit ?_
    refine X.then_ ?_
    refine wp_seq ?_
    refine R.list ?_
    refine S.val hf hs (v := .slice l2A l2.length l2C) rfl rfl rfl (V.pure rfl) (fun a hf => ?_)
    refine S.val hf hs (v := .slice l2A l2.length l2C) rfl rfl rfl (V.pure rfl) (fun a hf => ?_)
    refine S.val hf hs (v := .int .i64 0) rfl rfl rfl (V.pure rfl) (fun a hf => ?_)
    refine R.nil ?_
    refine X.then_ ?_
    refine wp_ret ?_
    replace hs := hs.take 1
    exact L.ret hf (run_results2 Try.results75 (ResIs.tmp hf rfl) (ResIs.tmp hf rfl)) ⟨l2, l2A, l2C, 0, rfl, h, hs⟩
  | cons xk1 llk1 =>
    have hltk1 := range_lt hkk1; have hc := range_go hkk1; have hxk1 := range_get hlk1
    obtain ⟨next1, hnext1⟩ : ∃ X : List Change → Prop, X = (fun l2 => forIn' (fun k x (s : List Change) next => M_ref8_changes_L1 t Q k x s (fun l2 => next l2)) (fun (s : List Change) => (fun (l2 : List Change) => Q l2 0) s) llk1 (k1 + 1) l2) := ⟨_, rfl⟩
    replace h : M_ref8_changes_L1 t Q k1 xk1 l2 next1 := by rw [hnext1]; exact h
    unfold M_ref8_changes_L1 at h
    refine wp_seq ?_
    refine R.list ?_
    refine S.val hf hs (v := .bool true) rfl rfl rfl (V.cmp true rfl rfl rfl rfl hc) (fun a hf => ?_)
    refine R.nil ?_
    refine X.then_ ?_
    refine wp_seq ?_
    refine C.yes hf rfl ?_
    refine wp_skip ?_
    refine X.then_ ?_
    refine wp_seq ?_
    refine wp_block ?_
    refine wp_seq ?_
    refine R.list ?_
    refine S.val hf hs (v := .int .i64 (k1 : Int)) rfl rfl rfl (V.pure rfl) (fun a hf => ?_)
    obtain ⟨cs1, he1, hr1⟩ := hv_j.at_ _ _ hxk1
    obtain ⟨u1A, u1C, rfl, hvu1⟩ := hr1
    refine S.val hf hs (v := elemPtr jA (k1 * 2)) rfl rfl rfl (V.index rfl rfl rfl Try.runUnderlying49 Try.sizeOf54 (hv_j.some_ (lt_of_get hxk1)) (Int.natCast_nonneg _) (lt_of_get hxk1) rfl) (fun a hf => ?_)
    refine S.val hf hs (v := .agg #[.string (ba xk1.Tool), .slice u1A xk1.Holes.length u1C]) rfl rfl rfl (V.loadEl (off := 0) (Ag.args _ _ _) he1 rfl rfl rfl Try.isAgg54 Try.sizeOf54 rfl rfl) (fun a hf => ?_)
    refine S.alloc hf hs rfl rfl rfl [.string (ba []), .slice none 0 0] rfl Try.zeroValue54 rfl (fun g1 a w hf hs => ?_)
    refine S.val hf hs (v := .int .i64 (k1 : Int)) rfl rfl rfl (V.pure rfl) (fun a hf => ?_)
    refine S.storeBox 0 hf hs rfl rfl [.string (ba xk1.Tool), .slice u1A xk1.Holes.length u1C] [.string (ba xk1.Tool), .slice u1A xk1.Holes.length u1C] rfl rfl rfl rfl rfl Try.sizeOf54 rfl rfl rfl rfl (fun a w hf hs => ?_)
    refine R.nil ?_
    refine X.then_ ?_
    refine wp_seq ?_
    refine R.list ?_
    refine S.val hf hs (v := .slice tA t.length tC) rfl rfl rfl (V.pure rfl) (fun a hf => ?_)
    refine S.val hf hs (v := .slice tA t.length tC) rfl rfl rfl (V.pure rfl) (fun a hf => ?_)
    refine S.val hf hs (v := .pointer (some ⟨g1, 0, none⟩)) rfl rfl rfl (V.fieldBox rfl rfl Try.runUnderlying54 rfl Try.sizeOf9 rfl rfl) (fun a hf => ?_)
    refine S.val hf hs (v := .string (ba xk1.Tool)) rfl rfl rfl (V.loadBox 0 rfl rfl rfl Try.isAgg9 Try.sizeOf9 rfl rfl) (fun a hf => ?_)
    refine S.call hf rfl rfl rfl (call_fn (vs := [.slice tA t.length tC, .string (ba xk1.Tool)]) rfl rfl rfl Try.call79) (R_ref8_bitOf t xk1.Tool _ tA tC ((Ag.args _ _ _).view hv_t hs) _ h) (fun v a w' hf hr => ?_)
    obtain ⟨y1, rfl, h2, hs2⟩ := hr
    replace h := h2; replace hs := hs.call hs2; clear h2 hs2
    obtain ⟨h0x1, x1, hx1, h⟩ := h
    refine S.val hf hs (v := elemPtr tA (y1.toNat * 4)) rfl rfl rfl (V.index rfl rfl rfl Try.runUnderlying48 Try.sizeOf56 (hv_t.some_ (lt_of_get hx1)) h0x1 (lt_of_get hx1) rfl) (fun a hf => ?_)
    refine S.val hf hs (v := .agg #[.string (ba x1.Name), .int .i64 x1.Size, .int .i64 x1.Life, .int .i64 x1.Stack]) rfl rfl rfl (V.loadEl (off := 0) (Ag.args _ _ _) (hv_t.flat hx1) rfl rfl rfl Try.isAgg56 Try.sizeOf56 rfl rfl) (fun a hf => ?_)
    refine S.alloc hf hs rfl rfl rfl [.string (ba []), .int .i64 0, .int .i64 0, .int .i64 0] rfl Try.zeroValue56 rfl (fun g2 a w hf hs => ?_)
    refine S.storeBox 0 hf hs rfl rfl [.string (ba x1.Name), .int .i64 x1.Size, .int .i64 x1.Life, .int .i64 x1.Stack] [.string (ba x1.Name), .int .i64 x1.Size, .int .i64 x1.Life, .int .i64 x1.Stack] rfl rfl rfl rfl rfl Try.sizeOf56 rfl rfl rfl rfl (fun a w hf hs => ?_)
    refine R.nil ?_
    refine X.then_ ?_
    refine wp_seq ?_
    refine R.list ?_
    refine S.val hf hs (v := .int .i64 0) rfl rfl rfl (V.pure rfl) (fun a hf => ?_)
    refine R.nil ?_
    refine X.then_ ?_
    refine wp_seq ?_
    refine wp_seq ?_
    refine R.list ?_
    refine S.val hf hs (v := .pointer (some ⟨g2, 2, none⟩)) rfl rfl rfl (V.fieldBox rfl rfl Try.runUnderlying56 rfl Try.sizeOf3 rfl rfl) (fun a hf => ?_)
    refine S.val hf hs (v := .int .i64 x1.Life) rfl rfl rfl (V.loadBox 0 rfl rfl rfl Try.isAgg3 Try.sizeOf3 rfl rfl) (fun a hf => ?_)
    refine S.val hf hs (v := .int .i64 x1.Life) rfl rfl rfl (V.pure rfl) (fun a hf => ?_)
    refine R.nil ?_
    refine X.then_ ?_
    refine wp_block ?_
    obtain ⟨kk, h⟩ := h
    refine C.loop (fun kk a w => ∃ (l4 : List Change) (l4A : Option Addr) (l4C : Nat) (n3 : Int) (n4 : Int), iterF (fun again (s : List Change × Int × Int) => M_ref8_changes_L2 Q k1 xk1 next1 x1 (fun l4 n3 n4 => again (l4, n3, n4)) s.1 s.2.1 s.2.2) kk (l4, n3, n4) ∧ FrOk 54 [(0, .slice tA t.length tC), (6, .slice l4A l4.length l4C), (7, .int .i64 (k1 : Int)), (8, .pointer (some ⟨g1, 0, none⟩)), (9, .pointer (some ⟨g2, 0, none⟩)), (10, .int .i64 n3), (11, .int .i64 n4), (12, .slice jA j.length jC), (13, .int .i64 (j.length : Int)), (14, .int .i64 (k1 : Int))] a ∧ Sat w0 none_ [hbox g2 56 [.string (ba x1.Name), .int .i64 x1.Size, .int .i64 x1.Life, .int .i64 x1.Stack], hbox g1 54 [.string (ba xk1.Tool), .slice u1A xk1.Holes.length u1C], hown 58 l4A l4C l4] w) kk ⟨l2, l2A, l2C, 0, x1.Life, h, ((((((((((hf.nil.cons (hf.get 14 _ rfl)).cons (hf.get 13 _ rfl)).cons (hf.get 12 _ rfl)).cons (hf.get 11 _ rfl)).cons (hf.get 10 _ rfl)).cons (hf.get 9 _ rfl)).cons (hf.get 8 _ rfl)).cons (hf.get 7 _ rfl)).cons (hf.get 6 _ rfl)).cons (hf.get 0 _ rfl)), hs⟩ (fun a w ⟨_, _, _, _, _, h, _, _⟩ => h) ?_
    clear h hf hs
    rintro kk a w ⟨l4, l4A, l4C, n3, n4, h, hf, hs⟩
    obtain ⟨again2, hagain2⟩ : ∃ X : List Change → Int → Int → Prop, X = (fun l4 n3 n4 => iterF (fun again (s : List Change × Int × Int) => M_ref8_changes_L2 Q k1 xk1 next1 x1 (fun l4 n3 n4 => again (l4, n3, n4)) s.1 s.2.1 s.2.2) kk (l4, n3, n4)) := ⟨_, rfl⟩
    replace h : M_ref8_changes_L2 Q k1 xk1 next1 x1 again2 l4 n3 n4 := by rw [hagain2]; exact h
    unfold M_ref8_changes_L2 at h
    refine wp_seq ?_
    refine wp_seq ?_
    refine R.list ?_
    refine S.val hf hs (v := .int .i64 n4) rfl rfl rfl (V.pure rfl) (fun a hf => ?_)
    refine S.val hf hs (v := .pointer (some ⟨g1, 1, none⟩)) rfl rfl rfl (V.fieldBox rfl rfl Try.runUnderlying54 rfl Try.sizeOf34 rfl rfl) (fun a hf => ?_)
    refine S.val hf hs (v := .slice u1A xk1.Holes.length u1C) rfl rfl rfl (V.loadBox 1 rfl rfl rfl Try.isAgg34 Try.sizeOf34 rfl rfl) (fun a hf => ?_)
    refine S.val hf hs (v := .int .i64 (xk1.Holes.length : Int)) rfl rfl rfl (V.len rfl rfl Try.runUnderlying34) (fun a hf => ?_)
    refine S.val hf hs (v := .bool (decide (n4 < (xk1.Holes.length : Int)))) rfl rfl rfl (V.pure rfl) (fun a hf => ?_)
    refine R.nil ?_
    refine X.then_ ?_
    refine C.cond hf (b := decide (n4 < (xk1.Holes.length : Int))) rfl (fun hc => ?_) (fun hc => ?_)
    · replace h := h.1 hc
      refine wp_skip ?_
      refine X.then_ ?_
      refine wp_seq ?_
      refine wp_block ?_
      refine wp_seq ?_
      refine R.list ?_
      refine S.val hf hs (v := .slice l4A l4.length l4C) rfl rfl rfl (V.pure rfl) (fun a hf => ?_)
      refine S.val hf hs (v := .pointer (some ⟨g1, 0, none⟩)) rfl rfl rfl (V.fieldBox rfl rfl Try.runUnderlying54 rfl Try.sizeOf9 rfl rfl) (fun a hf => ?_)
      refine S.val hf hs (v := .string (ba xk1.Tool)) rfl rfl rfl (V.loadBox 1 rfl rfl rfl Try.isAgg9 Try.sizeOf9 rfl rfl) (fun a hf => ?_)
      refine S.val hf hs (v := .int .i64 (k1 : Int)) rfl rfl rfl (V.pure rfl) (fun a hf => ?_)
      refine S.val hf hs (v := .int .i64 n4) rfl rfl rfl (V.pure rfl) (fun a hf => ?_)
      refine S.val hf hs (v := .agg #[.string (ba xk1.Tool), .int .i64 (k1 : Int), .int .i64 n4]) rfl rfl rfl (V.build (places := #[(0, 1), (1, 1), (2, 1)]) rfl Try.zeroValue58 Try.runUnderlying58 (by intro w; simp [Try.sizeOf3, Try.sizeOf9]) rfl rfl) (fun a hf => ?_)
      refine S.build1 hf hs rfl rfl rfl (α := Change) (⟨xk1.Tool, (k1 : Int), n4⟩ : Change) rfl rfl rfl Try.runUnderlying50 Try.sizeOf58 Try.zeroValue58 rfl (by decide) (fun A1 a w hf hs => ?_)
      obtain ⟨hroom, h⟩ := h
      refine S.appendCells 3 hf hs rfl rfl rfl rfl rfl rfl rfl Try.underlying50 info58 rfl hroom ((hs.ownView 0 rfl).some_ (i := 0) (by simp)) (hs.ownView 0 rfl) (fun A2 C1 a w hf hs => ?_)
      replace hs := hs.drop
      refine S.val hf hs (v := .slice A2 (l4 ++ [(⟨xk1.Tool, (k1 : Int), n4⟩ : Change)]).length C1) rfl rfl rfl (V.pure rfl) (fun a hf => ?_)
      refine R.nil ?_
      refine X.then_ ?_
      refine R.list ?_
      refine S.val hf hs (v := .int .i64 n3) rfl rfl rfl (V.pure rfl) (fun a hf => ?_)
      refine S.val hf hs (v := .int .i64 (w64 (n3 + 1))) rfl rfl rfl (V.pure rfl) (fun a hf => ?_)
      refine S.val hf hs (v := .int .i64 (w64 (n3 + 1))) rfl rfl rfl (V.pure rfl) (fun a hf => ?_)
      refine R.nil ?_
      refine X.blk ?_
      refine X.then_ ?_
      refine R.list ?_
      refine S.val hf hs (v := .int .i64 n4) rfl rfl rfl (V.pure rfl) (fun a hf => ?_)
      refine S.val hf hs (v := .pointer (some ⟨g2, 2, none⟩)) rfl rfl rfl (V.fieldBox rfl rfl Try.runUnderlying56 rfl Try.sizeOf3 rfl rfl) (fun a hf => ?_)
      refine S.val hf hs (v := .int .i64 x1.Life) rfl rfl rfl (V.loadBox 0 rfl rfl rfl Try.isAgg3 Try.sizeOf3 rfl rfl) (fun a hf => ?_)
      refine S.val hf hs (v := .int .i64 (w64 (n4 + x1.Life))) rfl rfl rfl (V.pure rfl) (fun a hf => ?_)
      refine S.val hf hs (v := .int .i64 (w64 (n4 + x1.Life))) rfl rfl rfl (V.pure rfl) (fun a hf => ?_)
      refine R.nil ?_
      refine X.then_ ?_
      exact ⟨(l4 ++ [(⟨xk1.Tool, (k1 : Int), n4⟩ : Change)]), A2, C1, (w64 (n3 + 1)), (w64 (n4 + x1.Life)), (by rw [hagain2] at h; exact h), ((((((((((hf.nil.cons (hf.get 14 _ rfl)).cons (hf.get 13 _ rfl)).cons (hf.get 12 _ rfl)).cons (hf.get 11 _ rfl)).cons (hf.get 10 _ rfl)).cons (hf.get 9 _ rfl)).cons (hf.get 8 _ rfl)).cons (hf.get 7 _ rfl)).cons (hf.get 6 _ rfl)).cons (hf.get 0 _ rfl)), hs⟩
    · replace h := h.2 hc
      refine wp_exit ?_
      refine X.then_exit ?_
      refine X.then_exit ?_
      refine X.blk_exit ?_
      refine X.then_ ?_
      refine wp_seq ?_
      refine R.list ?_
      refine S.val hf hs (v := .int .i64 n3) rfl rfl rfl (V.pure rfl) (fun a hf => ?_)
      refine S.val hf hs (v := .int .i64 (w64 (n3 + 1))) rfl rfl rfl (V.pure rfl) (fun a hf => ?_)
      refine S.val hf hs (v := .pointer (some ⟨g2, 3, none⟩)) rfl rfl rfl (V.fieldBox rfl rfl Try.runUnderlying56 rfl Try.sizeOf3 rfl rfl) (fun a hf => ?_)
      refine S.val hf hs (v := .int .i64 x1.Stack) rfl rfl rfl (V.loadBox 0 rfl rfl rfl Try.isAgg3 Try.sizeOf3 rfl rfl) (fun a hf => ?_)
      refine S.val hf hs (v := .bool (decide (w64 (n3 + 1) > x1.Stack))) rfl rfl rfl (V.pure rfl) (fun a hf => ?_)
      refine R.nil ?_
      refine X.then_ ?_
      refine C.cond hf (b := decide (w64 (n3 + 1) > x1.Stack)) rfl (fun hc => ?_) (fun hc => ?_)
      · replace h := h.1 hc
        refine wp_seq ?_
        refine R.list ?_
        refine S.val hf hs (v := .slice none 0 0) rfl rfl rfl (V.pure rfl) (fun a hf => ?_)
        refine S.val hf hs (v := .int .i64 9) rfl rfl rfl (V.pure rfl) (fun a hf => ?_)
        refine R.nil ?_
        refine X.then_ ?_
        refine wp_ret ?_
        refine X.blk_ret ?_
        refine X.then_ret ?_
        refine X.then_ret ?_
        refine X.blk_ret ?_
        refine X.then_ret ?_
        replace hs := hs.nilOwn (α := Change) 58
        replace hs := hs.take 1
        exact L.ret hf (run_results2 Try.results75 (ResIs.tmp hf rfl) (ResIs.tmp hf rfl)) ⟨([] : List Change), none, 0, 9, rfl, h, hs⟩
      · replace h := h.2 hc
        refine wp_skip ?_
        refine X.blk ?_
        refine X.then_ ?_
        refine R.list ?_
        refine S.val hf hs (v := .int .i64 ((k1 + 1 : Nat) : Int)) rfl rfl rfl (V.incr rfl rfl rfl hltk1 hlenk1) (fun a hf => ?_)
        refine S.val hf hs (v := .int .i64 ((k1 + 1 : Nat) : Int)) rfl rfl rfl (V.pure rfl) (fun a hf => ?_)
        refine R.nil ?_
        refine X.then_ ?_
        exact ⟨xk1, llk1, rfl, k1 + 1, l4, l4A, l4C, range_drop hlk1, range_len hkk1, (by rw [hnext1] at h; exact h), (((((hf.nil.cons (hf.get 13 _ rfl)).cons (hf.get 12 _ rfl)).cons (hf.get 6 _ rfl)).cons (hf.get 0 _ rfl)).cons (hf.get 14 _ rfl)), hs.drop.drop⟩

set_option linter.unusedVariables false
def M_drill_Changes (t : (List Bit)) (j : (List Job)) (Q : (List Change) → Int → Prop) : Prop :=
  M_drill_CheckJobs t j fun y1 => cnd (y1 != 0) (Q ([] : List Change) y1) (M_drill_changesOf t j fun y2 y3 => Q y2 y3)
set_option maxHeartbeats 1000000 in
theorem R_drill_Changes (t : (List Bit)) (j : (List Job)) (w0 : World) (tA : Option Addr) (tC : Nat) (hv_t : View w0 (old w0 none_) tA tC t) (jA : Option Addr) (jC : Nat) (hv_j : View w0 (old w0 none_) jA jC j) (Q : (List Change) → Int → Prop) (h : M_drill_Changes t j Q) :
    Ret Try.prog 32 #[.slice tA t.length tC, .slice jA j.length jC] w0 fun v w' => ∃ (r0 : (List Change)) (r0A : Option Addr) (r0C : Nat) (r1 : Int), v = .tuple #[.slice r0A r0.length r0C, .int .i64 r1] ∧ Q r0 r1 ∧ Sat w0 none_ [hown 58 r0A r0C r0] w' := by
  refine fn_enter Try.func32 rfl Try.ntmps32 rfl (fs := [(0, .slice tA t.length tC), (1, .slice jA j.length jC)]) rfl (fun a hf => ?_)
  have hs := Sat.start w0 none_
  unfold M_drill_Changes at h
  refine wp_seq ?_
  refine R.list ?_
  refine S.val hf hs (v := .slice none 0 0) rfl rfl rfl (V.pure rfl) (fun a hf => ?_)
  refine S.val hf hs (v := .int .i64 0) rfl rfl rfl (V.pure rfl) (fun a hf => ?_)
  refine R.nil ?_
  refine X.then_ ?_
  refine wp_seq ?_
  refine wp_seq ?_
  refine R.list ?_
  refine S.val hf hs (v := .slice tA t.length tC) rfl rfl rfl (V.pure rfl) (fun a hf => ?_)
  refine S.val hf hs (v := .slice jA j.length jC) rfl rfl rfl (V.pure rfl) (fun a hf => ?_)
  refine S.call hf rfl rfl rfl (call_fn (vs := [.slice tA t.length tC, .slice jA j.length jC]) rfl rfl rfl Try.call42) (R_drill_CheckJobs t j _ tA tC ((Ag.args _ _ _).view hv_t hs) jA jC ((Ag.args _ _ _).view hv_j hs) _ h) (fun v a w' hf hr => ?_)
  obtain ⟨y1, rfl, h2, hs2⟩ := hr
  replace h := h2; replace hs := hs.call hs2; clear h2 hs2
  refine S.val hf hs (v := .int .i64 y1) rfl rfl rfl (V.pure rfl) (fun a hf => ?_)
  refine R.nil ?_
  refine X.then_ ?_
  refine wp_seq ?_
  refine R.list ?_
  refine S.val hf hs (v := .int .i64 y1) rfl rfl rfl (V.pure rfl) (fun a hf => ?_)
  refine S.val hf hs (v := .bool (y1 != 0)) rfl rfl rfl (V.pure rfl) (fun a hf => ?_)
  refine R.nil ?_
  refine X.then_ ?_
  refine C.cond hf (b := y1 != 0) rfl (fun hc => ?_) (fun hc => ?_)
  · replace h := h.1 hc
    refine wp_seq ?_
    refine R.list ?_
    refine S.val hf hs (v := .int .i64 y1) rfl rfl rfl (V.pure rfl) (fun a hf => ?_)
    refine S.val hf hs (v := .slice none 0 0) rfl rfl rfl (V.pure rfl) (fun a hf => ?_)
    refine S.val hf hs (v := .int .i64 y1) rfl rfl rfl (V.pure rfl) (fun a hf => ?_)
    refine R.nil ?_
    refine X.then_ ?_
    refine wp_ret ?_
    refine X.then_ret ?_
    replace hs := hs.nilOwn (α := Change) 58
    replace hs := hs.take 1
    exact L.ret hf (run_results2 Try.results32 (ResIs.tmp hf rfl) (ResIs.tmp hf rfl)) ⟨([] : List Change), none, 0, y1, rfl, h, hs⟩
  · replace h := h.2 hc
    refine wp_skip ?_
    refine X.then_ ?_
    refine wp_seq ?_
    refine R.list ?_
    refine S.val hf hs (v := .slice tA t.length tC) rfl rfl rfl (V.pure rfl) (fun a hf => ?_)
    refine S.val hf hs (v := .slice jA j.length jC) rfl rfl rfl (V.pure rfl) (fun a hf => ?_)
    refine S.call hf rfl rfl rfl (call_fn (vs := [.slice tA t.length tC, .slice jA j.length jC]) rfl rfl rfl Try.call67) (R_drill_changesOf t j _ tA tC ((Ag.args _ _ _).view hv_t hs) jA jC ((Ag.args _ _ _).view hv_j hs) _ h) (fun v a w' hf hr => ?_)
    obtain ⟨y2, y2A, y2C, y3, rfl, h2, hs2⟩ := hr
    replace h := h2; replace hs := hs.call hs2; clear h2 hs2
    refine S.val hf hs (v := .slice y2A y2.length y2C) rfl rfl rfl (V.pure rfl) (fun a hf => ?_)
    refine S.val hf hs (v := .int .i64 y3) rfl rfl rfl (V.pure rfl) (fun a hf => ?_)
    refine S.val hf hs (v := .slice y2A y2.length y2C) rfl rfl rfl (V.pure rfl) (fun a hf => ?_)
    refine S.val hf hs (v := .int .i64 y3) rfl rfl rfl (V.pure rfl) (fun a hf => ?_)
    refine R.nil ?_
    refine X.then_ ?_
    refine wp_ret ?_
    replace hs := hs.take 1
    exact L.ret hf (run_results2 Try.results32 (ResIs.tmp hf rfl) (ResIs.tmp hf rfl)) ⟨y2, y2A, y2C, y3, rfl, h, hs⟩

set_option linter.unusedVariables false
def M_ref8_Changes (t : (List Bit)) (j : (List Job)) (Q : (List Change) → Int → Prop) : Prop :=
  M_ref8_CheckJobs t j fun y1 => cnd (y1 != 0) (Q ([] : List Change) y1) (M_ref8_changes t j fun y2 y3 => Q y2 y3)
set_option maxHeartbeats 1000000 in
theorem R_ref8_Changes (t : (List Bit)) (j : (List Job)) (w0 : World) (tA : Option Addr) (tC : Nat) (hv_t : View w0 (old w0 none_) tA tC t) (jA : Option Addr) (jC : Nat) (hv_j : View w0 (old w0 none_) jA jC j) (Q : (List Change) → Int → Prop) (h : M_ref8_Changes t j Q) :
    Ret Try.prog 41 #[.slice tA t.length tC, .slice jA j.length jC] w0 fun v w' => ∃ (r0 : (List Change)) (r0A : Option Addr) (r0C : Nat) (r1 : Int), v = .tuple #[.slice r0A r0.length r0C, .int .i64 r1] ∧ Q r0 r1 ∧ Sat w0 none_ [hown 58 r0A r0C r0] w' := by
  refine fn_enter Try.func41 rfl Try.ntmps41 rfl (fs := [(0, .slice tA t.length tC), (1, .slice jA j.length jC)]) rfl (fun a hf => ?_)
  have hs := Sat.start w0 none_
  unfold M_ref8_Changes at h
  refine wp_seq ?_
  refine R.list ?_
  refine S.val hf hs (v := .slice none 0 0) rfl rfl rfl (V.pure rfl) (fun a hf => ?_)
  refine S.val hf hs (v := .int .i64 0) rfl rfl rfl (V.pure rfl) (fun a hf => ?_)
  refine R.nil ?_
  refine X.then_ ?_
  refine wp_seq ?_
  refine wp_seq ?_
  refine R.list ?_
  refine S.val hf hs (v := .slice tA t.length tC) rfl rfl rfl (V.pure rfl) (fun a hf => ?_)
  refine S.val hf hs (v := .slice jA j.length jC) rfl rfl rfl (V.pure rfl) (fun a hf => ?_)
  refine S.call hf rfl rfl rfl (call_fn (vs := [.slice tA t.length tC, .slice jA j.length jC]) rfl rfl rfl Try.call43) (R_ref8_CheckJobs t j _ tA tC ((Ag.args _ _ _).view hv_t hs) jA jC ((Ag.args _ _ _).view hv_j hs) _ h) (fun v a w' hf hr => ?_)
  obtain ⟨y1, rfl, h2, hs2⟩ := hr
  replace h := h2; replace hs := hs.call hs2; clear h2 hs2
  refine S.val hf hs (v := .int .i64 y1) rfl rfl rfl (V.pure rfl) (fun a hf => ?_)
  refine R.nil ?_
  refine X.then_ ?_
  refine wp_seq ?_
  refine R.list ?_
  refine S.val hf hs (v := .int .i64 y1) rfl rfl rfl (V.pure rfl) (fun a hf => ?_)
  refine S.val hf hs (v := .bool (y1 != 0)) rfl rfl rfl (V.pure rfl) (fun a hf => ?_)
  refine R.nil ?_
  refine X.then_ ?_
  refine C.cond hf (b := y1 != 0) rfl (fun hc => ?_) (fun hc => ?_)
  · replace h := h.1 hc
    refine wp_seq ?_
    refine R.list ?_
    refine S.val hf hs (v := .int .i64 y1) rfl rfl rfl (V.pure rfl) (fun a hf => ?_)
    refine S.val hf hs (v := .slice none 0 0) rfl rfl rfl (V.pure rfl) (fun a hf => ?_)
    refine S.val hf hs (v := .int .i64 y1) rfl rfl rfl (V.pure rfl) (fun a hf => ?_)
    refine R.nil ?_
    refine X.then_ ?_
    refine wp_ret ?_
    refine X.then_ret ?_
    replace hs := hs.nilOwn (α := Change) 58
    replace hs := hs.take 1
    exact L.ret hf (run_results2 Try.results41 (ResIs.tmp hf rfl) (ResIs.tmp hf rfl)) ⟨([] : List Change), none, 0, y1, rfl, h, hs⟩
  · replace h := h.2 hc
    refine wp_skip ?_
    refine X.then_ ?_
    refine wp_seq ?_
    refine R.list ?_
    refine S.val hf hs (v := .slice tA t.length tC) rfl rfl rfl (V.pure rfl) (fun a hf => ?_)
    refine S.val hf hs (v := .slice jA j.length jC) rfl rfl rfl (V.pure rfl) (fun a hf => ?_)
    refine S.call hf rfl rfl rfl (call_fn (vs := [.slice tA t.length tC, .slice jA j.length jC]) rfl rfl rfl Try.call75) (R_ref8_changes t j _ tA tC ((Ag.args _ _ _).view hv_t hs) jA jC ((Ag.args _ _ _).view hv_j hs) _ h) (fun v a w' hf hr => ?_)
    obtain ⟨y2, y2A, y2C, y3, rfl, h2, hs2⟩ := hr
    replace h := h2; replace hs := hs.call hs2; clear h2 hs2
    refine S.val hf hs (v := .slice y2A y2.length y2C) rfl rfl rfl (V.pure rfl) (fun a hf => ?_)
    refine S.val hf hs (v := .int .i64 y3) rfl rfl rfl (V.pure rfl) (fun a hf => ?_)
    refine S.val hf hs (v := .slice y2A y2.length y2C) rfl rfl rfl (V.pure rfl) (fun a hf => ?_)
    refine S.val hf hs (v := .int .i64 y3) rfl rfl rfl (V.pure rfl) (fun a hf => ?_)
    refine R.nil ?_
    refine X.then_ ?_
    refine wp_ret ?_
    replace hs := hs.take 1
    exact L.ret hf (run_results2 Try.results41 (ResIs.tmp hf rfl) (ResIs.tmp hf rfl)) ⟨y2, y2A, y2C, y3, rfl, h, hs⟩

set_option linter.unusedVariables false
def M_drill_Seconds_L2  (k3 : Nat) (xk3 : Hole) (l4 : List Point) (n4 : Int) (next2 : List Point → Int → Prop) : Prop :=
  must (room (l4 ++ [xk3.At]).length 16) (next2 (l4 ++ [xk3.At]) (w64 (n4 + (w64 ((w64 (xk3.Depth + 99)).tdiv 100)))))
def M_drill_Seconds_L1  (k2 : Nat) (xk2 : Job) (l2 : List Point) (n2 : Int) (next1 : List Point → Int → Prop) : Prop :=
  forIn' (fun k x (s : List Point × Int) next => M_drill_Seconds_L2 k x s.1 s.2 (fun l4 n4 => next (l4, n4))) (fun (s : List Point × Int) => (fun (l4 : List Point) (n4 : Int) => next1 l4 n4) s.1 s.2) xk2.Holes 0 (l2, n2)
def M_drill_Seconds_k1 (j : (List Job)) (from_ : Point) (speed : Int) (change : Int) (Q : Int → Int → Prop) (y1 : (List Change)) (c1 : Bool) : Prop :=
  cnd c1 (Q 0 1) (forIn' (fun k x (s : List Point × Int) next => M_drill_Seconds_L1 k x s.1 s.2 (fun l2 n2 => next (l2, n2))) (fun (s : List Point × Int) => (fun (l2 : List Point) (n2 : Int) => M_drill_way l2 from_ fun y3 => must (speed ≠ 0) (Q (w64 (n2 + (w64 ((w64 ((w64 (y3 + speed)) - 1)).tdiv speed)))) 0)) s.1 s.2) j 0 (([] : List Point), w64 (change * (w64 ((j.length : Int) + (y1.length : Int))))))
def M_drill_Seconds (t : (List Bit)) (j : (List Job)) (from_ : Point) (speed : Int) (change : Int) (Q : Int → Int → Prop) : Prop :=
  M_drill_Changes t j fun y1 y2 => cnd (y2 != 0) (Q 0 y2) (cnd (!(isPoint from_)) (M_drill_Seconds_k1 j from_ speed change Q y1 true) (cnd (!(within speed 1 1000000)) (M_drill_Seconds_k1 j from_ speed change Q y1 true) (M_drill_Seconds_k1 j from_ speed change Q y1 (!(within change 0 1000000)))))
set_option maxHeartbeats 1000000 in
theorem R_drill_Seconds (t : (List Bit)) (j : (List Job)) (from_ : Point) (speed : Int) (change : Int) (w0 : World) (tA : Option Addr) (tC : Nat) (hv_t : View w0 (old w0 none_) tA tC t) (jA : Option Addr) (jC : Nat) (hv_j : View w0 (old w0 none_) jA jC j) (Q : Int → Int → Prop) (h : M_drill_Seconds t j from_ speed change Q) :
    Ret Try.prog 40 #[.slice tA t.length tC, .slice jA j.length jC, .agg #[.int .i64 from_.X, .int .i64 from_.Y], .int .i64 speed, .int .i64 change] w0 fun v w' => ∃ (r0 : Int) (r1 : Int), v = .tuple #[.int .i64 r0, .int .i64 r1] ∧ Q r0 r1 ∧ Sat w0 none_ [] w' := by
  refine fn_enter Try.func40 rfl Try.ntmps40 rfl (fs := [(0, .slice tA t.length tC), (1, .slice jA j.length jC), (2, .agg #[.int .i64 from_.X, .int .i64 from_.Y]), (3, .int .i64 speed), (4, .int .i64 change)]) rfl (fun a hf => ?_)
  have hs := Sat.start w0 none_
  unfold M_drill_Seconds at h
  refine wp_seq ?_
  refine R.list ?_
  refine S.box hf hs rfl rfl rfl [.int .i64 from_.X, .int .i64 from_.Y] rfl rfl rfl (fun g1 a w hf hs => ?_)
  refine S.val hf hs (v := .int .i64 0) rfl rfl rfl (V.pure rfl) (fun a hf => ?_)
  refine S.val hf hs (v := .int .i64 0) rfl rfl rfl (V.pure rfl) (fun a hf => ?_)
  refine R.nil ?_
  refine X.then_ ?_
  refine wp_seq ?_
  refine R.list ?_
  refine S.val hf hs (v := .slice tA t.length tC) rfl rfl rfl (V.pure rfl) (fun a hf => ?_)
  refine S.val hf hs (v := .slice jA j.length jC) rfl rfl rfl (V.pure rfl) (fun a hf => ?_)
  refine S.call hf rfl rfl rfl (call_fn (vs := [.slice tA t.length tC, .slice jA j.length jC]) rfl rfl rfl Try.call32) (R_drill_Changes t j _ tA tC ((Ag.args _ _ _).view hv_t hs) jA jC ((Ag.args _ _ _).view hv_j hs) _ h) (fun v a w' hf hr => ?_)
  obtain ⟨y1, y1A, y1C, y2, rfl, h2, hs2⟩ := hr
  replace h := h2; replace hs := hs.call hs2; clear h2 hs2
  refine S.val hf hs (v := .tuple #[.slice y1A y1.length y1C, .int .i64 y2]) rfl rfl rfl (V.pure rfl) (fun a hf => ?_)
  refine S.val hf hs (v := .slice y1A y1.length y1C) rfl rfl rfl (V.pure rfl) (fun a hf => ?_)
  refine S.val hf hs (v := .int .i64 y2) rfl rfl rfl (V.pure rfl) (fun a hf => ?_)
  refine S.val hf hs (v := .slice y1A y1.length y1C) rfl rfl rfl (V.pure rfl) (fun a hf => ?_)
  refine S.val hf hs (v := .int .i64 y2) rfl rfl rfl (V.pure rfl) (fun a hf => ?_)
  refine R.nil ?_
  refine X.then_ ?_
  refine wp_seq ?_
  refine wp_seq ?_
  refine R.list ?_
  refine S.val hf hs (v := .int .i64 y2) rfl rfl rfl (V.pure rfl) (fun a hf => ?_)
  refine S.val hf hs (v := .bool (y2 != 0)) rfl rfl rfl (V.pure rfl) (fun a hf => ?_)
  refine R.nil ?_
  refine X.then_ ?_
  refine C.cond hf (b := y2 != 0) rfl (fun hc => ?_) (fun hc => ?_)
  · replace h := h.1 hc
    refine wp_seq ?_
    refine R.list ?_
    refine S.val hf hs (v := .int .i64 y2) rfl rfl rfl (V.pure rfl) (fun a hf => ?_)
    refine S.val hf hs (v := .int .i64 0) rfl rfl rfl (V.pure rfl) (fun a hf => ?_)
    refine S.val hf hs (v := .int .i64 y2) rfl rfl rfl (V.pure rfl) (fun a hf => ?_)
    refine R.nil ?_
    refine X.then_ ?_
    refine wp_ret ?_
    refine X.then_ret ?_
    exact L.ret hf (run_results2 Try.results40 (ResIs.tmp hf rfl) (ResIs.tmp hf rfl)) ⟨0, y2, rfl, h, hs.nil⟩
  · replace h := h.2 hc
    refine wp_skip ?_
    refine X.then_ ?_
    refine wp_seq ?_
    refine wp_seq ?_
    refine C.cut (J := fun a w => ∃ (c1 : Bool), M_drill_Seconds_k1 j from_ speed change Q y1 c1 ∧ FrOk 85 [(1, .slice jA j.length jC), (3, .int .i64 speed), (4, .int .i64 change), (7, .pointer (some ⟨g1, 0, none⟩)), (12, .slice y1A y1.length y1C), (41, .bool c1)] a ∧ Sat w0 none_ [hown 58 y1A y1C y1, hbox g1 24 [.int .i64 from_.X, .int .i64 from_.Y]] w) ?_ ?_
    · rintro a w ⟨c1, h, hf, hs⟩
      unfold M_drill_Seconds_k1 at h
      refine C.cond hf (b := c1) rfl (fun hc => ?_) (fun hc => ?_)
      · replace h := h.1 hc
        refine wp_seq ?_
        refine R.list ?_
        refine S.val hf hs (v := .int .i64 0) rfl rfl rfl (V.pure rfl) (fun a hf => ?_)
        refine S.val hf hs (v := .int .i64 1) rfl rfl rfl (V.pure rfl) (fun a hf => ?_)
        refine R.nil ?_
        refine X.then_ ?_
        refine wp_ret ?_
        refine X.then_ret ?_
        exact L.ret hf (run_results2 Try.results40 (ResIs.tmp hf rfl) (ResIs.tmp hf rfl)) ⟨0, 1, rfl, h, hs.nil⟩
      · replace h := h.2 hc
        refine wp_skip ?_
        refine X.then_ ?_
        refine wp_seq ?_
        refine R.list ?_
        refine S.val hf hs (v := .slice none 0 0) rfl rfl rfl (V.pure rfl) (fun a hf => ?_)
        refine R.nil ?_
        refine X.then_ ?_
        refine wp_seq ?_
        refine R.list ?_
        refine S.val hf hs (v := .int .i64 change) rfl rfl rfl (V.pure rfl) (fun a hf => ?_)
        refine S.val hf hs (v := .slice jA j.length jC) rfl rfl rfl (V.pure rfl) (fun a hf => ?_)
        refine S.val hf hs (v := .int .i64 (j.length : Int)) rfl rfl rfl (V.len rfl rfl Try.runUnderlying49) (fun a hf => ?_)
        refine S.val hf hs (v := .slice y1A y1.length y1C) rfl rfl rfl (V.pure rfl) (fun a hf => ?_)
        refine S.val hf hs (v := .int .i64 (y1.length : Int)) rfl rfl rfl (V.len rfl rfl Try.runUnderlying50) (fun a hf => ?_)
        refine S.val hf hs (v := .int .i64 (w64 ((j.length : Int) + (y1.length : Int)))) rfl rfl rfl (V.pure rfl) (fun a hf => ?_)
        refine S.val hf hs (v := .int .i64 (w64 (change * (w64 ((j.length : Int) + (y1.length : Int)))))) rfl rfl rfl (V.pure rfl) (fun a hf => ?_)
        refine S.val hf hs (v := .int .i64 (w64 (change * (w64 ((j.length : Int) + (y1.length : Int)))))) rfl rfl rfl (V.pure rfl) (fun a hf => ?_)
        refine R.nil ?_
        refine X.then_ ?_
        refine wp_seq ?_
        refine wp_seq ?_
        refine R.list ?_
        refine S.val hf hs (v := .slice jA j.length jC) rfl rfl rfl (V.pure rfl) (fun a hf => ?_)
        refine S.val hf hs (v := .int .i64 (j.length : Int)) rfl rfl rfl (V.len rfl rfl Try.runUnderlying49) (fun a hf => ?_)
        refine S.val hf hs (v := .int .i64 0) rfl rfl rfl (V.pure rfl) (fun a hf => ?_)
        refine R.nil ?_
        refine X.then_ ?_
        refine wp_block ?_
        replace hs := hs.nilOwn (α := Point) 24
        have hlenk2 := hv_j.len64
        refine C.range (fun (ll : List Job) a w => ∃ (k2 : Nat) (l2 : List Point) (l2A : Option Addr) (l2C : Nat) (n2 : Int), j.drop k2 = ll ∧ k2 + ll.length = j.length ∧ forIn' (fun k x (s : List Point × Int) next => M_drill_Seconds_L1 k x s.1 s.2 (fun l2 n2 => next (l2, n2))) (fun (s : List Point × Int) => (fun (l2 : List Point) (n2 : Int) => M_drill_way l2 from_ fun y3 => must (speed ≠ 0) (Q (w64 (n2 + (w64 ((w64 ((w64 (y3 + speed)) - 1)).tdiv speed)))) 0)) s.1 s.2) ll k2 (l2, n2) ∧ FrOk 85 [(51, .int .i64 (k2 : Int)), (3, .int .i64 speed), (7, .pointer (some ⟨g1, 0, none⟩)), (14, .slice l2A l2.length l2C), (15, .int .i64 n2), (49, .slice jA j.length jC), (50, .int .i64 (j.length : Int))] a ∧ Sat w0 none_ [hown 24 l2A l2C l2, hown 58 y1A y1C y1, hbox g1 24 [.int .i64 from_.X, .int .i64 from_.Y]] w) j ⟨0, ([] : List Point), none, 0, (w64 (change * (w64 ((j.length : Int) + (y1.length : Int))))), rfl, Nat.zero_add _, h, (((((((hf.nil.cons (hf.get 50 _ rfl)).cons (hf.get 49 _ rfl)).cons (hf.get 15 _ rfl)).cons (hf.get 14 _ rfl)).cons (hf.get 7 _ rfl)).cons (hf.get 3 _ rfl)).cons (hf.get 51 _ rfl)), hs⟩ ?_
        clear h hf hs
        rintro llk2 a w ⟨k2, l2, l2A, l2C, n2, hlk2, hkk2, h, hf, hs⟩
        cases llk2 with
        | nil =>
          have hc := range_done hkk2
          replace h : (fun (l2 : List Point) (n2 : Int) => M_drill_way l2 from_ fun y3 => must (speed ≠ 0) (Q (w64 (n2 + (w64 ((w64 ((w64 (y3 + speed)) - 1)).tdiv speed)))) 0)) l2 n2 := h
          refine wp_seq ?_
          refine R.list ?_
          refine S.val hf hs (v := .bool false) rfl rfl rfl (V.cmp false rfl rfl rfl rfl hc) (fun a hf => ?_)
          refine R.nil ?_
          refine X.then_ ?_
          refine wp_seq ?_
          refine C.no hf rfl ?_
          refine wp_exit ?_
          refine X.then_exit ?_
          refine X.then_exit ?_
          refine X.blk_exit ?_
          refine X.then_ ?_
          refine wp_seq ?_
          refine R.list ?_
          refine S.val hf hs (v := .int .i64 n2) rfl rfl rfl (V.pure rfl) (fun a hf => ?_)
          refine S.val hf hs (v := .slice l2A l2.length l2C) rfl rfl rfl (V.pure rfl) (fun a hf => ?_)
          refine S.val hf hs (v := .agg #[.int .i64 from_.X, .int .i64 from_.Y]) rfl rfl rfl (V.loadBox 2 rfl rfl rfl Try.isAgg24 Try.sizeOf24 rfl rfl) (fun a hf => ?_)
          refine S.call hf rfl rfl rfl (call_fn (vs := [.slice l2A l2.length l2C, .agg #[.int .i64 from_.X, .int .i64 from_.Y]]) rfl rfl rfl Try.call49) (R_drill_way l2 from_ _ l2A l2C (hs.ownView 0 rfl) _ h) (fun v a w' hf hr => ?_)
          obtain ⟨y3, rfl, h2, hs2⟩ := hr
          replace h := h2; replace hs := hs.call hs2; clear h2 hs2
          refine S.val hf hs (v := .int .i64 speed) rfl rfl rfl (V.pure rfl) (fun a hf => ?_)
          refine S.val hf hs (v := .int .i64 (w64 (y3 + speed))) rfl rfl rfl (V.pure rfl) (fun a hf => ?_)
          refine S.val hf hs (v := .int .i64 (w64 ((w64 (y3 + speed)) - 1))) rfl rfl rfl (V.pure rfl) (fun a hf => ?_)
          refine S.val hf hs (v := .int .i64 speed) rfl rfl rfl (V.pure rfl) (fun a hf => ?_)
          obtain ⟨hne, h⟩ := h
          refine S.val hf hs (v := .int .i64 (w64 ((w64 ((w64 (y3 + speed)) - 1)).tdiv speed))) rfl rfl rfl (V.quo rfl rfl rfl hne) (fun a hf => ?_)
          refine S.val hf hs (v := .int .i64 (w64 (n2 + (w64 ((w64 ((w64 (y3 + speed)) - 1)).tdiv speed))))) rfl rfl rfl (V.pure rfl) (fun a hf => ?_)
          refine S.val hf hs (v := .int .i64 (w64 (n2 + (w64 ((w64 ((w64 (y3 + speed)) - 1)).tdiv speed))))) rfl rfl rfl (V.pure rfl) (fun a hf => ?_)
          refine S.val hf hs (v := .int .i64 0) rfl rfl rfl (V.pure rfl) (fun a hf => ?_)
          refine R.nil ?_
          refine X.then_ ?_
          refine wp_ret ?_
          exact L.ret hf (run_results2 Try.results40 (ResIs.tmp hf rfl) (ResIs.tmp hf rfl)) ⟨(w64 (n2 + (w64 ((w64 ((w64 (y3 + speed)) - 1)).tdiv speed)))), 0, rfl, h, hs.nil⟩
        | cons xk2 llk2 =>
          have hltk2 := range_lt hkk2; have hc := range_go hkk2; have hxk2 := range_get hlk2
          obtain ⟨next1, hnext1⟩ : ∃ X : List Point → Int → Prop, X = (fun l2 n2 => forIn' (fun k x (s : List Point × Int) next => M_drill_Seconds_L1 k x s.1 s.2 (fun l2 n2 => next (l2, n2))) (fun (s : List Point × Int) => (fun (l2 : List Point) (n2 : Int) => M_drill_way l2 from_ fun y3 => must (speed ≠ 0) (Q (w64 (n2 + (w64 ((w64 ((w64 (y3 + speed)) - 1)).tdiv speed)))) 0)) s.1 s.2) llk2 (k2 + 1) (l2, n2)) := ⟨_, rfl⟩
          replace h : M_drill_Seconds_L1 k2 xk2 l2 n2 next1 := by rw [hnext1]; exact h
          unfold M_drill_Seconds_L1 at h
          refine wp_seq ?_
          refine R.list ?_
          refine S.val hf hs (v := .bool true) rfl rfl rfl (V.cmp true rfl rfl rfl rfl hc) (fun a hf => ?_)
          refine R.nil ?_
          refine X.then_ ?_
          refine wp_seq ?_
          refine C.yes hf rfl ?_
          refine wp_skip ?_
          refine X.then_ ?_
          refine wp_seq ?_
          refine wp_block ?_
          refine wp_seq ?_
          refine R.list ?_
          obtain ⟨cs1, he1, hr1⟩ := hv_j.at_ _ _ hxk2
          obtain ⟨u1A, u1C, rfl, hvu1⟩ := hr1
          refine S.val hf hs (v := elemPtr jA (k2 * 2)) rfl rfl rfl (V.index rfl rfl rfl Try.runUnderlying49 Try.sizeOf54 (hv_j.some_ (lt_of_get hxk2)) (Int.natCast_nonneg _) (lt_of_get hxk2) rfl) (fun a hf => ?_)
          refine S.val hf hs (v := .agg #[.string (ba xk2.Tool), .slice u1A xk2.Holes.length u1C]) rfl rfl rfl (V.loadEl (off := 0) (Ag.args _ _ _) he1 rfl rfl rfl Try.isAgg54 Try.sizeOf54 rfl rfl) (fun a hf => ?_)
          refine S.alloc hf hs rfl rfl rfl [.string (ba []), .slice none 0 0] rfl Try.zeroValue54 rfl (fun g2 a w hf hs => ?_)
          refine S.storeBox 0 hf hs rfl rfl [.string (ba xk2.Tool), .slice u1A xk2.Holes.length u1C] [.string (ba xk2.Tool), .slice u1A xk2.Holes.length u1C] rfl rfl rfl rfl rfl Try.sizeOf54 rfl rfl rfl rfl (fun a w hf hs => ?_)
          refine R.nil ?_
          refine X.then_ ?_
          refine wp_seq ?_
          refine R.list ?_
          refine S.val hf hs (v := .pointer (some ⟨g2, 1, none⟩)) rfl rfl rfl (V.fieldBox rfl rfl Try.runUnderlying54 rfl Try.sizeOf34 rfl rfl) (fun a hf => ?_)
          refine S.val hf hs (v := .slice u1A xk2.Holes.length u1C) rfl rfl rfl (V.loadBox 0 rfl rfl rfl Try.isAgg34 Try.sizeOf34 rfl rfl) (fun a hf => ?_)
          refine S.val hf hs (v := .int .i64 (xk2.Holes.length : Int)) rfl rfl rfl (V.len rfl rfl Try.runUnderlying34) (fun a hf => ?_)
          refine S.val hf hs (v := .int .i64 0) rfl rfl rfl (V.pure rfl) (fun a hf => ?_)
          refine R.nil ?_
          refine X.then_ ?_
          refine wp_block ?_
          have hlenk3 := hvu1.len64
          refine C.range (fun (ll : List Hole) a w => ∃ (k3 : Nat) (l4 : List Point) (l4A : Option Addr) (l4C : Nat) (n4 : Int), xk2.Holes.drop k3 = ll ∧ k3 + ll.length = xk2.Holes.length ∧ forIn' (fun k x (s : List Point × Int) next => M_drill_Seconds_L2 k x s.1 s.2 (fun l4 n4 => next (l4, n4))) (fun (s : List Point × Int) => (fun (l4 : List Point) (n4 : Int) => next1 l4 n4) s.1 s.2) ll k3 (l4, n4) ∧ FrOk 85 [(58, .int .i64 (k3 : Int)), (3, .int .i64 speed), (7, .pointer (some ⟨g1, 0, none⟩)), (14, .slice l4A l4.length l4C), (15, .int .i64 n4), (49, .slice jA j.length jC), (50, .int .i64 (j.length : Int)), (51, .int .i64 (k2 : Int)), (56, .slice u1A xk2.Holes.length u1C), (57, .int .i64 (xk2.Holes.length : Int))] a ∧ Sat w0 none_ [hbox g2 54 [.string (ba xk2.Tool), .slice u1A xk2.Holes.length u1C], hown 24 l4A l4C l4, hown 58 y1A y1C y1, hbox g1 24 [.int .i64 from_.X, .int .i64 from_.Y]] w) xk2.Holes ⟨0, l2, l2A, l2C, n2, rfl, Nat.zero_add _, h, ((((((((((hf.nil.cons (hf.get 57 _ rfl)).cons (hf.get 56 _ rfl)).cons (hf.get 51 _ rfl)).cons (hf.get 50 _ rfl)).cons (hf.get 49 _ rfl)).cons (hf.get 15 _ rfl)).cons (hf.get 14 _ rfl)).cons (hf.get 7 _ rfl)).cons (hf.get 3 _ rfl)).cons (hf.get 58 _ rfl)), hs⟩ ?_
          clear h hf hs
          rintro llk3 a w ⟨k3, l4, l4A, l4C, n4, hlk3, hkk3, h, hf, hs⟩
          cases llk3 with
          | nil =>
            have hc := range_done hkk3
            replace h : (fun (l4 : List Point) (n4 : Int) => next1 l4 n4) l4 n4 := h
            refine wp_seq ?_
            refine R.list ?_
            refine S.val hf hs (v := .bool false) rfl rfl rfl (V.cmp false rfl rfl rfl rfl hc) (fun a hf => ?_)
            refine R.nil ?_
            refine X.then_ ?_
            refine wp_seq ?_
            refine C.no hf rfl ?_
            refine wp_exit ?_
            refine X.then_exit ?_
            refine X.then_exit ?_
            refine X.blk_exit ?_
            refine X.blk ?_
            refine X.then_ ?_
            refine R.list ?_
            refine S.val hf hs (v := .int .i64 ((k2 + 1 : Nat) : Int)) rfl rfl rfl (V.incr rfl rfl rfl hltk2 hlenk2) (fun a hf => ?_)
            refine S.val hf hs (v := .int .i64 ((k2 + 1 : Nat) : Int)) rfl rfl rfl (V.pure rfl) (fun a hf => ?_)
            refine R.nil ?_
            refine X.then_ ?_
            exact ⟨xk2, llk2, rfl, k2 + 1, l4, l4A, l4C, n4, range_drop hlk2, range_len hkk2, (by rw [hnext1] at h; exact h), (((((((hf.nil.cons (hf.get 50 _ rfl)).cons (hf.get 49 _ rfl)).cons (hf.get 15 _ rfl)).cons (hf.get 14 _ rfl)).cons (hf.get 7 _ rfl)).cons (hf.get 3 _ rfl)).cons (hf.get 51 _ rfl)), hs.drop⟩
          | cons xk3 llk3 =>
            have hltk3 := range_lt hkk3; have hc := range_go hkk3; have hxk3 := range_get hlk3
            obtain ⟨next2, hnext2⟩ : ∃ X : List Point → Int → Prop, X = (fun l4 n4 => forIn' (fun k x (s : List Point × Int) next => M_drill_Seconds_L2 k x s.1 s.2 (fun l4 n4 => next (l4, n4))) (fun (s : List Point × Int) => (fun (l4 : List Point) (n4 : Int) => next1 l4 n4) s.1 s.2) llk3 (k3 + 1) (l4, n4)) := ⟨_, rfl⟩
            replace h : M_drill_Seconds_L2 k3 xk3 l4 n4 next2 := by rw [hnext2]; exact h
            unfold M_drill_Seconds_L2 at h
            refine wp_seq ?_
            refine R.list ?_
            refine S.val hf hs (v := .bool true) rfl rfl rfl (V.cmp true rfl rfl rfl rfl hc) (fun a hf => ?_)
            refine R.nil ?_
            refine X.then_ ?_
            refine wp_seq ?_
            refine C.yes hf rfl ?_
            refine wp_skip ?_
            refine X.then_ ?_
            refine wp_seq ?_
            refine wp_block ?_
            refine wp_seq ?_
            refine R.list ?_
            refine S.val hf hs (v := elemPtr u1A (k3 * 5)) rfl rfl rfl (V.index rfl rfl rfl Try.runUnderlying34 Try.sizeOf76 (hvu1.some_ (lt_of_get hxk3)) (Int.natCast_nonneg _) (lt_of_get hxk3) rfl) (fun a hf => ?_)
            refine S.val hf hs (v := .agg #[.int .i64 xk3.At.X, .int .i64 xk3.At.Y, .int .i64 xk3.Size, .int .i64 xk3.Depth, .bool xk3.Plated]) rfl rfl rfl (V.loadEl (off := 0) (Ag.args _ _ _) (hvu1.flat hxk3) rfl rfl rfl Try.isAgg76 Try.sizeOf76 rfl rfl) (fun a hf => ?_)
            refine S.alloc hf hs rfl rfl rfl [.int .i64 0, .int .i64 0, .int .i64 0, .int .i64 0, .bool false] rfl Try.zeroValue76 rfl (fun g3 a w hf hs => ?_)
            refine S.storeBox 0 hf hs rfl rfl [.int .i64 xk3.At.X, .int .i64 xk3.At.Y, .int .i64 xk3.Size, .int .i64 xk3.Depth, .bool xk3.Plated] [.int .i64 xk3.At.X, .int .i64 xk3.At.Y, .int .i64 xk3.Size, .int .i64 xk3.Depth, .bool xk3.Plated] rfl rfl rfl rfl rfl Try.sizeOf76 rfl rfl rfl rfl (fun a w hf hs => ?_)
            refine R.nil ?_
            refine X.then_ ?_
            refine wp_seq ?_
            refine R.list ?_
            refine S.val hf hs (v := .slice l4A l4.length l4C) rfl rfl rfl (V.pure rfl) (fun a hf => ?_)
            refine S.val hf hs (v := .pointer (some ⟨g3, 0, none⟩)) rfl rfl rfl (V.fieldBox rfl rfl Try.runUnderlying76 rfl Try.sizeOf24 rfl rfl) (fun a hf => ?_)
            refine S.val hf hs (v := .agg #[.int .i64 xk3.At.X, .int .i64 xk3.At.Y]) rfl rfl rfl (V.loadBox 0 rfl rfl rfl Try.isAgg24 Try.sizeOf24 rfl rfl) (fun a hf => ?_)
            refine S.build1 hf hs rfl rfl rfl (α := Point) xk3.At rfl rfl rfl Try.runUnderlying22 Try.sizeOf24 Try.zeroValue24 rfl (by decide) (fun A1 a w hf hs => ?_)
            obtain ⟨hroom, h⟩ := h
            refine S.appendCells 3 hf hs rfl rfl rfl rfl rfl rfl rfl Try.underlying22 info24 rfl hroom ((hs.ownView 0 rfl).some_ (i := 0) (by simp)) (hs.ownView 0 rfl) (fun A2 C1 a w hf hs => ?_)
            replace hs := hs.drop
            refine S.val hf hs (v := .slice A2 (l4 ++ [xk3.At]).length C1) rfl rfl rfl (V.pure rfl) (fun a hf => ?_)
            refine R.nil ?_
            refine X.then_ ?_
            refine R.list ?_
            refine S.val hf hs (v := .int .i64 n4) rfl rfl rfl (V.pure rfl) (fun a hf => ?_)
            refine S.val hf hs (v := .pointer (some ⟨g3, 3, none⟩)) rfl rfl rfl (V.fieldBox rfl rfl Try.runUnderlying76 rfl Try.sizeOf3 rfl rfl) (fun a hf => ?_)
            refine S.val hf hs (v := .int .i64 xk3.Depth) rfl rfl rfl (V.loadBox 0 rfl rfl rfl Try.isAgg3 Try.sizeOf3 rfl rfl) (fun a hf => ?_)
            refine S.val hf hs (v := .int .i64 (w64 (xk3.Depth + 99))) rfl rfl rfl (V.pure rfl) (fun a hf => ?_)
            refine S.val hf hs (v := .int .i64 (w64 ((w64 (xk3.Depth + 99)).tdiv 100))) rfl rfl rfl (V.quo rfl rfl rfl (by decide)) (fun a hf => ?_)
            refine S.val hf hs (v := .int .i64 (w64 (n4 + (w64 ((w64 (xk3.Depth + 99)).tdiv 100))))) rfl rfl rfl (V.pure rfl) (fun a hf => ?_)
            refine S.val hf hs (v := .int .i64 (w64 (n4 + (w64 ((w64 (xk3.Depth + 99)).tdiv 100))))) rfl rfl rfl (V.pure rfl) (fun a hf => ?_)
            refine R.nil ?_
            refine X.blk ?_
            refine X.then_ ?_
            refine R.list ?_
            refine S.val hf hs (v := .int .i64 ((k3 + 1 : Nat) : Int)) rfl rfl rfl (V.incr rfl rfl rfl hltk3 hlenk3) (fun a hf => ?_)
            refine S.val hf hs (v := .int .i64 ((k3 + 1 : Nat) : Int)) rfl rfl rfl (V.pure rfl) (fun a hf => ?_)
            refine R.nil ?_
            refine X.then_ ?_
            exact ⟨xk3, llk3, rfl, k3 + 1, (l4 ++ [xk3.At]), A2, C1, (w64 (n4 + (w64 ((w64 (xk3.Depth + 99)).tdiv 100)))), range_drop hlk3, range_len hkk3, (by rw [hnext2] at h; exact h), ((((((((((hf.nil.cons (hf.get 57 _ rfl)).cons (hf.get 56 _ rfl)).cons (hf.get 51 _ rfl)).cons (hf.get 50 _ rfl)).cons (hf.get 49 _ rfl)).cons (hf.get 15 _ rfl)).cons (hf.get 14 _ rfl)).cons (hf.get 7 _ rfl)).cons (hf.get 3 _ rfl)).cons (hf.get 58 _ rfl)), hs.drop⟩
    · skip
      refine R.list ?_
      refine S.val hf hs (v := .agg #[.int .i64 from_.X, .int .i64 from_.Y]) rfl rfl rfl (V.loadBox 1 rfl rfl rfl Try.isAgg24 Try.sizeOf24 rfl rfl) (fun a hf => ?_)
      refine S.callv hf rfl rfl rfl (call_fn (vs := [.agg #[.int .i64 from_.X, .int .i64 from_.Y]]) rfl rfl rfl Try.call74) (C_shape_IsPoint from_ _ ) (fun a w hf hs' => ?_)
      replace hs := hs.call hs'; clear hs'
      refine S.val hf hs (v := .bool (!(isPoint from_))) rfl rfl rfl (V.pure rfl) (fun a hf => ?_)
      refine S.split hf hs (b := !(isPoint from_)) rfl rfl rfl (V.pure rfl) (fun hc a hf => ?_) (fun hc a hf => ?_)
      · replace h := h.1 hc
        refine S.skip hf rfl rfl rfl (fun a hf => ?_)
        refine S.skip hf rfl rfl rfl (fun a hf => ?_)
        refine S.skip hf rfl rfl rfl (fun a hf => ?_)
        refine S.val hf hs (v := .bool true) rfl rfl rfl (V.pure rfl) (fun a hf => ?_)
        refine S.val hf hs (v := .bool true) rfl rfl rfl (V.pure rfl) (fun a hf => ?_)
        refine S.skip hf rfl rfl rfl (fun a hf => ?_)
        refine S.skip hf rfl rfl rfl (fun a hf => ?_)
        refine S.skip hf rfl rfl rfl (fun a hf => ?_)
        refine S.val hf hs (v := .bool true) rfl rfl rfl (V.pure rfl) (fun a hf => ?_)
        refine R.nil ?_
        refine X.then_ ?_
        exact ⟨true, h, ((((((hf.nil.cons (hf.get 41 _ rfl)).cons (hf.get 12 _ rfl)).cons (hf.get 7 _ rfl)).cons (hf.get 4 _ rfl)).cons (hf.get 3 _ rfl)).cons (hf.get 1 _ rfl)), hs⟩
      · replace h := h.2 hc
        refine S.val hf hs (v := .int .i64 speed) rfl rfl rfl (V.pure rfl) (fun a hf => ?_)
        refine S.callv hf rfl rfl rfl (call_fn (vs := [.int .i64 speed, .int .i64 1, .int .i64 1000000]) rfl rfl rfl Try.call55) (C_drill_within speed 1 1000000 _ ) (fun a w hf hs' => ?_)
        replace hs := hs.call hs'; clear hs'
        refine S.val hf hs (v := .bool (!(within speed 1 1000000))) rfl rfl rfl (V.pure rfl) (fun a hf => ?_)
        refine S.val hf hs (v := .bool (!(within speed 1 1000000))) rfl rfl rfl (V.pure rfl) (fun a hf => ?_)
        refine S.split hf hs (b := !(within speed 1 1000000)) rfl rfl rfl (V.pure rfl) (fun hc a hf => ?_) (fun hc a hf => ?_)
        · replace h := h.1 hc
          refine S.skip hf rfl rfl rfl (fun a hf => ?_)
          refine S.skip hf rfl rfl rfl (fun a hf => ?_)
          refine S.skip hf rfl rfl rfl (fun a hf => ?_)
          refine S.val hf hs (v := .bool true) rfl rfl rfl (V.pure rfl) (fun a hf => ?_)
          refine R.nil ?_
          refine X.then_ ?_
          exact ⟨true, h, ((((((hf.nil.cons (hf.get 41 _ rfl)).cons (hf.get 12 _ rfl)).cons (hf.get 7 _ rfl)).cons (hf.get 4 _ rfl)).cons (hf.get 3 _ rfl)).cons (hf.get 1 _ rfl)), hs⟩
        · replace h := h.2 hc
          refine S.val hf hs (v := .int .i64 change) rfl rfl rfl (V.pure rfl) (fun a hf => ?_)
          refine S.callv hf rfl rfl rfl (call_fn (vs := [.int .i64 change, .int .i64 0, .int .i64 1000000]) rfl rfl rfl Try.call55) (C_drill_within change 0 1000000 _ ) (fun a w hf hs' => ?_)
          replace hs := hs.call hs'; clear hs'
          refine S.val hf hs (v := .bool (!(within change 0 1000000))) rfl rfl rfl (V.pure rfl) (fun a hf => ?_)
          refine S.val hf hs (v := .bool (!(within change 0 1000000))) rfl rfl rfl (V.pure rfl) (fun a hf => ?_)
          refine R.nil ?_
          refine X.then_ ?_
          exact ⟨(!(within change 0 1000000)), h, ((((((hf.nil.cons (hf.get 41 _ rfl)).cons (hf.get 12 _ rfl)).cons (hf.get 7 _ rfl)).cons (hf.get 4 _ rfl)).cons (hf.get 3 _ rfl)).cons (hf.get 1 _ rfl)), hs⟩

set_option linter.unusedVariables false
def M_ref8_Seconds_L2  (k3 : Nat) (xk3 : Hole) (b4 : Point) (n7 : Int) (n8 : Int) (next2 : Point → Int → Int → Prop) : Prop :=
  next2 xk3.At (w64 (n7 + (rdist b4 xk3.At))) (w64 (n8 + (w64 ((w64 (xk3.Depth + 99)).tdiv 100))))
def M_ref8_Seconds_L1  (k2 : Nat) (xk2 : Job) (b2 : Point) (n3 : Int) (n4 : Int) (next1 : Point → Int → Int → Prop) : Prop :=
  forIn' (fun k x (s : Point × Int × Int) next => M_ref8_Seconds_L2 k x s.1 s.2.1 s.2.2 (fun b4 n7 n8 => next (b4, n7, n8))) (fun (s : Point × Int × Int) => (fun (b4 : Point) (n7 : Int) (n8 : Int) => next1 b4 n7 n8) s.1 s.2.1 s.2.2) xk2.Holes 0 (b2, n3, n4)
def M_ref8_Seconds_k1 (j : (List Job)) (from_ : Point) (speed : Int) (change : Int) (Q : Int → Int → Prop) (y2 : (List Change)) (c1 : Bool) : Prop :=
  cnd c1 (Q 0 1) (forIn' (fun k x (s : Point × Int × Int) next => M_ref8_Seconds_L1 k x s.1 s.2.1 s.2.2 (fun b2 n3 n4 => next (b2, n3, n4))) (fun (s : Point × Int × Int) => (fun (b2 : Point) (n3 : Int) (n4 : Int) => must (speed ≠ 0) (Q (w64 ((w64 (n4 + (w64 ((w64 ((w64 (n3 + speed)) - 1)).tdiv speed)))) + (w64 (change * (w64 ((j.length : Int) + (y2.length : Int))))))) 0)) s.1 s.2.1 s.2.2) j 0 (from_, 0, 0))
def M_ref8_Seconds (t : (List Bit)) (j : (List Job)) (from_ : Point) (speed : Int) (change : Int) (Q : Int → Int → Prop) : Prop :=
  M_ref8_CheckJobs t j fun y1 => cnd (y1 != 0) (Q 0 y1) (M_ref8_changes t j fun y2 y3 => cnd (y3 != 0) (Q 0 y3) (cnd (!(isPoint from_)) (M_ref8_Seconds_k1 j from_ speed change Q y2 true) (cnd (!(within speed 1 1000000)) (M_ref8_Seconds_k1 j from_ speed change Q y2 true) (M_ref8_Seconds_k1 j from_ speed change Q y2 (!(within change 0 1000000))))))
set_option maxHeartbeats 1000000 in
theorem R_ref8_Seconds (t : (List Bit)) (j : (List Job)) (from_ : Point) (speed : Int) (change : Int) (w0 : World) (tA : Option Addr) (tC : Nat) (hv_t : View w0 (old w0 none_) tA tC t) (jA : Option Addr) (jC : Nat) (hv_j : View w0 (old w0 none_) jA jC j) (Q : Int → Int → Prop) (h : M_ref8_Seconds t j from_ speed change Q) :
    Ret Try.prog 45 #[.slice tA t.length tC, .slice jA j.length jC, .agg #[.int .i64 from_.X, .int .i64 from_.Y], .int .i64 speed, .int .i64 change] w0 fun v w' => ∃ (r0 : Int) (r1 : Int), v = .tuple #[.int .i64 r0, .int .i64 r1] ∧ Q r0 r1 ∧ Sat w0 none_ [] w' := by
  refine fn_enter Try.func45 rfl Try.ntmps45 rfl (fs := [(0, .slice tA t.length tC), (1, .slice jA j.length jC), (2, .agg #[.int .i64 from_.X, .int .i64 from_.Y]), (3, .int .i64 speed), (4, .int .i64 change)]) rfl (fun a hf => ?_)
  have hs := Sat.start w0 none_
  unfold M_ref8_Seconds at h
  refine wp_seq ?_
  refine R.list ?_
  refine S.box hf hs rfl rfl rfl [.int .i64 from_.X, .int .i64 from_.Y] rfl rfl rfl (fun g1 a w hf hs => ?_)
  refine S.val hf hs (v := .int .i64 0) rfl rfl rfl (V.pure rfl) (fun a hf => ?_)
  refine S.val hf hs (v := .int .i64 0) rfl rfl rfl (V.pure rfl) (fun a hf => ?_)
  refine R.nil ?_
  refine X.then_ ?_
  refine wp_seq ?_
  refine wp_seq ?_
  refine R.list ?_
  refine S.val hf hs (v := .slice tA t.length tC) rfl rfl rfl (V.pure rfl) (fun a hf => ?_)
  refine S.val hf hs (v := .slice jA j.length jC) rfl rfl rfl (V.pure rfl) (fun a hf => ?_)
  refine S.call hf rfl rfl rfl (call_fn (vs := [.slice tA t.length tC, .slice jA j.length jC]) rfl rfl rfl Try.call43) (R_ref8_CheckJobs t j _ tA tC ((Ag.args _ _ _).view hv_t hs) jA jC ((Ag.args _ _ _).view hv_j hs) _ h) (fun v a w' hf hr => ?_)
  obtain ⟨y1, rfl, h2, hs2⟩ := hr
  replace h := h2; replace hs := hs.call hs2; clear h2 hs2
  refine S.val hf hs (v := .int .i64 y1) rfl rfl rfl (V.pure rfl) (fun a hf => ?_)
  refine R.nil ?_
  refine X.then_ ?_
  refine wp_seq ?_
  refine R.list ?_
  refine S.val hf hs (v := .int .i64 y1) rfl rfl rfl (V.pure rfl) (fun a hf => ?_)
  refine S.val hf hs (v := .bool (y1 != 0)) rfl rfl rfl (V.pure rfl) (fun a hf => ?_)
  refine R.nil ?_
  refine X.then_ ?_
  refine C.cond hf (b := y1 != 0) rfl (fun hc => ?_) (fun hc => ?_)
  · replace h := h.1 hc
    refine wp_seq ?_
    refine R.list ?_
    refine S.val hf hs (v := .int .i64 y1) rfl rfl rfl (V.pure rfl) (fun a hf => ?_)
    refine S.val hf hs (v := .int .i64 0) rfl rfl rfl (V.pure rfl) (fun a hf => ?_)
    refine S.val hf hs (v := .int .i64 y1) rfl rfl rfl (V.pure rfl) (fun a hf => ?_)
    refine R.nil ?_
    refine X.then_ ?_
    refine wp_ret ?_
    refine X.then_ret ?_
    exact L.ret hf (run_results2 Try.results45 (ResIs.tmp hf rfl) (ResIs.tmp hf rfl)) ⟨0, y1, rfl, h, hs.nil⟩
  · replace h := h.2 hc
    refine wp_skip ?_
    refine X.then_ ?_
    refine wp_seq ?_
    refine R.list ?_
    refine S.val hf hs (v := .slice tA t.length tC) rfl rfl rfl (V.pure rfl) (fun a hf => ?_)
    refine S.val hf hs (v := .slice jA j.length jC) rfl rfl rfl (V.pure rfl) (fun a hf => ?_)
    refine S.call hf rfl rfl rfl (call_fn (vs := [.slice tA t.length tC, .slice jA j.length jC]) rfl rfl rfl Try.call75) (R_ref8_changes t j _ tA tC ((Ag.args _ _ _).view hv_t hs) jA jC ((Ag.args _ _ _).view hv_j hs) _ h) (fun v a w' hf hr => ?_)
    obtain ⟨y2, y2A, y2C, y3, rfl, h2, hs2⟩ := hr
    replace h := h2; replace hs := hs.call hs2; clear h2 hs2
    refine S.val hf hs (v := .tuple #[.slice y2A y2.length y2C, .int .i64 y3]) rfl rfl rfl (V.pure rfl) (fun a hf => ?_)
    refine S.val hf hs (v := .slice y2A y2.length y2C) rfl rfl rfl (V.pure rfl) (fun a hf => ?_)
    refine S.val hf hs (v := .int .i64 y3) rfl rfl rfl (V.pure rfl) (fun a hf => ?_)
    refine S.val hf hs (v := .slice y2A y2.length y2C) rfl rfl rfl (V.pure rfl) (fun a hf => ?_)
    refine S.val hf hs (v := .int .i64 y3) rfl rfl rfl (V.pure rfl) (fun a hf => ?_)
    refine R.nil ?_
    refine X.then_ ?_
    refine wp_seq ?_
    refine wp_seq ?_
    refine R.list ?_
    refine S.val hf hs (v := .int .i64 y3) rfl rfl rfl (V.pure rfl) (fun a hf => ?_)
    refine S.val hf hs (v := .bool (y3 != 0)) rfl rfl rfl (V.pure rfl) (fun a hf => ?_)
    refine R.nil ?_
    refine X.then_ ?_
    refine C.cond hf (b := y3 != 0) rfl (fun hc => ?_) (fun hc => ?_)
    · replace h := h.1 hc
      refine wp_seq ?_
      refine R.list ?_
      refine S.val hf hs (v := .int .i64 y3) rfl rfl rfl (V.pure rfl) (fun a hf => ?_)
      refine S.val hf hs (v := .int .i64 0) rfl rfl rfl (V.pure rfl) (fun a hf => ?_)
      refine S.val hf hs (v := .int .i64 y3) rfl rfl rfl (V.pure rfl) (fun a hf => ?_)
      refine R.nil ?_
      refine X.then_ ?_
      refine wp_ret ?_
      refine X.then_ret ?_
      exact L.ret hf (run_results2 Try.results45 (ResIs.tmp hf rfl) (ResIs.tmp hf rfl)) ⟨0, y3, rfl, h, hs.nil⟩
    · replace h := h.2 hc
      refine wp_skip ?_
      refine X.then_ ?_
      refine wp_seq ?_
      refine wp_seq ?_
      refine C.cut (J := fun a w => ∃ (c1 : Bool), M_ref8_Seconds_k1 j from_ speed change Q y2 c1 ∧ FrOk 94 [(1, .slice jA j.length jC), (3, .int .i64 speed), (4, .int .i64 change), (7, .pointer (some ⟨g1, 0, none⟩)), (13, .slice y2A y2.length y2C), (48, .bool c1)] a ∧ Sat w0 none_ [hown 58 y2A y2C y2, hbox g1 24 [.int .i64 from_.X, .int .i64 from_.Y]] w) ?_ ?_
      · rintro a w ⟨c1, h, hf, hs⟩
        unfold M_ref8_Seconds_k1 at h
        refine C.cond hf (b := c1) rfl (fun hc => ?_) (fun hc => ?_)
        · replace h := h.1 hc
          refine wp_seq ?_
          refine R.list ?_
          refine S.val hf hs (v := .int .i64 0) rfl rfl rfl (V.pure rfl) (fun a hf => ?_)
          refine S.val hf hs (v := .int .i64 1) rfl rfl rfl (V.pure rfl) (fun a hf => ?_)
          refine R.nil ?_
          refine X.then_ ?_
          refine wp_ret ?_
          refine X.then_ret ?_
          exact L.ret hf (run_results2 Try.results45 (ResIs.tmp hf rfl) (ResIs.tmp hf rfl)) ⟨0, 1, rfl, h, hs.nil⟩
        · replace h := h.2 hc
          refine wp_skip ?_
          refine X.then_ ?_
          refine wp_seq ?_
          refine R.list ?_
          refine S.val hf hs (v := .int .i64 0) rfl rfl rfl (V.pure rfl) (fun a hf => ?_)
          refine S.val hf hs (v := .int .i64 0) rfl rfl rfl (V.pure rfl) (fun a hf => ?_)
          refine R.nil ?_
          refine X.then_ ?_
          refine wp_seq ?_
          refine wp_seq ?_
          refine R.list ?_
          refine S.val hf hs (v := .slice jA j.length jC) rfl rfl rfl (V.pure rfl) (fun a hf => ?_)
          refine S.val hf hs (v := .int .i64 (j.length : Int)) rfl rfl rfl (V.len rfl rfl Try.runUnderlying49) (fun a hf => ?_)
          refine S.val hf hs (v := .int .i64 0) rfl rfl rfl (V.pure rfl) (fun a hf => ?_)
          refine R.nil ?_
          refine X.then_ ?_
          refine wp_block ?_
          have hlenk2 := hv_j.len64
          refine C.range (fun (ll : List Job) a w => ∃ (k2 : Nat) (b2 : Point) (n3 : Int) (n4 : Int), j.drop k2 = ll ∧ k2 + ll.length = j.length ∧ forIn' (fun k x (s : Point × Int × Int) next => M_ref8_Seconds_L1 k x s.1 s.2.1 s.2.2 (fun b2 n3 n4 => next (b2, n3, n4))) (fun (s : Point × Int × Int) => (fun (b2 : Point) (n3 : Int) (n4 : Int) => must (speed ≠ 0) (Q (w64 ((w64 (n4 + (w64 ((w64 ((w64 (n3 + speed)) - 1)).tdiv speed)))) + (w64 (change * (w64 ((j.length : Int) + (y2.length : Int))))))) 0)) s.1 s.2.1 s.2.2) ll k2 (b2, n3, n4) ∧ FrOk 94 [(51, .int .i64 (k2 : Int)), (1, .slice jA j.length jC), (3, .int .i64 speed), (4, .int .i64 change), (7, .pointer (some ⟨g1, 0, none⟩)), (13, .slice y2A y2.length y2C), (15, .int .i64 n3), (16, .int .i64 n4), (49, .slice jA j.length jC), (50, .int .i64 (j.length : Int))] a ∧ Sat w0 none_ [hown 58 y2A y2C y2, hbox g1 24 [.int .i64 b2.X, .int .i64 b2.Y]] w) j ⟨0, from_, 0, 0, rfl, Nat.zero_add _, h, ((((((((((hf.nil.cons (hf.get 50 _ rfl)).cons (hf.get 49 _ rfl)).cons (hf.get 16 _ rfl)).cons (hf.get 15 _ rfl)).cons (hf.get 13 _ rfl)).cons (hf.get 7 _ rfl)).cons (hf.get 4 _ rfl)).cons (hf.get 3 _ rfl)).cons (hf.get 1 _ rfl)).cons (hf.get 51 _ rfl)), hs⟩ ?_
          clear h hf hs
          rintro llk2 a w ⟨k2, b2, n3, n4, hlk2, hkk2, h, hf, hs⟩
          cases llk2 with
          | nil =>
            have hc := range_done hkk2
            replace h : (fun (b2 : Point) (n3 : Int) (n4 : Int) => must (speed ≠ 0) (Q (w64 ((w64 (n4 + (w64 ((w64 ((w64 (n3 + speed)) - 1)).tdiv speed)))) + (w64 (change * (w64 ((j.length : Int) + (y2.length : Int))))))) 0)) b2 n3 n4 := h
            refine wp_seq ?_
            refine R.list ?_
            refine S.val hf hs (v := .bool false) rfl rfl rfl (V.cmp false rfl rfl rfl rfl hc) (fun a hf => ?_)
            refine R.nil ?_
            refine X.then_ ?_
            refine wp_seq ?_
            refine C.no hf rfl ?_
            refine wp_exit ?_
            refine X.then_exit ?_
            refine X.then_exit ?_
            refine X.blk_exit ?_
            refine X.then_ ?_
            refine wp_seq ?_
            refine R.list ?_
            refine S.val hf hs (v := .int .i64 n4) rfl rfl rfl (V.pure rfl) (fun a hf => ?_)
            refine S.val hf hs (v := .int .i64 n3) rfl rfl rfl (V.pure rfl) (fun a hf => ?_)
            refine S.val hf hs (v := .int .i64 speed) rfl rfl rfl (V.pure rfl) (fun a hf => ?_)
            refine S.val hf hs (v := .int .i64 (w64 (n3 + speed))) rfl rfl rfl (V.pure rfl) (fun a hf => ?_)
            refine S.val hf hs (v := .int .i64 (w64 ((w64 (n3 + speed)) - 1))) rfl rfl rfl (V.pure rfl) (fun a hf => ?_)
            refine S.val hf hs (v := .int .i64 speed) rfl rfl rfl (V.pure rfl) (fun a hf => ?_)
            obtain ⟨hne, h⟩ := h
            refine S.val hf hs (v := .int .i64 (w64 ((w64 ((w64 (n3 + speed)) - 1)).tdiv speed))) rfl rfl rfl (V.quo rfl rfl rfl hne) (fun a hf => ?_)
            refine S.val hf hs (v := .int .i64 (w64 (n4 + (w64 ((w64 ((w64 (n3 + speed)) - 1)).tdiv speed))))) rfl rfl rfl (V.pure rfl) (fun a hf => ?_)
            refine S.val hf hs (v := .int .i64 change) rfl rfl rfl (V.pure rfl) (fun a hf => ?_)
            refine S.val hf hs (v := .slice jA j.length jC) rfl rfl rfl (V.pure rfl) (fun a hf => ?_)
            refine S.val hf hs (v := .int .i64 (j.length : Int)) rfl rfl rfl (V.len rfl rfl Try.runUnderlying49) (fun a hf => ?_)
            refine S.val hf hs (v := .slice y2A y2.length y2C) rfl rfl rfl (V.pure rfl) (fun a hf => ?_)
            refine S.val hf hs (v := .int .i64 (y2.length : Int)) rfl rfl rfl (V.len rfl rfl Try.runUnderlying50) (fun a hf => ?_)
            refine S.val hf hs (v := .int .i64 (w64 ((j.length : Int) + (y2.length : Int)))) rfl rfl rfl (V.pure rfl) (fun a hf => ?_)
            refine S.val hf hs (v := .int .i64 (w64 (change * (w64 ((j.length : Int) + (y2.length : Int)))))) rfl rfl rfl (V.pure rfl) (fun a hf => ?_)
            refine S.val hf hs (v := .int .i64 (w64 ((w64 (n4 + (w64 ((w64 ((w64 (n3 + speed)) - 1)).tdiv speed)))) + (w64 (change * (w64 ((j.length : Int) + (y2.length : Int)))))))) rfl rfl rfl (V.pure rfl) (fun a hf => ?_)
            refine S.val hf hs (v := .int .i64 (w64 ((w64 (n4 + (w64 ((w64 ((w64 (n3 + speed)) - 1)).tdiv speed)))) + (w64 (change * (w64 ((j.length : Int) + (y2.length : Int)))))))) rfl rfl rfl (V.pure rfl) (fun a hf => ?_)
            refine S.val hf hs (v := .int .i64 0) rfl rfl rfl (V.pure rfl) (fun a hf => ?_)
            refine R.nil ?_
            refine X.then_ ?_
            refine wp_ret ?_
            exact L.ret hf (run_results2 Try.results45 (ResIs.tmp hf rfl) (ResIs.tmp hf rfl)) ⟨(w64 ((w64 (n4 + (w64 ((w64 ((w64 (n3 + speed)) - 1)).tdiv speed)))) + (w64 (change * (w64 ((j.length : Int) + (y2.length : Int))))))), 0, rfl, h, hs.nil⟩
          | cons xk2 llk2 =>
            have hltk2 := range_lt hkk2; have hc := range_go hkk2; have hxk2 := range_get hlk2
            obtain ⟨next1, hnext1⟩ : ∃ X : Point → Int → Int → Prop, X = (fun b2 n3 n4 => forIn' (fun k x (s : Point × Int × Int) next => M_ref8_Seconds_L1 k x s.1 s.2.1 s.2.2 (fun b2 n3 n4 => next (b2, n3, n4))) (fun (s : Point × Int × Int) => (fun (b2 : Point) (n3 : Int) (n4 : Int) => must (speed ≠ 0) (Q (w64 ((w64 (n4 + (w64 ((w64 ((w64 (n3 + speed)) - 1)).tdiv speed)))) + (w64 (change * (w64 ((j.length : Int) + (y2.length : Int))))))) 0)) s.1 s.2.1 s.2.2) llk2 (k2 + 1) (b2, n3, n4)) := ⟨_, rfl⟩
            replace h : M_ref8_Seconds_L1 k2 xk2 b2 n3 n4 next1 := by rw [hnext1]; exact h
            unfold M_ref8_Seconds_L1 at h
            refine wp_seq ?_
            refine R.list ?_
            refine S.val hf hs (v := .bool true) rfl rfl rfl (V.cmp true rfl rfl rfl rfl hc) (fun a hf => ?_)
            refine R.nil ?_
            refine X.then_ ?_
            refine wp_seq ?_
            refine C.yes hf rfl ?_
            refine wp_skip ?_
            refine X.then_ ?_
            refine wp_seq ?_
            refine wp_block ?_
            refine wp_seq ?_
            refine R.list ?_
            obtain ⟨cs1, he1, hr1⟩ := hv_j.at_ _ _ hxk2
            obtain ⟨u1A, u1C, rfl, hvu1⟩ := hr1
            refine S.val hf hs (v := elemPtr jA (k2 * 2)) rfl rfl rfl (V.index rfl rfl rfl Try.runUnderlying49 Try.sizeOf54 (hv_j.some_ (lt_of_get hxk2)) (Int.natCast_nonneg _) (lt_of_get hxk2) rfl) (fun a hf => ?_)
            refine S.val hf hs (v := .agg #[.string (ba xk2.Tool), .slice u1A xk2.Holes.length u1C]) rfl rfl rfl (V.loadEl (off := 0) (Ag.args _ _ _) he1 rfl rfl rfl Try.isAgg54 Try.sizeOf54 rfl rfl) (fun a hf => ?_)
            refine S.alloc hf hs rfl rfl rfl [.string (ba []), .slice none 0 0] rfl Try.zeroValue54 rfl (fun g2 a w hf hs => ?_)
            refine S.storeBox 0 hf hs rfl rfl [.string (ba xk2.Tool), .slice u1A xk2.Holes.length u1C] [.string (ba xk2.Tool), .slice u1A xk2.Holes.length u1C] rfl rfl rfl rfl rfl Try.sizeOf54 rfl rfl rfl rfl (fun a w hf hs => ?_)
            refine R.nil ?_
            refine X.then_ ?_
            refine wp_seq ?_
            refine R.list ?_
            refine S.val hf hs (v := .pointer (some ⟨g2, 1, none⟩)) rfl rfl rfl (V.fieldBox rfl rfl Try.runUnderlying54 rfl Try.sizeOf34 rfl rfl) (fun a hf => ?_)
            refine S.val hf hs (v := .slice u1A xk2.Holes.length u1C) rfl rfl rfl (V.loadBox 0 rfl rfl rfl Try.isAgg34 Try.sizeOf34 rfl rfl) (fun a hf => ?_)
            refine S.val hf hs (v := .int .i64 (xk2.Holes.length : Int)) rfl rfl rfl (V.len rfl rfl Try.runUnderlying34) (fun a hf => ?_)
            refine S.val hf hs (v := .int .i64 0) rfl rfl rfl (V.pure rfl) (fun a hf => ?_)
            refine R.nil ?_
            refine X.then_ ?_
            refine wp_block ?_
            have hlenk3 := hvu1.len64
            refine C.range (fun (ll : List Hole) a w => ∃ (k3 : Nat) (b4 : Point) (n7 : Int) (n8 : Int), xk2.Holes.drop k3 = ll ∧ k3 + ll.length = xk2.Holes.length ∧ forIn' (fun k x (s : Point × Int × Int) next => M_ref8_Seconds_L2 k x s.1 s.2.1 s.2.2 (fun b4 n7 n8 => next (b4, n7, n8))) (fun (s : Point × Int × Int) => (fun (b4 : Point) (n7 : Int) (n8 : Int) => next1 b4 n7 n8) s.1 s.2.1 s.2.2) ll k3 (b4, n7, n8) ∧ FrOk 94 [(58, .int .i64 (k3 : Int)), (1, .slice jA j.length jC), (3, .int .i64 speed), (4, .int .i64 change), (7, .pointer (some ⟨g1, 0, none⟩)), (13, .slice y2A y2.length y2C), (15, .int .i64 n7), (16, .int .i64 n8), (49, .slice jA j.length jC), (50, .int .i64 (j.length : Int)), (51, .int .i64 (k2 : Int)), (56, .slice u1A xk2.Holes.length u1C), (57, .int .i64 (xk2.Holes.length : Int))] a ∧ Sat w0 none_ [hbox g2 54 [.string (ba xk2.Tool), .slice u1A xk2.Holes.length u1C], hown 58 y2A y2C y2, hbox g1 24 [.int .i64 b4.X, .int .i64 b4.Y]] w) xk2.Holes ⟨0, b2, n3, n4, rfl, Nat.zero_add _, h, (((((((((((((hf.nil.cons (hf.get 57 _ rfl)).cons (hf.get 56 _ rfl)).cons (hf.get 51 _ rfl)).cons (hf.get 50 _ rfl)).cons (hf.get 49 _ rfl)).cons (hf.get 16 _ rfl)).cons (hf.get 15 _ rfl)).cons (hf.get 13 _ rfl)).cons (hf.get 7 _ rfl)).cons (hf.get 4 _ rfl)).cons (hf.get 3 _ rfl)).cons (hf.get 1 _ rfl)).cons (hf.get 58 _ rfl)), hs⟩ ?_
            clear h hf hs
            rintro llk3 a w ⟨k3, b4, n7, n8, hlk3, hkk3, h, hf, hs⟩
            cases llk3 with
            | nil =>
              have hc := range_done hkk3
              replace h : (fun (b4 : Point) (n7 : Int) (n8 : Int) => next1 b4 n7 n8) b4 n7 n8 := h
              refine wp_seq ?_
              refine R.list ?_
              refine S.val hf hs (v := .bool false) rfl rfl rfl (V.cmp false rfl rfl rfl rfl hc) (fun a hf => ?_)
              refine R.nil ?_
              refine X.then_ ?_
              refine wp_seq ?_
              refine C.no hf rfl ?_
              refine wp_exit ?_
              refine X.then_exit ?_
              refine X.then_exit ?_
              refine X.blk_exit ?_
              refine X.blk ?_
              refine X.then_ ?_
              refine R.list ?_
              refine S.val hf hs (v := .int .i64 ((k2 + 1 : Nat) : Int)) rfl rfl rfl (V.incr rfl rfl rfl hltk2 hlenk2) (fun a hf => ?_)
              refine S.val hf hs (v := .int .i64 ((k2 + 1 : Nat) : Int)) rfl rfl rfl (V.pure rfl) (fun a hf => ?_)
              refine R.nil ?_
              refine X.then_ ?_
              exact ⟨xk2, llk2, rfl, k2 + 1, b4, n7, n8, range_drop hlk2, range_len hkk2, (by rw [hnext1] at h; exact h), ((((((((((hf.nil.cons (hf.get 50 _ rfl)).cons (hf.get 49 _ rfl)).cons (hf.get 16 _ rfl)).cons (hf.get 15 _ rfl)).cons (hf.get 13 _ rfl)).cons (hf.get 7 _ rfl)).cons (hf.get 4 _ rfl)).cons (hf.get 3 _ rfl)).cons (hf.get 1 _ rfl)).cons (hf.get 51 _ rfl)), hs.drop⟩
            | cons xk3 llk3 =>
              have hltk3 := range_lt hkk3; have hc := range_go hkk3; have hxk3 := range_get hlk3
              obtain ⟨next2, hnext2⟩ : ∃ X : Point → Int → Int → Prop, X = (fun b4 n7 n8 => forIn' (fun k x (s : Point × Int × Int) next => M_ref8_Seconds_L2 k x s.1 s.2.1 s.2.2 (fun b4 n7 n8 => next (b4, n7, n8))) (fun (s : Point × Int × Int) => (fun (b4 : Point) (n7 : Int) (n8 : Int) => next1 b4 n7 n8) s.1 s.2.1 s.2.2) llk3 (k3 + 1) (b4, n7, n8)) := ⟨_, rfl⟩
              replace h : M_ref8_Seconds_L2 k3 xk3 b4 n7 n8 next2 := by rw [hnext2]; exact h
              unfold M_ref8_Seconds_L2 at h
              refine wp_seq ?_
              refine R.list ?_
              refine S.val hf hs (v := .bool true) rfl rfl rfl (V.cmp true rfl rfl rfl rfl hc) (fun a hf => ?_)
              refine R.nil ?_
              refine X.then_ ?_
              refine wp_seq ?_
              refine C.yes hf rfl ?_
              refine wp_skip ?_
              refine X.then_ ?_
              refine wp_seq ?_
              refine wp_block ?_
              refine wp_seq ?_
              refine R.list ?_
              refine S.val hf hs (v := elemPtr u1A (k3 * 5)) rfl rfl rfl (V.index rfl rfl rfl Try.runUnderlying34 Try.sizeOf76 (hvu1.some_ (lt_of_get hxk3)) (Int.natCast_nonneg _) (lt_of_get hxk3) rfl) (fun a hf => ?_)
              refine S.val hf hs (v := .agg #[.int .i64 xk3.At.X, .int .i64 xk3.At.Y, .int .i64 xk3.Size, .int .i64 xk3.Depth, .bool xk3.Plated]) rfl rfl rfl (V.loadEl (off := 0) (Ag.args _ _ _) (hvu1.flat hxk3) rfl rfl rfl Try.isAgg76 Try.sizeOf76 rfl rfl) (fun a hf => ?_)
              refine S.alloc hf hs rfl rfl rfl [.int .i64 0, .int .i64 0, .int .i64 0, .int .i64 0, .bool false] rfl Try.zeroValue76 rfl (fun g3 a w hf hs => ?_)
              refine S.storeBox 0 hf hs rfl rfl [.int .i64 xk3.At.X, .int .i64 xk3.At.Y, .int .i64 xk3.Size, .int .i64 xk3.Depth, .bool xk3.Plated] [.int .i64 xk3.At.X, .int .i64 xk3.At.Y, .int .i64 xk3.Size, .int .i64 xk3.Depth, .bool xk3.Plated] rfl rfl rfl rfl rfl Try.sizeOf76 rfl rfl rfl rfl (fun a w hf hs => ?_)
              refine R.nil ?_
              refine X.then_ ?_
              refine wp_seq ?_
              refine R.list ?_
              refine S.val hf hs (v := .int .i64 n7) rfl rfl rfl (V.pure rfl) (fun a hf => ?_)
              refine S.val hf hs (v := .agg #[.int .i64 b4.X, .int .i64 b4.Y]) rfl rfl rfl (V.loadBox 3 rfl rfl rfl Try.isAgg24 Try.sizeOf24 rfl rfl) (fun a hf => ?_)
              refine S.val hf hs (v := .pointer (some ⟨g3, 0, none⟩)) rfl rfl rfl (V.fieldBox rfl rfl Try.runUnderlying76 rfl Try.sizeOf24 rfl rfl) (fun a hf => ?_)
              refine S.val hf hs (v := .agg #[.int .i64 xk3.At.X, .int .i64 xk3.At.Y]) rfl rfl rfl (V.loadBox 0 rfl rfl rfl Try.isAgg24 Try.sizeOf24 rfl rfl) (fun a hf => ?_)
              refine S.callv hf rfl rfl rfl (call_fn (vs := [.agg #[.int .i64 b4.X, .int .i64 b4.Y], .agg #[.int .i64 xk3.At.X, .int .i64 xk3.At.Y]]) rfl rfl rfl Try.call51) (C_ref8_distance b4 xk3.At _ ) (fun a w hf hs' => ?_)
              replace hs := hs.call hs'; clear hs'
              refine S.val hf hs (v := .int .i64 (w64 (n7 + (rdist b4 xk3.At)))) rfl rfl rfl (V.pure rfl) (fun a hf => ?_)
              refine S.val hf hs (v := .int .i64 (w64 (n7 + (rdist b4 xk3.At)))) rfl rfl rfl (V.pure rfl) (fun a hf => ?_)
              refine R.nil ?_
              refine X.then_ ?_
              refine wp_seq ?_
              refine R.list ?_
              refine S.val hf hs (v := .int .i64 n8) rfl rfl rfl (V.pure rfl) (fun a hf => ?_)
              refine S.val hf hs (v := .pointer (some ⟨g3, 3, none⟩)) rfl rfl rfl (V.fieldBox rfl rfl Try.runUnderlying76 rfl Try.sizeOf3 rfl rfl) (fun a hf => ?_)
              refine S.val hf hs (v := .int .i64 xk3.Depth) rfl rfl rfl (V.loadBox 0 rfl rfl rfl Try.isAgg3 Try.sizeOf3 rfl rfl) (fun a hf => ?_)
              refine S.val hf hs (v := .int .i64 (w64 (xk3.Depth + 99))) rfl rfl rfl (V.pure rfl) (fun a hf => ?_)
              refine S.val hf hs (v := .int .i64 (w64 ((w64 (xk3.Depth + 99)).tdiv 100))) rfl rfl rfl (V.quo rfl rfl rfl (by decide)) (fun a hf => ?_)
              refine S.val hf hs (v := .int .i64 (w64 (n8 + (w64 ((w64 (xk3.Depth + 99)).tdiv 100))))) rfl rfl rfl (V.pure rfl) (fun a hf => ?_)
              refine S.val hf hs (v := .int .i64 (w64 (n8 + (w64 ((w64 (xk3.Depth + 99)).tdiv 100))))) rfl rfl rfl (V.pure rfl) (fun a hf => ?_)
              refine R.nil ?_
              refine X.then_ ?_
              refine R.list ?_
              refine S.val hf hs (v := .pointer (some ⟨g3, 0, none⟩)) rfl rfl rfl (V.fieldBox rfl rfl Try.runUnderlying76 rfl Try.sizeOf24 rfl rfl) (fun a hf => ?_)
              refine S.val hf hs (v := .agg #[.int .i64 xk3.At.X, .int .i64 xk3.At.Y]) rfl rfl rfl (V.loadBox 0 rfl rfl rfl Try.isAgg24 Try.sizeOf24 rfl rfl) (fun a hf => ?_)
              refine S.storeBox 3 hf hs rfl rfl [.int .i64 xk3.At.X, .int .i64 xk3.At.Y] [.int .i64 xk3.At.X, .int .i64 xk3.At.Y] rfl rfl rfl rfl rfl Try.sizeOf24 rfl rfl rfl rfl (fun a w hf hs => ?_)
              refine R.nil ?_
              refine X.blk ?_
              refine X.then_ ?_
              refine R.list ?_
              refine S.val hf hs (v := .int .i64 ((k3 + 1 : Nat) : Int)) rfl rfl rfl (V.incr rfl rfl rfl hltk3 hlenk3) (fun a hf => ?_)
              refine S.val hf hs (v := .int .i64 ((k3 + 1 : Nat) : Int)) rfl rfl rfl (V.pure rfl) (fun a hf => ?_)
              refine R.nil ?_
              refine X.then_ ?_
              exact ⟨xk3, llk3, rfl, k3 + 1, xk3.At, (w64 (n7 + (rdist b4 xk3.At))), (w64 (n8 + (w64 ((w64 (xk3.Depth + 99)).tdiv 100)))), range_drop hlk3, range_len hkk3, (by rw [hnext2] at h; exact h), (((((((((((((hf.nil.cons (hf.get 57 _ rfl)).cons (hf.get 56 _ rfl)).cons (hf.get 51 _ rfl)).cons (hf.get 50 _ rfl)).cons (hf.get 49 _ rfl)).cons (hf.get 16 _ rfl)).cons (hf.get 15 _ rfl)).cons (hf.get 13 _ rfl)).cons (hf.get 7 _ rfl)).cons (hf.get 4 _ rfl)).cons (hf.get 3 _ rfl)).cons (hf.get 1 _ rfl)).cons (hf.get 58 _ rfl)), hs.drop⟩
      · skip
        refine R.list ?_
        refine S.val hf hs (v := .agg #[.int .i64 from_.X, .int .i64 from_.Y]) rfl rfl rfl (V.loadBox 1 rfl rfl rfl Try.isAgg24 Try.sizeOf24 rfl rfl) (fun a hf => ?_)
        refine S.callv hf rfl rfl rfl (call_fn (vs := [.agg #[.int .i64 from_.X, .int .i64 from_.Y]]) rfl rfl rfl Try.call80) (C_ref8_isPoint from_ _ ) (fun a w hf hs' => ?_)
        replace hs := hs.call hs'; clear hs'
        refine S.val hf hs (v := .bool (!(isPoint from_))) rfl rfl rfl (V.pure rfl) (fun a hf => ?_)
        refine S.split hf hs (b := !(isPoint from_)) rfl rfl rfl (V.pure rfl) (fun hc a hf => ?_) (fun hc a hf => ?_)
        · replace h := h.1 hc
          refine S.skip hf rfl rfl rfl (fun a hf => ?_)
          refine S.skip hf rfl rfl rfl (fun a hf => ?_)
          refine S.skip hf rfl rfl rfl (fun a hf => ?_)
          refine S.val hf hs (v := .bool true) rfl rfl rfl (V.pure rfl) (fun a hf => ?_)
          refine S.val hf hs (v := .bool true) rfl rfl rfl (V.pure rfl) (fun a hf => ?_)
          refine S.skip hf rfl rfl rfl (fun a hf => ?_)
          refine S.skip hf rfl rfl rfl (fun a hf => ?_)
          refine S.skip hf rfl rfl rfl (fun a hf => ?_)
          refine S.val hf hs (v := .bool true) rfl rfl rfl (V.pure rfl) (fun a hf => ?_)
          refine R.nil ?_
          refine X.then_ ?_
          exact ⟨true, h, ((((((hf.nil.cons (hf.get 48 _ rfl)).cons (hf.get 13 _ rfl)).cons (hf.get 7 _ rfl)).cons (hf.get 4 _ rfl)).cons (hf.get 3 _ rfl)).cons (hf.get 1 _ rfl)), hs⟩
        · replace h := h.2 hc
          refine S.val hf hs (v := .int .i64 speed) rfl rfl rfl (V.pure rfl) (fun a hf => ?_)
          refine S.callv hf rfl rfl rfl (call_fn (vs := [.int .i64 speed, .int .i64 1, .int .i64 1000000]) rfl rfl rfl Try.call59) (C_ref8_within speed 1 1000000 _ ) (fun a w hf hs' => ?_)
          replace hs := hs.call hs'; clear hs'
          refine S.val hf hs (v := .bool (!(within speed 1 1000000))) rfl rfl rfl (V.pure rfl) (fun a hf => ?_)
          refine S.val hf hs (v := .bool (!(within speed 1 1000000))) rfl rfl rfl (V.pure rfl) (fun a hf => ?_)
          refine S.split hf hs (b := !(within speed 1 1000000)) rfl rfl rfl (V.pure rfl) (fun hc a hf => ?_) (fun hc a hf => ?_)
          · replace h := h.1 hc
            refine S.skip hf rfl rfl rfl (fun a hf => ?_)
            refine S.skip hf rfl rfl rfl (fun a hf => ?_)
            refine S.skip hf rfl rfl rfl (fun a hf => ?_)
            refine S.val hf hs (v := .bool true) rfl rfl rfl (V.pure rfl) (fun a hf => ?_)
            refine R.nil ?_
            refine X.then_ ?_
            exact ⟨true, h, ((((((hf.nil.cons (hf.get 48 _ rfl)).cons (hf.get 13 _ rfl)).cons (hf.get 7 _ rfl)).cons (hf.get 4 _ rfl)).cons (hf.get 3 _ rfl)).cons (hf.get 1 _ rfl)), hs⟩
          · replace h := h.2 hc
            refine S.val hf hs (v := .int .i64 change) rfl rfl rfl (V.pure rfl) (fun a hf => ?_)
            refine S.callv hf rfl rfl rfl (call_fn (vs := [.int .i64 change, .int .i64 0, .int .i64 1000000]) rfl rfl rfl Try.call59) (C_ref8_within change 0 1000000 _ ) (fun a w hf hs' => ?_)
            replace hs := hs.call hs'; clear hs'
            refine S.val hf hs (v := .bool (!(within change 0 1000000))) rfl rfl rfl (V.pure rfl) (fun a hf => ?_)
            refine S.val hf hs (v := .bool (!(within change 0 1000000))) rfl rfl rfl (V.pure rfl) (fun a hf => ?_)
            refine R.nil ?_
            refine X.then_ ?_
            exact ⟨(!(within change 0 1000000)), h, ((((((hf.nil.cons (hf.get 48 _ rfl)).cons (hf.get 13 _ rfl)).cons (hf.get 7 _ rfl)).cons (hf.get 4 _ rfl)).cons (hf.get 3 _ rfl)).cons (hf.get 1 _ rfl)), hs⟩

end Go.Proofs.Ytmopdabkfklefaa
