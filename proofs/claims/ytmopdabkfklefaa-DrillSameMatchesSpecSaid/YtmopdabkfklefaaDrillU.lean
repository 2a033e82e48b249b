/- Chapter 8: jobs that are the same: the walks. -/
import Derived.Test.YtmopdabkfklefaaDrillG
import Derived.Test.YtmopdabkfklefaaShare
namespace Go.Proofs.Ytmopdabkfklefaa
open Go Go.RowKit
set_option linter.unusedVariables false

set_option linter.unusedVariables false
def M_drill_Same_L2 (Q : Bool → Int → Prop) (again2 : List (DrillDrilled × Int) → Prop) (m4 : List (DrillDrilled × Int)) : Prop :=
  nextq m4 (Q true 0) (fun e1 rest1 => cnd (e1.2 != 0) (Q false 0) (again2 rest1))
def M_drill_Same_L4 (k1 : Nat) (xk3 : Job) (k4 : Nat) (xk4 : Hole) (m8 : List (DrillDrilled × Int)) (next4 : List (DrillDrilled × Int) → Prop) : Prop :=
  next4 (mput m8 (⟨xk3.Tool, xk4⟩ : DrillDrilled) (w64 (((mget m8 (⟨xk3.Tool, xk4⟩ : DrillDrilled)).getD 0) + (w64 (1 - (w64 (2 * (k1 : Int))))))))
def M_drill_Same_L3 (k1 : Nat) (k3 : Nat) (xk3 : Job) (m6 : List (DrillDrilled × Int)) (next3 : List (DrillDrilled × Int) → Prop) : Prop :=
  forIn' (fun k x (s : List (DrillDrilled × Int)) next => M_drill_Same_L4 k1 xk3 k x s (fun m8 => next m8)) (fun (s : List (DrillDrilled × Int)) => (fun (m8 : List (DrillDrilled × Int)) => next3 m8) s) xk3.Holes 0 m6
def M_drill_Same_L1  (k1 : Nat) (xk1 : (List Job)) (m2 : List (DrillDrilled × Int)) (next1 : List (DrillDrilled × Int) → Prop) : Prop :=
  forIn' (fun k x (s : List (DrillDrilled × Int)) next => M_drill_Same_L3 k1 k x s (fun m6 => next m6)) (fun (s : List (DrillDrilled × Int)) => (fun (m6 : List (DrillDrilled × Int)) => next1 m6) s) xk1 0 m2
def M_drill_Same (t : (List Bit)) (a_ : (List Job)) (b : (List Job)) (Q : Bool → Int → Prop) : Prop :=
  M_drill_CheckJobs t a_ fun y1 => cnd (y1 != 0) (Q false y1) (M_drill_CheckJobs t b fun y2 => cnd (y2 != 0) (Q false y2) (forIn' (fun k x (s : List (DrillDrilled × Int)) next => M_drill_Same_L1 k x s (fun m2 => next m2)) (fun (s : List (DrillDrilled × Int)) => (fun (m2 : List (DrillDrilled × Int)) => lp (fun again (s : List (DrillDrilled × Int)) => M_drill_Same_L2 Q (fun m4 => again m4) s) m2) s) ([a_, b] : List (List Job)) 0 ([] : List (DrillDrilled × Int))))
set_option maxHeartbeats 1000000 in
theorem R_drill_Same (t : (List Bit)) (a_ : (List Job)) (b : (List Job)) (w0 : World) (tA : Option Addr) (tC : Nat) (hv_t : View w0 (old w0 none_) tA tC t) (a_A : Option Addr) (a_C : Nat) (hv_a_ : View w0 (old w0 none_) a_A a_C a_) (bA : Option Addr) (bC : Nat) (hv_b : View w0 (old w0 none_) bA bC b) (Q : Bool → Int → Prop) (h : M_drill_Same t a_ b Q) :
    Ret Try.prog 36 #[.slice tA t.length tC, .slice a_A a_.length a_C, .slice bA b.length bC] w0 fun v w' => ∃ (r0 : Bool) (r1 : Int), v = .tuple #[.bool r0, .int .i64 r1] ∧ Q r0 r1 ∧ Sat w0 none_ [] w' := by
  refine fn_enter Try.func36 rfl Try.ntmps36 rfl (fs := [(0, .slice tA t.length tC), (1, .slice a_A a_.length a_C), (2, .slice bA b.length bC)]) rfl (fun a hf => ?_)
  have hs := Sat.start w0 none_
  unfold M_drill_Same at h
  refine wp_seq ?_
  refine R.list ?_
  refine S.val hf hs (v := .bool false) rfl rfl rfl (V.pure rfl) (fun a hf => ?_)
  refine S.val hf hs (v := .int .i64 0) rfl rfl rfl (V.pure rfl) (fun a hf => ?_)
  refine R.nil ?_
  refine X.then_ ?_
  refine wp_seq ?_
  refine wp_seq ?_
  refine R.list ?_
  refine S.val hf hs (v := .slice tA t.length tC) rfl rfl rfl (V.pure rfl) (fun a hf => ?_)
  refine S.val hf hs (v := .slice a_A a_.length a_C) rfl rfl rfl (V.pure rfl) (fun a hf => ?_)
  refine S.call hf rfl rfl rfl (call_fn (vs := [.slice tA t.length tC, .slice a_A a_.length a_C]) rfl rfl rfl Try.call42) (R_drill_CheckJobs t a_ _ tA tC ((Ag.args _ _ _).view hv_t hs) a_A a_C ((Ag.args _ _ _).view hv_a_ hs) _ h) (fun v a w' hf hr => ?_)
  obtain ⟨y1, rfl, h2, hs2⟩ := hr
  replace h := h2; replace hs := hs.call hs2; clear h2 hs2
  refine S.val hf hs (v := .int .i64 y1) rfl rfl rfl (V.pure rfl) (fun a hf => ?_)
  refine R.nil ?_
  refine X.then_ ?_
  refine wp_seq ?_
  refine R.list ?_
  refine S.val hf hs (v := .int .i64 y1) rfl rfl rfl (V.pure rfl) (fun a hf => ?_)
  refine S.val hf hs (v := .bool (y1 != 0)) rfl rfl rfl (V.pure rfl) (fun a hf => ?_)
  refine R.nil ?_
  refine X.then_ ?_
  refine C.cond hf (b := y1 != 0) rfl (fun hc => ?_) (fun hc => ?_)
  · replace h := h.1 hc
    refine wp_seq ?_
    refine R.list ?_
    refine S.val hf hs (v := .int .i64 y1) rfl rfl rfl (V.pure rfl) (fun a hf => ?_)
    refine S.val hf hs (v := .bool false) rfl rfl rfl (V.pure rfl) (fun a hf => ?_)
    refine S.val hf hs (v := .int .i64 y1) rfl rfl rfl (V.pure rfl) (fun a hf => ?_)
    refine R.nil ?_
    refine X.then_ ?_
    refine wp_ret ?_
    refine X.then_ret ?_
    exact L.ret hf (run_results2 Try.results36 (ResIs.tmp hf rfl) (ResIs.tmp hf rfl)) ⟨false, y1, rfl, h, hs.nil⟩
  · replace h := h.2 hc
    refine wp_skip ?_
    refine X.then_ ?_
    refine wp_seq ?_
    refine wp_seq ?_
    refine R.list ?_
    refine S.val hf hs (v := .slice tA t.length tC) rfl rfl rfl (V.pure rfl) (fun a hf => ?_)
    refine S.val hf hs (v := .slice bA b.length bC) rfl rfl rfl (V.pure rfl) (fun a hf => ?_)
    refine S.call hf rfl rfl rfl (call_fn (vs := [.slice tA t.length tC, .slice bA b.length bC]) rfl rfl rfl Try.call42) (R_drill_CheckJobs t b _ tA tC ((Ag.args _ _ _).view hv_t hs) bA bC ((Ag.args _ _ _).view hv_b hs) _ h) (fun v a w' hf hr => ?_)
    obtain ⟨y2, rfl, h2, hs2⟩ := hr
    replace h := h2; replace hs := hs.call hs2; clear h2 hs2
    refine S.val hf hs (v := .int .i64 y2) rfl rfl rfl (V.pure rfl) (fun a hf => ?_)
    refine R.nil ?_
    refine X.then_ ?_
    refine wp_seq ?_
    refine R.list ?_
    refine S.val hf hs (v := .int .i64 y2) rfl rfl rfl (V.pure rfl) (fun a hf => ?_)
    refine S.val hf hs (v := .bool (y2 != 0)) rfl rfl rfl (V.pure rfl) (fun a hf => ?_)
    refine R.nil ?_
    refine X.then_ ?_
    refine C.cond hf (b := y2 != 0) rfl (fun hc => ?_) (fun hc => ?_)
    · replace h := h.1 hc
      refine wp_seq ?_
      refine R.list ?_
      refine S.val hf hs (v := .int .i64 y2) rfl rfl rfl (V.pure rfl) (fun a hf => ?_)
      refine S.val hf hs (v := .bool false) rfl rfl rfl (V.pure rfl) (fun a hf => ?_)
      refine S.val hf hs (v := .int .i64 y2) rfl rfl rfl (V.pure rfl) (fun a hf => ?_)
      refine R.nil ?_
      refine X.then_ ?_
      refine wp_ret ?_
      refine X.then_ret ?_
      exact L.ret hf (run_results2 Try.results36 (ResIs.tmp hf rfl) (ResIs.tmp hf rfl)) ⟨false, y2, rfl, h, hs.nil⟩
    · replace h := h.2 hc
      refine wp_skip ?_
      refine X.then_ ?_
      refine wp_seq ?_
      refine R.list ?_
      refine S.makeMap hf hs rfl rfl rfl ek104 ek3 rfl (fun g1 a w hf hs => ?_)
      refine S.val hf hs (v := .map (some g1)) rfl rfl rfl (V.pure rfl) (fun a hf => ?_)
      refine R.nil ?_
      refine X.then_ ?_
      refine wp_seq ?_
      refine wp_seq ?_
      refine R.list ?_
      refine S.val hf hs (v := .slice a_A a_.length a_C) rfl rfl rfl (V.pure rfl) (fun a hf => ?_)
      refine S.val hf hs (v := .slice bA b.length bC) rfl rfl rfl (V.pure rfl) (fun a hf => ?_)
      refine S.buildSlice hf hs rfl rfl rfl (α := Sl) [(⟨a_A, a_.length, a_C⟩ : Sl), (⟨bA, b.length, bC⟩ : Sl)] rfl rfl Try.runUnderlying102 Try.sizeOf49 Try.zeroValue49 (by kernel_rfl) rfl (by decide) (by decide) (fun A1 a w hf hs => ?_)
      refine S.val hf hs (v := .int .i64 (([(⟨a_A, a_.length, a_C⟩ : Sl), (⟨bA, b.length, bC⟩ : Sl)] : List Sl).length : Int)) rfl rfl rfl (V.len rfl rfl Try.runUnderlying102) (fun a hf => ?_)
      refine S.val hf hs (v := .int .i64 0) rfl rfl rfl (V.pure rfl) (fun a hf => ?_)
      refine R.nil ?_
      refine X.then_ ?_
      refine wp_block ?_
      have hlenk1 : ([a_, b] : List (List Job)).length ≤ 9223372036854775807 := by simp
      refine C.range (fun (ll : List (List Job)) a w => ∃ (k1 : Nat) (m2 : List (DrillDrilled × Int)), ([a_, b] : List (List Job)).drop k1 = ll ∧ k1 + ll.length = ([a_, b] : List (List Job)).length ∧ forIn' (fun k x (s : List (DrillDrilled × Int)) next => M_drill_Same_L1 k x s (fun m2 => next m2)) (fun (s : List (DrillDrilled × Int)) => (fun (m2 : List (DrillDrilled × Int)) => lp (fun again (s : List (DrillDrilled × Int)) => M_drill_Same_L2 Q (fun m4 => again m4) s) m2) s) ll k1 m2 ∧ FrOk 77 [(36, .int .i64 (k1 : Int)), (10, .map (some g1)), (34, .slice A1 ([(⟨a_A, a_.length, a_C⟩ : Sl), (⟨bA, b.length, bC⟩ : Sl)] : List Sl).length 2), (35, .int .i64 (([(⟨a_A, a_.length, a_C⟩ : Sl), (⟨bA, b.length, bC⟩ : Sl)] : List Sl).length : Int))] a ∧ Sat w0 none_ [hown 49 A1 2 ([(⟨a_A, a_.length, a_C⟩ : Sl), (⟨bA, b.length, bC⟩ : Sl)] : List Sl), hmap g1 ek104 ek3 m2] w) ([a_, b] : List (List Job)) ⟨0, ([] : List (DrillDrilled × Int)), rfl, Nat.zero_add _, h, ((((hf.nil.cons (hf.get 35 _ rfl)).cons (hf.get 34 _ rfl)).cons (hf.get 10 _ rfl)).cons (hf.get 36 _ rfl)), hs⟩ ?_
      clear h hf hs
      rintro llk1 a w ⟨k1, m2, hlk1, hkk1, h, hf, hs⟩
      cases llk1 with
      | nil =>
        have hc := range_done hkk1
        replace h : (fun (m2 : List (DrillDrilled × Int)) => lp (fun again (s : List (DrillDrilled × Int)) => M_drill_Same_L2 Q (fun m4 => again m4) s) m2) m2 := h
        refine wp_seq ?_
        refine R.list ?_
        refine S.val hf hs (v := .bool false) rfl rfl rfl (V.cmp false rfl rfl rfl rfl hc) (fun a hf => ?_)
        refine R.nil ?_
        refine X.then_ ?_
        refine wp_seq ?_
        refine C.no hf rfl ?_
        refine wp_exit ?_
        refine X.then_exit ?_
        refine X.then_exit ?_
        refine X.blk_exit ?_
        refine X.then_ ?_
        refine wp_seq ?_
        refine wp_seq ?_
        refine R.list ?_
        refine S.val hf hs (v := .map (some g1)) rfl rfl rfl (V.pure rfl) (fun a hf => ?_)
        refine S.range 1 hf hs rfl rfl rfl rfl rfl rfl Try.runUnderlying101 (fun it1 a w hf hs => ?_)
        refine R.nil ?_
        refine X.then_ ?_
        refine wp_block ?_
        obtain ⟨kk, h⟩ := h
        refine C.loop (fun kk a w => ∃ (m4 : List (DrillDrilled × Int)), iterF (fun again (s : List (DrillDrilled × Int)) => M_drill_Same_L2 Q (fun m4 => again m4) s) kk m4 ∧ FrOk 77 [(70, .pointer (some ⟨it1, 0, none⟩))] a ∧ Sat w0 none_ [hown 49 A1 2 ([(⟨a_A, a_.length, a_C⟩ : Sl), (⟨bA, b.length, bC⟩ : Sl)] : List Sl), hrange g1 it1 ek104 ek3 m2 m4] w) kk ⟨m2, h, (hf.nil.cons (hf.get 70 _ rfl)), hs⟩ (fun a w ⟨_, h, _, _⟩ => h) ?_
        clear h hf hs
        rintro kk a w ⟨m4, h, hf, hs⟩
        obtain ⟨again2, hagain2⟩ : ∃ X : List (DrillDrilled × Int) → Prop, X = (fun m4 => iterF (fun again (s : List (DrillDrilled × Int)) => M_drill_Same_L2 Q (fun m4 => again m4) s) kk m4) := ⟨_, rfl⟩
        replace h : M_drill_Same_L2 Q again2 m4 := by rw [hagain2]; exact h
        unfold M_drill_Same_L2 at h
        refine wp_seq ?_
        refine R.list ?_
        refine S.next 1 hf hs rfl rfl rfl rfl rfl rfl (fun he a hf => ?_) (fun e1 rest1 he a w hf hs => ?_)
        · replace h := h.1 he
          replace hs := hs.unrange 1 rfl
          refine S.val hf hs (v := .bool false) rfl rfl rfl (V.pure rfl) (fun a hf => ?_)
          refine R.nil ?_
          refine X.then_ ?_
          refine wp_seq ?_
          refine C.no hf rfl ?_
          refine wp_exit ?_
          refine X.then_exit ?_
          refine X.then_exit ?_
          refine X.blk_exit ?_
          refine X.then_ ?_
          refine wp_seq ?_
          refine R.list ?_
          refine S.val hf hs (v := .bool true) rfl rfl rfl (V.pure rfl) (fun a hf => ?_)
          refine S.val hf hs (v := .int .i64 0) rfl rfl rfl (V.pure rfl) (fun a hf => ?_)
          refine R.nil ?_
          refine X.then_ ?_
          refine wp_ret ?_
          exact L.ret hf (run_results2 Try.results36 (ResIs.tmp hf rfl) (ResIs.tmp hf rfl)) ⟨true, 0, rfl, h, hs.nil⟩
        · replace h := h.2 e1 rest1 he
          refine S.val hf hs (v := .bool true) rfl rfl rfl (V.pure rfl) (fun a hf => ?_)
          refine R.nil ?_
          refine X.then_ ?_
          refine wp_seq ?_
          refine C.yes hf rfl ?_
          refine wp_skip ?_
          refine X.then_ ?_
          refine wp_block ?_
          refine wp_seq ?_
          refine R.list ?_
          refine S.val hf hs (v := .tuple #[.agg #[.string (ba e1.1.tool), .int .i64 e1.1.hole.At.X, .int .i64 e1.1.hole.At.Y, .int .i64 e1.1.hole.Size, .int .i64 e1.1.hole.Depth, .bool e1.1.hole.Plated], .int .i64 e1.2]) rfl rfl rfl (V.entry 1 rfl rfl rfl rfl) (fun a hf => ?_)
          refine S.val hf hs (v := .int .i64 e1.2) rfl rfl rfl (V.pure rfl) (fun a hf => ?_)
          refine S.val hf hs (v := .int .i64 e1.2) rfl rfl rfl (V.pure rfl) (fun a hf => ?_)
          refine R.nil ?_
          refine X.then_ ?_
          refine wp_seq ?_
          refine R.list ?_
          refine S.val hf hs (v := .int .i64 e1.2) rfl rfl rfl (V.pure rfl) (fun a hf => ?_)
          refine S.val hf hs (v := .bool (e1.2 != 0)) rfl rfl rfl (V.pure rfl) (fun a hf => ?_)
          refine R.nil ?_
          refine X.then_ ?_
          refine C.cond hf (b := e1.2 != 0) rfl (fun hc => ?_) (fun hc => ?_)
          · replace h := h.1 hc
            refine wp_seq ?_
            refine R.list ?_
            refine S.val hf hs (v := .bool false) rfl rfl rfl (V.pure rfl) (fun a hf => ?_)
            refine S.val hf hs (v := .int .i64 0) rfl rfl rfl (V.pure rfl) (fun a hf => ?_)
            refine R.nil ?_
            refine X.then_ ?_
            refine wp_ret ?_
            refine X.blk_ret ?_
            refine X.then_ret ?_
            refine X.blk_ret ?_
            refine X.then_ret ?_
            exact L.ret hf (run_results2 Try.results36 (ResIs.tmp hf rfl) (ResIs.tmp hf rfl)) ⟨false, 0, rfl, h, hs.nil⟩
          · replace h := h.2 hc
            refine wp_skip ?_
            refine X.blk ?_
            refine X.then_ ?_
            replace hs := hs.uncur 1 rfl
            exact ⟨rest1, (by rw [hagain2] at h; exact h), (hf.nil.cons (hf.get 70 _ rfl)), hs⟩
      | cons xk1 llk1 =>
        have hltk1 := range_lt hkk1; have hc := range_go hkk1; have hxk1 := range_get hlk1
        obtain ⟨next1, hnext1⟩ : ∃ X : List (DrillDrilled × Int) → Prop, X = (fun m2 => forIn' (fun k x (s : List (DrillDrilled × Int)) next => M_drill_Same_L1 k x s (fun m2 => next m2)) (fun (s : List (DrillDrilled × Int)) => (fun (m2 : List (DrillDrilled × Int)) => lp (fun again (s : List (DrillDrilled × Int)) => M_drill_Same_L2 Q (fun m4 => again m4) s) m2) s) llk1 (k1 + 1) m2) := ⟨_, rfl⟩
        replace h : M_drill_Same_L1 k1 xk1 m2 next1 := by rw [hnext1]; exact h
        unfold M_drill_Same_L1 at h
        refine wp_seq ?_
        refine R.list ?_
        refine S.val hf hs (v := .bool true) rfl rfl rfl (V.cmp true rfl rfl rfl rfl hc) (fun a hf => ?_)
        refine R.nil ?_
        refine X.then_ ?_
        refine wp_seq ?_
        refine C.yes hf rfl ?_
        refine wp_skip ?_
        refine X.then_ ?_
        refine wp_seq ?_
        refine wp_block ?_
        refine wp_seq ?_
        refine R.list ?_
        refine S.val hf hs (v := .int .i64 (k1 : Int)) rfl rfl rfl (V.pure rfl) (fun a hf => ?_)
        refine S.val hf hs (v := elemPtr A1 (k1 * 1)) rfl rfl rfl (V.index rfl rfl rfl Try.runUnderlying102 Try.sizeOf49 (hs.ownSome 0 rfl (show _ < 2 from lt_of_get hxk1)) (Int.natCast_nonneg _) (show _ < 2 from lt_of_get hxk1) rfl) (fun a hf => ?_)
        obtain ⟨B1, D1, hB1, hvB1⟩ := rows2_at hv_a_ hv_b hxk1
        refine S.val hf hs (v := .slice B1 xk1.length D1) rfl rfl rfl (V.loadOwn (off := 0) 0 rfl hB1 rfl rfl rfl Try.isAgg49 Try.sizeOf49 rfl rfl) (fun a hf => ?_)
        refine S.val hf hs (v := .int .i64 (k1 : Int)) rfl rfl rfl (V.pure rfl) (fun a hf => ?_)
        refine S.val hf hs (v := .slice B1 xk1.length D1) rfl rfl rfl (V.pure rfl) (fun a hf => ?_)
        refine R.nil ?_
        refine X.then_ ?_
        refine wp_seq ?_
        refine R.list ?_
        refine S.val hf hs (v := .slice B1 xk1.length D1) rfl rfl rfl (V.pure rfl) (fun a hf => ?_)
        refine S.val hf hs (v := .int .i64 (xk1.length : Int)) rfl rfl rfl (V.len rfl rfl Try.runUnderlying49) (fun a hf => ?_)
        refine S.val hf hs (v := .int .i64 0) rfl rfl rfl (V.pure rfl) (fun a hf => ?_)
        refine R.nil ?_
        refine X.then_ ?_
        refine wp_block ?_
        have hlenk3 := hvB1.len64
        refine C.range (fun (ll : List Job) a w => ∃ (k3 : Nat) (m6 : List (DrillDrilled × Int)), xk1.drop k3 = ll ∧ k3 + ll.length = xk1.length ∧ forIn' (fun k x (s : List (DrillDrilled × Int)) next => M_drill_Same_L3 k1 k x s (fun m6 => next m6)) (fun (s : List (DrillDrilled × Int)) => (fun (m6 : List (DrillDrilled × Int)) => next1 m6) s) ll k3 m6 ∧ FrOk 77 [(43, .int .i64 (k3 : Int)), (10, .map (some g1)), (11, .int .i64 (k1 : Int)), (34, .slice A1 ([(⟨a_A, a_.length, a_C⟩ : Sl), (⟨bA, b.length, bC⟩ : Sl)] : List Sl).length 2), (35, .int .i64 (([(⟨a_A, a_.length, a_C⟩ : Sl), (⟨bA, b.length, bC⟩ : Sl)] : List Sl).length : Int)), (36, .int .i64 (k1 : Int)), (41, .slice B1 xk1.length D1), (42, .int .i64 (xk1.length : Int))] a ∧ Sat w0 none_ [hown 49 A1 2 ([(⟨a_A, a_.length, a_C⟩ : Sl), (⟨bA, b.length, bC⟩ : Sl)] : List Sl), hmap g1 ek104 ek3 m6] w) xk1 ⟨0, m2, rfl, Nat.zero_add _, h, ((((((((hf.nil.cons (hf.get 42 _ rfl)).cons (hf.get 41 _ rfl)).cons (hf.get 36 _ rfl)).cons (hf.get 35 _ rfl)).cons (hf.get 34 _ rfl)).cons (hf.get 11 _ rfl)).cons (hf.get 10 _ rfl)).cons (hf.get 43 _ rfl)), hs⟩ ?_
        clear h hf hs
        rintro llk3 a w ⟨k3, m6, hlk3, hkk3, h, hf, hs⟩
        cases llk3 with
        | nil =>
          have hc := range_done hkk3
          replace h : (fun (m6 : List (DrillDrilled × Int)) => next1 m6) m6 := h
          refine wp_seq ?_
          refine R.list ?_
          refine S.val hf hs (v := .bool false) rfl rfl rfl (V.cmp false rfl rfl rfl rfl hc) (fun a hf => ?_)
          refine R.nil ?_
          refine X.then_ ?_
          refine wp_seq ?_
          refine C.no hf rfl ?_
          refine wp_exit ?_
          refine X.then_exit ?_
          refine X.then_exit ?_
          refine X.blk_exit ?_
          refine X.blk ?_
          refine X.then_ ?_
          refine R.list ?_
          refine S.val hf hs (v := .int .i64 ((k1 + 1 : Nat) : Int)) rfl rfl rfl (V.incr rfl rfl rfl hltk1 hlenk1) (fun a hf => ?_)
          refine S.val hf hs (v := .int .i64 ((k1 + 1 : Nat) : Int)) rfl rfl rfl (V.pure rfl) (fun a hf => ?_)
          refine R.nil ?_
          refine X.then_ ?_
          exact ⟨xk1, llk1, rfl, k1 + 1, m6, range_drop hlk1, range_len hkk1, (by rw [hnext1] at h; exact h), ((((hf.nil.cons (hf.get 35 _ rfl)).cons (hf.get 34 _ rfl)).cons (hf.get 10 _ rfl)).cons (hf.get 36 _ rfl)), hs⟩
        | cons xk3 llk3 =>
          have hltk3 := range_lt hkk3; have hc := range_go hkk3; have hxk3 := range_get hlk3
          obtain ⟨next3, hnext3⟩ : ∃ X : List (DrillDrilled × Int) → Prop, X = (fun m6 => forIn' (fun k x (s : List (DrillDrilled × Int)) next => M_drill_Same_L3 k1 k x s (fun m6 => next m6)) (fun (s : List (DrillDrilled × Int)) => (fun (m6 : List (DrillDrilled × Int)) => next1 m6) s) llk3 (k3 + 1) m6) := ⟨_, rfl⟩
          replace h : M_drill_Same_L3 k1 k3 xk3 m6 next3 := by rw [hnext3]; exact h
          unfold M_drill_Same_L3 at h
          refine wp_seq ?_
          refine R.list ?_
          refine S.val hf hs (v := .bool true) rfl rfl rfl (V.cmp true rfl rfl rfl rfl hc) (fun a hf => ?_)
          refine R.nil ?_
          refine X.then_ ?_
          refine wp_seq ?_
          refine C.yes hf rfl ?_
          refine wp_skip ?_
          refine X.then_ ?_
          refine wp_seq ?_
          refine wp_block ?_
          refine wp_seq ?_
          refine R.list ?_
          obtain ⟨cs1, he1, hr1⟩ := hvB1.at_ _ _ hxk3
          obtain ⟨u1A, u1C, rfl, hvu1⟩ := hr1
          refine S.val hf hs (v := elemPtr B1 (k3 * 2)) rfl rfl rfl (V.index rfl rfl rfl Try.runUnderlying49 Try.sizeOf54 (hvB1.some_ (lt_of_get hxk3)) (Int.natCast_nonneg _) (lt_of_get hxk3) rfl) (fun a hf => ?_)
          refine S.val hf hs (v := .agg #[.string (ba xk3.Tool), .slice u1A xk3.Holes.length u1C]) rfl rfl rfl (V.loadEl (off := 0) (Ag.args _ _ _) he1 rfl rfl rfl Try.isAgg54 Try.sizeOf54 rfl rfl) (fun a hf => ?_)
          refine S.alloc hf hs rfl rfl rfl [.string (ba []), .slice none 0 0] rfl Try.zeroValue54 rfl (fun g2 a w hf hs => ?_)
          refine S.storeBox 0 hf hs rfl rfl [.string (ba xk3.Tool), .slice u1A xk3.Holes.length u1C] [.string (ba xk3.Tool), .slice u1A xk3.Holes.length u1C] rfl rfl rfl rfl rfl Try.sizeOf54 rfl rfl rfl rfl (fun a w hf hs => ?_)
          refine R.nil ?_
          refine X.then_ ?_
          refine wp_seq ?_
          refine R.list ?_
          refine S.val hf hs (v := .pointer (some ⟨g2, 1, none⟩)) rfl rfl rfl (V.fieldBox rfl rfl Try.runUnderlying54 rfl Try.sizeOf34 rfl rfl) (fun a hf => ?_)
          refine S.val hf hs (v := .slice u1A xk3.Holes.length u1C) rfl rfl rfl (V.loadBox 0 rfl rfl rfl Try.isAgg34 Try.sizeOf34 rfl rfl) (fun a hf => ?_)
          refine S.val hf hs (v := .int .i64 (xk3.Holes.length : Int)) rfl rfl rfl (V.len rfl rfl Try.runUnderlying34) (fun a hf => ?_)
          refine S.val hf hs (v := .int .i64 0) rfl rfl rfl (V.pure rfl) (fun a hf => ?_)
          refine R.nil ?_
          refine X.then_ ?_
          refine wp_block ?_
          have hlenk4 := hvu1.len64
          refine C.range (fun (ll : List Hole) a w => ∃ (k4 : Nat) (m8 : List (DrillDrilled × Int)), xk3.Holes.drop k4 = ll ∧ k4 + ll.length = xk3.Holes.length ∧ forIn' (fun k x (s : List (DrillDrilled × Int)) next => M_drill_Same_L4 k1 xk3 k x s (fun m8 => next m8)) (fun (s : List (DrillDrilled × Int)) => (fun (m8 : List (DrillDrilled × Int)) => next3 m8) s) ll k4 m8 ∧ FrOk 77 [(50, .int .i64 (k4 : Int)), (10, .map (some g1)), (11, .int .i64 (k1 : Int)), (14, .pointer (some ⟨g2, 0, none⟩)), (34, .slice A1 ([(⟨a_A, a_.length, a_C⟩ : Sl), (⟨bA, b.length, bC⟩ : Sl)] : List Sl).length 2), (35, .int .i64 (([(⟨a_A, a_.length, a_C⟩ : Sl), (⟨bA, b.length, bC⟩ : Sl)] : List Sl).length : Int)), (36, .int .i64 (k1 : Int)), (41, .slice B1 xk1.length D1), (42, .int .i64 (xk1.length : Int)), (43, .int .i64 (k3 : Int)), (48, .slice u1A xk3.Holes.length u1C), (49, .int .i64 (xk3.Holes.length : Int))] a ∧ Sat w0 none_ [hbox g2 54 [.string (ba xk3.Tool), .slice u1A xk3.Holes.length u1C], hown 49 A1 2 ([(⟨a_A, a_.length, a_C⟩ : Sl), (⟨bA, b.length, bC⟩ : Sl)] : List Sl), hmap g1 ek104 ek3 m8] w) xk3.Holes ⟨0, m6, rfl, Nat.zero_add _, h, ((((((((((((hf.nil.cons (hf.get 49 _ rfl)).cons (hf.get 48 _ rfl)).cons (hf.get 43 _ rfl)).cons (hf.get 42 _ rfl)).cons (hf.get 41 _ rfl)).cons (hf.get 36 _ rfl)).cons (hf.get 35 _ rfl)).cons (hf.get 34 _ rfl)).cons (hf.get 14 _ rfl)).cons (hf.get 11 _ rfl)).cons (hf.get 10 _ rfl)).cons (hf.get 50 _ rfl)), hs⟩ ?_
          clear h hf hs
          rintro llk4 a w ⟨k4, m8, hlk4, hkk4, h, hf, hs⟩
          cases llk4 with
          | nil =>
            have hc := range_done hkk4
            replace h : (fun (m8 : List (DrillDrilled × Int)) => next3 m8) m8 := h
            refine wp_seq ?_
            refine R.list ?_
            refine S.val hf hs (v := .bool false) rfl rfl rfl (V.cmp false rfl rfl rfl rfl hc) (fun a hf => ?_)
            refine R.nil ?_
            refine X.then_ ?_
            refine wp_seq ?_
            refine C.no hf rfl ?_
            refine wp_exit ?_
            refine X.then_exit ?_
            refine X.then_exit ?_
            refine X.blk_exit ?_
            refine X.blk ?_
            refine X.then_ ?_
            refine R.list ?_
            refine S.val hf hs (v := .int .i64 ((k3 + 1 : Nat) : Int)) rfl rfl rfl (V.incr rfl rfl rfl hltk3 hlenk3) (fun a hf => ?_)
            refine S.val hf hs (v := .int .i64 ((k3 + 1 : Nat) : Int)) rfl rfl rfl (V.pure rfl) (fun a hf => ?_)
            refine R.nil ?_
            refine X.then_ ?_
            exact ⟨xk3, llk3, rfl, k3 + 1, m8, range_drop hlk3, range_len hkk3, (by rw [hnext3] at h; exact h), ((((((((hf.nil.cons (hf.get 42 _ rfl)).cons (hf.get 41 _ rfl)).cons (hf.get 36 _ rfl)).cons (hf.get 35 _ rfl)).cons (hf.get 34 _ rfl)).cons (hf.get 11 _ rfl)).cons (hf.get 10 _ rfl)).cons (hf.get 43 _ rfl)), hs.drop⟩
          | cons xk4 llk4 =>
            have hltk4 := range_lt hkk4; have hc := range_go hkk4; have hxk4 := range_get hlk4
            obtain ⟨next4, hnext4⟩ : ∃ X : List (DrillDrilled × Int) → Prop, X = (fun m8 => forIn' (fun k x (s : List (DrillDrilled × Int)) next => M_drill_Same_L4 k1 xk3 k x s (fun m8 => next m8)) (fun (s : List (DrillDrilled × Int)) => (fun (m8 : List (DrillDrilled × Int)) => next3 m8) s) llk4 (k4 + 1) m8) := ⟨_, rfl⟩
            replace h : M_drill_Same_L4 k1 xk3 k4 xk4 m8 next4 := by rw [hnext4]; exact h
            unfold M_drill_Same_L4 at h
            refine wp_seq ?_
            refine R.list ?_
            refine S.val hf hs (v := .bool true) rfl rfl rfl (V.cmp true rfl rfl rfl rfl hc) (fun a hf => ?_)
            refine R.nil ?_
            refine X.then_ ?_
            refine wp_seq ?_
            refine C.yes hf rfl ?_
            refine wp_skip ?_
            refine X.then_ ?_
            refine wp_seq ?_
            refine wp_block ?_
            refine wp_seq ?_
            refine R.list ?_
            refine S.val hf hs (v := elemPtr u1A (k4 * 5)) rfl rfl rfl (V.index rfl rfl rfl Try.runUnderlying34 Try.sizeOf76 (hvu1.some_ (lt_of_get hxk4)) (Int.natCast_nonneg _) (lt_of_get hxk4) rfl) (fun a hf => ?_)
            refine S.val hf hs (v := .agg #[.int .i64 xk4.At.X, .int .i64 xk4.At.Y, .int .i64 xk4.Size, .int .i64 xk4.Depth, .bool xk4.Plated]) rfl rfl rfl (V.loadEl (off := 0) (Ag.args _ _ _) (hvu1.flat hxk4) rfl rfl rfl Try.isAgg76 Try.sizeOf76 rfl rfl) (fun a hf => ?_)
            refine S.alloc hf hs rfl rfl rfl [.int .i64 0, .int .i64 0, .int .i64 0, .int .i64 0, .bool false] rfl Try.zeroValue76 rfl (fun g3 a w hf hs => ?_)
            refine S.storeBox 0 hf hs rfl rfl [.int .i64 xk4.At.X, .int .i64 xk4.At.Y, .int .i64 xk4.Size, .int .i64 xk4.Depth, .bool xk4.Plated] [.int .i64 xk4.At.X, .int .i64 xk4.At.Y, .int .i64 xk4.Size, .int .i64 xk4.Depth, .bool xk4.Plated] rfl rfl rfl rfl rfl Try.sizeOf76 rfl rfl rfl rfl (fun a w hf hs => ?_)
            refine R.nil ?_
            refine X.then_ ?_
            refine H.start (S := Sat w0 none_ [hbox g3 76 [.int .i64 xk4.At.X, .int .i64 xk4.At.Y, .int .i64 xk4.Size, .int .i64 xk4.Depth, .bool xk4.Plated], hbox g2 54 [.string (ba xk3.Tool), .slice u1A xk3.Holes.length u1C], hown 49 A1 2 ([(⟨a_A, a_.length, a_C⟩ : Sl), (⟨bA, b.length, bC⟩ : Sl)] : List Sl)]) mo ?_
            replace hs := hs.drew
            refine H.val hf (hs.mask [true, true, true, false]) (v := .map (some g1)) (i := 0) rfl rfl rfl rfl (by kernel_rfl) (by kernel_rfl) (by kernel_rfl) (V.pure rfl) (fun a hf => ?_)
            refine H.val hf (hs.mask [true, true, true, false]) (v := .pointer (some ⟨g2, 0, none⟩)) (i := 1) rfl rfl rfl rfl (by kernel_rfl) (by kernel_rfl) (by kernel_rfl) (V.fieldBox rfl rfl Try.runUnderlying54 rfl Try.sizeOf9 rfl rfl) (fun a hf => ?_)
            refine H.val hf (hs.mask [true, true, true, false]) (v := .string (ba xk3.Tool)) (i := 2) rfl rfl rfl rfl (by kernel_rfl) (by kernel_rfl) (by kernel_rfl) (V.loadBox 1 rfl rfl rfl Try.isAgg9 Try.sizeOf9 rfl rfl) (fun a hf => ?_)
            refine H.val hf (hs.mask [true, true, true, false]) (v := .agg #[.int .i64 xk4.At.X, .int .i64 xk4.At.Y, .int .i64 xk4.Size, .int .i64 xk4.Depth, .bool xk4.Plated]) (i := 3) rfl rfl rfl rfl (by kernel_rfl) (by kernel_rfl) (by kernel_rfl) (V.loadBox 0 rfl rfl rfl Try.isAgg76 Try.sizeOf76 rfl rfl) (fun a hf => ?_)
            refine H.val hf (hs.mask [true, true, true, false]) (v := .int .i64 (k1 : Int)) (i := 6) rfl rfl rfl rfl (by kernel_rfl) (by kernel_rfl) (by kernel_rfl) (V.pure rfl) (fun a hf => ?_)
            refine H.val hf (hs.mask [true, true, true, false]) (v := .int .i64 (w64 (2 * (k1 : Int)))) (i := 7) rfl rfl rfl rfl (by kernel_rfl) (by kernel_rfl) (by kernel_rfl) (V.pure rfl) (fun a hf => ?_)
            refine H.val hf (hs.mask [true, true, true, false]) (v := .int .i64 (w64 (1 - (w64 (2 * (k1 : Int)))))) (i := 8) rfl rfl rfl rfl (by kernel_rfl) (by kernel_rfl) (by kernel_rfl) (V.pure rfl) (fun a hf => ?_)
            refine H.one (i := 4) rfl (by kernel_rfl) ?_
            refine S.val hf hs (v := .agg #[.string (ba xk3.Tool), .int .i64 xk4.At.X, .int .i64 xk4.At.Y, .int .i64 xk4.Size, .int .i64 xk4.Depth, .bool xk4.Plated]) rfl rfl rfl (V.build (places := #[(0, 1), (1, 5)]) rfl Try.zeroValue104 Try.runUnderlying104 (by intro w; simp [Try.sizeOf76, Try.sizeOf9]) rfl rfl) (fun a hf => ?_)
            refine R.nil ?_
            refine X.then_ ?_
            refine ⟨(hs.mask [true, true, true, false]), ?_⟩
            refine H.each2 (i0 := 5) (i1 := 10) rfl rfl (by kernel_rfl) ?_ ?_
            · refine S.val hf hs (v := .int .i64 ((mget m8 (⟨xk3.Tool, xk4⟩ : DrillDrilled)).getD 0)) rfl rfl rfl (V.lookup 3 rfl (k := (⟨xk3.Tool, xk4⟩ : DrillDrilled)) (u := ((mget m8 (⟨xk3.Tool, xk4⟩ : DrillDrilled)).getD 0)) (z := 0) rfl rfl rfl Try.runUnderlying101 key104 Try.zeroValue3 rfl rfl) (fun a hf => ?_)
              refine R.nil ?_
              refine X.then_ ?_
              refine ⟨(hs.mask [true, true, true, false]), ?_⟩
              refine H.val hf (hs.mask [true, true, true, false]) (v := .int .i64 (w64 (((mget m8 (⟨xk3.Tool, xk4⟩ : DrillDrilled)).getD 0) + (w64 (1 - (w64 (2 * (k1 : Int)))))))) (i := 9) rfl rfl rfl rfl (by kernel_rfl) (by kernel_rfl) (by kernel_rfl) (V.pure rfl) (fun a hf => ?_)
              refine H.one (i := 10) rfl (by kernel_rfl) ?_
              refine S.mapEntry 3 hf hs rfl rfl rfl rfl (⟨xk3.Tool, xk4⟩ : DrillDrilled) (z := 0) (u := ((mget m8 (⟨xk3.Tool, xk4⟩ : DrillDrilled)).getD 0)) rfl rfl rfl Try.runUnderlying101 key104 Try.zeroValue3 rfl (fun stamp1 a w hf hs => ?_)
              refine R.nil ?_
              refine X.then_ ?_
              refine ⟨(hs.mask [true, true, true, false]), ?_⟩
              refine H.val hf (hs.mask [true, true, true, false]) (v := .int .i64 (stamp1 : Int)) (i := 11) rfl rfl rfl rfl (by kernel_rfl) (by kernel_rfl) (by kernel_rfl) (V.pure rfl) (fun a hf => ?_)
              refine H.one (i := 12) rfl (by kernel_rfl) ?_
              refine S.entryStore 3 hf hs rfl rfl rfl (w64 (((mget m8 (⟨xk3.Tool, xk4⟩ : DrillDrilled)).getD 0) + (w64 (1 - (w64 (2 * (k1 : Int))))))) rfl rfl rfl rfl (fun a w hf hs => ?_)
              refine R.nil ?_
              refine X.then_ ?_
              refine ⟨(hs.mask [true, true, true, false]), ?_⟩
              refine H.done (by kernel_rfl) ?_
              refine X.blk ?_
              refine X.then_ ?_
              refine R.list ?_
              refine S.val hf hs (v := .int .i64 ((k4 + 1 : Nat) : Int)) rfl rfl rfl (V.incr rfl rfl rfl hltk4 hlenk4) (fun a hf => ?_)
              refine S.val hf hs (v := .int .i64 ((k4 + 1 : Nat) : Int)) rfl rfl rfl (V.pure rfl) (fun a hf => ?_)
              refine R.nil ?_
              refine X.then_ ?_
              exact ⟨xk4, llk4, rfl, k4 + 1, (mput m8 (⟨xk3.Tool, xk4⟩ : DrillDrilled) (w64 (((mget m8 (⟨xk3.Tool, xk4⟩ : DrillDrilled)).getD 0) + (w64 (1 - (w64 (2 * (k1 : Int)))))))), range_drop hlk4, range_len hkk4, (by rw [hnext4] at h; exact h), ((((((((((((hf.nil.cons (hf.get 49 _ rfl)).cons (hf.get 48 _ rfl)).cons (hf.get 43 _ rfl)).cons (hf.get 42 _ rfl)).cons (hf.get 41 _ rfl)).cons (hf.get 36 _ rfl)).cons (hf.get 35 _ rfl)).cons (hf.get 34 _ rfl)).cons (hf.get 14 _ rfl)).cons (hf.get 11 _ rfl)).cons (hf.get 10 _ rfl)).cons (hf.get 50 _ rfl)), hs.drop⟩
            · refine S.mapEntry 3 hf hs rfl rfl rfl rfl (⟨xk3.Tool, xk4⟩ : DrillDrilled) (z := 0) (u := ((mget m8 (⟨xk3.Tool, xk4⟩ : DrillDrilled)).getD 0)) rfl rfl rfl Try.runUnderlying101 key104 Try.zeroValue3 rfl (fun stamp1 a w hf hs => ?_)
              refine R.nil ?_
              refine X.then_ ?_
              refine ⟨(hs.mask [true, true, true, false]), ?_⟩
              refine H.val hf (hs.mask [true, true, true, false]) (v := .int .i64 (stamp1 : Int)) (i := 11) rfl rfl rfl rfl (by kernel_rfl) (by kernel_rfl) (by kernel_rfl) (V.pure rfl) (fun a hf => ?_)
              refine H.one (i := 5) rfl (by kernel_rfl) ?_
              refine S.val hf hs (v := .int .i64 ((mget m8 (⟨xk3.Tool, xk4⟩ : DrillDrilled)).getD 0)) rfl rfl rfl (V.lookupEnt 3 (z := 0) rfl rfl rfl rfl Try.runUnderlying101 key104 Try.zeroValue3 rfl) (fun a hf => ?_)
              refine R.nil ?_
              refine X.then_ ?_
              refine ⟨(hs.mask [true, true, true, false]), ?_⟩
              refine H.val hf (hs.mask [true, true, true, false]) (v := .int .i64 (w64 (((mget m8 (⟨xk3.Tool, xk4⟩ : DrillDrilled)).getD 0) + (w64 (1 - (w64 (2 * (k1 : Int)))))))) (i := 9) rfl rfl rfl rfl (by kernel_rfl) (by kernel_rfl) (by kernel_rfl) (V.pure rfl) (fun a hf => ?_)
              refine H.one (i := 12) rfl (by kernel_rfl) ?_
              refine S.entryStore 3 hf hs rfl rfl rfl (w64 (((mget m8 (⟨xk3.Tool, xk4⟩ : DrillDrilled)).getD 0) + (w64 (1 - (w64 (2 * (k1 : Int))))))) rfl rfl rfl rfl (fun a w hf hs => ?_)
              refine R.nil ?_
              refine X.then_ ?_
              refine ⟨(hs.mask [true, true, true, false]), ?_⟩
              refine H.done (by kernel_rfl) ?_
              refine X.blk ?_
              refine X.then_ ?_
              refine R.list ?_
              refine S.val hf hs (v := .int .i64 ((k4 + 1 : Nat) : Int)) rfl rfl rfl (V.incr rfl rfl rfl hltk4 hlenk4) (fun a hf => ?_)
              refine S.val hf hs (v := .int .i64 ((k4 + 1 : Nat) : Int)) rfl rfl rfl (V.pure rfl) (fun a hf => ?_)
              refine R.nil ?_
              refine X.then_ ?_
              exact ⟨xk4, llk4, rfl, k4 + 1, (mput m8 (⟨xk3.Tool, xk4⟩ : DrillDrilled) (w64 (((mget m8 (⟨xk3.Tool, xk4⟩ : DrillDrilled)).getD 0) + (w64 (1 - (w64 (2 * (k1 : Int)))))))), range_drop hlk4, range_len hkk4, (by rw [hnext4] at h; exact h), ((((((((((((hf.nil.cons (hf.get 49 _ rfl)).cons (hf.get 48 _ rfl)).cons (hf.get 43 _ rfl)).cons (hf.get 42 _ rfl)).cons (hf.get 41 _ rfl)).cons (hf.get 36 _ rfl)).cons (hf.get 35 _ rfl)).cons (hf.get 34 _ rfl)).cons (hf.get 14 _ rfl)).cons (hf.get 11 _ rfl)).cons (hf.get 10 _ rfl)).cons (hf.get 50 _ rfl)), hs.drop⟩

set_option linter.unusedVariables false
def M_ref8_many_L1 (h_ : Hole) (k1 : Nat) (xk1 : Hole) (n2 : Int) (next1 : Int → Prop) : Prop :=
  cnd (decide (xk1 = h_)) (next1 (w64 (n2 + 1))) (next1 n2)
def M_ref8_many (l : (List Hole)) (h_ : Hole) (Q : Int → Prop) : Prop :=
  forIn' (fun k x (s : Int) next => M_ref8_many_L1 h_ k x s (fun n2 => next n2)) (fun (s : Int) => (fun (n2 : Int) => Q n2) s) l 0 0
set_option maxHeartbeats 1000000 in
theorem R_ref8_many (l : (List Hole)) (h_ : Hole) (w0 : World) (lA : Option Addr) (lC : Nat) (hv_l : View w0 (old w0 none_) lA lC l) (Q : Int → Prop) (h : M_ref8_many l h_ Q) :
    Ret Try.prog 81 #[.slice lA l.length lC, .agg #[.int .i64 h_.At.X, .int .i64 h_.At.Y, .int .i64 h_.Size, .int .i64 h_.Depth, .bool h_.Plated]] w0 fun v w' => ∃ (r0 : Int), v = .int .i64 r0 ∧ Q r0 ∧ Sat w0 none_ [] w' := by
  refine fn_enter Try.func81 rfl Try.ntmps81 rfl (fs := [(0, .slice lA l.length lC), (1, .agg #[.int .i64 h_.At.X, .int .i64 h_.At.Y, .int .i64 h_.Size, .int .i64 h_.Depth, .bool h_.Plated])]) rfl (fun a hf => ?_)
  have hs := Sat.start w0 none_
  unfold M_ref8_many at h
  refine wp_seq ?_
  refine R.list ?_
  refine S.box hf hs rfl rfl rfl [.int .i64 h_.At.X, .int .i64 h_.At.Y, .int .i64 h_.Size, .int .i64 h_.Depth, .bool h_.Plated] rfl rfl rfl (fun g1 a w hf hs => ?_)
  refine S.val hf hs (v := .int .i64 0) rfl rfl rfl (V.pure rfl) (fun a hf => ?_)
  refine R.nil ?_
  refine X.then_ ?_
  refine wp_seq ?_
  refine R.list ?_
  refine S.val hf hs (v := .int .i64 0) rfl rfl rfl (V.pure rfl) (fun a hf => ?_)
  refine R.nil ?_
  refine X.then_ ?_
  refine wp_seq ?_
  refine wp_seq ?_
  refine R.list ?_
  refine S.val hf hs (v := .slice lA l.length lC) rfl rfl rfl (V.pure rfl) (fun a hf => ?_)
  refine S.val hf hs (v := .int .i64 (l.length : Int)) rfl rfl rfl (V.len rfl rfl Try.runUnderlying34) (fun a hf => ?_)
  refine S.val hf hs (v := .int .i64 0) rfl rfl rfl (V.pure rfl) (fun a hf => ?_)
  refine R.nil ?_
  refine X.then_ ?_
  refine wp_block ?_
  have hlenk1 := hv_l.len64
  refine C.range (fun (ll : List Hole) a w => ∃ (k1 : Nat) (n2 : Int), l.drop k1 = ll ∧ k1 + ll.length = l.length ∧ forIn' (fun k x (s : Int) next => M_ref8_many_L1 h_ k x s (fun n2 => next n2)) (fun (s : Int) => (fun (n2 : Int) => Q n2) s) ll k1 n2 ∧ FrOk 21 [(10, .int .i64 (k1 : Int)), (3, .pointer (some ⟨g1, 0, none⟩)), (5, .int .i64 n2), (8, .slice lA l.length lC), (9, .int .i64 (l.length : Int))] a ∧ Sat w0 none_ [hbox g1 76 [.int .i64 h_.At.X, .int .i64 h_.At.Y, .int .i64 h_.Size, .int .i64 h_.Depth, .bool h_.Plated]] w) l ⟨0, 0, rfl, Nat.zero_add _, h, (((((hf.nil.cons (hf.get 9 _ rfl)).cons (hf.get 8 _ rfl)).cons (hf.get 5 _ rfl)).cons (hf.get 3 _ rfl)).cons (hf.get 10 _ rfl)), hs⟩ ?_
  clear h hf hs
  rintro llk1 a w ⟨k1, n2, hlk1, hkk1, h, hf, hs⟩
  cases llk1 with
  | nil =>
    have hc := range_done hkk1
    replace h : (fun (n2 : Int) => Q n2) n2 := h
    refine wp_seq ?_
    refine R.list ?_
    refine S.val hf hs (v := .bool false) rfl rfl rfl (V.cmp false rfl rfl rfl rfl hc) (fun a hf => ?_)
    refine R.nil ?_
    refine X.then_ ?_
    refine wp_seq ?_
    refine C.no hf rfl ?_
    refine wp_exit ?_
    refine X.then_exit ?_
    refine X.then_exit ?_
    refine X.blk_exit ?_
    refine X.then_ ?_
    refine wp_seq ?_
    refine R.list ?_
    refine S.val hf hs (v := .int .i64 n2) rfl rfl rfl (V.pure rfl) (fun a hf => ?_)
    refine S.val hf hs (v := .int .i64 n2) rfl rfl rfl (V.pure rfl) (fun a hf => ?_)
    refine R.nil ?_
    refine X.then_ ?_
    refine wp_ret ?_
    exact L.ret hf (run_results1 Try.results81 (ResIs.tmp hf rfl)) ⟨n2, rfl, h, hs.nil⟩
  | cons xk1 llk1 =>
    have hltk1 := range_lt hkk1; have hc := range_go hkk1; have hxk1 := range_get hlk1
    obtain ⟨next1, hnext1⟩ : ∃ X : Int → Prop, X = (fun n2 => forIn' (fun k x (s : Int) next => M_ref8_many_L1 h_ k x s (fun n2 => next n2)) (fun (s : Int) => (fun (n2 : Int) => Q n2) s) llk1 (k1 + 1) n2) := ⟨_, rfl⟩
    replace h : M_ref8_many_L1 h_ k1 xk1 n2 next1 := by rw [hnext1]; exact h
    unfold M_ref8_many_L1 at h
    refine wp_seq ?_
    refine R.list ?_
    refine S.val hf hs (v := .bool true) rfl rfl rfl (V.cmp true rfl rfl rfl rfl hc) (fun a hf => ?_)
    refine R.nil ?_
    refine X.then_ ?_
    refine wp_seq ?_
    refine C.yes hf rfl ?_
    refine wp_skip ?_
    refine X.then_ ?_
    refine wp_seq ?_
    refine wp_block ?_
    refine wp_seq ?_
    refine R.list ?_
    refine S.val hf hs (v := elemPtr lA (k1 * 5)) rfl rfl rfl (V.index rfl rfl rfl Try.runUnderlying34 Try.sizeOf76 (hv_l.some_ (lt_of_get hxk1)) (Int.natCast_nonneg _) (lt_of_get hxk1) rfl) (fun a hf => ?_)
    refine S.val hf hs (v := .agg #[.int .i64 xk1.At.X, .int .i64 xk1.At.Y, .int .i64 xk1.Size, .int .i64 xk1.Depth, .bool xk1.Plated]) rfl rfl rfl (V.loadEl (off := 0) (Ag.args _ _ _) (hv_l.flat hxk1) rfl rfl rfl Try.isAgg76 Try.sizeOf76 rfl rfl) (fun a hf => ?_)
    refine S.alloc hf hs rfl rfl rfl [.int .i64 0, .int .i64 0, .int .i64 0, .int .i64 0, .bool false] rfl Try.zeroValue76 rfl (fun g2 a w hf hs => ?_)
    refine S.storeBox 0 hf hs rfl rfl [.int .i64 xk1.At.X, .int .i64 xk1.At.Y, .int .i64 xk1.Size, .int .i64 xk1.Depth, .bool xk1.Plated] [.int .i64 xk1.At.X, .int .i64 xk1.At.Y, .int .i64 xk1.Size, .int .i64 xk1.Depth, .bool xk1.Plated] rfl rfl rfl rfl rfl Try.sizeOf76 rfl rfl rfl rfl (fun a w hf hs => ?_)
    refine R.nil ?_
    refine X.then_ ?_
    refine wp_seq ?_
    refine R.list ?_
    refine S.val hf hs (v := .agg #[.int .i64 xk1.At.X, .int .i64 xk1.At.Y, .int .i64 xk1.Size, .int .i64 xk1.Depth, .bool xk1.Plated]) rfl rfl rfl (V.loadBox 0 rfl rfl rfl Try.isAgg76 Try.sizeOf76 rfl rfl) (fun a hf => ?_)
    refine S.val hf hs (v := .agg #[.int .i64 h_.At.X, .int .i64 h_.At.Y, .int .i64 h_.Size, .int .i64 h_.Depth, .bool h_.Plated]) rfl rfl rfl (V.loadBox 1 rfl rfl rfl Try.isAgg76 Try.sizeOf76 rfl rfl) (fun a hf => ?_)
    refine S.val hf hs (v := .bool (decide (xk1 = h_))) rfl rfl rfl (V.aggeql rfl rfl rfl (by kernel_rfl) (fun w => eqS76 xk1 h_ w)) (fun a hf => ?_)
    refine R.nil ?_
    refine X.then_ ?_
    refine C.cond hf (b := decide (xk1 = h_)) rfl (fun hc => ?_) (fun hc => ?_)
    · replace h := h.1 hc
      refine R.list ?_
      refine S.val hf hs (v := .int .i64 n2) rfl rfl rfl (V.pure rfl) (fun a hf => ?_)
      refine S.val hf hs (v := .int .i64 (w64 (n2 + 1))) rfl rfl rfl (V.pure rfl) (fun a hf => ?_)
      refine S.val hf hs (v := .int .i64 (w64 (n2 + 1))) rfl rfl rfl (V.pure rfl) (fun a hf => ?_)
      refine R.nil ?_
      refine X.blk ?_
      refine X.then_ ?_
      refine R.list ?_
      refine S.val hf hs (v := .int .i64 ((k1 + 1 : Nat) : Int)) rfl rfl rfl (V.incr rfl rfl rfl hltk1 hlenk1) (fun a hf => ?_)
      refine S.val hf hs (v := .int .i64 ((k1 + 1 : Nat) : Int)) rfl rfl rfl (V.pure rfl) (fun a hf => ?_)
      refine R.nil ?_
      refine X.then_ ?_
      exact ⟨xk1, llk1, rfl, k1 + 1, (w64 (n2 + 1)), range_drop hlk1, range_len hkk1, (by rw [hnext1] at h; exact h), (((((hf.nil.cons (hf.get 9 _ rfl)).cons (hf.get 8 _ rfl)).cons (hf.get 5 _ rfl)).cons (hf.get 3 _ rfl)).cons (hf.get 10 _ rfl)), hs.drop⟩
    · replace h := h.2 hc
      refine wp_skip ?_
      refine X.blk ?_
      refine X.then_ ?_
      refine R.list ?_
      refine S.val hf hs (v := .int .i64 ((k1 + 1 : Nat) : Int)) rfl rfl rfl (V.incr rfl rfl rfl hltk1 hlenk1) (fun a hf => ?_)
      refine S.val hf hs (v := .int .i64 ((k1 + 1 : Nat) : Int)) rfl rfl rfl (V.pure rfl) (fun a hf => ?_)
      refine R.nil ?_
      refine X.then_ ?_
      exact ⟨xk1, llk1, rfl, k1 + 1, n2, range_drop hlk1, range_len hkk1, (by rw [hnext1] at h; exact h), (((((hf.nil.cons (hf.get 9 _ rfl)).cons (hf.get 8 _ rfl)).cons (hf.get 5 _ rfl)).cons (hf.get 3 _ rfl)).cons (hf.get 10 _ rfl)), hs.drop⟩

set_option linter.unusedVariables false
def M_ref8_SameHoles_L1 (a_ : (List Hole)) (b : (List Hole)) (Q : Bool → Prop) (k1 : Nat) (xk1 : Hole)  (next1 : Prop) : Prop :=
  M_ref8_many a_ xk1 fun y1 => M_ref8_many b xk1 fun y2 => cnd (y1 != y2) (Q false) (next1)
def M_ref8_SameHoles (a_ : (List Hole)) (b : (List Hole)) (Q : Bool → Prop) : Prop :=
  forIn' (fun k x (s : Unit) next => M_ref8_SameHoles_L1 a_ b Q k x (next ())) (fun (s : Unit) => Q ((a_.length : Int) == (b.length : Int))) a_ 0 ()
set_option maxHeartbeats 1000000 in
theorem R_ref8_SameHoles (a_ : (List Hole)) (b : (List Hole)) (w0 : World) (a_A : Option Addr) (a_C : Nat) (hv_a_ : View w0 (old w0 none_) a_A a_C a_) (bA : Option Addr) (bC : Nat) (hv_b : View w0 (old w0 none_) bA bC b) (Q : Bool → Prop) (h : M_ref8_SameHoles a_ b Q) :
    Ret Try.prog 47 #[.slice a_A a_.length a_C, .slice bA b.length bC] w0 fun v w' => ∃ (r0 : Bool), v = .bool r0 ∧ Q r0 ∧ Sat w0 none_ [] w' := by
  refine fn_enter Try.func47 rfl Try.ntmps47 rfl (fs := [(0, .slice a_A a_.length a_C), (1, .slice bA b.length bC)]) rfl (fun a hf => ?_)
  have hs := Sat.start w0 none_
  unfold M_ref8_SameHoles at h
  refine wp_seq ?_
  refine R.list ?_
  refine S.val hf hs (v := .bool false) rfl rfl rfl (V.pure rfl) (fun a hf => ?_)
  refine R.nil ?_
  refine X.then_ ?_
  refine wp_seq ?_
  refine wp_seq ?_
  refine R.list ?_
  refine S.val hf hs (v := .slice a_A a_.length a_C) rfl rfl rfl (V.pure rfl) (fun a hf => ?_)
  refine S.val hf hs (v := .int .i64 (a_.length : Int)) rfl rfl rfl (V.len rfl rfl Try.runUnderlying34) (fun a hf => ?_)
  refine S.val hf hs (v := .int .i64 0) rfl rfl rfl (V.pure rfl) (fun a hf => ?_)
  refine R.nil ?_
  refine X.then_ ?_
  refine wp_block ?_
  have hlenk1 := hv_a_.len64
  refine C.range (fun (ll : List Hole) a w => ∃ (k1 : Nat) , a_.drop k1 = ll ∧ k1 + ll.length = a_.length ∧ forIn' (fun k x (s : Unit) next => M_ref8_SameHoles_L1 a_ b Q k x (next ())) (fun (s : Unit) => Q ((a_.length : Int) == (b.length : Int))) ll k1 () ∧ FrOk 26 [(9, .int .i64 (k1 : Int)), (0, .slice a_A a_.length a_C), (1, .slice bA b.length bC), (7, .slice a_A a_.length a_C), (8, .int .i64 (a_.length : Int))] a ∧ Sat w0 none_ [] w) a_ ⟨0, rfl, Nat.zero_add _, h, (((((hf.nil.cons (hf.get 8 _ rfl)).cons (hf.get 7 _ rfl)).cons (hf.get 1 _ rfl)).cons (hf.get 0 _ rfl)).cons (hf.get 9 _ rfl)), hs⟩ ?_
  clear h hf hs
  rintro llk1 a w ⟨k1, hlk1, hkk1, h, hf, hs⟩
  cases llk1 with
  | nil =>
    have hc := range_done hkk1
    replace h : Q ((a_.length : Int) == (b.length : Int)) := h
    refine wp_seq ?_
    refine R.list ?_
    refine S.val hf hs (v := .bool false) rfl rfl rfl (V.cmp false rfl rfl rfl rfl hc) (fun a hf => ?_)
    refine R.nil ?_
    refine X.then_ ?_
    refine wp_seq ?_
    refine C.no hf rfl ?_
    refine wp_exit ?_
    refine X.then_exit ?_
    refine X.then_exit ?_
    refine X.blk_exit ?_
    refine X.then_ ?_
    refine wp_seq ?_
    refine R.list ?_
    refine S.val hf hs (v := .slice a_A a_.length a_C) rfl rfl rfl (V.pure rfl) (fun a hf => ?_)
    refine S.val hf hs (v := .int .i64 (a_.length : Int)) rfl rfl rfl (V.len rfl rfl Try.runUnderlying34) (fun a hf => ?_)
    refine S.val hf hs (v := .slice bA b.length bC) rfl rfl rfl (V.pure rfl) (fun a hf => ?_)
    refine S.val hf hs (v := .int .i64 (b.length : Int)) rfl rfl rfl (V.len rfl rfl Try.runUnderlying34) (fun a hf => ?_)
    refine S.val hf hs (v := .bool ((a_.length : Int) == (b.length : Int))) rfl rfl rfl (V.pure rfl) (fun a hf => ?_)
    refine S.val hf hs (v := .bool ((a_.length : Int) == (b.length : Int))) rfl rfl rfl (V.pure rfl) (fun a hf => ?_)
    refine R.nil ?_
    refine X.then_ ?_
    refine wp_ret ?_
    exact L.ret hf (run_results1 Try.results47 (ResIs.tmp hf rfl)) ⟨((a_.length : Int) == (b.length : Int)), rfl, h, hs.nil⟩
  | cons xk1 llk1 =>
    have hltk1 := range_lt hkk1; have hc := range_go hkk1; have hxk1 := range_get hlk1
    obtain ⟨next1, hnext1⟩ : ∃ X : Prop, X = (forIn' (fun k x (s : Unit) next => M_ref8_SameHoles_L1 a_ b Q k x (next ())) (fun (s : Unit) => Q ((a_.length : Int) == (b.length : Int))) llk1 (k1 + 1) ()) := ⟨_, rfl⟩
    replace h : M_ref8_SameHoles_L1 a_ b Q k1 xk1  next1 := by rw [hnext1]; exact h
    unfold M_ref8_SameHoles_L1 at h
    refine wp_seq ?_
    refine R.list ?_
    refine S.val hf hs (v := .bool true) rfl rfl rfl (V.cmp true rfl rfl rfl rfl hc) (fun a hf => ?_)
    refine R.nil ?_
    refine X.then_ ?_
    refine wp_seq ?_
    refine C.yes hf rfl ?_
    refine wp_skip ?_
    refine X.then_ ?_
    refine wp_seq ?_
    refine wp_block ?_
    refine wp_seq ?_
    refine R.list ?_
    refine S.val hf hs (v := elemPtr a_A (k1 * 5)) rfl rfl rfl (V.index rfl rfl rfl Try.runUnderlying34 Try.sizeOf76 (hv_a_.some_ (lt_of_get hxk1)) (Int.natCast_nonneg _) (lt_of_get hxk1) rfl) (fun a hf => ?_)
    refine S.val hf hs (v := .agg #[.int .i64 xk1.At.X, .int .i64 xk1.At.Y, .int .i64 xk1.Size, .int .i64 xk1.Depth, .bool xk1.Plated]) rfl rfl rfl (V.loadEl (off := 0) (Ag.args _ _ _) (hv_a_.flat hxk1) rfl rfl rfl Try.isAgg76 Try.sizeOf76 rfl rfl) (fun a hf => ?_)
    refine S.alloc hf hs rfl rfl rfl [.int .i64 0, .int .i64 0, .int .i64 0, .int .i64 0, .bool false] rfl Try.zeroValue76 rfl (fun g1 a w hf hs => ?_)
    refine S.storeBox 0 hf hs rfl rfl [.int .i64 xk1.At.X, .int .i64 xk1.At.Y, .int .i64 xk1.Size, .int .i64 xk1.Depth, .bool xk1.Plated] [.int .i64 xk1.At.X, .int .i64 xk1.At.Y, .int .i64 xk1.Size, .int .i64 xk1.Depth, .bool xk1.Plated] rfl rfl rfl rfl rfl Try.sizeOf76 rfl rfl rfl rfl (fun a w hf hs => ?_)
    refine R.nil ?_
    refine X.then_ ?_
    refine wp_seq ?_
    refine H.start (S := Sat w0 none_ [hbox g1 76 [.int .i64 xk1.At.X, .int .i64 xk1.At.Y, .int .i64 xk1.Size, .int .i64 xk1.Depth, .bool xk1.Plated]]) mo ?_
    replace hs := hs.drew
    refine H.val hf hs (v := .slice a_A a_.length a_C) (i := 0) rfl rfl rfl rfl (by kernel_rfl) (by kernel_rfl) (by kernel_rfl) (V.pure rfl) (fun a hf => ?_)
    refine H.val hf hs (v := .agg #[.int .i64 xk1.At.X, .int .i64 xk1.At.Y, .int .i64 xk1.Size, .int .i64 xk1.Depth, .bool xk1.Plated]) (i := 1) rfl rfl rfl rfl (by kernel_rfl) (by kernel_rfl) (by kernel_rfl) (V.loadBox 0 rfl rfl rfl Try.isAgg76 Try.sizeOf76 rfl rfl) (fun a hf => ?_)
    refine H.val hf hs (v := .slice bA b.length bC) (i := 3) rfl rfl rfl rfl (by kernel_rfl) (by kernel_rfl) (by kernel_rfl) (V.pure rfl) (fun a hf => ?_)
    refine H.val hf hs (v := .agg #[.int .i64 xk1.At.X, .int .i64 xk1.At.Y, .int .i64 xk1.Size, .int .i64 xk1.Depth, .bool xk1.Plated]) (i := 4) rfl rfl rfl rfl (by kernel_rfl) (by kernel_rfl) (by kernel_rfl) (V.loadBox 0 rfl rfl rfl Try.isAgg76 Try.sizeOf76 rfl rfl) (fun a hf => ?_)
    refine H.one (i := 2) rfl (by kernel_rfl) ?_
    refine S.call hf rfl rfl rfl (call_fn (vs := [.slice a_A a_.length a_C, .agg #[.int .i64 xk1.At.X, .int .i64 xk1.At.Y, .int .i64 xk1.Size, .int .i64 xk1.Depth, .bool xk1.Plated]]) rfl rfl rfl Try.call81) (R_ref8_many a_ xk1 _ a_A a_C ((Ag.args _ _ _).view hv_a_ hs) _ h) (fun v a w' hf hr => ?_)
    obtain ⟨y1, rfl, h2, hs2⟩ := hr
    replace h := h2; replace hs := hs.call hs2; clear h2 hs2
    refine R.nil ?_
    refine X.then_ ?_
    refine ⟨hs, ?_⟩
    refine H.one (i := 5) rfl (by kernel_rfl) ?_
    refine S.call hf rfl rfl rfl (call_fn (vs := [.slice bA b.length bC, .agg #[.int .i64 xk1.At.X, .int .i64 xk1.At.Y, .int .i64 xk1.Size, .int .i64 xk1.Depth, .bool xk1.Plated]]) rfl rfl rfl Try.call81) (R_ref8_many b xk1 _ bA bC ((Ag.args _ _ _).view hv_b hs) _ h) (fun v a w' hf hr => ?_)
    obtain ⟨y2, rfl, h2, hs2⟩ := hr
    replace h := h2; replace hs := hs.call hs2; clear h2 hs2
    refine R.nil ?_
    refine X.then_ ?_
    refine ⟨hs, ?_⟩
    refine H.val hf hs (v := .bool (y1 != y2)) (i := 6) rfl rfl rfl rfl (by kernel_rfl) (by kernel_rfl) (by kernel_rfl) (V.pure rfl) (fun a hf => ?_)
    refine H.done (by kernel_rfl) ?_
    refine X.then_ ?_
    refine C.cond hf (b := y1 != y2) rfl (fun hc => ?_) (fun hc => ?_)
    · replace h := h.1 hc
      refine wp_seq ?_
      refine R.list ?_
      refine S.val hf hs (v := .bool false) rfl rfl rfl (V.pure rfl) (fun a hf => ?_)
      refine R.nil ?_
      refine X.then_ ?_
      refine wp_ret ?_
      refine X.blk_ret ?_
      refine X.then_ret ?_
      refine X.then_ret ?_
      refine X.blk_ret ?_
      refine X.then_ret ?_
      exact L.ret hf (run_results1 Try.results47 (ResIs.tmp hf rfl)) ⟨false, rfl, h, hs.nil⟩
    · replace h := h.2 hc
      refine wp_skip ?_
      refine X.blk ?_
      refine X.then_ ?_
      refine R.list ?_
      refine S.val hf hs (v := .int .i64 ((k1 + 1 : Nat) : Int)) rfl rfl rfl (V.incr rfl rfl rfl hltk1 hlenk1) (fun a hf => ?_)
      refine S.val hf hs (v := .int .i64 ((k1 + 1 : Nat) : Int)) rfl rfl rfl (V.pure rfl) (fun a hf => ?_)
      refine R.nil ?_
      refine X.then_ ?_
      exact ⟨xk1, llk1, rfl, k1 + 1, range_drop hlk1, range_len hkk1, (by rw [hnext1] at h; exact h), (((((hf.nil.cons (hf.get 8 _ rfl)).cons (hf.get 7 _ rfl)).cons (hf.get 1 _ rfl)).cons (hf.get 0 _ rfl)).cons (hf.get 9 _ rfl)), hs.drop⟩

set_option linter.unusedVariables false
def M_ref8_holesOf_L1 (tool : Str) (k1 : Nat) (xk1 : Job) (l2 : List Hole) (next1 : List Hole → Prop) : Prop :=
  cnd (xk1.Tool == tool) (must (room (l2 ++ xk1.Holes).length 40) (next1 (l2 ++ xk1.Holes))) (next1 l2)
def M_ref8_holesOf (j : (List Job)) (tool : Str) (Q : (List Hole) → Prop) : Prop :=
  forIn' (fun k x (s : List Hole) next => M_ref8_holesOf_L1 tool k x s (fun l2 => next l2)) (fun (s : List Hole) => (fun (l2 : List Hole) => Q l2) s) j 0 ([] : List Hole)
set_option maxHeartbeats 1000000 in
theorem R_ref8_holesOf (j : (List Job)) (tool : Str) (w0 : World) (jA : Option Addr) (jC : Nat) (hv_j : View w0 (old w0 none_) jA jC j) (Q : (List Hole) → Prop) (h : M_ref8_holesOf j tool Q) :
    Ret Try.prog 73 #[.slice jA j.length jC, .string (ba tool)] w0 fun v w' => ∃ (r0 : (List Hole)) (r0A : Option Addr) (r0C : Nat), v = .slice r0A r0.length r0C ∧ Q r0 ∧ Sat w0 none_ [hown 76 r0A r0C r0] w' := by
  refine fn_enter Try.func73 rfl Try.ntmps73 rfl (fs := [(0, .slice jA j.length jC), (1, .string (ba tool))]) rfl (fun a hf => ?_)
  have hs := Sat.start w0 none_
  unfold M_ref8_holesOf at h
  refine wp_seq ?_
  refine R.list ?_
  refine S.val hf hs (v := .slice none 0 0) rfl rfl rfl (V.pure rfl) (fun a hf => ?_)
  refine R.nil ?_
  refine X.then_ ?_
  refine wp_seq ?_
  refine R.list ?_
  refine S.val hf hs (v := .slice none 0 0) rfl rfl rfl (V.pure rfl) (fun a hf => ?_)
  refine R.nil ?_
  refine X.then_ ?_
  refine wp_seq ?_
  refine wp_seq ?_
  refine R.list ?_
  refine S.val hf hs (v := .slice jA j.length jC) rfl rfl rfl (V.pure rfl) (fun a hf => ?_)
  refine S.val hf hs (v := .int .i64 (j.length : Int)) rfl rfl rfl (V.len rfl rfl Try.runUnderlying49) (fun a hf => ?_)
  refine S.val hf hs (v := .int .i64 0) rfl rfl rfl (V.pure rfl) (fun a hf => ?_)
  refine R.nil ?_
  refine X.then_ ?_
  refine wp_block ?_
  replace hs := hs.nilOwn (α := Hole) 76
  have hlenk1 := hv_j.len64
  refine C.range (fun (ll : List Job) a w => ∃ (k1 : Nat) (l2 : List Hole) (l2A : Option Addr) (l2C : Nat), j.drop k1 = ll ∧ k1 + ll.length = j.length ∧ forIn' (fun k x (s : List Hole) next => M_ref8_holesOf_L1 tool k x s (fun l2 => next l2)) (fun (s : List Hole) => (fun (l2 : List Hole) => Q l2) s) ll k1 l2 ∧ FrOk 24 [(10, .int .i64 (k1 : Int)), (1, .string (ba tool)), (5, .slice l2A l2.length l2C), (8, .slice jA j.length jC), (9, .int .i64 (j.length : Int))] a ∧ Sat w0 none_ [hown 76 l2A l2C l2] w) j ⟨0, ([] : List Hole), none, 0, rfl, Nat.zero_add _, h, (((((hf.nil.cons (hf.get 9 _ rfl)).cons (hf.get 8 _ rfl)).cons (hf.get 5 _ rfl)).cons (hf.get 1 _ rfl)).cons (hf.get 10 _ rfl)), hs⟩ ?_
  clear h hf hs
  rintro llk1 a w ⟨k1, l2, l2A, l2C, hlk1, hkk1, h, hf, hs⟩
  cases llk1 with
  | nil =>
    have hc := range_done hkk1
    replace h : (fun (l2 : List Hole) => Q l2) l2 := h
    refine wp_seq ?_
    refine R.list ?_
    refine S.val hf hs (v := .bool false) rfl rfl rfl (V.cmp false rfl rfl rfl rfl hc) (fun a hf => ?_)
    refine R.nil ?_
    refine X.then_ ?_
    refine wp_seq ?_
    refine C.no hf rfl ?_
    refine wp_exit ?_
    refine X.then_exit ?_
    refine X.then_exit ?_
    refine X.blk_exit ?_
    refine X.then_ ?_
    refine wp_seq ?_
    refine R.list ?_
    refine S.val hf hs (v := .slice l2A l2.length l2C) rfl rfl rfl (V.pure rfl) (fun a hf => ?_)
    refine S.val hf hs (v := .slice l2A l2.length l2C) rfl rfl rfl (V.pure rfl) (fun a hf => ?_)
    refine R.nil ?_
    refine X.then_ ?_
    refine wp_ret ?_
    replace hs := hs.take 1
    exact L.ret hf (run_results1 Try.results73 (ResIs.tmp hf rfl)) ⟨l2, l2A, l2C, rfl, h, hs⟩
  | cons xk1 llk1 =>
    have hltk1 := range_lt hkk1; have hc := range_go hkk1; have hxk1 := range_get hlk1
    obtain ⟨next1, hnext1⟩ : ∃ X : List Hole → Prop, X = (fun l2 => forIn' (fun k x (s : List Hole) next => M_ref8_holesOf_L1 tool k x s (fun l2 => next l2)) (fun (s : List Hole) => (fun (l2 : List Hole) => Q l2) s) llk1 (k1 + 1) l2) := ⟨_, rfl⟩
    replace h : M_ref8_holesOf_L1 tool k1 xk1 l2 next1 := by rw [hnext1]; exact h
    unfold M_ref8_holesOf_L1 at h
    refine wp_seq ?_
    refine R.list ?_
    refine S.val hf hs (v := .bool true) rfl rfl rfl (V.cmp true rfl rfl rfl rfl hc) (fun a hf => ?_)
    refine R.nil ?_
    refine X.then_ ?_
    refine wp_seq ?_
    refine C.yes hf rfl ?_
    refine wp_skip ?_
    refine X.then_ ?_
    refine wp_seq ?_
    refine wp_block ?_
    refine wp_seq ?_
    refine R.list ?_
    obtain ⟨cs1, he1, hr1⟩ := hv_j.at_ _ _ hxk1
    obtain ⟨u1A, u1C, rfl, hvu1⟩ := hr1
    refine S.val hf hs (v := elemPtr jA (k1 * 2)) rfl rfl rfl (V.index rfl rfl rfl Try.runUnderlying49 Try.sizeOf54 (hv_j.some_ (lt_of_get hxk1)) (Int.natCast_nonneg _) (lt_of_get hxk1) rfl) (fun a hf => ?_)
    refine S.val hf hs (v := .agg #[.string (ba xk1.Tool), .slice u1A xk1.Holes.length u1C]) rfl rfl rfl (V.loadEl (off := 0) (Ag.args _ _ _) he1 rfl rfl rfl Try.isAgg54 Try.sizeOf54 rfl rfl) (fun a hf => ?_)
    refine S.alloc hf hs rfl rfl rfl [.string (ba []), .slice none 0 0] rfl Try.zeroValue54 rfl (fun g1 a w hf hs => ?_)
    refine S.storeBox 0 hf hs rfl rfl [.string (ba xk1.Tool), .slice u1A xk1.Holes.length u1C] [.string (ba xk1.Tool), .slice u1A xk1.Holes.length u1C] rfl rfl rfl rfl rfl Try.sizeOf54 rfl rfl rfl rfl (fun a w hf hs => ?_)
    refine R.nil ?_
    refine X.then_ ?_
    refine wp_seq ?_
    refine R.list ?_
    refine S.val hf hs (v := .pointer (some ⟨g1, 0, none⟩)) rfl rfl rfl (V.fieldBox rfl rfl Try.runUnderlying54 rfl Try.sizeOf9 rfl rfl) (fun a hf => ?_)
    refine S.val hf hs (v := .string (ba xk1.Tool)) rfl rfl rfl (V.loadBox 0 rfl rfl rfl Try.isAgg9 Try.sizeOf9 rfl rfl) (fun a hf => ?_)
    refine S.val hf hs (v := .string (ba tool)) rfl rfl rfl (V.pure rfl) (fun a hf => ?_)
    refine S.val hf hs (v := .bool (xk1.Tool == tool)) rfl rfl rfl (V.strCmp (xk1.Tool == tool) rfl rfl rfl rfl) (fun a hf => ?_)
    refine R.nil ?_
    refine X.then_ ?_
    refine C.cond hf (b := xk1.Tool == tool) rfl (fun hc => ?_) (fun hc => ?_)
    · replace h := h.1 hc
      refine R.list ?_
      refine S.val hf hs (v := .slice l2A l2.length l2C) rfl rfl rfl (V.pure rfl) (fun a hf => ?_)
      refine S.val hf hs (v := .pointer (some ⟨g1, 1, none⟩)) rfl rfl rfl (V.fieldBox rfl rfl Try.runUnderlying54 rfl Try.sizeOf34 rfl rfl) (fun a hf => ?_)
      refine S.val hf hs (v := .slice u1A xk1.Holes.length u1C) rfl rfl rfl (V.loadBox 0 rfl rfl rfl Try.isAgg34 Try.sizeOf34 rfl rfl) (fun a hf => ?_)
      obtain ⟨hroom, h⟩ := h
      refine S.appendAny 1 hf hs rfl rfl rfl rfl rfl rfl rfl Try.underlying34 info76 rfl hroom ((Ag.args _ _ _).view hvu1 hs) (fun A1 C1 a w hf hs => ?_)
      refine S.val hf hs (v := .slice A1 (l2 ++ xk1.Holes).length C1) rfl rfl rfl (V.pure rfl) (fun a hf => ?_)
      refine R.nil ?_
      refine X.blk ?_
      refine X.then_ ?_
      refine R.list ?_
      refine S.val hf hs (v := .int .i64 ((k1 + 1 : Nat) : Int)) rfl rfl rfl (V.incr rfl rfl rfl hltk1 hlenk1) (fun a hf => ?_)
      refine S.val hf hs (v := .int .i64 ((k1 + 1 : Nat) : Int)) rfl rfl rfl (V.pure rfl) (fun a hf => ?_)
      refine R.nil ?_
      refine X.then_ ?_
      exact ⟨xk1, llk1, rfl, k1 + 1, (l2 ++ xk1.Holes), A1, C1, range_drop hlk1, range_len hkk1, (by rw [hnext1] at h; exact h), (((((hf.nil.cons (hf.get 9 _ rfl)).cons (hf.get 8 _ rfl)).cons (hf.get 5 _ rfl)).cons (hf.get 1 _ rfl)).cons (hf.get 10 _ rfl)), hs.drop⟩
    · replace h := h.2 hc
      refine wp_skip ?_
      refine X.blk ?_
      refine X.then_ ?_
      refine R.list ?_
      refine S.val hf hs (v := .int .i64 ((k1 + 1 : Nat) : Int)) rfl rfl rfl (V.incr rfl rfl rfl hltk1 hlenk1) (fun a hf => ?_)
      refine S.val hf hs (v := .int .i64 ((k1 + 1 : Nat) : Int)) rfl rfl rfl (V.pure rfl) (fun a hf => ?_)
      refine R.nil ?_
      refine X.then_ ?_
      exact ⟨xk1, llk1, rfl, k1 + 1, l2, l2A, l2C, range_drop hlk1, range_len hkk1, (by rw [hnext1] at h; exact h), (((((hf.nil.cons (hf.get 9 _ rfl)).cons (hf.get 8 _ rfl)).cons (hf.get 5 _ rfl)).cons (hf.get 1 _ rfl)).cons (hf.get 10 _ rfl)), hs.drop⟩

set_option linter.unusedVariables false
def M_ref8_Same_L1 (a_ : (List Job)) (b : (List Job)) (Q : Bool → Int → Prop) (k1 : Nat) (xk1 : Bit)  (next1 : Prop) : Prop :=
  M_ref8_holesOf a_ xk1.Name fun y3 => M_ref8_holesOf b xk1.Name fun y4 => M_ref8_SameHoles y3 y4 fun y5 => cnd (!y5) (Q false 0) (next1)
def M_ref8_Same (t : (List Bit)) (a_ : (List Job)) (b : (List Job)) (Q : Bool → Int → Prop) : Prop :=
  M_ref8_CheckJobs t a_ fun y1 => cnd (y1 != 0) (Q false y1) (M_ref8_CheckJobs t b fun y2 => cnd (y2 != 0) (Q false y2) (forIn' (fun k x (s : Unit) next => M_ref8_Same_L1 a_ b Q k x (next ())) (fun (s : Unit) => Q true 0) t 0 ()))
set_option maxHeartbeats 1000000 in
theorem R_ref8_Same (t : (List Bit)) (a_ : (List Job)) (b : (List Job)) (w0 : World) (tA : Option Addr) (tC : Nat) (hv_t : View w0 (old w0 none_) tA tC t) (a_A : Option Addr) (a_C : Nat) (hv_a_ : View w0 (old w0 none_) a_A a_C a_) (bA : Option Addr) (bC : Nat) (hv_b : View w0 (old w0 none_) bA bC b) (Q : Bool → Int → Prop) (h : M_ref8_Same t a_ b Q) :
    Ret Try.prog 37 #[.slice tA t.length tC, .slice a_A a_.length a_C, .slice bA b.length bC] w0 fun v w' => ∃ (r0 : Bool) (r1 : Int), v = .tuple #[.bool r0, .int .i64 r1] ∧ Q r0 r1 ∧ Sat w0 none_ [] w' := by
  refine fn_enter Try.func37 rfl Try.ntmps37 rfl (fs := [(0, .slice tA t.length tC), (1, .slice a_A a_.length a_C), (2, .slice bA b.length bC)]) rfl (fun a hf => ?_)
  have hs := Sat.start w0 none_
  unfold M_ref8_Same at h
  refine wp_seq ?_
  refine R.list ?_
  refine S.val hf hs (v := .bool false) rfl rfl rfl (V.pure rfl) (fun a hf => ?_)
  refine S.val hf hs (v := .int .i64 0) rfl rfl rfl (V.pure rfl) (fun a hf => ?_)
  refine R.nil ?_
  refine X.then_ ?_
  refine wp_seq ?_
  refine wp_seq ?_
  refine R.list ?_
  refine S.val hf hs (v := .slice tA t.length tC) rfl rfl rfl (V.pure rfl) (fun a hf => ?_)
  refine S.val hf hs (v := .slice a_A a_.length a_C) rfl rfl rfl (V.pure rfl) (fun a hf => ?_)
  refine S.call hf rfl rfl rfl (call_fn (vs := [.slice tA t.length tC, .slice a_A a_.length a_C]) rfl rfl rfl Try.call43) (R_ref8_CheckJobs t a_ _ tA tC ((Ag.args _ _ _).view hv_t hs) a_A a_C ((Ag.args _ _ _).view hv_a_ hs) _ h) (fun v a w' hf hr => ?_)
  obtain ⟨y1, rfl, h2, hs2⟩ := hr
  replace h := h2; replace hs := hs.call hs2; clear h2 hs2
  refine S.val hf hs (v := .int .i64 y1) rfl rfl rfl (V.pure rfl) (fun a hf => ?_)
  refine R.nil ?_
  refine X.then_ ?_
  refine wp_seq ?_
  refine R.list ?_
  refine S.val hf hs (v := .int .i64 y1) rfl rfl rfl (V.pure rfl) (fun a hf => ?_)
  refine S.val hf hs (v := .bool (y1 != 0)) rfl rfl rfl (V.pure rfl) (fun a hf => ?_)
  refine R.nil ?_
  refine X.then_ ?_
  refine C.cond hf (b := y1 != 0) rfl (fun hc => ?_) (fun hc => ?_)
  · replace h := h.1 hc
    refine wp_seq ?_
    refine R.list ?_
    refine S.val hf hs (v := .int .i64 y1) rfl rfl rfl (V.pure rfl) (fun a hf => ?_)
    refine S.val hf hs (v := .bool false) rfl rfl rfl (V.pure rfl) (fun a hf => ?_)
    refine S.val hf hs (v := .int .i64 y1) rfl rfl rfl (V.pure rfl) (fun a hf => ?_)
    refine R.nil ?_
    refine X.then_ ?_
    refine wp_ret ?_
    refine X.then_ret ?_
    exact L.ret hf (run_results2 Try.results37 (ResIs.tmp hf rfl) (ResIs.tmp hf rfl)) ⟨false, y1, rfl, h, hs.nil⟩
  · replace h := h.2 hc
    refine wp_skip ?_
    refine X.then_ ?_
    refine wp_seq ?_
    refine wp_seq ?_
    refine R.list ?_
    refine S.val hf hs (v := .slice tA t.length tC) rfl rfl rfl (V.pure rfl) (fun a hf => ?_)
    refine S.val hf hs (v := .slice bA b.length bC) rfl rfl rfl (V.pure rfl) (fun a hf => ?_)
    refine S.call hf rfl rfl rfl (call_fn (vs := [.slice tA t.length tC, .slice bA b.length bC]) rfl rfl rfl Try.call43) (R_ref8_CheckJobs t b _ tA tC ((Ag.args _ _ _).view hv_t hs) bA bC ((Ag.args _ _ _).view hv_b hs) _ h) (fun v a w' hf hr => ?_)
    obtain ⟨y2, rfl, h2, hs2⟩ := hr
    replace h := h2; replace hs := hs.call hs2; clear h2 hs2
    refine S.val hf hs (v := .int .i64 y2) rfl rfl rfl (V.pure rfl) (fun a hf => ?_)
    refine R.nil ?_
    refine X.then_ ?_
    refine wp_seq ?_
    refine R.list ?_
    refine S.val hf hs (v := .int .i64 y2) rfl rfl rfl (V.pure rfl) (fun a hf => ?_)
    refine S.val hf hs (v := .bool (y2 != 0)) rfl rfl rfl (V.pure rfl) (fun a hf => ?_)
    refine R.nil ?_
    refine X.then_ ?_
    refine C.cond hf (b := y2 != 0) rfl (fun hc => ?_) (fun hc => ?_)
    · replace h := h.1 hc
      refine wp_seq ?_
      refine R.list ?_
      refine S.val hf hs (v := .int .i64 y2) rfl rfl rfl (V.pure rfl) (fun a hf => ?_)
      refine S.val hf hs (v := .bool false) rfl rfl rfl (V.pure rfl) (fun a hf => ?_)
      refine S.val hf hs (v := .int .i64 y2) rfl rfl rfl (V.pure rfl) (fun a hf => ?_)
      refine R.nil ?_
      refine X.then_ ?_
      refine wp_ret ?_
      refine X.then_ret ?_
      exact L.ret hf (run_results2 Try.results37 (ResIs.tmp hf rfl) (ResIs.tmp hf rfl)) ⟨false, y2, rfl, h, hs.nil⟩
    · replace h := h.2 hc
      refine wp_skip ?_
      refine X.then_ ?_
      refine wp_seq ?_
      refine wp_seq ?_
      refine R.list ?_
      refine S.val hf hs (v := .slice tA t.length tC) rfl rfl rfl (V.pure rfl) (fun a hf => ?_)
      refine S.val hf hs (v := .int .i64 (t.length : Int)) rfl rfl rfl (V.len rfl rfl Try.runUnderlying48) (fun a hf => ?_)
      refine S.val hf hs (v := .int .i64 0) rfl rfl rfl (V.pure rfl) (fun a hf => ?_)
      refine R.nil ?_
      refine X.then_ ?_
      refine wp_block ?_
      have hlenk1 := hv_t.len64
      refine C.range (fun (ll : List Bit) a w => ∃ (k1 : Nat) , t.drop k1 = ll ∧ k1 + ll.length = t.length ∧ forIn' (fun k x (s : Unit) next => M_ref8_Same_L1 a_ b Q k x (next ())) (fun (s : Unit) => Q true 0) ll k1 () ∧ FrOk 41 [(26, .int .i64 (k1 : Int)), (1, .slice a_A a_.length a_C), (2, .slice bA b.length bC), (24, .slice tA t.length tC), (25, .int .i64 (t.length : Int))] a ∧ Sat w0 none_ [] w) t ⟨0, rfl, Nat.zero_add _, h, (((((hf.nil.cons (hf.get 25 _ rfl)).cons (hf.get 24 _ rfl)).cons (hf.get 2 _ rfl)).cons (hf.get 1 _ rfl)).cons (hf.get 26 _ rfl)), hs⟩ ?_
      clear h hf hs
      rintro llk1 a w ⟨k1, hlk1, hkk1, h, hf, hs⟩
      cases llk1 with
      | nil =>
        have hc := range_done hkk1
        replace h : Q true 0 := h
        refine wp_seq ?_
        refine R.list ?_
        refine S.val hf hs (v := .bool false) rfl rfl rfl (V.cmp false rfl rfl rfl rfl hc) (fun a hf => ?_)
        refine R.nil ?_
        refine X.then_ ?_
        refine wp_seq ?_
        refine C.no hf rfl ?_
        refine wp_exit ?_
        refine X.then_exit ?_
        refine X.then_exit ?_
        refine X.blk_exit ?_
        refine X.then_ ?_
        refine wp_seq ?_
        refine R.list ?_
        refine S.val hf hs (v := .bool true) rfl rfl rfl (V.pure rfl) (fun a hf => ?_)
        refine S.val hf hs (v := .int .i64 0) rfl rfl rfl (V.pure rfl) (fun a hf => ?_)
        refine R.nil ?_
        refine X.then_ ?_
        refine wp_ret ?_
        exact L.ret hf (run_results2 Try.results37 (ResIs.tmp hf rfl) (ResIs.tmp hf rfl)) ⟨true, 0, rfl, h, hs.nil⟩
      | cons xk1 llk1 =>
        have hltk1 := range_lt hkk1; have hc := range_go hkk1; have hxk1 := range_get hlk1
        obtain ⟨next1, hnext1⟩ : ∃ X : Prop, X = (forIn' (fun k x (s : Unit) next => M_ref8_Same_L1 a_ b Q k x (next ())) (fun (s : Unit) => Q true 0) llk1 (k1 + 1) ()) := ⟨_, rfl⟩
        replace h : M_ref8_Same_L1 a_ b Q k1 xk1  next1 := by rw [hnext1]; exact h
        unfold M_ref8_Same_L1 at h
        refine wp_seq ?_
        refine R.list ?_
        refine S.val hf hs (v := .bool true) rfl rfl rfl (V.cmp true rfl rfl rfl rfl hc) (fun a hf => ?_)
        refine R.nil ?_
        refine X.then_ ?_
        refine wp_seq ?_
        refine C.yes hf rfl ?_
        refine wp_skip ?_
        refine X.then_ ?_
        refine wp_seq ?_
        refine wp_block ?_
        refine wp_seq ?_
        refine R.list ?_
        refine S.val hf hs (v := elemPtr tA (k1 * 4)) rfl rfl rfl (V.index rfl rfl rfl Try.runUnderlying48 Try.sizeOf56 (hv_t.some_ (lt_of_get hxk1)) (Int.natCast_nonneg _) (lt_of_get hxk1) rfl) (fun a hf => ?_)
        refine S.val hf hs (v := .agg #[.string (ba xk1.Name), .int .i64 xk1.Size, .int .i64 xk1.Life, .int .i64 xk1.Stack]) rfl rfl rfl (V.loadEl (off := 0) (Ag.args _ _ _) (hv_t.flat hxk1) rfl rfl rfl Try.isAgg56 Try.sizeOf56 rfl rfl) (fun a hf => ?_)
        refine S.alloc hf hs rfl rfl rfl [.string (ba []), .int .i64 0, .int .i64 0, .int .i64 0] rfl Try.zeroValue56 rfl (fun g1 a w hf hs => ?_)
        refine S.storeBox 0 hf hs rfl rfl [.string (ba xk1.Name), .int .i64 xk1.Size, .int .i64 xk1.Life, .int .i64 xk1.Stack] [.string (ba xk1.Name), .int .i64 xk1.Size, .int .i64 xk1.Life, .int .i64 xk1.Stack] rfl rfl rfl rfl rfl Try.sizeOf56 rfl rfl rfl rfl (fun a w hf hs => ?_)
        refine R.nil ?_
        refine X.then_ ?_
        refine wp_seq ?_
        refine H.start (S := Sat w0 none_ [hbox g1 56 [.string (ba xk1.Name), .int .i64 xk1.Size, .int .i64 xk1.Life, .int .i64 xk1.Stack]]) mo ?_
        replace hs := hs.drew
        refine H.val hf hs (v := .slice a_A a_.length a_C) (i := 0) rfl rfl rfl rfl (by kernel_rfl) (by kernel_rfl) (by kernel_rfl) (V.pure rfl) (fun a hf => ?_)
        refine H.val hf hs (v := .pointer (some ⟨g1, 0, none⟩)) (i := 1) rfl rfl rfl rfl (by kernel_rfl) (by kernel_rfl) (by kernel_rfl) (V.fieldBox rfl rfl Try.runUnderlying56 rfl Try.sizeOf9 rfl rfl) (fun a hf => ?_)
        refine H.val hf hs (v := .string (ba xk1.Name)) (i := 2) rfl rfl rfl rfl (by kernel_rfl) (by kernel_rfl) (by kernel_rfl) (V.loadBox 0 rfl rfl rfl Try.isAgg9 Try.sizeOf9 rfl rfl) (fun a hf => ?_)
        refine H.val hf hs (v := .slice bA b.length bC) (i := 4) rfl rfl rfl rfl (by kernel_rfl) (by kernel_rfl) (by kernel_rfl) (V.pure rfl) (fun a hf => ?_)
        refine H.val hf hs (v := .pointer (some ⟨g1, 0, none⟩)) (i := 5) rfl rfl rfl rfl (by kernel_rfl) (by kernel_rfl) (by kernel_rfl) (V.fieldBox rfl rfl Try.runUnderlying56 rfl Try.sizeOf9 rfl rfl) (fun a hf => ?_)
        refine H.val hf hs (v := .string (ba xk1.Name)) (i := 6) rfl rfl rfl rfl (by kernel_rfl) (by kernel_rfl) (by kernel_rfl) (V.loadBox 0 rfl rfl rfl Try.isAgg9 Try.sizeOf9 rfl rfl) (fun a hf => ?_)
        refine H.one (i := 3) rfl (by kernel_rfl) ?_
        refine S.call hf rfl rfl rfl (call_fn (vs := [.slice a_A a_.length a_C, .string (ba xk1.Name)]) rfl rfl rfl Try.call73) (R_ref8_holesOf a_ xk1.Name _ a_A a_C ((Ag.args _ _ _).view hv_a_ hs) _ h) (fun v a w' hf hr => ?_)
        obtain ⟨y3, y3A, y3C, rfl, h2, hs2⟩ := hr
        replace h := h2; replace hs := hs.call hs2; clear h2 hs2
        refine R.nil ?_
        refine X.then_ ?_
        refine ⟨(hs.mask [false, true]), ?_⟩
        refine H.one (i := 7) rfl (by kernel_rfl) ?_
        refine S.call hf rfl rfl rfl (call_fn (vs := [.slice bA b.length bC, .string (ba xk1.Name)]) rfl rfl rfl Try.call73) (R_ref8_holesOf b xk1.Name _ bA bC ((Ag.args _ _ _).view hv_b hs) _ h) (fun v a w' hf hr => ?_)
        obtain ⟨y4, y4A, y4C, rfl, h2, hs2⟩ := hr
        replace h := h2; replace hs := hs.call hs2; clear h2 hs2
        refine R.nil ?_
        refine X.then_ ?_
        refine ⟨(hs.mask [false, false, true]), ?_⟩
        refine H.one (i := 8) rfl (by kernel_rfl) ?_
        refine S.call hf rfl rfl rfl (call_fn (vs := [.slice y3A y3.length y3C, .slice y4A y4.length y4C]) rfl rfl rfl Try.call47) (R_ref8_SameHoles y3 y4 _ y3A y3C (hs.ownView 1 rfl) y4A y4C (hs.ownView 0 rfl) _ h) (fun v a w' hf hr => ?_)
        obtain ⟨y5, rfl, h2, hs2⟩ := hr
        replace h := h2; replace hs := hs.call hs2; clear h2 hs2
        refine R.nil ?_
        refine X.then_ ?_
        refine ⟨(hs.mask [false, false, true]), ?_⟩
        refine H.val hf (hs.mask [false, false, true]) (v := .bool (!y5)) (i := 9) rfl rfl rfl rfl (by kernel_rfl) (by kernel_rfl) (by kernel_rfl) (V.pure rfl) (fun a hf => ?_)
        refine H.done (by kernel_rfl) ?_
        refine X.then_ ?_
        refine C.cond hf (b := !y5) rfl (fun hc => ?_) (fun hc => ?_)
        · replace h := h.1 hc
          refine wp_seq ?_
          refine R.list ?_
          refine S.val hf hs (v := .bool false) rfl rfl rfl (V.pure rfl) (fun a hf => ?_)
          refine S.val hf hs (v := .int .i64 0) rfl rfl rfl (V.pure rfl) (fun a hf => ?_)
          refine R.nil ?_
          refine X.then_ ?_
          refine wp_ret ?_
          refine X.blk_ret ?_
          refine X.then_ret ?_
          refine X.then_ret ?_
          refine X.blk_ret ?_
          refine X.then_ret ?_
          exact L.ret hf (run_results2 Try.results37 (ResIs.tmp hf rfl) (ResIs.tmp hf rfl)) ⟨false, 0, rfl, h, hs.nil⟩
        · replace h := h.2 hc
          refine wp_skip ?_
          refine X.blk ?_
          refine X.then_ ?_
          refine R.list ?_
          refine S.val hf hs (v := .int .i64 ((k1 + 1 : Nat) : Int)) rfl rfl rfl (V.incr rfl rfl rfl hltk1 hlenk1) (fun a hf => ?_)
          refine S.val hf hs (v := .int .i64 ((k1 + 1 : Nat) : Int)) rfl rfl rfl (V.pure rfl) (fun a hf => ?_)
          refine R.nil ?_
          refine X.then_ ?_
          exact ⟨xk1, llk1, rfl, k1 + 1, range_drop hlk1, range_len hkk1, (by rw [hnext1] at h; exact h), (((((hf.nil.cons (hf.get 25 _ rfl)).cons (hf.get 24 _ rfl)).cons (hf.get 2 _ rfl)).cons (hf.get 1 _ rfl)).cons (hf.get 26 _ rfl)), hs.drop.drop.drop⟩

set_option linter.unusedVariables false
def M_clone_job {α : Type} (s_ : (List α)) (Q : (List α) → Prop) : Prop :=
  nilq s_ fun b1 => cnd b1 (Q ([] : List α)) (must (room (([] : List α) ++ s_).length 40) (Q (([] : List α) ++ s_)))
set_option maxHeartbeats 1000000 in
theorem R_clone_job {w1 : World} {F1 : Nat → Prop} (s_ : (List (Shared Job Hole JobSh w1 F1))) (w0 : World) (s_A : Option Addr) (s_C : Nat) (hv_s_ : View w0 (old w0 none_) s_A s_C s_) (Q : (List (Shared Job Hole JobSh w1 F1)) → Prop) (h : M_clone_job s_ Q) :
    Ret Try.prog 38 #[.slice s_A s_.length s_C] w0 fun v w' => ∃ (r0 : (List (Shared Job Hole JobSh w1 F1))) (r0A : Option Addr) (r0C : Nat), v = .slice r0A r0.length r0C ∧ Q r0 ∧ Sat w0 none_ [hown 54 r0A r0C r0] w' := by
  refine fn_enter Try.func38 rfl Try.ntmps38 rfl (fs := [(0, .slice s_A s_.length s_C)]) rfl (fun a hf => ?_)
  have hs := Sat.start w0 none_
  unfold M_clone_job at h
  refine wp_seq ?_
  refine R.list ?_
  refine S.val hf hs (v := .slice none 0 0) rfl rfl rfl (V.pure rfl) (fun a hf => ?_)
  refine R.nil ?_
  refine X.then_ ?_
  refine wp_seq ?_
  refine wp_seq ?_
  refine R.list ?_
  refine S.val hf hs (v := .slice s_A s_.length s_C) rfl rfl rfl (V.pure rfl) (fun a hf => ?_)
  obtain ⟨b1, hb1⟩ : ∃ b : Bool, b = Option.isNone s_A := ⟨_, rfl⟩
  replace h := h b1 (fun e => ((Ag.args _ _ _).view hv_s_ hs).nil_of (hb1.symm.trans e))
  refine S.val hf hs (v := .bool b1) rfl rfl rfl (V.eqNil b1 rfl rfl rfl Try.underlying49 (by kernel_rfl) hb1) (fun a hf => ?_)
  refine R.nil ?_
  refine X.then_ ?_
  refine C.cond hf (b := b1) rfl (fun hc => ?_) (fun hc => ?_)
  · replace h := h.1 hc
    refine wp_seq ?_
    refine R.list ?_
    refine S.val hf hs (v := .slice none 0 0) rfl rfl rfl (V.pure rfl) (fun a hf => ?_)
    refine R.nil ?_
    refine X.then_ ?_
    refine wp_ret ?_
    refine X.then_ret ?_
    replace hs := hs.nilOwn (α := (Shared Job Hole JobSh w1 F1)) 54
    replace hs := hs.take 1
    exact L.ret hf (run_results1 Try.results38 (ResIs.tmp hf rfl)) ⟨([] : List (Shared Job Hole JobSh w1 F1)), none, 0, rfl, h, hs⟩
  · replace h := h.2 hc
    refine wp_skip ?_
    refine X.then_ ?_
    refine wp_seq ?_
    refine R.list ?_
    refine S.buildEmpty (α := (Shared Job Hole JobSh w1 F1)) hf hs rfl rfl rfl rfl Try.runUnderlying49 Try.sizeOf54 (fun A1 a w hf hs => ?_)
    refine S.val hf hs (v := .slice s_A s_.length s_C) rfl rfl rfl (V.pure rfl) (fun a hf => ?_)
    obtain ⟨hroom, h⟩ := h
    refine S.appendAny 0 hf hs rfl rfl rfl rfl rfl rfl rfl Try.underlying49 info54 rfl hroom ((Ag.args _ _ _).view hv_s_ hs) (fun A2 C1 a w hf hs => ?_)
    refine S.val hf hs (v := .slice A2 (([] : List (Shared Job Hole JobSh w1 F1)) ++ s_).length C1) rfl rfl rfl (V.pure rfl) (fun a hf => ?_)
    refine R.nil ?_
    refine X.then_ ?_
    refine wp_ret ?_
    replace hs := hs.take 1
    exact L.ret hf (run_results1 Try.results38 (ResIs.tmp hf rfl)) ⟨(([] : List (Shared Job Hole JobSh w1 F1)) ++ s_), A2, C1, rfl, h, hs⟩

set_option linter.unusedVariables false
def M_reverse_job_L1 {α : Type} (Q : (List α) → Prop) (again1 : List α → Int → Int → Prop) (l2 : List α) (n3 : Int) (n4 : Int) : Prop :=
  cnd (decide (n3 < n4)) (idx l2 n4 fun x1 => idx l2 n3 fun x2 => idx (l2.set n3.toNat x1) n4 fun x3 => again1 ((l2.set n3.toNat x1).set n4.toNat x2) (w64 (n3 + 1)) (w64 (n4 - 1))) (Q l2)
def M_reverse_job {α : Type} (s_ : (List α)) (Q : (List α) → Prop) : Prop :=
  lp (fun again (s : List α × Int × Int) => M_reverse_job_L1 Q (fun l2 n3 n4 => again (l2, n3, n4)) s.1 s.2.1 s.2.2) (s_, 0, w64 ((s_.length : Int) - 1))
set_option maxHeartbeats 1000000 in
theorem R_reverse_job {w1 : World} {F1 : Nat → Prop} (s_ : (List (Shared Job Hole JobSh w1 F1))) (w0 : World) (F0 : Nat → Prop) (s_A : Option Addr) (s_C : Nat) (hs0 : Sat w0 F0 [hown 54 s_A s_C s_] w0) (Q : (List (Shared Job Hole JobSh w1 F1)) → Prop) (h : M_reverse_job s_ Q) :
    Ret Try.prog 39 #[.slice s_A s_.length s_C] w0 fun v w' => ∃ (s_1 : List (Shared Job Hole JobSh w1 F1)) (hl_s_1 : s_1.length = s_.length), v = .tuple #[] ∧ Q s_1 ∧ Sat w0 F0 [hown 54 s_A s_C s_1] w' := by
  refine fn_enter Try.func39 rfl Try.ntmps39 rfl (fs := [(0, .slice s_A s_.length s_C)]) rfl (fun a hf => ?_)
  have hs := hs0
  unfold M_reverse_job at h
  refine wp_seq ?_
  refine R.list ?_
  refine S.val hf hs (v := .slice s_A s_.length s_C) rfl rfl rfl (V.pure rfl) (fun a hf => ?_)
  refine S.val hf hs (v := .int .i64 (s_.length : Int)) rfl rfl rfl (V.len rfl rfl Try.runUnderlying49) (fun a hf => ?_)
  refine S.val hf hs (v := .int .i64 (w64 ((s_.length : Int) - 1))) rfl rfl rfl (V.pure rfl) (fun a hf => ?_)
  refine S.val hf hs (v := .int .i64 0) rfl rfl rfl (V.pure rfl) (fun a hf => ?_)
  refine S.val hf hs (v := .int .i64 (w64 ((s_.length : Int) - 1))) rfl rfl rfl (V.pure rfl) (fun a hf => ?_)
  refine R.nil ?_
  refine X.then_ ?_
  refine wp_block ?_
  obtain ⟨kk, h⟩ := h
  refine C.loop (fun kk a w => ∃ (l2 : List (Shared Job Hole JobSh w1 F1)) (hl_l2 : l2.length = s_.length) (n3 : Int) (n4 : Int), iterF (fun again (s : List (Shared Job Hole JobSh w1 F1) × Int × Int) => M_reverse_job_L1 Q (fun l2 n3 n4 => again (l2, n3, n4)) s.1 s.2.1 s.2.2) kk (l2, n3, n4) ∧ FrOk 28 [(0, .slice s_A l2.length s_C), (2, .int .i64 n3), (3, .int .i64 n4)] a ∧ Sat w0 F0 [hown 54 s_A s_C l2] w) kk ⟨s_, rfl, 0, (w64 ((s_.length : Int) - 1)), h, (((hf.nil.cons (hf.get 3 _ rfl)).cons (hf.get 2 _ rfl)).cons (hf.get 0 _ rfl)), hs⟩ (fun a w ⟨_, _, _, _, h, _, _⟩ => h) ?_
  clear h hf hs
  rintro kk a w ⟨l2, hl_l2, n3, n4, h, hf, hs⟩
  obtain ⟨again1, hagain1⟩ : ∃ X : List (Shared Job Hole JobSh w1 F1) → Int → Int → Prop, X = (fun l2 n3 n4 => iterF (fun again (s : List (Shared Job Hole JobSh w1 F1) × Int × Int) => M_reverse_job_L1 Q (fun l2 n3 n4 => again (l2, n3, n4)) s.1 s.2.1 s.2.2) kk (l2, n3, n4)) := ⟨_, rfl⟩
  replace h : M_reverse_job_L1 Q again1 l2 n3 n4 := by rw [hagain1]; exact h
  unfold M_reverse_job_L1 at h
  refine wp_seq ?_
  refine wp_seq ?_
  refine R.list ?_
  refine S.val hf hs (v := .int .i64 n3) rfl rfl rfl (V.pure rfl) (fun a hf => ?_)
  refine S.val hf hs (v := .int .i64 n4) rfl rfl rfl (V.pure rfl) (fun a hf => ?_)
  refine S.val hf hs (v := .bool (decide (n3 < n4))) rfl rfl rfl (V.pure rfl) (fun a hf => ?_)
  refine R.nil ?_
  refine X.then_ ?_
  refine C.cond hf (b := decide (n3 < n4)) rfl (fun hc => ?_) (fun hc => ?_)
  · replace h := h.1 hc
    refine wp_skip ?_
    refine X.then_ ?_
    refine wp_seq ?_
    refine wp_block ?_
    refine H.start (S := Sat w0 F0 []) mo ?_
    replace hs := hs.drew
    refine H.val hf hs.nil (v := .slice s_A l2.length s_C) (i := 0) rfl rfl rfl rfl (by kernel_rfl) (by kernel_rfl) (by kernel_rfl) (V.pure rfl) (fun a hf => ?_)
    refine H.val hf hs.nil (v := .int .i64 n3) (i := 1) rfl rfl rfl rfl (by kernel_rfl) (by kernel_rfl) (by kernel_rfl) (V.pure rfl) (fun a hf => ?_)
    refine H.val hf hs.nil (v := .slice s_A l2.length s_C) (i := 2) rfl rfl rfl rfl (by kernel_rfl) (by kernel_rfl) (by kernel_rfl) (V.pure rfl) (fun a hf => ?_)
    refine H.val hf hs.nil (v := .int .i64 n4) (i := 3) rfl rfl rfl rfl (by kernel_rfl) (by kernel_rfl) (by kernel_rfl) (V.pure rfl) (fun a hf => ?_)
    refine H.val hf hs.nil (v := .slice s_A l2.length s_C) (i := 4) rfl rfl rfl rfl (by kernel_rfl) (by kernel_rfl) (by kernel_rfl) (V.pure rfl) (fun a hf => ?_)
    refine H.val hf hs.nil (v := .int .i64 n4) (i := 5) rfl rfl rfl rfl (by kernel_rfl) (by kernel_rfl) (by kernel_rfl) (V.pure rfl) (fun a hf => ?_)
    obtain ⟨h0x1, x1, hx1, h⟩ := h
    refine H.val hf hs.nil (v := elemPtr s_A (n4.toNat * 2)) (i := 6) rfl rfl rfl rfl (by kernel_rfl) (by kernel_rfl) (by kernel_rfl) (V.index rfl rfl rfl Try.runUnderlying49 Try.sizeOf54 (hs.ownSome 0 rfl (lt_of_get hx1)) h0x1 (lt_of_get hx1) rfl) (fun a hf => ?_)
    refine H.val hf hs.nil (v := .slice s_A l2.length s_C) (i := 8) rfl rfl rfl rfl (by kernel_rfl) (by kernel_rfl) (by kernel_rfl) (V.pure rfl) (fun a hf => ?_)
    refine H.val hf hs.nil (v := .int .i64 n3) (i := 9) rfl rfl rfl rfl (by kernel_rfl) (by kernel_rfl) (by kernel_rfl) (V.pure rfl) (fun a hf => ?_)
    obtain ⟨h0x2, x2, hx2, h⟩ := h
    refine H.val hf hs.nil (v := elemPtr s_A (n3.toNat * 2)) (i := 10) rfl rfl rfl rfl (by kernel_rfl) (by kernel_rfl) (by kernel_rfl) (V.index rfl rfl rfl Try.runUnderlying49 Try.sizeOf54 (hs.ownSome 0 rfl (lt_of_get hx2)) h0x2 (lt_of_get hx2) rfl) (fun a hf => ?_)
    refine H.two (i := 7) (j := 11) (vi := .agg #[.string (ba x1.z.Tool), .slice x1.A x1.z.Holes.length x1.C]) (vj := .agg #[.string (ba x2.z.Tool), .slice x2.A x2.z.Holes.length x2.C]) hf hs hs.nil rfl rfl rfl rfl rfl rfl rfl rfl rfl rfl rfl (by kernel_rfl) (by kernel_rfl) (by kernel_rfl) (by kernel_rfl) (V.loadOwn (off := 0) 0 rfl hx1 rfl rfl rfl Try.isAgg54 Try.sizeOf54 rfl rfl) (V.loadOwn (off := 0) 0 rfl hx2 rfl rfl rfl Try.isAgg54 Try.sizeOf54 rfl rfl) (V.loadOwn (off := 0) 0 rfl hx2 rfl rfl rfl Try.isAgg54 Try.sizeOf54 rfl rfl) (V.loadOwn (off := 0) 0 rfl hx1 rfl rfl rfl Try.isAgg54 Try.sizeOf54 rfl rfl) (fun a hf => ?_)
    refine H.val hf hs.nil (v := elemPtr s_A (n3.toNat * 2)) (i := 12) rfl rfl rfl rfl (by kernel_rfl) (by kernel_rfl) (by kernel_rfl) (V.index rfl rfl rfl Try.runUnderlying49 Try.sizeOf54 (hs.ownSome 0 rfl (lt_of_get hx2)) h0x2 (lt_of_get hx2) rfl) (fun a hf => ?_)
    refine H.one (i := 13) rfl (by kernel_rfl) ?_
    refine S.storeOwn (off := 0) 0 hf hs rfl rfl x1 [.string (ba x1.z.Tool), .slice x1.A x1.z.Holes.length x1.C] rfl hx2 rfl rfl rfl rfl rfl Try.sizeOf54 rfl (Nat.le_of_eq rfl) rfl rfl (fun a w hf hs => ?_)
    replace hf := hf.tell 0 (v := .slice s_A (l2.set n3.toNat x1).length s_C) ((hf.get 0 (.slice s_A l2.length s_C) rfl).trans (congrArg (fun n => Value.slice s_A n s_C) List.length_set.symm))
    replace hf := hf.tell 14 (v := .slice s_A (l2.set n3.toNat x1).length s_C) ((hf.get 14 (.slice s_A l2.length s_C) rfl).trans (congrArg (fun n => Value.slice s_A n s_C) List.length_set.symm))
    replace hf := hf.tell 16 (v := .slice s_A (l2.set n3.toNat x1).length s_C) ((hf.get 16 (.slice s_A l2.length s_C) rfl).trans (congrArg (fun n => Value.slice s_A n s_C) List.length_set.symm))
    replace hf := hf.tell 18 (v := .slice s_A (l2.set n3.toNat x1).length s_C) ((hf.get 18 (.slice s_A l2.length s_C) rfl).trans (congrArg (fun n => Value.slice s_A n s_C) List.length_set.symm))
    replace hf := hf.tell 22 (v := .slice s_A (l2.set n3.toNat x1).length s_C) ((hf.get 22 (.slice s_A l2.length s_C) rfl).trans (congrArg (fun n => Value.slice s_A n s_C) List.length_set.symm))
    refine R.nil ?_
    refine X.then_ ?_
    refine ⟨hs.nil, ?_⟩
    obtain ⟨h0x3, x3, hx3, h⟩ := h
    refine H.val hf hs.nil (v := elemPtr s_A (n4.toNat * 2)) (i := 14) rfl rfl rfl rfl (by kernel_rfl) (by kernel_rfl) (by kernel_rfl) (V.index rfl rfl rfl Try.runUnderlying49 Try.sizeOf54 (hs.ownSome 0 rfl (lt_of_get hx3)) h0x3 (lt_of_get hx3) rfl) (fun a hf => ?_)
    refine H.one (i := 15) rfl (by kernel_rfl) ?_
    refine S.storeOwn (off := 0) 0 hf hs rfl rfl x2 [.string (ba x2.z.Tool), .slice x2.A x2.z.Holes.length x2.C] rfl hx3 rfl rfl rfl rfl rfl Try.sizeOf54 rfl (Nat.le_of_eq rfl) rfl rfl (fun a w hf hs => ?_)
    replace hf := hf.tell 0 (v := .slice s_A ((l2.set n3.toNat x1).set n4.toNat x2).length s_C) ((hf.get 0 (.slice s_A (l2.set n3.toNat x1).length s_C) rfl).trans (congrArg (fun n => Value.slice s_A n s_C) List.length_set.symm))
    replace hf := hf.tell 14 (v := .slice s_A ((l2.set n3.toNat x1).set n4.toNat x2).length s_C) ((hf.get 14 (.slice s_A (l2.set n3.toNat x1).length s_C) rfl).trans (congrArg (fun n => Value.slice s_A n s_C) List.length_set.symm))
    replace hf := hf.tell 16 (v := .slice s_A ((l2.set n3.toNat x1).set n4.toNat x2).length s_C) ((hf.get 16 (.slice s_A (l2.set n3.toNat x1).length s_C) rfl).trans (congrArg (fun n => Value.slice s_A n s_C) List.length_set.symm))
    replace hf := hf.tell 18 (v := .slice s_A ((l2.set n3.toNat x1).set n4.toNat x2).length s_C) ((hf.get 18 (.slice s_A (l2.set n3.toNat x1).length s_C) rfl).trans (congrArg (fun n => Value.slice s_A n s_C) List.length_set.symm))
    replace hf := hf.tell 22 (v := .slice s_A ((l2.set n3.toNat x1).set n4.toNat x2).length s_C) ((hf.get 22 (.slice s_A (l2.set n3.toNat x1).length s_C) rfl).trans (congrArg (fun n => Value.slice s_A n s_C) List.length_set.symm))
    refine R.nil ?_
    refine X.then_ ?_
    refine ⟨hs.nil, ?_⟩
    refine H.done (by kernel_rfl) ?_
    refine X.blk ?_
    refine X.then_ ?_
    refine R.list ?_
    refine S.val hf hs (v := .int .i64 n3) rfl rfl rfl (V.pure rfl) (fun a hf => ?_)
    refine S.val hf hs (v := .int .i64 (w64 (n3 + 1))) rfl rfl rfl (V.pure rfl) (fun a hf => ?_)
    refine S.val hf hs (v := .int .i64 n4) rfl rfl rfl (V.pure rfl) (fun a hf => ?_)
    refine S.val hf hs (v := .int .i64 (w64 (n4 - 1))) rfl rfl rfl (V.pure rfl) (fun a hf => ?_)
    refine S.val hf hs (v := .int .i64 (w64 (n3 + 1))) rfl rfl rfl (V.pure rfl) (fun a hf => ?_)
    refine S.val hf hs (v := .int .i64 (w64 (n4 - 1))) rfl rfl rfl (V.pure rfl) (fun a hf => ?_)
    refine R.nil ?_
    refine X.then_ ?_
    exact ⟨((l2.set n3.toNat x1).set n4.toNat x2), (List.length_set.trans (List.length_set.trans hl_l2)), (w64 (n3 + 1)), (w64 (n4 - 1)), (by rw [hagain1] at h; exact h), (((hf.nil.cons (hf.get 3 _ rfl)).cons (hf.get 2 _ rfl)).cons (hf.get 0 _ rfl)), hs⟩
  · replace h := h.2 hc
    refine wp_exit ?_
    refine X.then_exit ?_
    refine X.then_exit ?_
    refine X.blk_exit ?_
    replace hs := hs.take 1
    exact L.end0 Try.results39 hf ⟨l2, hl_l2, rfl, h, hs⟩

set_option linter.unusedVariables false
def M_law_Same_k1 (t : (List Bit)) (a_ : (List Job)) (Q : Bool → Prop) (c1 : Bool) : Prop :=
  cnd c1 (Q false) (∀ (α : Type) (zf : α → Job) (va_ : List α), va_.map zf = a_ → M_clone_job va_ fun y5 => M_reverse_job y5 fun z1 => M_drill_Same t a_ (z1.map zf) fun y6 y7 => cnd (y7 != 0) (Q true) (Q y6))
def M_law_Same (t : (List Bit)) (a_ : (List Job)) (b : (List Job)) (Q : Bool → Prop) : Prop :=
  M_drill_Same t a_ b fun y1 y2 => M_ref8_Same t a_ b fun y3 y4 => cnd (y2 != y4) (M_law_Same_k1 t a_ Q true) (cnd (!(y1 == y3)) (M_law_Same_k1 t a_ Q true) (M_awake  fun y8 => M_law_Same_k1 t a_ Q (!y8)))
set_option maxHeartbeats 1000000 in
theorem R_law_Same (t : (List Bit)) (a_ : (List Job)) (b : (List Job)) (w0 : World) (tA : Option Addr) (tC : Nat) (hv_t : View w0 (old w0 none_) tA tC t) (a_A : Option Addr) (a_C : Nat) (hv_a_ : View w0 (old w0 none_) a_A a_C a_) (bA : Option Addr) (bC : Nat) (hv_b : View w0 (old w0 none_) bA bC b) (Q : Bool → Prop) (h : M_law_Same t a_ b Q) :
    Ret Try.prog 11 #[.slice tA t.length tC, .slice a_A a_.length a_C, .slice bA b.length bC] w0 fun v w' => ∃ (r0 : Bool), v = .bool r0 ∧ Q r0 ∧ Sat w0 none_ [] w' := by
  refine fn_enter Try.func11 rfl Try.ntmps11 rfl (fs := [(0, .slice tA t.length tC), (1, .slice a_A a_.length a_C), (2, .slice bA b.length bC)]) rfl (fun a hf => ?_)
  have hs := Sat.start w0 none_
  unfold M_law_Same at h
  refine wp_seq ?_
  refine R.list ?_
  refine S.val hf hs (v := .bool false) rfl rfl rfl (V.pure rfl) (fun a hf => ?_)
  refine R.nil ?_
  refine X.then_ ?_
  refine wp_seq ?_
  refine R.list ?_
  refine S.val hf hs (v := .slice tA t.length tC) rfl rfl rfl (V.pure rfl) (fun a hf => ?_)
  refine S.val hf hs (v := .slice a_A a_.length a_C) rfl rfl rfl (V.pure rfl) (fun a hf => ?_)
  refine S.val hf hs (v := .slice bA b.length bC) rfl rfl rfl (V.pure rfl) (fun a hf => ?_)
  refine S.call hf rfl rfl rfl (call_fn (vs := [.slice tA t.length tC, .slice a_A a_.length a_C, .slice bA b.length bC]) rfl rfl rfl Try.call36) (R_drill_Same t a_ b _ tA tC ((Ag.args _ _ _).view hv_t hs) a_A a_C ((Ag.args _ _ _).view hv_a_ hs) bA bC ((Ag.args _ _ _).view hv_b hs) _ h) (fun v a w' hf hr => ?_)
  obtain ⟨y1, y2, rfl, h2, hs2⟩ := hr
  replace h := h2; replace hs := hs.call hs2; clear h2 hs2
  refine S.val hf hs (v := .tuple #[.bool y1, .int .i64 y2]) rfl rfl rfl (V.pure rfl) (fun a hf => ?_)
  refine S.val hf hs (v := .bool y1) rfl rfl rfl (V.pure rfl) (fun a hf => ?_)
  refine S.val hf hs (v := .int .i64 y2) rfl rfl rfl (V.pure rfl) (fun a hf => ?_)
  refine S.val hf hs (v := .bool y1) rfl rfl rfl (V.pure rfl) (fun a hf => ?_)
  refine S.val hf hs (v := .int .i64 y2) rfl rfl rfl (V.pure rfl) (fun a hf => ?_)
  refine R.nil ?_
  refine X.then_ ?_
  refine wp_seq ?_
  refine R.list ?_
  refine S.val hf hs (v := .slice tA t.length tC) rfl rfl rfl (V.pure rfl) (fun a hf => ?_)
  refine S.val hf hs (v := .slice a_A a_.length a_C) rfl rfl rfl (V.pure rfl) (fun a hf => ?_)
  refine S.val hf hs (v := .slice bA b.length bC) rfl rfl rfl (V.pure rfl) (fun a hf => ?_)
  refine S.call hf rfl rfl rfl (call_fn (vs := [.slice tA t.length tC, .slice a_A a_.length a_C, .slice bA b.length bC]) rfl rfl rfl Try.call37) (R_ref8_Same t a_ b _ tA tC ((Ag.args _ _ _).view hv_t hs) a_A a_C ((Ag.args _ _ _).view hv_a_ hs) bA bC ((Ag.args _ _ _).view hv_b hs) _ h) (fun v a w' hf hr => ?_)
  obtain ⟨y3, y4, rfl, h2, hs2⟩ := hr
  replace h := h2; replace hs := hs.call hs2; clear h2 hs2
  refine S.val hf hs (v := .tuple #[.bool y3, .int .i64 y4]) rfl rfl rfl (V.pure rfl) (fun a hf => ?_)
  refine S.val hf hs (v := .bool y3) rfl rfl rfl (V.pure rfl) (fun a hf => ?_)
  refine S.val hf hs (v := .int .i64 y4) rfl rfl rfl (V.pure rfl) (fun a hf => ?_)
  refine S.val hf hs (v := .bool y3) rfl rfl rfl (V.pure rfl) (fun a hf => ?_)
  refine S.val hf hs (v := .int .i64 y4) rfl rfl rfl (V.pure rfl) (fun a hf => ?_)
  refine R.nil ?_
  refine X.then_ ?_
  refine wp_seq ?_
  refine wp_seq ?_
  refine C.cut (J := fun a w => ∃ (c1 : Bool), M_law_Same_k1 t a_ Q c1 ∧ FrOk 54 [(0, .slice tA t.length tC), (1, .slice a_A a_.length a_C), (37, .bool c1)] a ∧ Sat w0 none_ [] w) ?_ ?_
  · rintro a w ⟨c1, h, hf, hs⟩
    unfold M_law_Same_k1 at h
    refine C.cond hf (b := c1) rfl (fun hc => ?_) (fun hc => ?_)
    · replace h := h.1 hc
      refine wp_seq ?_
      refine R.list ?_
      refine S.val hf hs (v := .bool false) rfl rfl rfl (V.pure rfl) (fun a hf => ?_)
      refine R.nil ?_
      refine X.then_ ?_
      refine wp_ret ?_
      refine X.then_ret ?_
      exact L.ret hf (run_results1 Try.results11 (ResIs.tmp hf rfl)) ⟨false, rfl, h, hs.nil⟩
    · replace h := h.2 hc
      refine wp_skip ?_
      refine X.then_ ?_
      refine wp_seq ?_
      refine R.list ?_
      refine S.val hf hs (v := .slice a_A a_.length a_C) rfl rfl rfl (V.pure rfl) (fun a hf => ?_)
      obtain ⟨va_, hva_, hvv_⟩ := viewShared (T := JobSh) (w := w0) (F := old w0 none_) (zs := a_) (fun cs z h => by obtain ⟨B, D, h1, h2⟩ := h; exact ⟨B, D, h1, h2⟩) hv_a_
      obtain ⟨zf, hzf⟩ : ∃ f : (Shared Job Hole JobSh w0 (old w0 none_)) → Job, f = (·.z) := ⟨_, rfl⟩
      replace h := h _ zf va_ (by rw [hzf]; exact hva_)
      replace hf := hf.tell 38 (v := .slice a_A va_.length a_C) ((hf.get 38 (.slice a_A a_.length a_C) rfl).trans (congrArg (fun n => Value.slice a_A n a_C) (by rw [← hva_, List.length_map])))
      refine S.call hf rfl rfl rfl (call_fn (vs := [.slice a_A va_.length a_C]) rfl rfl rfl Try.call38) (R_clone_job va_ _ a_A a_C ((Ag.args _ _ _).view hvv_ hs) _ h) (fun v a w' hf hr => ?_)
      obtain ⟨y5, y5A, y5C, rfl, h2, hs2⟩ := hr
      replace h := h2; replace hs := hs.call hs2; clear h2 hs2
      refine S.val hf hs (v := .slice y5A y5.length y5C) rfl rfl rfl (V.pure rfl) (fun a hf => ?_)
      refine R.nil ?_
      refine X.then_ ?_
      refine wp_seq ?_
      refine R.list ?_
      refine S.val hf hs (v := .slice y5A y5.length y5C) rfl rfl rfl (V.pure rfl) (fun a hf => ?_)
      obtain ⟨F1, hsF, hback, hold, hrest⟩ := Sat.callOwns [hown 54 y5A y5C y5] (σ := []) hs
      refine S.call hf rfl rfl rfl (call_fn (vs := [.slice y5A y5.length y5C]) rfl rfl rfl Try.call39) (R_reverse_job y5 _ _ y5A y5C hsF _ h) (fun v a w' hf hr => ?_)
      obtain ⟨z1, hl_z1, rfl, h2, hs2⟩ := hr
      replace h := h2; replace hs := hback _ _ hs2; clear h2 hs2 hback hold hrest hsF
      replace hf := hf.tell 11 (v := .slice y5A z1.length y5C) ((hf.get 11 (.slice y5A y5.length y5C) rfl).trans (congrArg (fun n => Value.slice y5A n y5C) hl_z1.symm))
      replace hf := hf.tell 39 (v := .slice y5A z1.length y5C) ((hf.get 39 (.slice y5A y5.length y5C) rfl).trans (congrArg (fun n => Value.slice y5A n y5C) hl_z1.symm))
      replace hf := hf.tell 40 (v := .slice y5A z1.length y5C) ((hf.get 40 (.slice y5A y5.length y5C) rfl).trans (congrArg (fun n => Value.slice y5A n y5C) hl_z1.symm))
      refine R.nil ?_
      refine X.then_ ?_
      refine wp_seq ?_
      refine R.list ?_
      refine S.val hf hs (v := .slice tA t.length tC) rfl rfl rfl (V.pure rfl) (fun a hf => ?_)
      refine S.val hf hs (v := .slice a_A a_.length a_C) rfl rfl rfl (V.pure rfl) (fun a hf => ?_)
      refine S.val hf hs (v := .slice y5A z1.length y5C) rfl rfl rfl (V.pure rfl) (fun a hf => ?_)
      replace hf := hf.tell 45 (v := .slice y5A (z1.map zf).length y5C) ((hf.get 45 (.slice y5A z1.length y5C) rfl).trans (congrArg (fun n => Value.slice y5A n y5C) (List.length_map _).symm))
      refine S.call hf rfl rfl rfl (call_fn (vs := [.slice tA t.length tC, .slice a_A a_.length a_C, .slice y5A (z1.map zf).length y5C]) rfl rfl rfl Try.call36) (R_drill_Same t a_ (z1.map zf) _ tA tC ((Ag.args _ _ _).view hv_t hs) a_A a_C ((Ag.args _ _ _).view hv_a_ hs) y5A y5C (by rw [hzf]; exact hs.sharedView 0 rfl) _ h) (fun v a w' hf hr => ?_)
      obtain ⟨y6, y7, rfl, h2, hs2⟩ := hr
      replace h := h2; replace hs := hs.call hs2; clear h2 hs2
      refine S.val hf hs (v := .tuple #[.bool y6, .int .i64 y7]) rfl rfl rfl (V.pure rfl) (fun a hf => ?_)
      refine S.val hf hs (v := .bool y6) rfl rfl rfl (V.pure rfl) (fun a hf => ?_)
      refine S.val hf hs (v := .int .i64 y7) rfl rfl rfl (V.pure rfl) (fun a hf => ?_)
      refine S.val hf hs (v := .bool y6) rfl rfl rfl (V.pure rfl) (fun a hf => ?_)
      refine S.val hf hs (v := .int .i64 y7) rfl rfl rfl (V.pure rfl) (fun a hf => ?_)
      refine R.nil ?_
      refine X.then_ ?_
      refine wp_seq ?_
      refine R.list ?_
      refine S.val hf hs (v := .int .i64 y7) rfl rfl rfl (V.pure rfl) (fun a hf => ?_)
      refine S.val hf hs (v := .bool (y7 != 0)) rfl rfl rfl (V.pure rfl) (fun a hf => ?_)
      refine S.split hf hs (b := y7 != 0) rfl rfl rfl (V.pure rfl) (fun hc a hf => ?_) (fun hc a hf => ?_)
      · replace h := h.1 hc
        refine S.skip hf rfl rfl rfl (fun a hf => ?_)
        refine S.val hf hs (v := .bool true) rfl rfl rfl (V.pure rfl) (fun a hf => ?_)
        refine S.val hf hs (v := .bool true) rfl rfl rfl (V.pure rfl) (fun a hf => ?_)
        refine R.nil ?_
        refine X.then_ ?_
        refine wp_ret ?_
        exact L.ret hf (run_results1 Try.results11 (ResIs.tmp hf rfl)) ⟨true, rfl, h, hs.nil⟩
      · replace h := h.2 hc
        refine S.val hf hs (v := .bool y6) rfl rfl rfl (V.pure rfl) (fun a hf => ?_)
        refine S.val hf hs (v := .bool y6) rfl rfl rfl (V.pure rfl) (fun a hf => ?_)
        refine S.val hf hs (v := .bool y6) rfl rfl rfl (V.pure rfl) (fun a hf => ?_)
        refine R.nil ?_
        refine X.then_ ?_
        refine wp_ret ?_
        exact L.ret hf (run_results1 Try.results11 (ResIs.tmp hf rfl)) ⟨y6, rfl, h, hs.nil⟩
  · skip
    refine R.list ?_
    refine S.val hf hs (v := .int .i64 y2) rfl rfl rfl (V.pure rfl) (fun a hf => ?_)
    refine S.val hf hs (v := .int .i64 y4) rfl rfl rfl (V.pure rfl) (fun a hf => ?_)
    refine S.val hf hs (v := .bool (y2 != y4)) rfl rfl rfl (V.pure rfl) (fun a hf => ?_)
    refine S.split hf hs (b := y2 != y4) rfl rfl rfl (V.pure rfl) (fun hc a hf => ?_) (fun hc a hf => ?_)
    · replace h := h.1 hc
      refine S.skip hf rfl rfl rfl (fun a hf => ?_)
      refine S.skip hf rfl rfl rfl (fun a hf => ?_)
      refine S.skip hf rfl rfl rfl (fun a hf => ?_)
      refine S.val hf hs (v := .bool true) rfl rfl rfl (V.pure rfl) (fun a hf => ?_)
      refine S.val hf hs (v := .bool true) rfl rfl rfl (V.pure rfl) (fun a hf => ?_)
      refine S.skip hf rfl rfl rfl (fun a hf => ?_)
      refine S.skip hf rfl rfl rfl (fun a hf => ?_)
      refine S.val hf hs (v := .bool true) rfl rfl rfl (V.pure rfl) (fun a hf => ?_)
      refine R.nil ?_
      refine X.then_ ?_
      exact ⟨true, h, (((hf.nil.cons (hf.get 37 _ rfl)).cons (hf.get 1 _ rfl)).cons (hf.get 0 _ rfl)), hs⟩
    · replace h := h.2 hc
      refine S.val hf hs (v := .bool y1) rfl rfl rfl (V.pure rfl) (fun a hf => ?_)
      refine S.val hf hs (v := .bool y3) rfl rfl rfl (V.pure rfl) (fun a hf => ?_)
      refine S.val hf hs (v := .bool (!(y1 == y3))) rfl rfl rfl (V.boolEq rfl rfl rfl Try.underlying4 rfl) (fun a hf => ?_)
      refine S.val hf hs (v := .bool (!(y1 == y3))) rfl rfl rfl (V.pure rfl) (fun a hf => ?_)
      refine S.split hf hs (b := !(y1 == y3)) rfl rfl rfl (V.pure rfl) (fun hc a hf => ?_) (fun hc a hf => ?_)
      · replace h := h.1 hc
        refine S.skip hf rfl rfl rfl (fun a hf => ?_)
        refine S.skip hf rfl rfl rfl (fun a hf => ?_)
        refine S.val hf hs (v := .bool true) rfl rfl rfl (V.pure rfl) (fun a hf => ?_)
        refine R.nil ?_
        refine X.then_ ?_
        exact ⟨true, h, (((hf.nil.cons (hf.get 37 _ rfl)).cons (hf.get 1 _ rfl)).cons (hf.get 0 _ rfl)), hs⟩
      · replace h := h.2 hc
        refine S.call hf rfl rfl rfl (call_fn (vs := []) rfl rfl rfl Try.call20) (R_awake  _  _ h) (fun v a w' hf hr => ?_)
        obtain ⟨y8, rfl, h2, hs2⟩ := hr
        replace h := h2; replace hs := hs.call hs2; clear h2 hs2
        refine S.val hf hs (v := .bool (!y8)) rfl rfl rfl (V.pure rfl) (fun a hf => ?_)
        refine S.val hf hs (v := .bool (!y8)) rfl rfl rfl (V.pure rfl) (fun a hf => ?_)
        refine R.nil ?_
        refine X.then_ ?_
        exact ⟨(!y8), h, (((hf.nil.cons (hf.get 37 _ rfl)).cons (hf.get 1 _ rfl)).cons (hf.get 0 _ rfl)), hs⟩

end Go.Proofs.Ytmopdabkfklefaa
