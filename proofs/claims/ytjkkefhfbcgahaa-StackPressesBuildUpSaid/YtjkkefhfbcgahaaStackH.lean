/- Chapter 4: spans: the walks. -/
import Derived.Test.YtjkkefhfbcgahaaStackD
import Derived.Test.YtjkkefhfbcgahaaSort
import Derived.Test.YtjkkefhfbcgahaaShelf
namespace Go.Proofs.Ytjkkefhfbcgahaa
open Go Go.RowKit
set_option linter.unusedVariables false

def cmpNaN (x : Int) : Bool := false
set_option linter.unusedVariables false
def M_cmp_isNaN (x_ : Int) (Q : Bool → Prop) : Prop :=
  Q (x_ != x_)
set_option maxHeartbeats 1000000 in
theorem R_cmp_isNaN (x_ : Int) (w0 : World)  (Q : Bool → Prop) (h : M_cmp_isNaN x_ Q) :
    Ret Try.prog 131 #[.int .i64 x_] w0 fun v w' => ∃ (r0 : Bool), v = .bool r0 ∧ Q r0 ∧ Sat w0 none_ [] w' := by
  refine fn_enter Try.func131 rfl Try.ntmps131 rfl (fs := [(0, .int .i64 x_)]) rfl (fun a hf => ?_)
  have hs := Sat.start w0 none_
  unfold M_cmp_isNaN at h
  refine wp_seq ?_
  refine R.list ?_
  refine S.val hf hs (v := .bool false) rfl rfl rfl (V.pure rfl) (fun a hf => ?_)
  refine R.nil ?_
  refine X.then_ ?_
  refine wp_seq ?_
  refine R.list ?_
  refine S.val hf hs (v := .int .i64 x_) rfl rfl rfl (V.pure rfl) (fun a hf => ?_)
  refine S.val hf hs (v := .int .i64 x_) rfl rfl rfl (V.pure rfl) (fun a hf => ?_)
  refine S.val hf hs (v := .bool (x_ != x_)) rfl rfl rfl (V.pure rfl) (fun a hf => ?_)
  refine S.val hf hs (v := .bool (x_ != x_)) rfl rfl rfl (V.pure rfl) (fun a hf => ?_)
  refine R.nil ?_
  refine X.then_ ?_
  refine wp_ret ?_
  exact L.ret hf (run_results1 Try.results131 (ResIs.tmp hf rfl)) ⟨(x_ != x_), rfl, h, hs.nil⟩

theorem E_cmp_isNaN (x : Int) : M_cmp_isNaN x (· = cmpNaN x) := by
  unfold M_cmp_isNaN cmpNaN; simp
theorem C_cmp_isNaN (x_ : Int) (w0 : World)  : Ret Try.prog 131 #[.int .i64 x_] w0 fun v w' => v = .bool (cmpNaN x_) ∧ Sat w0 none_ [] w' :=
  (R_cmp_isNaN x_ w0  (· = (cmpNaN x_)) (E_cmp_isNaN x_)).mono fun v w' ⟨r0, hv, hr, hs⟩ => ⟨by subst hr; exact hv, hs⟩

def cmp3 (x y : Int) : Int := if x < y then -1 else if x > y then 1 else 0
set_option linter.unusedVariables false
def M_cmp_Compare (x_ : Int) (y : Int) (Q : Int → Prop) : Prop :=
  cnd (cmpNaN x_) (cnd (cmpNaN y) (Q 0) (Q (-1))) (cnd (cmpNaN y) (Q 1) (cnd (decide (x_ < y)) (Q (-1)) (cnd (decide (x_ > y)) (Q 1) (Q 0))))
set_option maxHeartbeats 1000000 in
theorem R_cmp_Compare (x_ : Int) (y : Int) (w0 : World)  (Q : Int → Prop) (h : M_cmp_Compare x_ y Q) :
    Ret Try.prog 116 #[.int .i64 x_, .int .i64 y] w0 fun v w' => ∃ (r0 : Int), v = .int .i64 r0 ∧ Q r0 ∧ Sat w0 none_ [] w' := by
  refine fn_enter Try.func116 rfl Try.ntmps116 rfl (fs := [(0, .int .i64 x_), (1, .int .i64 y)]) rfl (fun a hf => ?_)
  have hs := Sat.start w0 none_
  unfold M_cmp_Compare at h
  refine wp_seq ?_
  refine R.list ?_
  refine S.val hf hs (v := .int .i64 0) rfl rfl rfl (V.pure rfl) (fun a hf => ?_)
  refine R.nil ?_
  refine X.then_ ?_
  refine wp_seq ?_
  refine R.list ?_
  refine S.val hf hs (v := .int .i64 x_) rfl rfl rfl (V.pure rfl) (fun a hf => ?_)
  refine S.callv hf rfl rfl rfl (call_fn (vs := [.int .i64 x_]) rfl rfl rfl Try.call131) (C_cmp_isNaN x_ _ ) (fun a w hf hs' => ?_)
  replace hs := hs.call hs'; clear hs'
  refine S.val hf hs (v := .bool (cmpNaN x_)) rfl rfl rfl (V.pure rfl) (fun a hf => ?_)
  refine R.nil ?_
  refine X.then_ ?_
  refine wp_seq ?_
  refine R.list ?_
  refine S.val hf hs (v := .int .i64 y) rfl rfl rfl (V.pure rfl) (fun a hf => ?_)
  refine S.callv hf rfl rfl rfl (call_fn (vs := [.int .i64 y]) rfl rfl rfl Try.call131) (C_cmp_isNaN y _ ) (fun a w hf hs' => ?_)
  replace hs := hs.call hs'; clear hs'
  refine S.val hf hs (v := .bool (cmpNaN y)) rfl rfl rfl (V.pure rfl) (fun a hf => ?_)
  refine R.nil ?_
  refine X.then_ ?_
  refine wp_seq ?_
  refine wp_seq ?_
  refine R.list ?_
  refine S.val hf hs (v := .bool (cmpNaN x_)) rfl rfl rfl (V.pure rfl) (fun a hf => ?_)
  refine R.nil ?_
  refine X.then_ ?_
  refine C.cond hf (b := (cmpNaN x_)) rfl (fun hc => ?_) (fun hc => ?_)
  · replace h := h.1 hc
    refine wp_seq ?_
    refine wp_seq ?_
    refine R.list ?_
    refine S.val hf hs (v := .bool (cmpNaN y)) rfl rfl rfl (V.pure rfl) (fun a hf => ?_)
    refine R.nil ?_
    refine X.then_ ?_
    refine C.cond hf (b := (cmpNaN y)) rfl (fun hc => ?_) (fun hc => ?_)
    · replace h := h.1 hc
      refine wp_seq ?_
      refine R.list ?_
      refine S.val hf hs (v := .int .i64 0) rfl rfl rfl (V.pure rfl) (fun a hf => ?_)
      refine R.nil ?_
      refine X.then_ ?_
      refine wp_ret ?_
      refine X.then_ret ?_
      refine X.then_ret ?_
      exact L.ret hf (run_results1 Try.results116 (ResIs.tmp hf rfl)) ⟨0, rfl, h, hs.nil⟩
    · replace h := h.2 hc
      refine wp_skip ?_
      refine X.then_ ?_
      refine wp_seq ?_
      refine R.list ?_
      refine S.val hf hs (v := .int .i64 (-1)) rfl rfl rfl (V.pure rfl) (fun a hf => ?_)
      refine R.nil ?_
      refine X.then_ ?_
      refine wp_ret ?_
      refine X.then_ret ?_
      exact L.ret hf (run_results1 Try.results116 (ResIs.tmp hf rfl)) ⟨(-1), rfl, h, hs.nil⟩
  · replace h := h.2 hc
    refine wp_skip ?_
    refine X.then_ ?_
    refine wp_seq ?_
    refine wp_seq ?_
    refine R.list ?_
    refine S.val hf hs (v := .bool (cmpNaN y)) rfl rfl rfl (V.pure rfl) (fun a hf => ?_)
    refine R.nil ?_
    refine X.then_ ?_
    refine C.cond hf (b := (cmpNaN y)) rfl (fun hc => ?_) (fun hc => ?_)
    · replace h := h.1 hc
      refine wp_seq ?_
      refine R.list ?_
      refine S.val hf hs (v := .int .i64 1) rfl rfl rfl (V.pure rfl) (fun a hf => ?_)
      refine R.nil ?_
      refine X.then_ ?_
      refine wp_ret ?_
      refine X.then_ret ?_
      exact L.ret hf (run_results1 Try.results116 (ResIs.tmp hf rfl)) ⟨1, rfl, h, hs.nil⟩
    · replace h := h.2 hc
      refine wp_skip ?_
      refine X.then_ ?_
      refine wp_seq ?_
      refine wp_seq ?_
      refine R.list ?_
      refine S.val hf hs (v := .int .i64 x_) rfl rfl rfl (V.pure rfl) (fun a hf => ?_)
      refine S.val hf hs (v := .int .i64 y) rfl rfl rfl (V.pure rfl) (fun a hf => ?_)
      refine S.val hf hs (v := .bool (decide (x_ < y))) rfl rfl rfl (V.pure rfl) (fun a hf => ?_)
      refine R.nil ?_
      refine X.then_ ?_
      refine C.cond hf (b := decide (x_ < y)) rfl (fun hc => ?_) (fun hc => ?_)
      · replace h := h.1 hc
        refine wp_seq ?_
        refine R.list ?_
        refine S.val hf hs (v := .int .i64 (-1)) rfl rfl rfl (V.pure rfl) (fun a hf => ?_)
        refine R.nil ?_
        refine X.then_ ?_
        refine wp_ret ?_
        refine X.then_ret ?_
        exact L.ret hf (run_results1 Try.results116 (ResIs.tmp hf rfl)) ⟨(-1), rfl, h, hs.nil⟩
      · replace h := h.2 hc
        refine wp_skip ?_
        refine X.then_ ?_
        refine wp_seq ?_
        refine wp_seq ?_
        refine R.list ?_
        refine S.val hf hs (v := .int .i64 x_) rfl rfl rfl (V.pure rfl) (fun a hf => ?_)
        refine S.val hf hs (v := .int .i64 y) rfl rfl rfl (V.pure rfl) (fun a hf => ?_)
        refine S.val hf hs (v := .bool (decide (x_ > y))) rfl rfl rfl (V.pure rfl) (fun a hf => ?_)
        refine R.nil ?_
        refine X.then_ ?_
        refine C.cond hf (b := decide (x_ > y)) rfl (fun hc => ?_) (fun hc => ?_)
        · replace h := h.1 hc
          refine wp_seq ?_
          refine R.list ?_
          refine S.val hf hs (v := .int .i64 1) rfl rfl rfl (V.pure rfl) (fun a hf => ?_)
          refine R.nil ?_
          refine X.then_ ?_
          refine wp_ret ?_
          refine X.then_ret ?_
          exact L.ret hf (run_results1 Try.results116 (ResIs.tmp hf rfl)) ⟨1, rfl, h, hs.nil⟩
        · replace h := h.2 hc
          refine wp_skip ?_
          refine X.then_ ?_
          refine wp_seq ?_
          refine R.list ?_
          refine S.val hf hs (v := .int .i64 0) rfl rfl rfl (V.pure rfl) (fun a hf => ?_)
          refine R.nil ?_
          refine X.then_ ?_
          refine wp_ret ?_
          exact L.ret hf (run_results1 Try.results116 (ResIs.tmp hf rfl)) ⟨0, rfl, h, hs.nil⟩

theorem E_cmp_Compare (x y : Int) : M_cmp_Compare x y (· = cmp3 x y) := by
  unfold M_cmp_Compare cmpNaN cmp3
  refine cnd_of (fun e => by cases e) (fun _ => cnd_of (fun e => by cases e) (fun _ => cnd_of (fun e => ?_) (fun e => cnd_of (fun e2 => ?_) (fun e2 => ?_))))
  · rw [if_pos (by simpa using e)]
  · rw [if_neg (by simpa using e), if_pos (by simpa using e2)]
  · rw [if_neg (by simpa using e), if_neg (by simpa using e2)]
theorem C_cmp_Compare (x_ : Int) (y : Int) (w0 : World)  : Ret Try.prog 116 #[.int .i64 x_, .int .i64 y] w0 fun v w' => v = .int .i64 (cmp3 x_ y) ∧ Sat w0 none_ [] w' :=
  (R_cmp_Compare x_ y w0  (· = (cmp3 x_ y)) (E_cmp_Compare x_ y)).mono fun v w' ⟨r0, hv, hr, hs⟩ => ⟨by subst hr; exact hv, hs⟩

def orInts (l : List Int) : Int := (l.find? (fun x => x != 0)).getD 0
set_option linter.unusedVariables false
def M_cmp_Or_L1 (Q : Int → Prop) (k1 : Nat) (xk1 : Int)  (next1 : Prop) : Prop :=
  cnd (xk1 != 0) (Q xk1) (next1)
def M_cmp_Or (vals : (List Int)) (Q : Int → Prop) : Prop :=
  forIn' (fun k x (s : Unit) next => M_cmp_Or_L1 Q k x (next ())) (fun (s : Unit) => Q 0) vals 0 ()
set_option maxHeartbeats 1000000 in
theorem R_cmp_Or (vals : (List Int)) (w0 : World) (valsA : Option Addr) (valsC : Nat) (hv_vals : View w0 (old w0 none_) valsA valsC vals) (Q : Int → Prop) (h : M_cmp_Or vals Q) :
    Ret Try.prog 115 #[.slice valsA vals.length valsC] w0 fun v w' => ∃ (r0 : Int), v = .int .i64 r0 ∧ Q r0 ∧ Sat w0 none_ [] w' := by
  refine fn_enter Try.func115 rfl Try.ntmps115 rfl (fs := [(0, .slice valsA vals.length valsC)]) rfl (fun a hf => ?_)
  have hs := Sat.start w0 none_
  unfold M_cmp_Or at h
  refine wp_seq ?_
  refine R.list ?_
  refine S.val hf hs (v := .int .i64 0) rfl rfl rfl (V.pure rfl) (fun a hf => ?_)
  refine R.nil ?_
  refine X.then_ ?_
  refine wp_seq ?_
  refine R.list ?_
  refine S.val hf hs (v := .int .i64 0) rfl rfl rfl (V.pure rfl) (fun a hf => ?_)
  refine R.nil ?_
  refine X.then_ ?_
  refine wp_seq ?_
  refine wp_seq ?_
  refine R.list ?_
  refine S.val hf hs (v := .slice valsA vals.length valsC) rfl rfl rfl (V.pure rfl) (fun a hf => ?_)
  refine S.val hf hs (v := .int .i64 (vals.length : Int)) rfl rfl rfl (V.len rfl rfl Try.runUnderlying43) (fun a hf => ?_)
  refine S.val hf hs (v := .int .i64 0) rfl rfl rfl (V.pure rfl) (fun a hf => ?_)
  refine R.nil ?_
  refine X.then_ ?_
  refine wp_block ?_
  have hlenk1 := hv_vals.len64
  refine C.range (fun (ll : List Int) a w => ∃ (k1 : Nat) , vals.drop k1 = ll ∧ k1 + ll.length = vals.length ∧ forIn' (fun k x (s : Unit) next => M_cmp_Or_L1 Q k x (next ())) (fun (s : Unit) => Q 0) ll k1 () ∧ FrOk 18 [(8, .int .i64 (k1 : Int)), (3, .int .i64 0), (6, .slice valsA vals.length valsC), (7, .int .i64 (vals.length : Int))] a ∧ Sat w0 none_ [] w) vals ⟨0, rfl, Nat.zero_add _, h, ((((hf.nil.cons (hf.get 7 _ rfl)).cons (hf.get 6 _ rfl)).cons (hf.get 3 _ rfl)).cons (hf.get 8 _ rfl)), hs⟩ ?_
  clear h hf hs
  rintro llk1 a w ⟨k1, hlk1, hkk1, h, hf, hs⟩
  cases llk1 with
  | nil =>
    have hc := range_done hkk1
    replace h : Q 0 := h
    refine wp_seq ?_
    refine R.list ?_
    refine S.val hf hs (v := .bool false) rfl rfl rfl (V.cmp false rfl rfl rfl rfl hc) (fun a hf => ?_)
    refine R.nil ?_
    refine X.then_ ?_
    refine wp_seq ?_
    refine C.no hf rfl ?_
    refine wp_exit ?_
    refine X.then_exit ?_
    refine X.then_exit ?_
    refine X.blk_exit ?_
    refine X.then_ ?_
    refine wp_seq ?_
    refine R.list ?_
    refine S.val hf hs (v := .int .i64 0) rfl rfl rfl (V.pure rfl) (fun a hf => ?_)
    refine S.val hf hs (v := .int .i64 0) rfl rfl rfl (V.pure rfl) (fun a hf => ?_)
    refine R.nil ?_
    refine X.then_ ?_
    refine wp_ret ?_
    exact L.ret hf (run_results1 Try.results115 (ResIs.tmp hf rfl)) ⟨0, rfl, h, hs.nil⟩
  | cons xk1 llk1 =>
    have hltk1 := range_lt hkk1; have hc := range_go hkk1; have hxk1 := range_get hlk1
    obtain ⟨next1, hnext1⟩ : ∃ X : Prop, X = (forIn' (fun k x (s : Unit) next => M_cmp_Or_L1 Q k x (next ())) (fun (s : Unit) => Q 0) llk1 (k1 + 1) ()) := ⟨_, rfl⟩
    replace h : M_cmp_Or_L1 Q k1 xk1  next1 := by rw [hnext1]; exact h
    unfold M_cmp_Or_L1 at h
    refine wp_seq ?_
    refine R.list ?_
    refine S.val hf hs (v := .bool true) rfl rfl rfl (V.cmp true rfl rfl rfl rfl hc) (fun a hf => ?_)
    refine R.nil ?_
    refine X.then_ ?_
    refine wp_seq ?_
    refine C.yes hf rfl ?_
    refine wp_skip ?_
    refine X.then_ ?_
    refine wp_seq ?_
    refine wp_block ?_
    refine wp_seq ?_
    refine R.list ?_
    refine S.val hf hs (v := elemPtr valsA (k1 * 1)) rfl rfl rfl (V.index rfl rfl rfl Try.runUnderlying43 Try.sizeOf3 (hv_vals.some_ (lt_of_get hxk1)) (Int.natCast_nonneg _) (lt_of_get hxk1) rfl) (fun a hf => ?_)
    refine S.val hf hs (v := .int .i64 xk1) rfl rfl rfl (V.loadEl (off := 0) (Ag.args _ _ _) (hv_vals.flat hxk1) rfl rfl rfl Try.isAgg3 Try.sizeOf3 rfl rfl) (fun a hf => ?_)
    refine S.val hf hs (v := .int .i64 xk1) rfl rfl rfl (V.pure rfl) (fun a hf => ?_)
    refine R.nil ?_
    refine X.then_ ?_
    refine wp_seq ?_
    refine R.list ?_
    refine S.val hf hs (v := .int .i64 xk1) rfl rfl rfl (V.pure rfl) (fun a hf => ?_)
    refine S.val hf hs (v := .int .i64 0) rfl rfl rfl (V.pure rfl) (fun a hf => ?_)
    refine S.val hf hs (v := .bool (xk1 != 0)) rfl rfl rfl (V.pure rfl) (fun a hf => ?_)
    refine R.nil ?_
    refine X.then_ ?_
    refine C.cond hf (b := xk1 != 0) rfl (fun hc => ?_) (fun hc => ?_)
    · replace h := h.1 hc
      refine wp_seq ?_
      refine R.list ?_
      refine S.val hf hs (v := .int .i64 xk1) rfl rfl rfl (V.pure rfl) (fun a hf => ?_)
      refine S.val hf hs (v := .int .i64 xk1) rfl rfl rfl (V.pure rfl) (fun a hf => ?_)
      refine R.nil ?_
      refine X.then_ ?_
      refine wp_ret ?_
      refine X.blk_ret ?_
      refine X.then_ret ?_
      refine X.then_ret ?_
      refine X.blk_ret ?_
      refine X.then_ret ?_
      exact L.ret hf (run_results1 Try.results115 (ResIs.tmp hf rfl)) ⟨xk1, rfl, h, hs.nil⟩
    · replace h := h.2 hc
      refine wp_skip ?_
      refine X.blk ?_
      refine X.then_ ?_
      refine R.list ?_
      refine S.val hf hs (v := .int .i64 ((k1 + 1 : Nat) : Int)) rfl rfl rfl (V.incr rfl rfl rfl hltk1 hlenk1) (fun a hf => ?_)
      refine S.val hf hs (v := .int .i64 ((k1 + 1 : Nat) : Int)) rfl rfl rfl (V.pure rfl) (fun a hf => ?_)
      refine R.nil ?_
      refine X.then_ ?_
      exact ⟨xk1, llk1, rfl, k1 + 1, range_drop hlk1, range_len hkk1, (by rw [hnext1] at h; exact h), ((((hf.nil.cons (hf.get 7 _ rfl)).cons (hf.get 6 _ rfl)).cons (hf.get 3 _ rfl)).cons (hf.get 8 _ rfl)), hs⟩

theorem E_cmp_Or (vals : List Int) : M_cmp_Or vals (· = orInts vals) := by
  unfold M_cmp_Or orInts
  have key : ∀ (l : List Int) (k : Nat) (r : Int), r = (l.find? (fun x => x != 0)).getD 0 → forIn' (fun k x (s : Unit) next => M_cmp_Or_L1 (· = r) k x (next ())) (fun (s : Unit) => 0 = r) l k () := by
    intro l
    induction l with
    | nil => intro k r h; exact h.symm
    | cons x l ih =>
      intro k r h
      show cnd (x != 0) (x = r) _
      refine cnd_of (fun e => ?_) (fun e => ?_)
      · rw [h, List.find?_cons, e]; rfl
      · refine ih (k + 1) r ?_
        rw [h, List.find?_cons, e]
  exact key vals 0 _ rfl
theorem C_cmp_Or (vals : (List Int)) (w0 : World) (valsA : Option Addr) (valsC : Nat) (hv_vals : View w0 (old w0 none_) valsA valsC vals) : Ret Try.prog 115 #[.slice valsA vals.length valsC] w0 fun v w' => v = .int .i64 (orInts vals) ∧ Sat w0 none_ [] w' :=
  (R_cmp_Or vals w0 valsA valsC hv_vals (· = (orInts vals)) (E_cmp_Or vals)).mono fun v w' ⟨r0, hv, hr, hs⟩ => ⟨by subst hr; exact hv, hs⟩

def cmpSpans (a b : Through) : Int := orInts [cmp3 (w64 (a.To - a.From)) (w64 (b.To - b.From)), cmp3 a.From b.From]
set_option linter.unusedVariables false
def M_compareSpans (a_ : Through) (b : Through) (Q : Int → Prop) : Prop :=
  Q (orInts ([(cmp3 (w64 (a_.To - a_.From)) (w64 (b.To - b.From))), (cmp3 a_.From b.From)] : List Int))
set_option maxHeartbeats 1000000 in
theorem R_compareSpans (a_ : Through) (b : Through) (w0 : World)  (Q : Int → Prop) (h : M_compareSpans a_ b Q) :
    Ret Try.prog 102 #[.agg #[.int .i64 a_.From, .int .i64 a_.To], .agg #[.int .i64 b.From, .int .i64 b.To]] w0 fun v w' => ∃ (r0 : Int), v = .int .i64 r0 ∧ Q r0 ∧ Sat w0 none_ [] w' := by
  refine fn_enter Try.func102 rfl Try.ntmps102 rfl (fs := [(0, .agg #[.int .i64 a_.From, .int .i64 a_.To]), (1, .agg #[.int .i64 b.From, .int .i64 b.To])]) rfl (fun a hf => ?_)
  have hs := Sat.start w0 none_
  unfold M_compareSpans at h
  refine wp_seq ?_
  refine R.list ?_
  refine S.box hf hs rfl rfl rfl [.int .i64 a_.From, .int .i64 a_.To] rfl rfl rfl (fun g1 a w hf hs => ?_)
  refine S.box hf hs rfl rfl rfl [.int .i64 b.From, .int .i64 b.To] rfl rfl rfl (fun g2 a w hf hs => ?_)
  refine S.val hf hs (v := .int .i64 0) rfl rfl rfl (V.pure rfl) (fun a hf => ?_)
  refine R.nil ?_
  refine X.then_ ?_
  refine wp_seq ?_
  refine H.start (S := Sat w0 none_ [hbox g2 59 [.int .i64 b.From, .int .i64 b.To], hbox g1 59 [.int .i64 a_.From, .int .i64 a_.To]]) mo ?_
  replace hs := hs.drew
  refine H.val hf hs (v := .pointer (some ⟨g1, 1, none⟩)) (i := 0) rfl rfl rfl rfl (by kernel_rfl) (by kernel_rfl) (by kernel_rfl) (V.fieldBox rfl rfl Try.runUnderlying59 rfl Try.sizeOf3 rfl rfl) (fun a hf => ?_)
  refine H.val hf hs (v := .int .i64 a_.To) (i := 1) rfl rfl rfl rfl (by kernel_rfl) (by kernel_rfl) (by kernel_rfl) (V.loadBox 1 rfl rfl rfl Try.isAgg3 Try.sizeOf3 rfl rfl) (fun a hf => ?_)
  refine H.val hf hs (v := .pointer (some ⟨g1, 0, none⟩)) (i := 2) rfl rfl rfl rfl (by kernel_rfl) (by kernel_rfl) (by kernel_rfl) (V.fieldBox rfl rfl Try.runUnderlying59 rfl Try.sizeOf3 rfl rfl) (fun a hf => ?_)
  refine H.val hf hs (v := .int .i64 a_.From) (i := 3) rfl rfl rfl rfl (by kernel_rfl) (by kernel_rfl) (by kernel_rfl) (V.loadBox 1 rfl rfl rfl Try.isAgg3 Try.sizeOf3 rfl rfl) (fun a hf => ?_)
  refine H.val hf hs (v := .int .i64 (w64 (a_.To - a_.From))) (i := 4) rfl rfl rfl rfl (by kernel_rfl) (by kernel_rfl) (by kernel_rfl) (V.pure rfl) (fun a hf => ?_)
  refine H.val hf hs (v := .pointer (some ⟨g2, 1, none⟩)) (i := 5) rfl rfl rfl rfl (by kernel_rfl) (by kernel_rfl) (by kernel_rfl) (V.fieldBox rfl rfl Try.runUnderlying59 rfl Try.sizeOf3 rfl rfl) (fun a hf => ?_)
  refine H.val hf hs (v := .int .i64 b.To) (i := 6) rfl rfl rfl rfl (by kernel_rfl) (by kernel_rfl) (by kernel_rfl) (V.loadBox 0 rfl rfl rfl Try.isAgg3 Try.sizeOf3 rfl rfl) (fun a hf => ?_)
  refine H.val hf hs (v := .pointer (some ⟨g2, 0, none⟩)) (i := 7) rfl rfl rfl rfl (by kernel_rfl) (by kernel_rfl) (by kernel_rfl) (V.fieldBox rfl rfl Try.runUnderlying59 rfl Try.sizeOf3 rfl rfl) (fun a hf => ?_)
  refine H.val hf hs (v := .int .i64 b.From) (i := 8) rfl rfl rfl rfl (by kernel_rfl) (by kernel_rfl) (by kernel_rfl) (V.loadBox 0 rfl rfl rfl Try.isAgg3 Try.sizeOf3 rfl rfl) (fun a hf => ?_)
  refine H.val hf hs (v := .int .i64 (w64 (b.To - b.From))) (i := 9) rfl rfl rfl rfl (by kernel_rfl) (by kernel_rfl) (by kernel_rfl) (V.pure rfl) (fun a hf => ?_)
  refine H.val hf hs (v := .pointer (some ⟨g1, 0, none⟩)) (i := 11) rfl rfl rfl rfl (by kernel_rfl) (by kernel_rfl) (by kernel_rfl) (V.fieldBox rfl rfl Try.runUnderlying59 rfl Try.sizeOf3 rfl rfl) (fun a hf => ?_)
  refine H.val hf hs (v := .int .i64 a_.From) (i := 12) rfl rfl rfl rfl (by kernel_rfl) (by kernel_rfl) (by kernel_rfl) (V.loadBox 1 rfl rfl rfl Try.isAgg3 Try.sizeOf3 rfl rfl) (fun a hf => ?_)
  refine H.val hf hs (v := .pointer (some ⟨g2, 0, none⟩)) (i := 13) rfl rfl rfl rfl (by kernel_rfl) (by kernel_rfl) (by kernel_rfl) (V.fieldBox rfl rfl Try.runUnderlying59 rfl Try.sizeOf3 rfl rfl) (fun a hf => ?_)
  refine H.val hf hs (v := .int .i64 b.From) (i := 14) rfl rfl rfl rfl (by kernel_rfl) (by kernel_rfl) (by kernel_rfl) (V.loadBox 0 rfl rfl rfl Try.isAgg3 Try.sizeOf3 rfl rfl) (fun a hf => ?_)
  refine H.one (i := 10) rfl (by kernel_rfl) ?_
  refine S.callv hf rfl rfl rfl (call_fn (vs := [.int .i64 (w64 (a_.To - a_.From)), .int .i64 (w64 (b.To - b.From))]) rfl rfl rfl Try.call116) (C_cmp_Compare (w64 (a_.To - a_.From)) (w64 (b.To - b.From)) _ ) (fun a w hf hs' => ?_)
  replace hs := hs.call hs'; clear hs'
  refine R.nil ?_
  refine X.then_ ?_
  refine ⟨hs, ?_⟩
  refine H.one (i := 15) rfl (by kernel_rfl) ?_
  refine S.callv hf rfl rfl rfl (call_fn (vs := [.int .i64 a_.From, .int .i64 b.From]) rfl rfl rfl Try.call116) (C_cmp_Compare a_.From b.From _ ) (fun a w hf hs' => ?_)
  replace hs := hs.call hs'; clear hs'
  refine R.nil ?_
  refine X.then_ ?_
  refine ⟨hs, ?_⟩
  refine H.one (i := 16) rfl (by kernel_rfl) ?_
  refine S.buildSlice hf hs rfl rfl rfl (α := Int) [(cmp3 (w64 (a_.To - a_.From)) (w64 (b.To - b.From))), (cmp3 a_.From b.From)] rfl rfl Try.runUnderlying43 Try.sizeOf3 Try.zeroValue3 (by kernel_rfl) rfl (by decide) (by decide) (fun A1 a w hf hs => ?_)
  refine R.nil ?_
  refine X.then_ ?_
  refine ⟨(hs.mask [false, true, true]), ?_⟩
  refine H.one (i := 17) rfl (by kernel_rfl) ?_
  refine S.callv hf rfl rfl rfl (call_fn (vs := [.slice A1 ([(cmp3 (w64 (a_.To - a_.From)) (w64 (b.To - b.From))), (cmp3 a_.From b.From)] : List Int).length 2]) rfl rfl rfl Try.call115) (C_cmp_Or ([(cmp3 (w64 (a_.To - a_.From)) (w64 (b.To - b.From))), (cmp3 a_.From b.From)] : List Int) _ A1 2 (hs.ownView 0 rfl)) (fun a w hf hs' => ?_)
  replace hs := hs.call hs'; clear hs'
  refine R.nil ?_
  refine X.then_ ?_
  refine ⟨(hs.mask [false, true, true]), ?_⟩
  refine H.val hf (hs.mask [false, true, true]) (v := .int .i64 (orInts ([(cmp3 (w64 (a_.To - a_.From)) (w64 (b.To - b.From))), (cmp3 a_.From b.From)] : List Int))) (i := 18) rfl rfl rfl rfl (by kernel_rfl) (by kernel_rfl) (by kernel_rfl) (V.pure rfl) (fun a hf => ?_)
  refine H.done (by kernel_rfl) ?_
  refine X.then_ ?_
  refine wp_ret ?_
  exact L.ret hf (run_results1 Try.results102 (ResIs.tmp hf rfl)) ⟨(orInts ([(cmp3 (w64 (a_.To - a_.From)) (w64 (b.To - b.From))), (cmp3 a_.From b.From)] : List Int)), rfl, h, hs.nil⟩

theorem E_compareSpans (a b : Through) : M_compareSpans a b (· = cmpSpans a b) := rfl
theorem C_compareSpans (a_ : Through) (b : Through) (w0 : World)  : Ret Try.prog 102 #[.agg #[.int .i64 a_.From, .int .i64 a_.To], .agg #[.int .i64 b.From, .int .i64 b.To]] w0 fun v w' => v = .int .i64 (cmpSpans a_ b) ∧ Sat w0 none_ [] w' :=
  (R_compareSpans a_ b w0  (· = (cmpSpans a_ b)) (E_compareSpans a_ b)).mono fun v w' ⟨r0, hv, hr, hs⟩ => ⟨by subst hr; exact hv, hs⟩

theorem cmpSpans_lt (a b : Through) : cmpSpans a b < 0 ↔ w64 (a.To - a.From) < w64 (b.To - b.From) ∨ (w64 (a.To - a.From) = w64 (b.To - b.From) ∧ a.From < b.From) := by
  unfold cmpSpans orInts cmp3
  generalize w64 (a.To - a.From) = x
  generalize w64 (b.To - b.From) = y
  rcases Int.lt_trichotomy x y with h | h | h
  · rw [if_pos h]; simp; omega
  · rw [if_neg (by omega), if_neg (by omega)]
    rcases Int.lt_trichotomy a.From b.From with h2 | h2 | h2
    · rw [if_pos h2]; simp; omega
    · rw [if_neg (by omega), if_neg (by omega)]; simp; omega
    · rw [if_neg (by omega), if_pos h2]; simp; omega
  · rw [if_neg (by omega), if_pos h]; simp; omega
theorem swo_cmpSpans : Sort.SWO (ltOf cmpSpans) := by
  refine ⟨fun x => ?_, fun x y z h1 h2 => ?_, fun x y z h1 h2 => ?_⟩
  · unfold ltOf; refine decide_eq_false (fun h => ?_); rw [cmpSpans_lt] at h; omega
  · unfold ltOf at *; have h1 := of_decide_eq_true h1; have h2 := of_decide_eq_true h2; refine decide_eq_true ?_; rw [cmpSpans_lt] at *; omega
  · unfold ltOf at *; have h1 := of_decide_eq_false h1; have h2 := of_decide_eq_false h2; refine decide_eq_false ?_; rw [cmpSpans_lt] at *; omega
/-- slices.SortFunc: whatever order of what was there in which none is ahead of a lesser one -/
def M_sortfunc_thr (s_ : (List Through)) (Q : (List Through) → Prop) : Prop :=
  must (s_.length < 4611686018427387904) (∀ t : List Through, t.Perm s_ → t.Pairwise (fun a b => ¬ cmpSpans b a < 0) → Q t)
theorem R_sortfunc_thr (s_ : (List Through)) (w0 : World) (F0 : Nat → Prop) (s_A : Option Addr) (s_C : Nat) (hs0 : Sat w0 F0 [hown 59 s_A s_C s_] w0) (Q : (List Through) → Prop) (h : M_sortfunc_thr s_ Q) :
    Ret Try.prog 101 #[.slice s_A s_.length s_C, .func (.func 102) #[] #[]] w0 fun v w' => ∃ (s_1 : (List Through)) (hl_s_1 : s_1.length = s_.length), v = .tuple #[] ∧ Q s_1 ∧ Sat w0 F0 [hown 59 s_A s_C s_1] w' := by
  obtain ⟨hlen, h⟩ := h
  refine Calls.mono (sortFunc_run (α := Through) (P := Try.prog) Try.laysSlsf6_101 Try.isAgg59 Try.sizeOf59 cmpSpans swo_cmpSpans 102 (enters_of Try.func102 (by kernel_rfl) rfl) (fun x y w => C_compareSpans x y w) hs0 hlen) ?_
  rintro e w' ⟨v, rfl, rfl, ys, hp, hq, hs⟩
  exact ⟨_, rfl, ys, hp.length_eq, rfl, h ys hp hq, hs⟩

set_option linter.unusedVariables false
def M_stack_lies (a_ : Through) (b : Through) (Q : Bool → Prop) : Prop :=
  cnd (decide (a_.From ≥ b.From)) (Q (decide (a_.To ≤ b.To))) (Q false)
set_option maxHeartbeats 1000000 in
theorem R_stack_lies (a_ : Through) (b : Through) (w0 : World)  (Q : Bool → Prop) (h : M_stack_lies a_ b Q) :
    Ret Try.prog 82 #[.agg #[.int .i64 a_.From, .int .i64 a_.To], .agg #[.int .i64 b.From, .int .i64 b.To]] w0 fun v w' => ∃ (r0 : Bool), v = .bool r0 ∧ Q r0 ∧ Sat w0 none_ [] w' := by
  refine fn_enter Try.func82 rfl Try.ntmps82 rfl (fs := [(0, .agg #[.int .i64 a_.From, .int .i64 a_.To]), (1, .agg #[.int .i64 b.From, .int .i64 b.To])]) rfl (fun a hf => ?_)
  have hs := Sat.start w0 none_
  unfold M_stack_lies at h
  refine wp_seq ?_
  refine R.list ?_
  refine S.box hf hs rfl rfl rfl [.int .i64 a_.From, .int .i64 a_.To] rfl rfl rfl (fun g1 a w hf hs => ?_)
  refine S.box hf hs rfl rfl rfl [.int .i64 b.From, .int .i64 b.To] rfl rfl rfl (fun g2 a w hf hs => ?_)
  refine S.val hf hs (v := .bool false) rfl rfl rfl (V.pure rfl) (fun a hf => ?_)
  refine R.nil ?_
  refine X.then_ ?_
  refine wp_seq ?_
  refine R.list ?_
  refine S.val hf hs (v := .pointer (some ⟨g1, 0, none⟩)) rfl rfl rfl (V.fieldBox rfl rfl Try.runUnderlying59 rfl Try.sizeOf3 rfl rfl) (fun a hf => ?_)
  refine S.val hf hs (v := .int .i64 a_.From) rfl rfl rfl (V.loadBox 1 rfl rfl rfl Try.isAgg3 Try.sizeOf3 rfl rfl) (fun a hf => ?_)
  refine S.val hf hs (v := .pointer (some ⟨g2, 0, none⟩)) rfl rfl rfl (V.fieldBox rfl rfl Try.runUnderlying59 rfl Try.sizeOf3 rfl rfl) (fun a hf => ?_)
  refine S.val hf hs (v := .int .i64 b.From) rfl rfl rfl (V.loadBox 0 rfl rfl rfl Try.isAgg3 Try.sizeOf3 rfl rfl) (fun a hf => ?_)
  refine S.val hf hs (v := .bool (decide (a_.From ≥ b.From))) rfl rfl rfl (V.pure rfl) (fun a hf => ?_)
  refine S.split hf hs (b := decide (a_.From ≥ b.From)) rfl rfl rfl (V.pure rfl) (fun hc a hf => ?_) (fun hc a hf => ?_)
  · replace h := h.1 hc
    refine S.val hf hs (v := .pointer (some ⟨g1, 1, none⟩)) rfl rfl rfl (V.fieldBox rfl rfl Try.runUnderlying59 rfl Try.sizeOf3 rfl rfl) (fun a hf => ?_)
    refine S.val hf hs (v := .int .i64 a_.To) rfl rfl rfl (V.loadBox 1 rfl rfl rfl Try.isAgg3 Try.sizeOf3 rfl rfl) (fun a hf => ?_)
    refine S.val hf hs (v := .pointer (some ⟨g2, 1, none⟩)) rfl rfl rfl (V.fieldBox rfl rfl Try.runUnderlying59 rfl Try.sizeOf3 rfl rfl) (fun a hf => ?_)
    refine S.val hf hs (v := .int .i64 b.To) rfl rfl rfl (V.loadBox 0 rfl rfl rfl Try.isAgg3 Try.sizeOf3 rfl rfl) (fun a hf => ?_)
    refine S.val hf hs (v := .bool (decide (a_.To ≤ b.To))) rfl rfl rfl (V.pure rfl) (fun a hf => ?_)
    refine S.val hf hs (v := .bool (decide (a_.To ≤ b.To))) rfl rfl rfl (V.pure rfl) (fun a hf => ?_)
    refine S.val hf hs (v := .bool (decide (a_.To ≤ b.To))) rfl rfl rfl (V.pure rfl) (fun a hf => ?_)
    refine R.nil ?_
    refine X.then_ ?_
    refine wp_ret ?_
    exact L.ret hf (run_results1 Try.results82 (ResIs.tmp hf rfl)) ⟨(decide (a_.To ≤ b.To)), rfl, h, hs.nil⟩
  · replace h := h.2 hc
    refine S.skip hf rfl rfl rfl (fun a hf => ?_)
    refine S.skip hf rfl rfl rfl (fun a hf => ?_)
    refine S.skip hf rfl rfl rfl (fun a hf => ?_)
    refine S.skip hf rfl rfl rfl (fun a hf => ?_)
    refine S.skip hf rfl rfl rfl (fun a hf => ?_)
    refine S.val hf hs (v := .bool false) rfl rfl rfl (V.pure rfl) (fun a hf => ?_)
    refine S.val hf hs (v := .bool false) rfl rfl rfl (V.pure rfl) (fun a hf => ?_)
    refine R.nil ?_
    refine X.then_ ?_
    refine wp_ret ?_
    exact L.ret hf (run_results1 Try.results82 (ResIs.tmp hf rfl)) ⟨false, rfl, h, hs.nil⟩

set_option linter.unusedVariables false
def M_stack_cores_L1 (m : (List Material)) (k1 : Nat) (xk1 : Layer) (l2 : List Through) (n2 : Int) (next1 : List Through → Int → Prop) : Prop :=
  M_stack_kindOf m xk1 fun y1 => cnd (y1 == 1) (next1 l2 (w64 (n2 + 1))) (cnd (y1 == 2) (must (room (l2 ++ [(⟨n2, w64 (n2 + 1)⟩ : Through)]).length 16) (next1 (l2 ++ [(⟨n2, w64 (n2 + 1)⟩ : Through)]) n2)) (next1 l2 n2))
def M_stack_cores (m : (List Material)) (s_ : (List Layer)) (Q : (List Through) → Prop) : Prop :=
  forIn' (fun k x (s : List Through × Int) next => M_stack_cores_L1 m k x s.1 s.2 (fun l2 n2 => next (l2, n2))) (fun (s : List Through × Int) => (fun (l2 : List Through) (n2 : Int) => Q l2) s.1 s.2) s_ 0 (([] : List Through), 0)
set_option maxHeartbeats 1000000 in
theorem R_stack_cores (m : (List Material)) (s_ : (List Layer)) (w0 : World) (mA : Option Addr) (mC : Nat) (hv_m : View w0 (old w0 none_) mA mC m) (s_A : Option Addr) (s_C : Nat) (hv_s_ : View w0 (old w0 none_) s_A s_C s_) (Q : (List Through) → Prop) (h : M_stack_cores m s_ Q) :
    Ret Try.prog 99 #[.slice mA m.length mC, .slice s_A s_.length s_C] w0 fun v w' => ∃ (r0 : (List Through)) (r0A : Option Addr) (r0C : Nat), v = .slice r0A r0.length r0C ∧ Q r0 ∧ Sat w0 none_ [hown 59 r0A r0C r0] w' := by
  refine fn_enter Try.func99 rfl Try.ntmps99 rfl (fs := [(0, .slice mA m.length mC), (1, .slice s_A s_.length s_C)]) rfl (fun a hf => ?_)
  have hs := Sat.start w0 none_
  unfold M_stack_cores at h
  refine wp_seq ?_
  refine R.list ?_
  refine S.val hf hs (v := .slice none 0 0) rfl rfl rfl (V.pure rfl) (fun a hf => ?_)
  refine R.nil ?_
  refine X.then_ ?_
  refine wp_seq ?_
  refine R.list ?_
  refine S.val hf hs (v := .slice none 0 0) rfl rfl rfl (V.pure rfl) (fun a hf => ?_)
  refine R.nil ?_
  refine X.then_ ?_
  refine wp_seq ?_
  refine R.list ?_
  refine S.val hf hs (v := .int .i64 0) rfl rfl rfl (V.pure rfl) (fun a hf => ?_)
  refine R.nil ?_
  refine X.then_ ?_
  refine wp_seq ?_
  refine wp_seq ?_
  refine R.list ?_
  refine S.val hf hs (v := .slice s_A s_.length s_C) rfl rfl rfl (V.pure rfl) (fun a hf => ?_)
  refine S.val hf hs (v := .int .i64 (s_.length : Int)) rfl rfl rfl (V.len rfl rfl Try.runUnderlying23) (fun a hf => ?_)
  refine S.val hf hs (v := .int .i64 0) rfl rfl rfl (V.pure rfl) (fun a hf => ?_)
  refine R.nil ?_
  refine X.then_ ?_
  refine wp_block ?_
  replace hs := hs.nilOwn (α := Through) 59
  have hlenk1 := hv_s_.len64
  refine C.range (fun (ll : List Layer) a w => ∃ (k1 : Nat) (l2 : List Through) (l2A : Option Addr) (l2C : Nat) (n2 : Int), s_.drop k1 = ll ∧ k1 + ll.length = s_.length ∧ forIn' (fun k x (s : List Through × Int) next => M_stack_cores_L1 m k x s.1 s.2 (fun l2 n2 => next (l2, n2))) (fun (s : List Through × Int) => (fun (l2 : List Through) (n2 : Int) => Q l2) s.1 s.2) ll k1 (l2, n2) ∧ FrOk 33 [(11, .int .i64 (k1 : Int)), (0, .slice mA m.length mC), (5, .slice l2A l2.length l2C), (6, .int .i64 n2), (9, .slice s_A s_.length s_C), (10, .int .i64 (s_.length : Int))] a ∧ Sat w0 none_ [hown 59 l2A l2C l2] w) s_ ⟨0, ([] : List Through), none, 0, 0, rfl, Nat.zero_add _, h, ((((((hf.nil.cons (hf.get 10 _ rfl)).cons (hf.get 9 _ rfl)).cons (hf.get 6 _ rfl)).cons (hf.get 5 _ rfl)).cons (hf.get 0 _ rfl)).cons (hf.get 11 _ rfl)), hs⟩ ?_
  clear h hf hs
  rintro llk1 a w ⟨k1, l2, l2A, l2C, n2, hlk1, hkk1, h, hf, hs⟩
  cases llk1 with
  | nil =>
    have hc := range_done hkk1
    replace h : (fun (l2 : List Through) (n2 : Int) => Q l2) l2 n2 := h
    refine wp_seq ?_
    refine R.list ?_
    refine S.val hf hs (v := .bool false) rfl rfl rfl (V.cmp false rfl rfl rfl rfl hc) (fun a hf => ?_)
    refine R.nil ?_
    refine X.then_ ?_
    refine wp_seq ?_
    refine C.no hf rfl ?_
    refine wp_exit ?_
    refine X.then_exit ?_
    refine X.then_exit ?_
    refine X.blk_exit ?_
    refine X.then_ ?_
    refine wp_seq ?_
    refine R.list ?_
    refine S.val hf hs (v := .slice l2A l2.length l2C) rfl rfl rfl (V.pure rfl) (fun a hf => ?_)
    refine S.val hf hs (v := .slice l2A l2.length l2C) rfl rfl rfl (V.pure rfl) (fun a hf => ?_)
    refine R.nil ?_
    refine X.then_ ?_
    refine wp_ret ?_
    replace hs := hs.take 1
    exact L.ret hf (run_results1 Try.results99 (ResIs.tmp hf rfl)) ⟨l2, l2A, l2C, rfl, h, hs⟩
  | cons xk1 llk1 =>
    have hltk1 := range_lt hkk1; have hc := range_go hkk1; have hxk1 := range_get hlk1
    obtain ⟨next1, hnext1⟩ : ∃ X : List Through → Int → Prop, X = (fun l2 n2 => forIn' (fun k x (s : List Through × Int) next => M_stack_cores_L1 m k x s.1 s.2 (fun l2 n2 => next (l2, n2))) (fun (s : List Through × Int) => (fun (l2 : List Through) (n2 : Int) => Q l2) s.1 s.2) llk1 (k1 + 1) (l2, n2)) := ⟨_, rfl⟩
    replace h : M_stack_cores_L1 m k1 xk1 l2 n2 next1 := by rw [hnext1]; exact h
    unfold M_stack_cores_L1 at h
    refine wp_seq ?_
    refine R.list ?_
    refine S.val hf hs (v := .bool true) rfl rfl rfl (V.cmp true rfl rfl rfl rfl hc) (fun a hf => ?_)
    refine R.nil ?_
    refine X.then_ ?_
    refine wp_seq ?_
    refine C.yes hf rfl ?_
    refine wp_skip ?_
    refine X.then_ ?_
    refine wp_seq ?_
    refine wp_block ?_
    refine wp_seq ?_
    refine R.list ?_
    refine S.val hf hs (v := elemPtr s_A (k1 * 2)) rfl rfl rfl (V.index rfl rfl rfl Try.runUnderlying23 Try.sizeOf35 (hv_s_.some_ (lt_of_get hxk1)) (Int.natCast_nonneg _) (lt_of_get hxk1) rfl) (fun a hf => ?_)
    refine S.val hf hs (v := .agg #[.string (ba xk1.Name), .string (ba xk1.Material)]) rfl rfl rfl (V.loadEl (off := 0) (Ag.args _ _ _) (hv_s_.flat hxk1) rfl rfl rfl Try.isAgg35 Try.sizeOf35 rfl rfl) (fun a hf => ?_)
    refine S.alloc hf hs rfl rfl rfl [.string (ba []), .string (ba [])] rfl Try.zeroValue35 rfl (fun g1 a w hf hs => ?_)
    refine S.storeBox 0 hf hs rfl rfl [.string (ba xk1.Name), .string (ba xk1.Material)] [.string (ba xk1.Name), .string (ba xk1.Material)] rfl rfl rfl rfl rfl Try.sizeOf35 rfl rfl rfl rfl (fun a w hf hs => ?_)
    refine R.nil ?_
    refine X.then_ ?_
    refine wp_seq ?_
    refine R.list ?_
    refine S.val hf hs (v := .slice mA m.length mC) rfl rfl rfl (V.pure rfl) (fun a hf => ?_)
    refine S.val hf hs (v := .agg #[.string (ba xk1.Name), .string (ba xk1.Material)]) rfl rfl rfl (V.loadBox 0 rfl rfl rfl Try.isAgg35 Try.sizeOf35 rfl rfl) (fun a hf => ?_)
    refine S.call hf rfl rfl rfl (call_fn (vs := [.slice mA m.length mC, .agg #[.string (ba xk1.Name), .string (ba xk1.Material)]]) rfl rfl rfl Try.call62) (R_stack_kindOf m xk1 _ mA mC ((Ag.args _ _ _).view hv_m hs) _ h) (fun v a w' hf hr => ?_)
    obtain ⟨y1, rfl, h2, hs2⟩ := hr
    replace h := h2; replace hs := hs.call hs2; clear h2 hs2
    refine R.nil ?_
    refine X.then_ ?_
    refine wp_block ?_
    refine wp_seq ?_
    refine R.list ?_
    refine S.val hf hs (v := .bool (y1 == 1)) rfl rfl rfl (V.pure rfl) (fun a hf => ?_)
    refine S.val hf hs (v := .bool (y1 == 1)) rfl rfl rfl (V.pure rfl) (fun a hf => ?_)
    refine R.nil ?_
    refine X.then_ ?_
    refine C.cond hf (b := y1 == 1) rfl (fun hc => ?_) (fun hc => ?_)
    · replace h := h.1 hc
      refine R.list ?_
      refine S.val hf hs (v := .int .i64 n2) rfl rfl rfl (V.pure rfl) (fun a hf => ?_)
      refine S.val hf hs (v := .int .i64 (w64 (n2 + 1))) rfl rfl rfl (V.pure rfl) (fun a hf => ?_)
      refine S.val hf hs (v := .int .i64 (w64 (n2 + 1))) rfl rfl rfl (V.pure rfl) (fun a hf => ?_)
      refine R.nil ?_
      refine X.blk ?_
      refine X.blk ?_
      refine X.then_ ?_
      refine R.list ?_
      refine S.val hf hs (v := .int .i64 ((k1 + 1 : Nat) : Int)) rfl rfl rfl (V.incr rfl rfl rfl hltk1 hlenk1) (fun a hf => ?_)
      refine S.val hf hs (v := .int .i64 ((k1 + 1 : Nat) : Int)) rfl rfl rfl (V.pure rfl) (fun a hf => ?_)
      refine R.nil ?_
      refine X.then_ ?_
      exact ⟨xk1, llk1, rfl, k1 + 1, l2, l2A, l2C, (w64 (n2 + 1)), range_drop hlk1, range_len hkk1, (by rw [hnext1] at h; exact h), ((((((hf.nil.cons (hf.get 10 _ rfl)).cons (hf.get 9 _ rfl)).cons (hf.get 6 _ rfl)).cons (hf.get 5 _ rfl)).cons (hf.get 0 _ rfl)).cons (hf.get 11 _ rfl)), hs.drop⟩
    · replace h := h.2 hc
      refine wp_seq ?_
      refine R.list ?_
      refine S.val hf hs (v := .bool (y1 == 2)) rfl rfl rfl (V.pure rfl) (fun a hf => ?_)
      refine S.val hf hs (v := .bool (y1 == 2)) rfl rfl rfl (V.pure rfl) (fun a hf => ?_)
      refine R.nil ?_
      refine X.then_ ?_
      refine C.cond hf (b := y1 == 2) rfl (fun hc => ?_) (fun hc => ?_)
      · replace h := h.1 hc
        refine R.list ?_
        refine S.val hf hs (v := .slice l2A l2.length l2C) rfl rfl rfl (V.pure rfl) (fun a hf => ?_)
        refine S.val hf hs (v := .int .i64 n2) rfl rfl rfl (V.pure rfl) (fun a hf => ?_)
        refine S.val hf hs (v := .int .i64 n2) rfl rfl rfl (V.pure rfl) (fun a hf => ?_)
        refine S.val hf hs (v := .int .i64 (w64 (n2 + 1))) rfl rfl rfl (V.pure rfl) (fun a hf => ?_)
        refine S.val hf hs (v := .agg #[.int .i64 n2, .int .i64 (w64 (n2 + 1))]) rfl rfl rfl (V.build (places := #[(0, 1), (1, 1)]) rfl Try.zeroValue59 Try.runUnderlying59 (by intro w; simp [Try.sizeOf3]) rfl rfl) (fun a hf => ?_)
        refine S.build1 hf hs rfl rfl rfl (α := Through) (⟨n2, w64 (n2 + 1)⟩ : Through) rfl rfl rfl Try.runUnderlying52 Try.sizeOf59 Try.zeroValue59 rfl (by decide) (fun A1 a w hf hs => ?_)
        obtain ⟨hroom, h⟩ := h
        refine S.appendCells 2 hf hs rfl rfl rfl rfl rfl rfl rfl Try.underlying52 info59 rfl hroom ((hs.ownView 0 rfl).some_ (i := 0) (by simp)) (hs.ownView 0 rfl) (fun A2 C1 a w hf hs => ?_)
        replace hs := hs.drop
        refine S.val hf hs (v := .slice A2 (l2 ++ [(⟨n2, w64 (n2 + 1)⟩ : Through)]).length C1) rfl rfl rfl (V.pure rfl) (fun a hf => ?_)
        refine R.nil ?_
        refine X.blk ?_
        refine X.blk ?_
        refine X.then_ ?_
        refine R.list ?_
        refine S.val hf hs (v := .int .i64 ((k1 + 1 : Nat) : Int)) rfl rfl rfl (V.incr rfl rfl rfl hltk1 hlenk1) (fun a hf => ?_)
        refine S.val hf hs (v := .int .i64 ((k1 + 1 : Nat) : Int)) rfl rfl rfl (V.pure rfl) (fun a hf => ?_)
        refine R.nil ?_
        refine X.then_ ?_
        exact ⟨xk1, llk1, rfl, k1 + 1, (l2 ++ [(⟨n2, w64 (n2 + 1)⟩ : Through)]), A2, C1, n2, range_drop hlk1, range_len hkk1, (by rw [hnext1] at h; exact h), ((((((hf.nil.cons (hf.get 10 _ rfl)).cons (hf.get 9 _ rfl)).cons (hf.get 6 _ rfl)).cons (hf.get 5 _ rfl)).cons (hf.get 0 _ rfl)).cons (hf.get 11 _ rfl)), hs.drop⟩
      · replace h := h.2 hc
        refine wp_skip ?_
        refine X.blk ?_
        refine X.blk ?_
        refine X.then_ ?_
        refine R.list ?_
        refine S.val hf hs (v := .int .i64 ((k1 + 1 : Nat) : Int)) rfl rfl rfl (V.incr rfl rfl rfl hltk1 hlenk1) (fun a hf => ?_)
        refine S.val hf hs (v := .int .i64 ((k1 + 1 : Nat) : Int)) rfl rfl rfl (V.pure rfl) (fun a hf => ?_)
        refine R.nil ?_
        refine X.then_ ?_
        exact ⟨xk1, llk1, rfl, k1 + 1, l2, l2A, l2C, n2, range_drop hlk1, range_len hkk1, (by rw [hnext1] at h; exact h), ((((((hf.nil.cons (hf.get 10 _ rfl)).cons (hf.get 9 _ rfl)).cons (hf.get 6 _ rfl)).cons (hf.get 5 _ rfl)).cons (hf.get 0 _ rfl)).cons (hf.get 11 _ rfl)), hs.drop⟩

set_option linter.unusedVariables false
def M_index_thr_L1 (v_ : Through) (Q : Int → Prop) (k1 : Nat) (xk1 : Through)  (next1 : Prop) : Prop :=
  cnd (decide (v_ = xk1)) (Q (k1 : Int)) (next1)
def M_index_thr (s_ : (List Through)) (v_ : Through) (Q : Int → Prop) : Prop :=
  forIn' (fun k x (s : Unit) next => M_index_thr_L1 v_ Q k x (next ())) (fun (s : Unit) => Q (-1)) s_ 0 ()
set_option maxHeartbeats 1000000 in
theorem R_index_thr (s_ : (List Through)) (v_ : Through) (w0 : World) (s_A : Option Addr) (s_C : Nat) (hv_s_ : View w0 (old w0 none_) s_A s_C s_) (Q : Int → Prop) (h : M_index_thr s_ v_ Q) :
    Ret Try.prog 112 #[.slice s_A s_.length s_C, .agg #[.int .i64 v_.From, .int .i64 v_.To]] w0 fun v w' => ∃ (r0 : Int), v = .int .i64 r0 ∧ Q r0 ∧ Sat w0 none_ [] w' := by
  refine fn_enter Try.func112 rfl Try.ntmps112 rfl (fs := [(0, .slice s_A s_.length s_C), (1, .agg #[.int .i64 v_.From, .int .i64 v_.To])]) rfl (fun a hf => ?_)
  have hs := Sat.start w0 none_
  unfold M_index_thr at h
  refine wp_seq ?_
  refine R.list ?_
  refine S.box hf hs rfl rfl rfl [.int .i64 v_.From, .int .i64 v_.To] rfl rfl rfl (fun g1 a w hf hs => ?_)
  refine S.val hf hs (v := .int .i64 0) rfl rfl rfl (V.pure rfl) (fun a hf => ?_)
  refine R.nil ?_
  refine X.then_ ?_
  refine wp_seq ?_
  refine wp_seq ?_
  refine R.list ?_
  refine S.val hf hs (v := .slice s_A s_.length s_C) rfl rfl rfl (V.pure rfl) (fun a hf => ?_)
  refine S.val hf hs (v := .int .i64 (s_.length : Int)) rfl rfl rfl (V.len rfl rfl Try.runUnderlying52) (fun a hf => ?_)
  refine S.val hf hs (v := .int .i64 0) rfl rfl rfl (V.pure rfl) (fun a hf => ?_)
  refine R.nil ?_
  refine X.then_ ?_
  refine wp_block ?_
  have hlenk1 := hv_s_.len64
  refine C.range (fun (ll : List Through) a w => ∃ (k1 : Nat) , s_.drop k1 = ll ∧ k1 + ll.length = s_.length ∧ forIn' (fun k x (s : Unit) next => M_index_thr_L1 v_ Q k x (next ())) (fun (s : Unit) => Q (-1)) ll k1 () ∧ FrOk 19 [(8, .int .i64 (k1 : Int)), (0, .slice s_A s_.length s_C), (3, .pointer (some ⟨g1, 0, none⟩)), (7, .int .i64 (s_.length : Int))] a ∧ Sat w0 none_ [hbox g1 59 [.int .i64 v_.From, .int .i64 v_.To]] w) s_ ⟨0, rfl, Nat.zero_add _, h, ((((hf.nil.cons (hf.get 7 _ rfl)).cons (hf.get 3 _ rfl)).cons (hf.get 0 _ rfl)).cons (hf.get 8 _ rfl)), hs⟩ ?_
  clear h hf hs
  rintro llk1 a w ⟨k1, hlk1, hkk1, h, hf, hs⟩
  cases llk1 with
  | nil =>
    have hc := range_done hkk1
    replace h : Q (-1) := h
    refine wp_seq ?_
    refine R.list ?_
    refine S.val hf hs (v := .bool false) rfl rfl rfl (V.cmp false rfl rfl rfl rfl hc) (fun a hf => ?_)
    refine R.nil ?_
    refine X.then_ ?_
    refine wp_seq ?_
    refine C.no hf rfl ?_
    refine wp_exit ?_
    refine X.then_exit ?_
    refine X.then_exit ?_
    refine X.blk_exit ?_
    refine X.then_ ?_
    refine wp_seq ?_
    refine R.list ?_
    refine S.val hf hs (v := .int .i64 (-1)) rfl rfl rfl (V.pure rfl) (fun a hf => ?_)
    refine R.nil ?_
    refine X.then_ ?_
    refine wp_ret ?_
    exact L.ret hf (run_results1 Try.results112 (ResIs.tmp hf rfl)) ⟨(-1), rfl, h, hs.nil⟩
  | cons xk1 llk1 =>
    have hltk1 := range_lt hkk1; have hc := range_go hkk1; have hxk1 := range_get hlk1
    obtain ⟨next1, hnext1⟩ : ∃ X : Prop, X = (forIn' (fun k x (s : Unit) next => M_index_thr_L1 v_ Q k x (next ())) (fun (s : Unit) => Q (-1)) llk1 (k1 + 1) ()) := ⟨_, rfl⟩
    replace h : M_index_thr_L1 v_ Q k1 xk1  next1 := by rw [hnext1]; exact h
    unfold M_index_thr_L1 at h
    refine wp_seq ?_
    refine R.list ?_
    refine S.val hf hs (v := .bool true) rfl rfl rfl (V.cmp true rfl rfl rfl rfl hc) (fun a hf => ?_)
    refine R.nil ?_
    refine X.then_ ?_
    refine wp_seq ?_
    refine C.yes hf rfl ?_
    refine wp_skip ?_
    refine X.then_ ?_
    refine wp_seq ?_
    refine wp_block ?_
    refine wp_seq ?_
    refine R.list ?_
    refine S.val hf hs (v := .int .i64 (k1 : Int)) rfl rfl rfl (V.pure rfl) (fun a hf => ?_)
    refine S.val hf hs (v := .int .i64 (k1 : Int)) rfl rfl rfl (V.pure rfl) (fun a hf => ?_)
    refine R.nil ?_
    refine X.then_ ?_
    refine wp_seq ?_
    refine R.draw mo (by kernel_rfl) hs ?_
    refine D.val hf (v := .agg #[.int .i64 v_.From, .int .i64 v_.To]) rfl rfl rfl (V.loadBox 0 rfl rfl rfl Try.isAgg59 Try.sizeOf59 rfl rfl) (fun a hf => ?_)
    refine D.val hf (v := .slice s_A s_.length s_C) rfl rfl rfl (V.pure rfl) (fun a hf => ?_)
    refine D.val hf (v := .int .i64 (k1 : Int)) rfl rfl rfl (V.pure rfl) (fun a hf => ?_)
    refine D.val hf (v := elemPtr s_A (k1 * 2)) rfl rfl rfl (V.index rfl rfl rfl Try.runUnderlying52 Try.sizeOf59 (hv_s_.some_ (lt_of_get hxk1)) (Int.natCast_nonneg _) (lt_of_get hxk1) rfl) (fun a hf => ?_)
    refine D.val hf (v := .agg #[.int .i64 xk1.From, .int .i64 xk1.To]) rfl rfl rfl (V.loadEl (off := 0) (Ag.args _ _ _) (hv_s_.flat hxk1) rfl rfl rfl Try.isAgg59 Try.sizeOf59 rfl rfl) (fun a hf => ?_)
    refine D.val hf (v := .bool (decide (v_ = xk1))) rfl rfl rfl (V.aggeql rfl rfl rfl (by kernel_rfl) (fun w => eqS59 v_ xk1 w)) (fun a hf => ?_)
    refine D.done (fun w hs => ?_)
    refine X.then_ ?_
    refine C.cond hf (b := decide (v_ = xk1)) rfl (fun hc => ?_) (fun hc => ?_)
    · replace h := h.1 hc
      refine wp_seq ?_
      refine R.list ?_
      refine S.val hf hs (v := .int .i64 (k1 : Int)) rfl rfl rfl (V.pure rfl) (fun a hf => ?_)
      refine S.val hf hs (v := .int .i64 (k1 : Int)) rfl rfl rfl (V.pure rfl) (fun a hf => ?_)
      refine R.nil ?_
      refine X.then_ ?_
      refine wp_ret ?_
      refine X.blk_ret ?_
      refine X.then_ret ?_
      refine X.then_ret ?_
      refine X.blk_ret ?_
      refine X.then_ret ?_
      exact L.ret hf (run_results1 Try.results112 (ResIs.tmp hf rfl)) ⟨(k1 : Int), rfl, h, hs.nil⟩
    · replace h := h.2 hc
      refine wp_skip ?_
      refine X.blk ?_
      refine X.then_ ?_
      refine R.list ?_
      refine S.val hf hs (v := .int .i64 ((k1 + 1 : Nat) : Int)) rfl rfl rfl (V.incr rfl rfl rfl hltk1 hlenk1) (fun a hf => ?_)
      refine S.val hf hs (v := .int .i64 ((k1 + 1 : Nat) : Int)) rfl rfl rfl (V.pure rfl) (fun a hf => ?_)
      refine R.nil ?_
      refine X.then_ ?_
      exact ⟨xk1, llk1, rfl, k1 + 1, range_drop hlk1, range_len hkk1, (by rw [hnext1] at h; exact h), ((((hf.nil.cons (hf.get 7 _ rfl)).cons (hf.get 3 _ rfl)).cons (hf.get 0 _ rfl)).cons (hf.get 8 _ rfl)), hs⟩

set_option linter.unusedVariables false
def M_contains_thr (s_ : (List Through)) (v_ : Through) (Q : Bool → Prop) : Prop :=
  M_index_thr s_ v_ fun y1 => Q (decide (y1 ≥ 0))
set_option maxHeartbeats 1000000 in
theorem R_contains_thr (s_ : (List Through)) (v_ : Through) (w0 : World) (s_A : Option Addr) (s_C : Nat) (hv_s_ : View w0 (old w0 none_) s_A s_C s_) (Q : Bool → Prop) (h : M_contains_thr s_ v_ Q) :
    Ret Try.prog 100 #[.slice s_A s_.length s_C, .agg #[.int .i64 v_.From, .int .i64 v_.To]] w0 fun v w' => ∃ (r0 : Bool), v = .bool r0 ∧ Q r0 ∧ Sat w0 none_ [] w' := by
  refine fn_enter Try.func100 rfl Try.ntmps100 rfl (fs := [(0, .slice s_A s_.length s_C), (1, .agg #[.int .i64 v_.From, .int .i64 v_.To])]) rfl (fun a hf => ?_)
  have hs := Sat.start w0 none_
  unfold M_contains_thr at h
  refine wp_seq ?_
  refine R.list ?_
  refine S.box hf hs rfl rfl rfl [.int .i64 v_.From, .int .i64 v_.To] rfl rfl rfl (fun g1 a w hf hs => ?_)
  refine S.val hf hs (v := .bool false) rfl rfl rfl (V.pure rfl) (fun a hf => ?_)
  refine R.nil ?_
  refine X.then_ ?_
  refine wp_seq ?_
  refine R.list ?_
  refine S.val hf hs (v := .slice s_A s_.length s_C) rfl rfl rfl (V.pure rfl) (fun a hf => ?_)
  refine S.val hf hs (v := .agg #[.int .i64 v_.From, .int .i64 v_.To]) rfl rfl rfl (V.loadBox 0 rfl rfl rfl Try.isAgg59 Try.sizeOf59 rfl rfl) (fun a hf => ?_)
  refine S.call hf rfl rfl rfl (call_fn (vs := [.slice s_A s_.length s_C, .agg #[.int .i64 v_.From, .int .i64 v_.To]]) rfl rfl rfl Try.call112) (R_index_thr s_ v_ _ s_A s_C ((Ag.args _ _ _).view hv_s_ hs) _ h) (fun v a w' hf hr => ?_)
  obtain ⟨y1, rfl, h2, hs2⟩ := hr
  replace h := h2; replace hs := hs.call hs2; clear h2 hs2
  refine S.val hf hs (v := .bool (decide (y1 ≥ 0))) rfl rfl rfl (V.pure rfl) (fun a hf => ?_)
  refine S.val hf hs (v := .bool (decide (y1 ≥ 0))) rfl rfl rfl (V.pure rfl) (fun a hf => ?_)
  refine R.nil ?_
  refine X.then_ ?_
  refine wp_ret ?_
  exact L.ret hf (run_results1 Try.results100 (ResIs.tmp hf rfl)) ⟨(decide (y1 ≥ 0)), rfl, h, hs.nil⟩

set_option linter.unusedVariables false
def M_clone_thr (s_ : (List Through)) (Q : (List Through) → Prop) : Prop :=
  nilq s_ fun b1 => cnd b1 (Q ([] : List Through)) (must (room (([] : List Through) ++ s_).length 16) (Q (([] : List Through) ++ s_)))
set_option maxHeartbeats 1000000 in
theorem R_clone_thr (s_ : (List Through)) (w0 : World) (s_A : Option Addr) (s_C : Nat) (hv_s_ : View w0 (old w0 none_) s_A s_C s_) (Q : (List Through) → Prop) (h : M_clone_thr s_ Q) :
    Ret Try.prog 80 #[.slice s_A s_.length s_C] w0 fun v w' => ∃ (r0 : (List Through)) (r0A : Option Addr) (r0C : Nat), v = .slice r0A r0.length r0C ∧ Q r0 ∧ Sat w0 none_ [hown 59 r0A r0C r0] w' := by
  refine fn_enter Try.func80 rfl Try.ntmps80 rfl (fs := [(0, .slice s_A s_.length s_C)]) rfl (fun a hf => ?_)
  have hs := Sat.start w0 none_
  unfold M_clone_thr at h
  refine wp_seq ?_
  refine R.list ?_
  refine S.val hf hs (v := .slice none 0 0) rfl rfl rfl (V.pure rfl) (fun a hf => ?_)
  refine R.nil ?_
  refine X.then_ ?_
  refine wp_seq ?_
  refine wp_seq ?_
  refine R.list ?_
  refine S.val hf hs (v := .slice s_A s_.length s_C) rfl rfl rfl (V.pure rfl) (fun a hf => ?_)
  obtain ⟨b1, hb1⟩ : ∃ b : Bool, b = Option.isNone s_A := ⟨_, rfl⟩
  replace h := h b1 (fun e => ((Ag.args _ _ _).view hv_s_ hs).nil_of (hb1.symm.trans e))
  refine S.val hf hs (v := .bool b1) rfl rfl rfl (V.eqNil b1 rfl rfl rfl Try.underlying52 (by kernel_rfl) hb1) (fun a hf => ?_)
  refine R.nil ?_
  refine X.then_ ?_
  refine C.cond hf (b := b1) rfl (fun hc => ?_) (fun hc => ?_)
  · replace h := h.1 hc
    refine wp_seq ?_
    refine R.list ?_
    refine S.val hf hs (v := .slice none 0 0) rfl rfl rfl (V.pure rfl) (fun a hf => ?_)
    refine R.nil ?_
    refine X.then_ ?_
    refine wp_ret ?_
    refine X.then_ret ?_
    replace hs := hs.nilOwn (α := Through) 59
    replace hs := hs.take 1
    exact L.ret hf (run_results1 Try.results80 (ResIs.tmp hf rfl)) ⟨([] : List Through), none, 0, rfl, h, hs⟩
  · replace h := h.2 hc
    refine wp_skip ?_
    refine X.then_ ?_
    refine wp_seq ?_
    refine R.list ?_
    refine S.buildEmpty (α := Through) hf hs rfl rfl rfl rfl Try.runUnderlying52 Try.sizeOf59 (fun A1 a w hf hs => ?_)
    refine S.val hf hs (v := .slice s_A s_.length s_C) rfl rfl rfl (V.pure rfl) (fun a hf => ?_)
    obtain ⟨hroom, h⟩ := h
    refine S.appendAny 0 hf hs rfl rfl rfl rfl rfl rfl rfl Try.underlying52 info59 rfl hroom ((Ag.args _ _ _).view hv_s_ hs) (fun A2 C1 a w hf hs => ?_)
    refine S.val hf hs (v := .slice A2 (([] : List Through) ++ s_).length C1) rfl rfl rfl (V.pure rfl) (fun a hf => ?_)
    refine R.nil ?_
    refine X.then_ ?_
    refine wp_ret ?_
    replace hs := hs.take 1
    exact L.ret hf (run_results1 Try.results80 (ResIs.tmp hf rfl)) ⟨(([] : List Through) ++ s_), A2, C1, rfl, h, hs⟩

set_option linter.unusedVariables false
def M_stack_boards_k2 (xk1 : Through) (l2 : List Through) (next1 : List Through → Prop) (c1 : Bool) : Prop :=
  cnd c1 (must (room (l2 ++ [xk1]).length 16) (next1 (l2 ++ [xk1]))) (next1 l2)
def M_stack_boards_L1 (y1 : (List Through)) (k1 : Nat) (xk1 : Through) (l2 : List Through) (next1 : List Through → Prop) : Prop :=
  M_contains_thr y1 xk1 fun y4 => cnd (!y4) (M_contains_thr l2 xk1 fun y5 => M_stack_boards_k2 xk1 l2 next1 (!y5)) (M_stack_boards_k2 xk1 l2 next1 false)
def M_stack_boards (m : (List Material)) (s_ : (List Layer)) (l : (List Through)) (Q : (List Through) → Int → Prop) : Prop :=
  M_stack_cores m s_ fun y1 => M_clone_thr l fun y2 => M_stack_coppers m s_ fun y3 => must (room (y2 ++ [(⟨1, (y3.length : Int)⟩ : Through)]).length 16) (forIn' (fun k x (s : List Through) next => M_stack_boards_L1 y1 k x s (fun l2 => next l2)) (fun (s : List Through) => (fun (l2 : List Through) => M_sortfunc_thr l2 fun z1 => must (room (y1 ++ z1).length 16) (Q (y1 ++ z1) (y1.length : Int))) s) (y2 ++ [(⟨1, (y3.length : Int)⟩ : Through)]) 0 ([] : List Through))
set_option maxHeartbeats 1000000 in
theorem R_stack_boards (m : (List Material)) (s_ : (List Layer)) (l : (List Through)) (w0 : World) (mA : Option Addr) (mC : Nat) (hv_m : View w0 (old w0 none_) mA mC m) (s_A : Option Addr) (s_C : Nat) (hv_s_ : View w0 (old w0 none_) s_A s_C s_) (lA : Option Addr) (lC : Nat) (hv_l : View w0 (old w0 none_) lA lC l) (Q : (List Through) → Int → Prop) (h : M_stack_boards m s_ l Q) :
    Ret Try.prog 76 #[.slice mA m.length mC, .slice s_A s_.length s_C, .slice lA l.length lC] w0 fun v w' => ∃ (r0 : (List Through)) (r0A : Option Addr) (r0C : Nat) (r1 : Int), v = .tuple #[.slice r0A r0.length r0C, .int .i64 r1] ∧ Q r0 r1 ∧ Sat w0 none_ [hown 59 r0A r0C r0] w' := by
  refine fn_enter Try.func76 rfl Try.ntmps76 rfl (fs := [(0, .slice mA m.length mC), (1, .slice s_A s_.length s_C), (2, .slice lA l.length lC)]) rfl (fun a hf => ?_)
  have hs := Sat.start w0 none_
  unfold M_stack_boards at h
  refine wp_seq ?_
  refine R.list ?_
  refine S.val hf hs (v := .slice none 0 0) rfl rfl rfl (V.pure rfl) (fun a hf => ?_)
  refine S.val hf hs (v := .int .i64 0) rfl rfl rfl (V.pure rfl) (fun a hf => ?_)
  refine R.nil ?_
  refine X.then_ ?_
  refine wp_seq ?_
  refine R.list ?_
  refine S.val hf hs (v := .slice mA m.length mC) rfl rfl rfl (V.pure rfl) (fun a hf => ?_)
  refine S.val hf hs (v := .slice s_A s_.length s_C) rfl rfl rfl (V.pure rfl) (fun a hf => ?_)
  refine S.call hf rfl rfl rfl (call_fn (vs := [.slice mA m.length mC, .slice s_A s_.length s_C]) rfl rfl rfl Try.call99) (R_stack_cores m s_ _ mA mC ((Ag.args _ _ _).view hv_m hs) s_A s_C ((Ag.args _ _ _).view hv_s_ hs) _ h) (fun v a w' hf hr => ?_)
  obtain ⟨y1, y1A, y1C, rfl, h2, hs2⟩ := hr
  replace h := h2; replace hs := hs.call hs2; clear h2 hs2
  refine S.val hf hs (v := .slice y1A y1.length y1C) rfl rfl rfl (V.pure rfl) (fun a hf => ?_)
  refine R.nil ?_
  refine X.then_ ?_
  refine wp_seq ?_
  refine R.list ?_
  refine S.val hf hs (v := .slice y1A y1.length y1C) rfl rfl rfl (V.pure rfl) (fun a hf => ?_)
  refine S.val hf hs (v := .int .i64 (y1.length : Int)) rfl rfl rfl (V.len rfl rfl Try.runUnderlying52) (fun a hf => ?_)
  refine S.val hf hs (v := .int .i64 (y1.length : Int)) rfl rfl rfl (V.pure rfl) (fun a hf => ?_)
  refine R.nil ?_
  refine X.then_ ?_
  refine wp_seq ?_
  refine R.list ?_
  refine S.val hf hs (v := .slice none 0 0) rfl rfl rfl (V.pure rfl) (fun a hf => ?_)
  refine R.nil ?_
  refine X.then_ ?_
  refine wp_seq ?_
  refine wp_seq ?_
  refine R.list ?_
  refine S.val hf hs (v := .slice lA l.length lC) rfl rfl rfl (V.pure rfl) (fun a hf => ?_)
  refine S.call hf rfl rfl rfl (call_fn (vs := [.slice lA l.length lC]) rfl rfl rfl Try.call80) (R_clone_thr l _ lA lC ((Ag.args _ _ _).view hv_l hs) _ h) (fun v a w' hf hr => ?_)
  obtain ⟨y2, y2A, y2C, rfl, h2, hs2⟩ := hr
  replace h := h2; replace hs := hs.call hs2; clear h2 hs2
  refine S.val hf hs (v := .slice mA m.length mC) rfl rfl rfl (V.pure rfl) (fun a hf => ?_)
  refine S.val hf hs (v := .slice s_A s_.length s_C) rfl rfl rfl (V.pure rfl) (fun a hf => ?_)
  refine S.call hf rfl rfl rfl (call_fn (vs := [.slice mA m.length mC, .slice s_A s_.length s_C]) rfl rfl rfl Try.call61) (R_stack_coppers m s_ _ mA mC ((Ag.args _ _ _).view hv_m hs) s_A s_C ((Ag.args _ _ _).view hv_s_ hs) _ h) (fun v a w' hf hr => ?_)
  obtain ⟨y3, y3A, y3C, rfl, h2, hs2⟩ := hr
  replace h := h2; replace hs := hs.call hs2; clear h2 hs2
  refine S.val hf hs (v := .int .i64 (y3.length : Int)) rfl rfl rfl (V.len rfl rfl Try.runUnderlying43) (fun a hf => ?_)
  refine S.val hf hs (v := .agg #[.int .i64 1, .int .i64 (y3.length : Int)]) rfl rfl rfl (V.build (places := #[(0, 1), (1, 1)]) rfl Try.zeroValue59 Try.runUnderlying59 (by intro w; simp [Try.sizeOf3]) rfl rfl) (fun a hf => ?_)
  refine S.build1 hf hs rfl rfl rfl (α := Through) (⟨1, (y3.length : Int)⟩ : Through) rfl rfl rfl Try.runUnderlying52 Try.sizeOf59 Try.zeroValue59 rfl (by decide) (fun A1 a w hf hs => ?_)
  obtain ⟨hroom, h⟩ := h
  refine S.appendCells 2 hf hs rfl rfl rfl rfl rfl rfl rfl Try.underlying52 info59 rfl hroom ((hs.ownView 0 rfl).some_ (i := 0) (by simp)) (hs.ownView 0 rfl) (fun A2 C1 a w hf hs => ?_)
  replace hs := hs.drop
  refine S.val hf hs (v := .int .i64 ((y2 ++ [(⟨1, (y3.length : Int)⟩ : Through)]).length : Int)) rfl rfl rfl (V.len rfl rfl Try.runUnderlying52) (fun a hf => ?_)
  refine S.val hf hs (v := .int .i64 0) rfl rfl rfl (V.pure rfl) (fun a hf => ?_)
  refine R.nil ?_
  refine X.then_ ?_
  refine wp_block ?_
  replace hs := hs.nilOwn (α := Through) 59
  have hlenk1 := (hs.ownView 2 rfl).len64
  refine C.range (fun (ll : List Through) a w => ∃ (k1 : Nat) (l2 : List Through) (l2A : Option Addr) (l2C : Nat), (y2 ++ [(⟨1, (y3.length : Int)⟩ : Through)]).drop k1 = ll ∧ k1 + ll.length = (y2 ++ [(⟨1, (y3.length : Int)⟩ : Through)]).length ∧ forIn' (fun k x (s : List Through) next => M_stack_boards_L1 y1 k x s (fun l2 => next l2)) (fun (s : List Through) => (fun (l2 : List Through) => M_sortfunc_thr l2 fun z1 => must (room (y1 ++ z1).length 16) (Q (y1 ++ z1) (y1.length : Int))) s) ll k1 l2 ∧ FrOk 51 [(26, .int .i64 (k1 : Int)), (6, .slice y1A y1.length y1C), (7, .int .i64 (y1.length : Int)), (8, .slice l2A l2.length l2C), (24, .slice A2 (y2 ++ [(⟨1, (y3.length : Int)⟩ : Through)]).length C1), (25, .int .i64 ((y2 ++ [(⟨1, (y3.length : Int)⟩ : Through)]).length : Int))] a ∧ Sat w0 none_ [hown 59 l2A l2C l2, hown 3 y3A y3C y3, hown 59 A2 C1 (y2 ++ [(⟨1, (y3.length : Int)⟩ : Through)]), hown 59 y1A y1C y1] w) (y2 ++ [(⟨1, (y3.length : Int)⟩ : Through)]) ⟨0, ([] : List Through), none, 0, rfl, Nat.zero_add _, h, ((((((hf.nil.cons (hf.get 25 _ rfl)).cons (hf.get 24 _ rfl)).cons (hf.get 8 _ rfl)).cons (hf.get 7 _ rfl)).cons (hf.get 6 _ rfl)).cons (hf.get 26 _ rfl)), hs⟩ ?_
  clear h hf hs
  rintro llk1 a w ⟨k1, l2, l2A, l2C, hlk1, hkk1, h, hf, hs⟩
  cases llk1 with
  | nil =>
    have hc := range_done hkk1
    replace h : (fun (l2 : List Through) => M_sortfunc_thr l2 fun z1 => must (room (y1 ++ z1).length 16) (Q (y1 ++ z1) (y1.length : Int))) l2 := h
    refine wp_seq ?_
    refine R.list ?_
    refine S.val hf hs (v := .bool false) rfl rfl rfl (V.cmp false rfl rfl rfl rfl hc) (fun a hf => ?_)
    refine R.nil ?_
    refine X.then_ ?_
    refine wp_seq ?_
    refine C.no hf rfl ?_
    refine wp_exit ?_
    refine X.then_exit ?_
    refine X.then_exit ?_
    refine X.blk_exit ?_
    refine X.then_ ?_
    refine wp_seq ?_
    refine R.list ?_
    refine S.val hf hs (v := .slice l2A l2.length l2C) rfl rfl rfl (V.pure rfl) (fun a hf => ?_)
    obtain ⟨F1, hsF, hback, hold, hrest⟩ := Sat.callOwns [hown 59 l2A l2C l2] (σ := [hown 3 y3A y3C y3, hown 59 A2 C1 (y2 ++ [(⟨1, (y3.length : Int)⟩ : Through)]), hown 59 y1A y1C y1]) hs
    refine S.call hf rfl rfl rfl (call_fn (vs := [.slice l2A l2.length l2C, .func (.func 102) #[] #[]]) rfl rfl rfl Try.call101) (R_sortfunc_thr l2 _ _ l2A l2C hsF _ h) (fun v a w' hf hr => ?_)
    obtain ⟨z1, hl_z1, rfl, h2, hs2⟩ := hr
    replace h := h2; replace hs := hback _ _ hs2; clear h2 hs2 hback hold hrest hsF
    replace hf := hf.tell 8 (v := .slice l2A z1.length l2C) ((hf.get 8 (.slice l2A l2.length l2C) rfl).trans (congrArg (fun n => Value.slice l2A n l2C) hl_z1.symm))
    replace hf := hf.tell 45 (v := .slice l2A z1.length l2C) ((hf.get 45 (.slice l2A l2.length l2C) rfl).trans (congrArg (fun n => Value.slice l2A n l2C) hl_z1.symm))
    refine R.nil ?_
    refine X.then_ ?_
    refine wp_seq ?_
    refine R.list ?_
    refine S.val hf hs (v := .slice y1A y1.length y1C) rfl rfl rfl (V.pure rfl) (fun a hf => ?_)
    refine S.val hf hs (v := .slice l2A z1.length l2C) rfl rfl rfl (V.pure rfl) (fun a hf => ?_)
    obtain ⟨hroom, h⟩ := h
    refine S.appendAny 3 hf hs rfl rfl rfl rfl rfl rfl rfl Try.underlying52 info59 rfl hroom (hs.ownView 0 rfl) (fun A3 C2 a w hf hs => ?_)
    refine S.val hf hs (v := .int .i64 (y1.length : Int)) rfl rfl rfl (V.pure rfl) (fun a hf => ?_)
    refine S.val hf hs (v := .slice A3 (y1 ++ z1).length C2) rfl rfl rfl (V.pure rfl) (fun a hf => ?_)
    refine S.val hf hs (v := .int .i64 (y1.length : Int)) rfl rfl rfl (V.pure rfl) (fun a hf => ?_)
    refine R.nil ?_
    refine X.then_ ?_
    refine wp_ret ?_
    replace hs := hs.front 3 rfl
    replace hs := hs.take 1
    exact L.ret hf (run_results2 Try.results76 (ResIs.tmp hf rfl) (ResIs.tmp hf rfl)) ⟨(y1 ++ z1), A3, C2, (y1.length : Int), rfl, h, hs⟩
  | cons xk1 llk1 =>
    have hltk1 := range_lt hkk1; have hc := range_go hkk1; have hxk1 := range_get hlk1
    obtain ⟨next1, hnext1⟩ : ∃ X : List Through → Prop, X = (fun l2 => forIn' (fun k x (s : List Through) next => M_stack_boards_L1 y1 k x s (fun l2 => next l2)) (fun (s : List Through) => (fun (l2 : List Through) => M_sortfunc_thr l2 fun z1 => must (room (y1 ++ z1).length 16) (Q (y1 ++ z1) (y1.length : Int))) s) llk1 (k1 + 1) l2) := ⟨_, rfl⟩
    replace h : M_stack_boards_L1 y1 k1 xk1 l2 next1 := by rw [hnext1]; exact h
    unfold M_stack_boards_L1 at h
    refine wp_seq ?_
    refine R.list ?_
    refine S.val hf hs (v := .bool true) rfl rfl rfl (V.cmp true rfl rfl rfl rfl hc) (fun a hf => ?_)
    refine R.nil ?_
    refine X.then_ ?_
    refine wp_seq ?_
    refine C.yes hf rfl ?_
    refine wp_skip ?_
    refine X.then_ ?_
    refine wp_seq ?_
    refine wp_block ?_
    refine wp_seq ?_
    refine R.list ?_
    refine S.val hf hs (v := elemPtr A2 (k1 * 2)) rfl rfl rfl (V.index rfl rfl rfl Try.runUnderlying52 Try.sizeOf59 (hs.ownSome 2 rfl (lt_of_get hxk1)) (Int.natCast_nonneg _) (lt_of_get hxk1) rfl) (fun a hf => ?_)
    refine S.val hf hs (v := .agg #[.int .i64 xk1.From, .int .i64 xk1.To]) rfl rfl rfl (V.loadOwn (off := 0) 2 rfl hxk1 rfl rfl rfl Try.isAgg59 Try.sizeOf59 rfl rfl) (fun a hf => ?_)
    refine S.alloc hf hs rfl rfl rfl [.int .i64 0, .int .i64 0] rfl Try.zeroValue59 rfl (fun g1 a w hf hs => ?_)
    refine S.storeBox 0 hf hs rfl rfl [.int .i64 xk1.From, .int .i64 xk1.To] [.int .i64 xk1.From, .int .i64 xk1.To] rfl rfl rfl rfl rfl Try.sizeOf59 rfl rfl rfl rfl (fun a w hf hs => ?_)
    refine R.nil ?_
    refine X.then_ ?_
    refine wp_seq ?_
    refine C.cut (J := fun a w => ∃ (c1 : Bool), M_stack_boards_k2 xk1 l2 next1 c1 ∧ FrOk 51 [(6, .slice y1A y1.length y1C), (7, .int .i64 (y1.length : Int)), (8, .slice l2A l2.length l2C), (10, .pointer (some ⟨g1, 0, none⟩)), (24, .slice A2 (y2 ++ [(⟨1, (y3.length : Int)⟩ : Through)]).length C1), (25, .int .i64 ((y2 ++ [(⟨1, (y3.length : Int)⟩ : Through)]).length : Int)), (26, .int .i64 (k1 : Int)), (39, .bool c1)] a ∧ Sat w0 none_ [hbox g1 59 [.int .i64 xk1.From, .int .i64 xk1.To], hown 59 l2A l2C l2, hown 3 y3A y3C y3, hown 59 A2 C1 (y2 ++ [(⟨1, (y3.length : Int)⟩ : Through)]), hown 59 y1A y1C y1] w) ?_ ?_
    · rintro a w ⟨c1, h, hf, hs⟩
      unfold M_stack_boards_k2 at h
      refine C.cond hf (b := c1) rfl (fun hc => ?_) (fun hc => ?_)
      · replace h := h.1 hc
        refine R.list ?_
        refine S.val hf hs (v := .slice l2A l2.length l2C) rfl rfl rfl (V.pure rfl) (fun a hf => ?_)
        refine S.val hf hs (v := .agg #[.int .i64 xk1.From, .int .i64 xk1.To]) rfl rfl rfl (V.loadBox 0 rfl rfl rfl Try.isAgg59 Try.sizeOf59 rfl rfl) (fun a hf => ?_)
        refine S.build1 hf hs rfl rfl rfl (α := Through) xk1 rfl rfl rfl Try.runUnderlying52 Try.sizeOf59 Try.zeroValue59 rfl (by decide) (fun A4 a w hf hs => ?_)
        obtain ⟨hroom, h⟩ := h
        refine S.appendCells 2 hf hs rfl rfl rfl rfl rfl rfl rfl Try.underlying52 info59 rfl hroom ((hs.ownView 0 rfl).some_ (i := 0) (by simp)) (hs.ownView 0 rfl) (fun A5 C3 a w hf hs => ?_)
        replace hs := hs.drop
        refine S.val hf hs (v := .slice A5 (l2 ++ [xk1]).length C3) rfl rfl rfl (V.pure rfl) (fun a hf => ?_)
        refine R.nil ?_
        refine X.blk ?_
        refine X.then_ ?_
        refine R.list ?_
        refine S.val hf hs (v := .int .i64 ((k1 + 1 : Nat) : Int)) rfl rfl rfl (V.incr rfl rfl rfl hltk1 hlenk1) (fun a hf => ?_)
        refine S.val hf hs (v := .int .i64 ((k1 + 1 : Nat) : Int)) rfl rfl rfl (V.pure rfl) (fun a hf => ?_)
        refine R.nil ?_
        refine X.then_ ?_
        exact ⟨xk1, llk1, rfl, k1 + 1, (l2 ++ [xk1]), A5, C3, range_drop hlk1, range_len hkk1, (by rw [hnext1] at h; exact h), ((((((hf.nil.cons (hf.get 25 _ rfl)).cons (hf.get 24 _ rfl)).cons (hf.get 8 _ rfl)).cons (hf.get 7 _ rfl)).cons (hf.get 6 _ rfl)).cons (hf.get 26 _ rfl)), hs.drop⟩
      · replace h := h.2 hc
        refine wp_skip ?_
        refine X.blk ?_
        refine X.then_ ?_
        refine R.list ?_
        refine S.val hf hs (v := .int .i64 ((k1 + 1 : Nat) : Int)) rfl rfl rfl (V.incr rfl rfl rfl hltk1 hlenk1) (fun a hf => ?_)
        refine S.val hf hs (v := .int .i64 ((k1 + 1 : Nat) : Int)) rfl rfl rfl (V.pure rfl) (fun a hf => ?_)
        refine R.nil ?_
        refine X.then_ ?_
        exact ⟨xk1, llk1, rfl, k1 + 1, l2, l2A, l2C, range_drop hlk1, range_len hkk1, (by rw [hnext1] at h; exact h), ((((((hf.nil.cons (hf.get 25 _ rfl)).cons (hf.get 24 _ rfl)).cons (hf.get 8 _ rfl)).cons (hf.get 7 _ rfl)).cons (hf.get 6 _ rfl)).cons (hf.get 26 _ rfl)), hs.drop⟩
    · skip
      refine R.list ?_
      refine S.val hf hs (v := .slice y1A y1.length y1C) rfl rfl rfl (V.pure rfl) (fun a hf => ?_)
      refine S.val hf hs (v := .agg #[.int .i64 xk1.From, .int .i64 xk1.To]) rfl rfl rfl (V.loadBox 0 rfl rfl rfl Try.isAgg59 Try.sizeOf59 rfl rfl) (fun a hf => ?_)
      refine S.call hf rfl rfl rfl (call_fn (vs := [.slice y1A y1.length y1C, .agg #[.int .i64 xk1.From, .int .i64 xk1.To]]) rfl rfl rfl Try.call100) (R_contains_thr y1 xk1 _ y1A y1C (hs.ownView 4 rfl) _ h) (fun v a w' hf hr => ?_)
      obtain ⟨y4, rfl, h2, hs2⟩ := hr
      replace h := h2; replace hs := hs.call hs2; clear h2 hs2
      refine S.val hf hs (v := .bool (!y4)) rfl rfl rfl (V.pure rfl) (fun a hf => ?_)
      refine S.split hf hs (b := !y4) rfl rfl rfl (V.pure rfl) (fun hc a hf => ?_) (fun hc a hf => ?_)
      · replace h := h.1 hc
        refine S.val hf hs (v := .slice l2A l2.length l2C) rfl rfl rfl (V.pure rfl) (fun a hf => ?_)
        refine S.val hf hs (v := .agg #[.int .i64 xk1.From, .int .i64 xk1.To]) rfl rfl rfl (V.loadBox 0 rfl rfl rfl Try.isAgg59 Try.sizeOf59 rfl rfl) (fun a hf => ?_)
        refine S.call hf rfl rfl rfl (call_fn (vs := [.slice l2A l2.length l2C, .agg #[.int .i64 xk1.From, .int .i64 xk1.To]]) rfl rfl rfl Try.call100) (R_contains_thr l2 xk1 _ l2A l2C (hs.ownView 1 rfl) _ h) (fun v a w' hf hr => ?_)
        obtain ⟨y5, rfl, h2, hs2⟩ := hr
        replace h := h2; replace hs := hs.call hs2; clear h2 hs2
        refine S.val hf hs (v := .bool (!y5)) rfl rfl rfl (V.pure rfl) (fun a hf => ?_)
        refine S.val hf hs (v := .bool (!y5)) rfl rfl rfl (V.pure rfl) (fun a hf => ?_)
        refine R.nil ?_
        refine X.then_ ?_
        exact ⟨(!y5), h, ((((((((hf.nil.cons (hf.get 39 _ rfl)).cons (hf.get 26 _ rfl)).cons (hf.get 25 _ rfl)).cons (hf.get 24 _ rfl)).cons (hf.get 10 _ rfl)).cons (hf.get 8 _ rfl)).cons (hf.get 7 _ rfl)).cons (hf.get 6 _ rfl)), hs⟩
      · replace h := h.2 hc
        refine S.skip hf rfl rfl rfl (fun a hf => ?_)
        refine S.skip hf rfl rfl rfl (fun a hf => ?_)
        refine S.skip hf rfl rfl rfl (fun a hf => ?_)
        refine S.skip hf rfl rfl rfl (fun a hf => ?_)
        refine S.val hf hs (v := .bool false) rfl rfl rfl (V.pure rfl) (fun a hf => ?_)
        refine R.nil ?_
        refine X.then_ ?_
        exact ⟨false, h, ((((((((hf.nil.cons (hf.get 39 _ rfl)).cons (hf.get 26 _ rfl)).cons (hf.get 25 _ rfl)).cons (hf.get 24 _ rfl)).cons (hf.get 10 _ rfl)).cons (hf.get 8 _ rfl)).cons (hf.get 7 _ rfl)).cons (hf.get 6 _ rfl)), hs⟩

set_option linter.unusedVariables false
def M_CheckSpans1 (b : Through) (a_ : Through) (c : Int) (Q : Bool → Prop) : Prop :=
  cnd (!(decide (b = a_))) (M_stack_lies b a_ fun y1 => cnd y1 (cnd (decide (b.From ≤ c)) (Q (decide (b.To ≥ c))) (Q false)) (Q false)) (Q false)
set_option maxHeartbeats 1000000 in
theorem R_CheckSpans1 (b : Through) (a_ : Through) (c : Int) (w0 : World) (a_g : Nat) (hb_a_ : ElemAt w0 (old w0 none_) (some ⟨a_g, 0, none⟩) 0 [.int .i64 a_.From, .int .i64 a_.To]) (cg : Nat) (hb_c : ElemAt w0 (old w0 none_) (some ⟨cg, 0, none⟩) 0 [.int .i64 c]) (Q : Bool → Prop) (h : M_CheckSpans1 b a_ c Q) :
    Ret Try.prog 84 #[.agg #[.int .i64 b.From, .int .i64 b.To], .pointer (some ⟨a_g, 0, none⟩), .pointer (some ⟨cg, 0, none⟩)] w0 fun v w' => ∃ (r0 : Bool), v = .bool r0 ∧ Q r0 ∧ Sat w0 none_ [] w' := by
  refine fn_enter Try.func84 rfl Try.ntmps84 rfl (fs := [(0, .agg #[.int .i64 b.From, .int .i64 b.To]), (1, .pointer (some ⟨a_g, 0, none⟩)), (2, .pointer (some ⟨cg, 0, none⟩))]) rfl (fun a hf => ?_)
  have hs := Sat.start w0 none_
  unfold M_CheckSpans1 at h
  refine wp_seq ?_
  refine R.list ?_
  refine S.box hf hs rfl rfl rfl [.int .i64 b.From, .int .i64 b.To] rfl rfl rfl (fun g1 a w hf hs => ?_)
  refine S.val hf hs (v := .bool false) rfl rfl rfl (V.pure rfl) (fun a hf => ?_)
  refine R.nil ?_
  refine X.then_ ?_
  refine wp_seq ?_
  refine R.list ?_
  refine S.val hf hs (v := .agg #[.int .i64 b.From, .int .i64 b.To]) rfl rfl rfl (V.loadBox 0 rfl rfl rfl Try.isAgg59 Try.sizeOf59 rfl rfl) (fun a hf => ?_)
  refine S.val hf hs (v := .agg #[.int .i64 a_.From, .int .i64 a_.To]) rfl rfl rfl (V.loadAt0 (off := 0) (Ag.args _ _ _) hb_a_ rfl rfl Try.isAgg59 Try.sizeOf59 rfl rfl) (fun a hf => ?_)
  refine S.val hf hs (v := .bool (!(decide (b = a_)))) rfl rfl rfl (V.aggneq rfl rfl rfl (by kernel_rfl) (fun w => eqS59 b a_ w)) (fun a hf => ?_)
  refine S.split hf hs (b := !(decide (b = a_))) rfl rfl rfl (V.pure rfl) (fun hc a hf => ?_) (fun hc a hf => ?_)
  · replace h := h.1 hc
    refine S.val hf hs (v := .agg #[.int .i64 b.From, .int .i64 b.To]) rfl rfl rfl (V.loadBox 0 rfl rfl rfl Try.isAgg59 Try.sizeOf59 rfl rfl) (fun a hf => ?_)
    refine S.val hf hs (v := .agg #[.int .i64 a_.From, .int .i64 a_.To]) rfl rfl rfl (V.loadAt0 (off := 0) (Ag.args _ _ _) hb_a_ rfl rfl Try.isAgg59 Try.sizeOf59 rfl rfl) (fun a hf => ?_)
    refine S.call hf rfl rfl rfl (call_fn (vs := [.agg #[.int .i64 b.From, .int .i64 b.To], .agg #[.int .i64 a_.From, .int .i64 a_.To]]) rfl rfl rfl Try.call82) (R_stack_lies b a_ _  _ h) (fun v a w' hf hr => ?_)
    obtain ⟨y1, rfl, h2, hs2⟩ := hr
    replace h := h2; replace hs := hs.call hs2; clear h2 hs2
    refine S.val hf hs (v := .bool y1) rfl rfl rfl (V.pure rfl) (fun a hf => ?_)
    refine S.split hf hs (b := y1) rfl rfl rfl (V.pure rfl) (fun hc a hf => ?_) (fun hc a hf => ?_)
    · replace h := h.1 hc
      refine S.val hf hs (v := .pointer (some ⟨g1, 0, none⟩)) rfl rfl rfl (V.fieldBox rfl rfl Try.runUnderlying59 rfl Try.sizeOf3 rfl rfl) (fun a hf => ?_)
      refine S.val hf hs (v := .int .i64 b.From) rfl rfl rfl (V.loadBox 0 rfl rfl rfl Try.isAgg3 Try.sizeOf3 rfl rfl) (fun a hf => ?_)
      refine S.val hf hs (v := .int .i64 c) rfl rfl rfl (V.loadAt0 (off := 0) (Ag.args _ _ _) hb_c rfl rfl Try.isAgg3 Try.sizeOf3 rfl rfl) (fun a hf => ?_)
      refine S.val hf hs (v := .bool (decide (b.From ≤ c))) rfl rfl rfl (V.pure rfl) (fun a hf => ?_)
      refine S.val hf hs (v := .bool (decide (b.From ≤ c))) rfl rfl rfl (V.pure rfl) (fun a hf => ?_)
      refine S.split hf hs (b := decide (b.From ≤ c)) rfl rfl rfl (V.pure rfl) (fun hc a hf => ?_) (fun hc a hf => ?_)
      · replace h := h.1 hc
        refine S.val hf hs (v := .pointer (some ⟨g1, 1, none⟩)) rfl rfl rfl (V.fieldBox rfl rfl Try.runUnderlying59 rfl Try.sizeOf3 rfl rfl) (fun a hf => ?_)
        refine S.val hf hs (v := .int .i64 b.To) rfl rfl rfl (V.loadBox 0 rfl rfl rfl Try.isAgg3 Try.sizeOf3 rfl rfl) (fun a hf => ?_)
        refine S.val hf hs (v := .int .i64 c) rfl rfl rfl (V.loadAt0 (off := 0) (Ag.args _ _ _) hb_c rfl rfl Try.isAgg3 Try.sizeOf3 rfl rfl) (fun a hf => ?_)
        refine S.val hf hs (v := .bool (decide (b.To ≥ c))) rfl rfl rfl (V.pure rfl) (fun a hf => ?_)
        refine S.val hf hs (v := .bool (decide (b.To ≥ c))) rfl rfl rfl (V.pure rfl) (fun a hf => ?_)
        refine S.val hf hs (v := .bool (decide (b.To ≥ c))) rfl rfl rfl (V.pure rfl) (fun a hf => ?_)
        refine R.nil ?_
        refine X.then_ ?_
        refine wp_ret ?_
        exact L.ret hf (run_results1 Try.results84 (ResIs.tmp hf rfl)) ⟨(decide (b.To ≥ c)), rfl, h, hs.nil⟩
      · replace h := h.2 hc
        refine S.skip hf rfl rfl rfl (fun a hf => ?_)
        refine S.skip hf rfl rfl rfl (fun a hf => ?_)
        refine S.skip hf rfl rfl rfl (fun a hf => ?_)
        refine S.skip hf rfl rfl rfl (fun a hf => ?_)
        refine S.val hf hs (v := .bool false) rfl rfl rfl (V.pure rfl) (fun a hf => ?_)
        refine S.val hf hs (v := .bool false) rfl rfl rfl (V.pure rfl) (fun a hf => ?_)
        refine R.nil ?_
        refine X.then_ ?_
        refine wp_ret ?_
        exact L.ret hf (run_results1 Try.results84 (ResIs.tmp hf rfl)) ⟨false, rfl, h, hs.nil⟩
    · replace h := h.2 hc
      refine S.skip hf rfl rfl rfl (fun a hf => ?_)
      refine S.skip hf rfl rfl rfl (fun a hf => ?_)
      refine S.skip hf rfl rfl rfl (fun a hf => ?_)
      refine S.skip hf rfl rfl rfl (fun a hf => ?_)
      refine S.val hf hs (v := .bool false) rfl rfl rfl (V.pure rfl) (fun a hf => ?_)
      refine S.val hf hs (v := .bool false) rfl rfl rfl (V.pure rfl) (fun a hf => ?_)
      refine S.skip hf rfl rfl rfl (fun a hf => ?_)
      refine S.skip hf rfl rfl rfl (fun a hf => ?_)
      refine S.skip hf rfl rfl rfl (fun a hf => ?_)
      refine S.skip hf rfl rfl rfl (fun a hf => ?_)
      refine S.val hf hs (v := .bool false) rfl rfl rfl (V.pure rfl) (fun a hf => ?_)
      refine S.val hf hs (v := .bool false) rfl rfl rfl (V.pure rfl) (fun a hf => ?_)
      refine R.nil ?_
      refine X.then_ ?_
      refine wp_ret ?_
      exact L.ret hf (run_results1 Try.results84 (ResIs.tmp hf rfl)) ⟨false, rfl, h, hs.nil⟩
  · replace h := h.2 hc
    refine S.skip hf rfl rfl rfl (fun a hf => ?_)
    refine S.skip hf rfl rfl rfl (fun a hf => ?_)
    refine S.skip hf rfl rfl rfl (fun a hf => ?_)
    refine S.val hf hs (v := .bool false) rfl rfl rfl (V.pure rfl) (fun a hf => ?_)
    refine S.val hf hs (v := .bool false) rfl rfl rfl (V.pure rfl) (fun a hf => ?_)
    refine S.skip hf rfl rfl rfl (fun a hf => ?_)
    refine S.skip hf rfl rfl rfl (fun a hf => ?_)
    refine S.skip hf rfl rfl rfl (fun a hf => ?_)
    refine S.skip hf rfl rfl rfl (fun a hf => ?_)
    refine S.val hf hs (v := .bool false) rfl rfl rfl (V.pure rfl) (fun a hf => ?_)
    refine S.val hf hs (v := .bool false) rfl rfl rfl (V.pure rfl) (fun a hf => ?_)
    refine S.skip hf rfl rfl rfl (fun a hf => ?_)
    refine S.skip hf rfl rfl rfl (fun a hf => ?_)
    refine S.skip hf rfl rfl rfl (fun a hf => ?_)
    refine S.skip hf rfl rfl rfl (fun a hf => ?_)
    refine S.val hf hs (v := .bool false) rfl rfl rfl (V.pure rfl) (fun a hf => ?_)
    refine S.val hf hs (v := .bool false) rfl rfl rfl (V.pure rfl) (fun a hf => ?_)
    refine R.nil ?_
    refine X.then_ ?_
    refine wp_ret ?_
    exact L.ret hf (run_results1 Try.results84 (ResIs.tmp hf rfl)) ⟨false, rfl, h, hs.nil⟩

set_option linter.unusedVariables false
def M_indexfunc_thr_L1 (a_ : Through) (c : Int) (Q : Int → Prop) (k1 : Nat) (xk1 : Through)  (next1 : Prop) : Prop :=
  M_CheckSpans1 xk1 a_ c fun y1 => cnd y1 (Q (k1 : Int)) (next1)
def M_indexfunc_thr (s_ : (List Through)) (a_ : Through) (c : Int) (Q : Int → Prop) : Prop :=
  forIn' (fun k x (s : Unit) next => M_indexfunc_thr_L1 a_ c Q k x (next ())) (fun (s : Unit) => Q (-1)) s_ 0 ()
set_option maxHeartbeats 1000000 in
theorem R_indexfunc_thr (s_ : (List Through)) (a_ : Through) (c : Int) (w0 : World) (s_A : Option Addr) (s_C : Nat) (hv_s_ : View w0 (old w0 none_) s_A s_C s_) (a_g : Nat) (hb_a_ : ElemAt w0 (old w0 none_) (some ⟨a_g, 0, none⟩) 0 [.int .i64 a_.From, .int .i64 a_.To]) (cg : Nat) (hb_c : ElemAt w0 (old w0 none_) (some ⟨cg, 0, none⟩) 0 [.int .i64 c]) (Q : Int → Prop) (h : M_indexfunc_thr s_ a_ c Q) :
    Ret Try.prog 105 #[.slice s_A s_.length s_C, .func (.func 84) #[] #[.pointer (some ⟨a_g, 0, none⟩), .pointer (some ⟨cg, 0, none⟩)]] w0 fun v w' => ∃ (r0 : Int), v = .int .i64 r0 ∧ Q r0 ∧ Sat w0 none_ [] w' := by
  refine fn_enter Try.func105 rfl Try.ntmps105 rfl (fs := [(0, .slice s_A s_.length s_C), (1, .func (.func 84) #[] #[.pointer (some ⟨a_g, 0, none⟩), .pointer (some ⟨cg, 0, none⟩)])]) rfl (fun a hf => ?_)
  have hs := Sat.start w0 none_
  unfold M_indexfunc_thr at h
  refine wp_seq ?_
  refine R.list ?_
  refine S.val hf hs (v := .int .i64 0) rfl rfl rfl (V.pure rfl) (fun a hf => ?_)
  refine R.nil ?_
  refine X.then_ ?_
  refine wp_seq ?_
  refine wp_seq ?_
  refine R.list ?_
  refine S.val hf hs (v := .slice s_A s_.length s_C) rfl rfl rfl (V.pure rfl) (fun a hf => ?_)
  refine S.val hf hs (v := .int .i64 (s_.length : Int)) rfl rfl rfl (V.len rfl rfl Try.runUnderlying52) (fun a hf => ?_)
  refine S.val hf hs (v := .int .i64 0) rfl rfl rfl (V.pure rfl) (fun a hf => ?_)
  refine R.nil ?_
  refine X.then_ ?_
  refine wp_block ?_
  have hlenk1 := hv_s_.len64
  refine C.range (fun (ll : List Through) a w => ∃ (k1 : Nat) , s_.drop k1 = ll ∧ k1 + ll.length = s_.length ∧ forIn' (fun k x (s : Unit) next => M_indexfunc_thr_L1 a_ c Q k x (next ())) (fun (s : Unit) => Q (-1)) ll k1 () ∧ FrOk 19 [(8, .int .i64 (k1 : Int)), (0, .slice s_A s_.length s_C), (1, .func (.func 84) #[] #[.pointer (some ⟨a_g, 0, none⟩), .pointer (some ⟨cg, 0, none⟩)]), (7, .int .i64 (s_.length : Int))] a ∧ Sat w0 none_ [] w) s_ ⟨0, rfl, Nat.zero_add _, h, ((((hf.nil.cons (hf.get 7 _ rfl)).cons (hf.get 1 _ rfl)).cons (hf.get 0 _ rfl)).cons (hf.get 8 _ rfl)), hs⟩ ?_
  clear h hf hs
  rintro llk1 a w ⟨k1, hlk1, hkk1, h, hf, hs⟩
  cases llk1 with
  | nil =>
    have hc := range_done hkk1
    replace h : Q (-1) := h
    refine wp_seq ?_
    refine R.list ?_
    refine S.val hf hs (v := .bool false) rfl rfl rfl (V.cmp false rfl rfl rfl rfl hc) (fun a hf => ?_)
    refine R.nil ?_
    refine X.then_ ?_
    refine wp_seq ?_
    refine C.no hf rfl ?_
    refine wp_exit ?_
    refine X.then_exit ?_
    refine X.then_exit ?_
    refine X.blk_exit ?_
    refine X.then_ ?_
    refine wp_seq ?_
    refine R.list ?_
    refine S.val hf hs (v := .int .i64 (-1)) rfl rfl rfl (V.pure rfl) (fun a hf => ?_)
    refine R.nil ?_
    refine X.then_ ?_
    refine wp_ret ?_
    exact L.ret hf (run_results1 Try.results105 (ResIs.tmp hf rfl)) ⟨(-1), rfl, h, hs.nil⟩
  | cons xk1 llk1 =>
    have hltk1 := range_lt hkk1; have hc := range_go hkk1; have hxk1 := range_get hlk1
    obtain ⟨next1, hnext1⟩ : ∃ X : Prop, X = (forIn' (fun k x (s : Unit) next => M_indexfunc_thr_L1 a_ c Q k x (next ())) (fun (s : Unit) => Q (-1)) llk1 (k1 + 1) ()) := ⟨_, rfl⟩
    replace h : M_indexfunc_thr_L1 a_ c Q k1 xk1  next1 := by rw [hnext1]; exact h
    unfold M_indexfunc_thr_L1 at h
    refine wp_seq ?_
    refine R.list ?_
    refine S.val hf hs (v := .bool true) rfl rfl rfl (V.cmp true rfl rfl rfl rfl hc) (fun a hf => ?_)
    refine R.nil ?_
    refine X.then_ ?_
    refine wp_seq ?_
    refine C.yes hf rfl ?_
    refine wp_skip ?_
    refine X.then_ ?_
    refine wp_seq ?_
    refine wp_block ?_
    refine wp_seq ?_
    refine R.list ?_
    refine S.val hf hs (v := .int .i64 (k1 : Int)) rfl rfl rfl (V.pure rfl) (fun a hf => ?_)
    refine S.val hf hs (v := .int .i64 (k1 : Int)) rfl rfl rfl (V.pure rfl) (fun a hf => ?_)
    refine R.nil ?_
    refine X.then_ ?_
    refine wp_seq ?_
    refine R.list ?_
    refine S.val hf hs (v := .func (.func 84) #[] #[.pointer (some ⟨a_g, 0, none⟩), .pointer (some ⟨cg, 0, none⟩)]) rfl rfl rfl (V.pure rfl) (fun a hf => ?_)
    refine S.val hf hs (v := .slice s_A s_.length s_C) rfl rfl rfl (V.pure rfl) (fun a hf => ?_)
    refine S.val hf hs (v := .int .i64 (k1 : Int)) rfl rfl rfl (V.pure rfl) (fun a hf => ?_)
    refine S.val hf hs (v := elemPtr s_A (k1 * 2)) rfl rfl rfl (V.index rfl rfl rfl Try.runUnderlying52 Try.sizeOf59 (hv_s_.some_ (lt_of_get hxk1)) (Int.natCast_nonneg _) (lt_of_get hxk1) rfl) (fun a hf => ?_)
    refine S.val hf hs (v := .agg #[.int .i64 xk1.From, .int .i64 xk1.To]) rfl rfl rfl (V.loadEl (off := 0) (Ag.args _ _ _) (hv_s_.flat hxk1) rfl rfl rfl Try.isAgg59 Try.sizeOf59 rfl rfl) (fun a hf => ?_)
    refine S.call hf rfl rfl rfl (call_run (args := #[.agg #[.int .i64 xk1.From, .int .i64 xk1.To], .pointer (some ⟨a_g, 0, none⟩), .pointer (some ⟨cg, 0, none⟩)]) rfl rfl rfl Try.call84 (by simp)) (R_CheckSpans1 xk1 a_ c _ a_g ((Ag.args _ _ _).elem hb_a_ hs) cg ((Ag.args _ _ _).elem hb_c hs) _ h) (fun v a w' hf hr => ?_)
    obtain ⟨y1, rfl, h2, hs2⟩ := hr
    replace h := h2; replace hs := hs.call hs2; clear h2 hs2
    refine R.nil ?_
    refine X.then_ ?_
    refine C.cond hf (b := y1) rfl (fun hc => ?_) (fun hc => ?_)
    · replace h := h.1 hc
      refine wp_seq ?_
      refine R.list ?_
      refine S.val hf hs (v := .int .i64 (k1 : Int)) rfl rfl rfl (V.pure rfl) (fun a hf => ?_)
      refine S.val hf hs (v := .int .i64 (k1 : Int)) rfl rfl rfl (V.pure rfl) (fun a hf => ?_)
      refine R.nil ?_
      refine X.then_ ?_
      refine wp_ret ?_
      refine X.blk_ret ?_
      refine X.then_ret ?_
      refine X.then_ret ?_
      refine X.blk_ret ?_
      refine X.then_ret ?_
      exact L.ret hf (run_results1 Try.results105 (ResIs.tmp hf rfl)) ⟨(k1 : Int), rfl, h, hs.nil⟩
    · replace h := h.2 hc
      refine wp_skip ?_
      refine X.blk ?_
      refine X.then_ ?_
      refine R.list ?_
      refine S.val hf hs (v := .int .i64 ((k1 + 1 : Nat) : Int)) rfl rfl rfl (V.incr rfl rfl rfl hltk1 hlenk1) (fun a hf => ?_)
      refine S.val hf hs (v := .int .i64 ((k1 + 1 : Nat) : Int)) rfl rfl rfl (V.pure rfl) (fun a hf => ?_)
      refine R.nil ?_
      refine X.then_ ?_
      exact ⟨xk1, llk1, rfl, k1 + 1, range_drop hlk1, range_len hkk1, (by rw [hnext1] at h; exact h), ((((hf.nil.cons (hf.get 7 _ rfl)).cons (hf.get 1 _ rfl)).cons (hf.get 0 _ rfl)).cons (hf.get 8 _ rfl)), hs⟩

set_option linter.unusedVariables false
def M_containsfunc_thr (s_ : (List Through)) (a_ : Through) (c : Int) (Q : Bool → Prop) : Prop :=
  M_indexfunc_thr s_ a_ c fun y1 => Q (decide (y1 ≥ 0))
set_option maxHeartbeats 1000000 in
theorem R_containsfunc_thr (s_ : (List Through)) (a_ : Through) (c : Int) (w0 : World) (s_A : Option Addr) (s_C : Nat) (hv_s_ : View w0 (old w0 none_) s_A s_C s_) (a_g : Nat) (hb_a_ : ElemAt w0 (old w0 none_) (some ⟨a_g, 0, none⟩) 0 [.int .i64 a_.From, .int .i64 a_.To]) (cg : Nat) (hb_c : ElemAt w0 (old w0 none_) (some ⟨cg, 0, none⟩) 0 [.int .i64 c]) (Q : Bool → Prop) (h : M_containsfunc_thr s_ a_ c Q) :
    Ret Try.prog 83 #[.slice s_A s_.length s_C, .func (.func 84) #[] #[.pointer (some ⟨a_g, 0, none⟩), .pointer (some ⟨cg, 0, none⟩)]] w0 fun v w' => ∃ (r0 : Bool), v = .bool r0 ∧ Q r0 ∧ Sat w0 none_ [] w' := by
  refine fn_enter Try.func83 rfl Try.ntmps83 rfl (fs := [(0, .slice s_A s_.length s_C), (1, .func (.func 84) #[] #[.pointer (some ⟨a_g, 0, none⟩), .pointer (some ⟨cg, 0, none⟩)])]) rfl (fun a hf => ?_)
  have hs := Sat.start w0 none_
  unfold M_containsfunc_thr at h
  refine wp_seq ?_
  refine R.list ?_
  refine S.val hf hs (v := .bool false) rfl rfl rfl (V.pure rfl) (fun a hf => ?_)
  refine R.nil ?_
  refine X.then_ ?_
  refine wp_seq ?_
  refine R.list ?_
  refine S.val hf hs (v := .slice s_A s_.length s_C) rfl rfl rfl (V.pure rfl) (fun a hf => ?_)
  refine S.val hf hs (v := .func (.func 84) #[] #[.pointer (some ⟨a_g, 0, none⟩), .pointer (some ⟨cg, 0, none⟩)]) rfl rfl rfl (V.pure rfl) (fun a hf => ?_)
  refine S.call hf rfl rfl rfl (call_fn (vs := [.slice s_A s_.length s_C, .func (.func 84) #[] #[.pointer (some ⟨a_g, 0, none⟩), .pointer (some ⟨cg, 0, none⟩)]]) rfl rfl rfl Try.call105) (R_indexfunc_thr s_ a_ c _ s_A s_C ((Ag.args _ _ _).view hv_s_ hs) a_g ((Ag.args _ _ _).elem hb_a_ hs) cg ((Ag.args _ _ _).elem hb_c hs) _ h) (fun v a w' hf hr => ?_)
  obtain ⟨y1, rfl, h2, hs2⟩ := hr
  replace h := h2; replace hs := hs.call hs2; clear h2 hs2
  refine S.val hf hs (v := .bool (decide (y1 ≥ 0))) rfl rfl rfl (V.pure rfl) (fun a hf => ?_)
  refine S.val hf hs (v := .bool (decide (y1 ≥ 0))) rfl rfl rfl (V.pure rfl) (fun a hf => ?_)
  refine R.nil ?_
  refine X.then_ ?_
  refine wp_ret ?_
  exact L.ret hf (run_results1 Try.results83 (ResIs.tmp hf rfl)) ⟨(decide (y1 ≥ 0)), rfl, h, hs.nil⟩

set_option linter.unusedVariables false
def M_stack_CheckSpans_L4 (Q : Int → Prop) (y3 : (List Through)) (xk3 : Through) (next3 : Prop) (again4 : Int → Prop) (b2 : Int) : Prop :=
  cnd (decide (b2 < xk3.To)) (M_containsfunc_thr y3 xk3 b2 fun y5 => cnd (!y5) (Q 11) (again4 (w64 (b2 + 1)))) (next3)
def M_stack_CheckSpans_L3 (Q : Int → Prop) (y3 : (List Through)) (k3 : Nat) (xk3 : Through)  (next3 : Prop) : Prop :=
  lp (fun again (s : Int) => M_stack_CheckSpans_L4 Q y3 xk3 next3 (fun b2 => again b2) s) (w64 (xk3.From + 1))
def M_stack_CheckSpans_k6 (Q : Int → Prop) (next5 : Prop) (c1 : Bool) : Prop :=
  cnd c1 (Q 12) (next5)
def M_stack_CheckSpans_L5 (Q : Int → Prop) (xk2 : Through) (k5 : Nat) (xk5 : Through)  (next5 : Prop) : Prop :=
  cnd (decide (xk2.From ≤ xk5.To)) (cnd (decide (xk5.From ≤ xk2.To)) (M_stack_lies xk2 xk5 fun y6 => cnd (!y6) (M_stack_lies xk5 xk2 fun y7 => M_stack_CheckSpans_k6 Q next5 (!y7)) (M_stack_CheckSpans_k6 Q next5 false)) (M_stack_CheckSpans_k6 Q next5 false)) (M_stack_CheckSpans_k6 Q next5 false)
def M_stack_CheckSpans_L2 (Q : Int → Prop) (y3 : (List Through)) (k2 : Nat) (xk2 : Through)  (next2 : Prop) : Prop :=
  must (0 ≤ (k2 : Int) ∧ (k2 : Int) ≤ (y3.length : Int)) (forIn' (fun k x (s : Unit) next => M_stack_CheckSpans_L5 Q xk2 k x (next ())) (fun (s : Unit) => next2) (y3.take (k2 : Int).toNat) 0 ())
def M_stack_CheckSpans_k8 (Q : Int → Prop) (next1 : Prop) (c3 : Bool) : Prop :=
  cnd c3 (Q 8) (next1)
def M_stack_CheckSpans_k7 (l : (List Through)) (Q : Int → Prop) (k1 : Nat) (xk1 : Through) (next1 : Prop) (c2 : Bool) : Prop :=
  cnd c2 (Q 1) (cnd (decide ((k1 : Int) > 0)) (idx l (w64 ((k1 : Int) - 1)) fun x1 => cnd (decide (xk1.From < x1.From)) (M_stack_CheckSpans_k8 Q next1 true) (cnd (xk1.From == x1.From) (M_stack_CheckSpans_k8 Q next1 (decide (xk1.To ≤ x1.To))) (M_stack_CheckSpans_k8 Q next1 false))) (M_stack_CheckSpans_k8 Q next1 false))
def M_stack_CheckSpans_L1 (l : (List Through)) (Q : Int → Prop) (y2 : (List Int)) (k1 : Nat) (xk1 : Through)  (next1 : Prop) : Prop :=
  cnd (decide (xk1.From < 1)) (M_stack_CheckSpans_k7 l Q k1 xk1 next1 true) (cnd (decide (xk1.To > (y2.length : Int))) (M_stack_CheckSpans_k7 l Q k1 xk1 next1 true) (M_stack_CheckSpans_k7 l Q k1 xk1 next1 (decide (xk1.To ≤ xk1.From))))
def M_stack_CheckSpans (m : (List Material)) (s_ : (List Layer)) (l : (List Through)) (Q : Int → Prop) : Prop :=
  M_stack_CheckStack m s_ fun y1 => cnd (y1 != 0) (Q y1) (cnd (decide ((l.length : Int) > 200)) (Q 2) (M_stack_coppers m s_ fun y2 => forIn' (fun k x (s : Unit) next => M_stack_CheckSpans_L1 l Q y2 k x (next ())) (fun (s : Unit) => M_stack_boards m s_ l fun y3 y4 => forIn' (fun k x (s : Unit) next => M_stack_CheckSpans_L2 Q y3 k x (next ())) (fun (s : Unit) => must (0 ≤ y4 ∧ y4 ≤ (y3.length : Int) ∧ (y3.length : Int) ≤ (y3.length : Int)) (forIn' (fun k x (s : Unit) next => M_stack_CheckSpans_L3 Q y3 k x (next ())) (fun (s : Unit) => Q 0) (seg y3 y4 (y3.length : Int)) 0 ())) y3 0 ()) l 0 ()))
set_option maxHeartbeats 1000000 in
theorem R_stack_CheckSpans (m : (List Material)) (s_ : (List Layer)) (l : (List Through)) (w0 : World) (mA : Option Addr) (mC : Nat) (hv_m : View w0 (old w0 none_) mA mC m) (s_A : Option Addr) (s_C : Nat) (hv_s_ : View w0 (old w0 none_) s_A s_C s_) (lA : Option Addr) (lC : Nat) (hv_l : View w0 (old w0 none_) lA lC l) (Q : Int → Prop) (h : M_stack_CheckSpans m s_ l Q) :
    Ret Try.prog 44 #[.slice mA m.length mC, .slice s_A s_.length s_C, .slice lA l.length lC] w0 fun v w' => ∃ (r0 : Int), v = .int .i64 r0 ∧ Q r0 ∧ Sat w0 none_ [] w' := by
  refine fn_enter Try.func44 rfl Try.ntmps44 rfl (fs := [(0, .slice mA m.length mC), (1, .slice s_A s_.length s_C), (2, .slice lA l.length lC)]) rfl (fun a hf => ?_)
  have hs := Sat.start w0 none_
  unfold M_stack_CheckSpans at h
  refine wp_seq ?_
  refine R.list ?_
  refine S.val hf hs (v := .int .i64 0) rfl rfl rfl (V.pure rfl) (fun a hf => ?_)
  refine R.nil ?_
  refine X.then_ ?_
  refine wp_seq ?_
  refine wp_seq ?_
  refine R.list ?_
  refine S.val hf hs (v := .slice mA m.length mC) rfl rfl rfl (V.pure rfl) (fun a hf => ?_)
  refine S.val hf hs (v := .slice s_A s_.length s_C) rfl rfl rfl (V.pure rfl) (fun a hf => ?_)
  refine S.call hf rfl rfl rfl (call_fn (vs := [.slice mA m.length mC, .slice s_A s_.length s_C]) rfl rfl rfl Try.call18) (R_stack_CheckStack m s_ _ mA mC ((Ag.args _ _ _).view hv_m hs) s_A s_C ((Ag.args _ _ _).view hv_s_ hs) _ h) (fun v a w' hf hr => ?_)
  obtain ⟨y1, rfl, h2, hs2⟩ := hr
  replace h := h2; replace hs := hs.call hs2; clear h2 hs2
  refine S.val hf hs (v := .int .i64 y1) rfl rfl rfl (V.pure rfl) (fun a hf => ?_)
  refine R.nil ?_
  refine X.then_ ?_
  refine wp_seq ?_
  refine R.list ?_
  refine S.val hf hs (v := .int .i64 y1) rfl rfl rfl (V.pure rfl) (fun a hf => ?_)
  refine S.val hf hs (v := .bool (y1 != 0)) rfl rfl rfl (V.pure rfl) (fun a hf => ?_)
  refine R.nil ?_
  refine X.then_ ?_
  refine C.cond hf (b := y1 != 0) rfl (fun hc => ?_) (fun hc => ?_)
  · replace h := h.1 hc
    refine wp_seq ?_
    refine R.list ?_
    refine S.val hf hs (v := .int .i64 y1) rfl rfl rfl (V.pure rfl) (fun a hf => ?_)
    refine S.val hf hs (v := .int .i64 y1) rfl rfl rfl (V.pure rfl) (fun a hf => ?_)
    refine R.nil ?_
    refine X.then_ ?_
    refine wp_ret ?_
    refine X.then_ret ?_
    exact L.ret hf (run_results1 Try.results44 (ResIs.tmp hf rfl)) ⟨y1, rfl, h, hs.nil⟩
  · replace h := h.2 hc
    refine wp_skip ?_
    refine X.then_ ?_
    refine wp_seq ?_
    refine wp_seq ?_
    refine R.list ?_
    refine S.val hf hs (v := .slice lA l.length lC) rfl rfl rfl (V.pure rfl) (fun a hf => ?_)
    refine S.val hf hs (v := .int .i64 (l.length : Int)) rfl rfl rfl (V.len rfl rfl Try.runUnderlying52) (fun a hf => ?_)
    refine S.val hf hs (v := .bool (decide ((l.length : Int) > 200))) rfl rfl rfl (V.pure rfl) (fun a hf => ?_)
    refine R.nil ?_
    refine X.then_ ?_
    refine C.cond hf (b := decide ((l.length : Int) > 200)) rfl (fun hc => ?_) (fun hc => ?_)
    · replace h := h.1 hc
      refine wp_seq ?_
      refine R.list ?_
      refine S.val hf hs (v := .int .i64 2) rfl rfl rfl (V.pure rfl) (fun a hf => ?_)
      refine R.nil ?_
      refine X.then_ ?_
      refine wp_ret ?_
      refine X.then_ret ?_
      exact L.ret hf (run_results1 Try.results44 (ResIs.tmp hf rfl)) ⟨2, rfl, h, hs.nil⟩
    · replace h := h.2 hc
      refine wp_skip ?_
      refine X.then_ ?_
      refine wp_seq ?_
      refine R.list ?_
      refine S.val hf hs (v := .slice mA m.length mC) rfl rfl rfl (V.pure rfl) (fun a hf => ?_)
      refine S.val hf hs (v := .slice s_A s_.length s_C) rfl rfl rfl (V.pure rfl) (fun a hf => ?_)
      refine S.call hf rfl rfl rfl (call_fn (vs := [.slice mA m.length mC, .slice s_A s_.length s_C]) rfl rfl rfl Try.call61) (R_stack_coppers m s_ _ mA mC ((Ag.args _ _ _).view hv_m hs) s_A s_C ((Ag.args _ _ _).view hv_s_ hs) _ h) (fun v a w' hf hr => ?_)
      obtain ⟨y2, y2A, y2C, rfl, h2, hs2⟩ := hr
      replace h := h2; replace hs := hs.call hs2; clear h2 hs2
      refine S.val hf hs (v := .int .i64 (y2.length : Int)) rfl rfl rfl (V.len rfl rfl Try.runUnderlying43) (fun a hf => ?_)
      refine S.val hf hs (v := .int .i64 (y2.length : Int)) rfl rfl rfl (V.pure rfl) (fun a hf => ?_)
      refine R.nil ?_
      refine X.then_ ?_
      refine wp_seq ?_
      refine wp_seq ?_
      refine R.list ?_
      refine S.val hf hs (v := .slice lA l.length lC) rfl rfl rfl (V.pure rfl) (fun a hf => ?_)
      refine S.val hf hs (v := .int .i64 (l.length : Int)) rfl rfl rfl (V.len rfl rfl Try.runUnderlying52) (fun a hf => ?_)
      refine S.val hf hs (v := .int .i64 0) rfl rfl rfl (V.pure rfl) (fun a hf => ?_)
      refine R.nil ?_
      refine X.then_ ?_
      refine wp_block ?_
      have hlenk1 := hv_l.len64
      refine C.range (fun (ll : List Through) a w => ∃ (k1 : Nat) , l.drop k1 = ll ∧ k1 + ll.length = l.length ∧ forIn' (fun k x (s : Unit) next => M_stack_CheckSpans_L1 l Q y2 k x (next ())) (fun (s : Unit) => M_stack_boards m s_ l fun y3 y4 => forIn' (fun k x (s : Unit) next => M_stack_CheckSpans_L2 Q y3 k x (next ())) (fun (s : Unit) => must (0 ≤ y4 ∧ y4 ≤ (y3.length : Int) ∧ (y3.length : Int) ≤ (y3.length : Int)) (forIn' (fun k x (s : Unit) next => M_stack_CheckSpans_L3 Q y3 k x (next ())) (fun (s : Unit) => Q 0) (seg y3 y4 (y3.length : Int)) 0 ())) y3 0 ()) ll k1 () ∧ FrOk 163 [(35, .int .i64 (k1 : Int)), (0, .slice mA m.length mC), (1, .slice s_A s_.length s_C), (2, .slice lA l.length lC), (8, .int .i64 (y2.length : Int)), (33, .slice lA l.length lC), (34, .int .i64 (l.length : Int))] a ∧ Sat w0 none_ [hown 3 y2A y2C y2] w) l ⟨0, rfl, Nat.zero_add _, h, (((((((hf.nil.cons (hf.get 34 _ rfl)).cons (hf.get 33 _ rfl)).cons (hf.get 8 _ rfl)).cons (hf.get 2 _ rfl)).cons (hf.get 1 _ rfl)).cons (hf.get 0 _ rfl)).cons (hf.get 35 _ rfl)), hs⟩ ?_
      clear h hf hs
      rintro llk1 a w ⟨k1, hlk1, hkk1, h, hf, hs⟩
      cases llk1 with
      | nil =>
        have hc := range_done hkk1
        replace h : M_stack_boards m s_ l fun y3 y4 => forIn' (fun k x (s : Unit) next => M_stack_CheckSpans_L2 Q y3 k x (next ())) (fun (s : Unit) => must (0 ≤ y4 ∧ y4 ≤ (y3.length : Int) ∧ (y3.length : Int) ≤ (y3.length : Int)) (forIn' (fun k x (s : Unit) next => M_stack_CheckSpans_L3 Q y3 k x (next ())) (fun (s : Unit) => Q 0) (seg y3 y4 (y3.length : Int)) 0 ())) y3 0 () := h
        refine wp_seq ?_
        refine R.list ?_
        refine S.val hf hs (v := .bool false) rfl rfl rfl (V.cmp false rfl rfl rfl rfl hc) (fun a hf => ?_)
        refine R.nil ?_
        refine X.then_ ?_
        refine wp_seq ?_
        refine C.no hf rfl ?_
        refine wp_exit ?_
        refine X.then_exit ?_
        refine X.then_exit ?_
        refine X.blk_exit ?_
        refine X.then_ ?_
        refine wp_seq ?_
        refine R.list ?_
        refine S.val hf hs (v := .slice mA m.length mC) rfl rfl rfl (V.pure rfl) (fun a hf => ?_)
        refine S.val hf hs (v := .slice s_A s_.length s_C) rfl rfl rfl (V.pure rfl) (fun a hf => ?_)
        refine S.val hf hs (v := .slice lA l.length lC) rfl rfl rfl (V.pure rfl) (fun a hf => ?_)
        refine S.call hf rfl rfl rfl (call_fn (vs := [.slice mA m.length mC, .slice s_A s_.length s_C, .slice lA l.length lC]) rfl rfl rfl Try.call76) (R_stack_boards m s_ l _ mA mC ((Ag.args _ _ _).view hv_m hs) s_A s_C ((Ag.args _ _ _).view hv_s_ hs) lA lC ((Ag.args _ _ _).view hv_l hs) _ h) (fun v a w' hf hr => ?_)
        obtain ⟨y3, y3A, y3C, y4, rfl, h2, hs2⟩ := hr
        replace h := h2; replace hs := hs.call hs2; clear h2 hs2
        refine S.val hf hs (v := .tuple #[.slice y3A y3.length y3C, .int .i64 y4]) rfl rfl rfl (V.pure rfl) (fun a hf => ?_)
        refine S.val hf hs (v := .slice y3A y3.length y3C) rfl rfl rfl (V.pure rfl) (fun a hf => ?_)
        refine S.val hf hs (v := .int .i64 y4) rfl rfl rfl (V.pure rfl) (fun a hf => ?_)
        refine S.val hf hs (v := .slice y3A y3.length y3C) rfl rfl rfl (V.pure rfl) (fun a hf => ?_)
        refine S.val hf hs (v := .int .i64 y4) rfl rfl rfl (V.pure rfl) (fun a hf => ?_)
        refine R.nil ?_
        refine X.then_ ?_
        refine wp_seq ?_
        refine wp_seq ?_
        refine R.list ?_
        refine S.val hf hs (v := .slice y3A y3.length y3C) rfl rfl rfl (V.pure rfl) (fun a hf => ?_)
        refine S.val hf hs (v := .int .i64 (y3.length : Int)) rfl rfl rfl (V.len rfl rfl Try.runUnderlying52) (fun a hf => ?_)
        refine S.val hf hs (v := .int .i64 0) rfl rfl rfl (V.pure rfl) (fun a hf => ?_)
        refine R.nil ?_
        refine X.then_ ?_
        refine wp_block ?_
        have hlenk2 := (hs.ownView 0 rfl).len64
        refine C.range (fun (ll : List Through) a w => ∃ (k2 : Nat) , y3.drop k2 = ll ∧ k2 + ll.length = y3.length ∧ forIn' (fun k x (s : Unit) next => M_stack_CheckSpans_L2 Q y3 k x (next ())) (fun (s : Unit) => must (0 ≤ y4 ∧ y4 ≤ (y3.length : Int) ∧ (y3.length : Int) ≤ (y3.length : Int)) (forIn' (fun k x (s : Unit) next => M_stack_CheckSpans_L3 Q y3 k x (next ())) (fun (s : Unit) => Q 0) (seg y3 y4 (y3.length : Int)) 0 ())) ll k2 () ∧ FrOk 163 [(101, .int .i64 (k2 : Int)), (11, .slice y3A y3.length y3C), (12, .int .i64 y4), (99, .slice y3A y3.length y3C), (100, .int .i64 (y3.length : Int))] a ∧ Sat w0 none_ [hown 59 y3A y3C y3, hown 3 y2A y2C y2] w) y3 ⟨0, rfl, Nat.zero_add _, h, (((((hf.nil.cons (hf.get 100 _ rfl)).cons (hf.get 99 _ rfl)).cons (hf.get 12 _ rfl)).cons (hf.get 11 _ rfl)).cons (hf.get 101 _ rfl)), hs⟩ ?_
        clear h hf hs
        rintro llk2 a w ⟨k2, hlk2, hkk2, h, hf, hs⟩
        cases llk2 with
        | nil =>
          have hc := range_done hkk2
          replace h : must (0 ≤ y4 ∧ y4 ≤ (y3.length : Int) ∧ (y3.length : Int) ≤ (y3.length : Int)) (forIn' (fun k x (s : Unit) next => M_stack_CheckSpans_L3 Q y3 k x (next ())) (fun (s : Unit) => Q 0) (seg y3 y4 (y3.length : Int)) 0 ()) := h
          refine wp_seq ?_
          refine R.list ?_
          refine S.val hf hs (v := .bool false) rfl rfl rfl (V.cmp false rfl rfl rfl rfl hc) (fun a hf => ?_)
          refine R.nil ?_
          refine X.then_ ?_
          refine wp_seq ?_
          refine C.no hf rfl ?_
          refine wp_exit ?_
          refine X.then_exit ?_
          refine X.then_exit ?_
          refine X.blk_exit ?_
          refine X.then_ ?_
          refine wp_seq ?_
          refine wp_seq ?_
          refine R.list ?_
          refine S.val hf hs (v := .slice y3A y3.length y3C) rfl rfl rfl (V.pure rfl) (fun a hf => ?_)
          refine S.val hf hs (v := .int .i64 y4) rfl rfl rfl (V.pure rfl) (fun a hf => ?_)
          obtain ⟨hp1, h⟩ := h
          refine S.val hf hs (v := .slice (segA y3A y3C (y4 : Int).toNat 2) (seg y3 y4 (y3.length : Int)).length (y3C - (y4 : Int).toNat)) rfl rfl rfl (V.slice rfl rfl rfl rfl Try.runUnderlying52 Try.sizeOf59 rfl rfl hp1 (hs.ownView 0 rfl).cap (seg_length (by have := hp1.2.2; omega))) (fun a hf => ?_)
          refine S.val hf hs (v := .int .i64 ((seg y3 y4 (y3.length : Int)).length : Int)) rfl rfl rfl (V.len rfl rfl Try.runUnderlying52) (fun a hf => ?_)
          refine S.val hf hs (v := .int .i64 0) rfl rfl rfl (V.pure rfl) (fun a hf => ?_)
          refine R.nil ?_
          refine X.then_ ?_
          refine wp_block ?_
          replace hs := hs.take 1
          have hlenk3 := (View.sub (hs.ownView 0 rfl) hp1).len64
          refine C.range (fun (ll : List Through) a w => ∃ (k3 : Nat) , (seg y3 y4 (y3.length : Int)).drop k3 = ll ∧ k3 + ll.length = (seg y3 y4 (y3.length : Int)).length ∧ forIn' (fun k x (s : Unit) next => M_stack_CheckSpans_L3 Q y3 k x (next ())) (fun (s : Unit) => Q 0) ll k3 () ∧ FrOk 163 [(144, .int .i64 (k3 : Int)), (11, .slice y3A y3.length y3C), (142, .slice (segA y3A y3C (y4 : Int).toNat 2) (seg y3 y4 (y3.length : Int)).length (y3C - (y4 : Int).toNat)), (143, .int .i64 ((seg y3 y4 (y3.length : Int)).length : Int))] a ∧ Sat w0 none_ [hown 59 y3A y3C y3] w) (seg y3 y4 (y3.length : Int)) ⟨0, rfl, Nat.zero_add _, h, ((((hf.nil.cons (hf.get 143 _ rfl)).cons (hf.get 142 _ rfl)).cons (hf.get 11 _ rfl)).cons (hf.get 144 _ rfl)), hs⟩ ?_
          clear h hf hs
          rintro llk3 a w ⟨k3, hlk3, hkk3, h, hf, hs⟩
          cases llk3 with
          | nil =>
            have hc := range_done hkk3
            replace h : Q 0 := h
            refine wp_seq ?_
            refine R.list ?_
            refine S.val hf hs (v := .bool false) rfl rfl rfl (V.cmp false rfl rfl rfl rfl hc) (fun a hf => ?_)
            refine R.nil ?_
            refine X.then_ ?_
            refine wp_seq ?_
            refine C.no hf rfl ?_
            refine wp_exit ?_
            refine X.then_exit ?_
            refine X.then_exit ?_
            refine X.blk_exit ?_
            refine X.then_ ?_
            refine wp_seq ?_
            refine R.list ?_
            refine S.val hf hs (v := .int .i64 0) rfl rfl rfl (V.pure rfl) (fun a hf => ?_)
            refine R.nil ?_
            refine X.then_ ?_
            refine wp_ret ?_
            exact L.ret hf (run_results1 Try.results44 (ResIs.tmp hf rfl)) ⟨0, rfl, h, hs.nil⟩
          | cons xk3 llk3 =>
            have hltk3 := range_lt hkk3; have hc := range_go hkk3; have hxk3 := range_get hlk3
            obtain ⟨next3, hnext3⟩ : ∃ X : Prop, X = (forIn' (fun k x (s : Unit) next => M_stack_CheckSpans_L3 Q y3 k x (next ())) (fun (s : Unit) => Q 0) llk3 (k3 + 1) ()) := ⟨_, rfl⟩
            replace h : M_stack_CheckSpans_L3 Q y3 k3 xk3  next3 := by rw [hnext3]; exact h
            unfold M_stack_CheckSpans_L3 at h
            refine wp_seq ?_
            refine R.list ?_
            refine S.val hf hs (v := .bool true) rfl rfl rfl (V.cmp true rfl rfl rfl rfl hc) (fun a hf => ?_)
            refine R.nil ?_
            refine X.then_ ?_
            refine wp_seq ?_
            refine C.yes hf rfl ?_
            refine wp_skip ?_
            refine X.then_ ?_
            refine wp_seq ?_
            refine wp_block ?_
            refine wp_seq ?_
            refine R.list ?_
            have hx1 := seg_get hxk3
            refine S.val hf hs (v := elemPtr y3A (((y4 : Int).toNat + k3) * 2)) rfl rfl rfl (V.indexSub (lo := y4) rfl rfl rfl Try.runUnderlying52 Try.sizeOf59 (hs.ownSome 0 rfl (lt_of_get hx1)) (Int.natCast_nonneg _) (lt_of_get hxk3) (seg_fits hp1 (hs.ownView 0 rfl).cap) rfl) (fun a hf => ?_)
            refine S.val hf hs (v := .agg #[.int .i64 xk3.From, .int .i64 xk3.To]) rfl rfl rfl (V.loadOwn (off := 0) 0 rfl hx1 rfl rfl rfl Try.isAgg59 Try.sizeOf59 rfl rfl) (fun a hf => ?_)
            refine S.alloc hf hs rfl rfl rfl [.int .i64 0, .int .i64 0] rfl Try.zeroValue59 rfl (fun g1 a w hf hs => ?_)
            refine S.storeBox 0 hf hs rfl rfl [.int .i64 xk3.From, .int .i64 xk3.To] [.int .i64 xk3.From, .int .i64 xk3.To] rfl rfl rfl rfl rfl Try.sizeOf59 rfl rfl rfl rfl (fun a w hf hs => ?_)
            refine R.nil ?_
            refine X.then_ ?_
            refine wp_seq ?_
            refine R.list ?_
            refine S.val hf hs (v := .pointer (some ⟨g1, 0, none⟩)) rfl rfl rfl (V.fieldBox rfl rfl Try.runUnderlying59 rfl Try.sizeOf3 rfl rfl) (fun a hf => ?_)
            refine S.val hf hs (v := .int .i64 xk3.From) rfl rfl rfl (V.loadBox 0 rfl rfl rfl Try.isAgg3 Try.sizeOf3 rfl rfl) (fun a hf => ?_)
            refine S.val hf hs (v := .int .i64 (w64 (xk3.From + 1))) rfl rfl rfl (V.pure rfl) (fun a hf => ?_)
            refine S.alloc hf hs rfl rfl rfl [.int .i64 0] rfl Try.zeroValue3 rfl (fun g2 a w hf hs => ?_)
            refine S.storeBox 0 hf hs rfl rfl [.int .i64 (w64 (xk3.From + 1))] [.int .i64 (w64 (xk3.From + 1))] rfl rfl rfl rfl rfl Try.sizeOf3 rfl rfl rfl rfl (fun a w hf hs => ?_)
            refine R.nil ?_
            refine X.then_ ?_
            refine wp_block ?_
            replace hs := hs.front 1 rfl
            replace hs := hs.front 2 rfl
            obtain ⟨kk, h⟩ := h
            refine C.loop (fun kk a w => ∃ (gj2 : Nat) (b2 : Int), iterF (fun again (s : Int) => M_stack_CheckSpans_L4 Q y3 xk3 next3 (fun b2 => again b2) s) kk b2 ∧ FrOk 163 [(11, .slice y3A y3.length y3C), (18, .pointer (some ⟨g1, 0, none⟩)), (19, .pointer (some ⟨gj2, 0, none⟩)), (142, .slice (segA y3A y3C (y4 : Int).toNat 2) (seg y3 y4 (y3.length : Int)).length (y3C - (y4 : Int).toNat)), (143, .int .i64 ((seg y3 y4 (y3.length : Int)).length : Int)), (144, .int .i64 (k3 : Int))] a ∧ Sat w0 none_ [hown 59 y3A y3C y3, hbox g1 59 [.int .i64 xk3.From, .int .i64 xk3.To], hbox gj2 3 [.int .i64 b2]] w) kk ⟨g2, (w64 (xk3.From + 1)), h, ((((((hf.nil.cons (hf.get 144 _ rfl)).cons (hf.get 143 _ rfl)).cons (hf.get 142 _ rfl)).cons (hf.get 19 _ rfl)).cons (hf.get 18 _ rfl)).cons (hf.get 11 _ rfl)), hs⟩ (fun a w ⟨_, _, h, _, _⟩ => h) ?_
            clear h hf hs
            rintro kk a w ⟨gj2, b2, h, hf, hs⟩
            obtain ⟨again4, hagain4⟩ : ∃ X : Int → Prop, X = (fun b2 => iterF (fun again (s : Int) => M_stack_CheckSpans_L4 Q y3 xk3 next3 (fun b2 => again b2) s) kk b2) := ⟨_, rfl⟩
            replace h : M_stack_CheckSpans_L4 Q y3 xk3 next3 again4 b2 := by rw [hagain4]; exact h
            unfold M_stack_CheckSpans_L4 at h
            refine wp_seq ?_
            refine wp_seq ?_
            refine R.list ?_
            refine S.val hf hs (v := .int .i64 b2) rfl rfl rfl (V.loadBox 2 rfl rfl rfl Try.isAgg3 Try.sizeOf3 rfl rfl) (fun a hf => ?_)
            refine S.val hf hs (v := .pointer (some ⟨g1, 1, none⟩)) rfl rfl rfl (V.fieldBox rfl rfl Try.runUnderlying59 rfl Try.sizeOf3 rfl rfl) (fun a hf => ?_)
            refine S.val hf hs (v := .int .i64 xk3.To) rfl rfl rfl (V.loadBox 1 rfl rfl rfl Try.isAgg3 Try.sizeOf3 rfl rfl) (fun a hf => ?_)
            refine S.val hf hs (v := .bool (decide (b2 < xk3.To))) rfl rfl rfl (V.pure rfl) (fun a hf => ?_)
            refine R.nil ?_
            refine X.then_ ?_
            refine C.cond hf (b := decide (b2 < xk3.To)) rfl (fun hc => ?_) (fun hc => ?_)
            · replace h := h.1 hc
              refine wp_skip ?_
              refine X.then_ ?_
              refine wp_seq ?_
              refine wp_block ?_
              refine wp_seq ?_
              refine R.list ?_
              refine S.val hf hs (v := .slice y3A y3.length y3C) rfl rfl rfl (V.pure rfl) (fun a hf => ?_)
              refine S.val hf hs (v := .func (.func 84) #[] #[.pointer (some ⟨g1, 0, none⟩), .pointer (some ⟨gj2, 0, none⟩)]) rfl rfl rfl (V.pure rfl) (fun a hf => ?_)
              refine S.call hf rfl rfl rfl (call_fn (vs := [.slice y3A y3.length y3C, .func (.func 84) #[] #[.pointer (some ⟨g1, 0, none⟩), .pointer (some ⟨gj2, 0, none⟩)]]) rfl rfl rfl Try.call83) (R_containsfunc_thr y3 xk3 b2 _ y3A y3C (hs.ownView 0 rfl) g1 (hs.boxAt 1 rfl) gj2 (hs.boxAt 2 rfl) _ h) (fun v a w' hf hr => ?_)
              obtain ⟨y5, rfl, h2, hs2⟩ := hr
              replace h := h2; replace hs := hs.call hs2; clear h2 hs2
              refine S.val hf hs (v := .bool (!y5)) rfl rfl rfl (V.pure rfl) (fun a hf => ?_)
              refine R.nil ?_
              refine X.then_ ?_
              refine C.cond hf (b := !y5) rfl (fun hc => ?_) (fun hc => ?_)
              · replace h := h.1 hc
                refine wp_seq ?_
                refine R.list ?_
                refine S.val hf hs (v := .int .i64 11) rfl rfl rfl (V.pure rfl) (fun a hf => ?_)
                refine R.nil ?_
                refine X.then_ ?_
                refine wp_ret ?_
                refine X.blk_ret ?_
                refine X.then_ret ?_
                refine X.then_ret ?_
                refine X.blk_ret ?_
                refine X.blk_ret ?_
                refine X.then_ret ?_
                refine X.then_ret ?_
                refine X.blk_ret ?_
                refine X.then_ret ?_
                exact L.ret hf (run_results1 Try.results44 (ResIs.tmp hf rfl)) ⟨11, rfl, h, hs.nil⟩
              · replace h := h.2 hc
                refine wp_skip ?_
                refine X.blk ?_
                refine X.then_ ?_
                refine wp_seq ?_
                refine wp_seq ?_
                refine R.list ?_
                refine S.val hf hs (v := .int .i64 b2) rfl rfl rfl (V.loadBox 2 rfl rfl rfl Try.isAgg3 Try.sizeOf3 rfl rfl) (fun a hf => ?_)
                refine R.nil ?_
                refine X.then_ ?_
                refine R.list ?_
                refine S.alloc hf hs rfl rfl rfl [.int .i64 0] rfl Try.zeroValue3 rfl (fun g3 a w hf hs => ?_)
                refine S.storeBox 0 hf hs rfl rfl [.int .i64 b2] [.int .i64 b2] rfl rfl rfl rfl rfl Try.sizeOf3 rfl rfl rfl rfl (fun a w hf hs => ?_)
                refine R.nil ?_
                refine X.then_ ?_
                refine R.list ?_
                refine S.val hf hs (v := .int .i64 b2) rfl rfl rfl (V.loadBox 0 rfl rfl rfl Try.isAgg3 Try.sizeOf3 rfl rfl) (fun a hf => ?_)
                refine S.val hf hs (v := .int .i64 (w64 (b2 + 1))) rfl rfl rfl (V.pure rfl) (fun a hf => ?_)
                refine S.storeBox 0 hf hs rfl rfl [.int .i64 (w64 (b2 + 1))] [.int .i64 (w64 (b2 + 1))] rfl rfl rfl rfl rfl Try.sizeOf3 rfl rfl rfl rfl (fun a w hf hs => ?_)
                refine R.nil ?_
                refine X.then_ ?_
                replace hs := hs.front 2 rfl
                replace hs := hs.front 2 rfl
                replace hs := hs.take 3
                exact ⟨g3, (w64 (b2 + 1)), (by rw [hagain4] at h; exact h), ((((((hf.nil.cons (hf.get 144 _ rfl)).cons (hf.get 143 _ rfl)).cons (hf.get 142 _ rfl)).cons (hf.get 19 _ rfl)).cons (hf.get 18 _ rfl)).cons (hf.get 11 _ rfl)), hs⟩
            · replace h := h.2 hc
              refine wp_exit ?_
              refine X.then_exit ?_
              refine X.then_exit ?_
              refine X.blk_exit ?_
              refine X.blk ?_
              refine X.then_ ?_
              refine R.list ?_
              refine S.val hf hs (v := .int .i64 ((k3 + 1 : Nat) : Int)) rfl rfl rfl (V.incr rfl rfl rfl hltk3 hlenk3) (fun a hf => ?_)
              refine S.val hf hs (v := .int .i64 ((k3 + 1 : Nat) : Int)) rfl rfl rfl (V.pure rfl) (fun a hf => ?_)
              refine R.nil ?_
              refine X.then_ ?_
              replace hs := hs.take 1
              exact ⟨xk3, llk3, rfl, k3 + 1, range_drop hlk3, range_len hkk3, (by rw [hnext3] at h; exact h), ((((hf.nil.cons (hf.get 143 _ rfl)).cons (hf.get 142 _ rfl)).cons (hf.get 11 _ rfl)).cons (hf.get 144 _ rfl)), hs⟩
        | cons xk2 llk2 =>
          have hltk2 := range_lt hkk2; have hc := range_go hkk2; have hxk2 := range_get hlk2
          obtain ⟨next2, hnext2⟩ : ∃ X : Prop, X = (forIn' (fun k x (s : Unit) next => M_stack_CheckSpans_L2 Q y3 k x (next ())) (fun (s : Unit) => must (0 ≤ y4 ∧ y4 ≤ (y3.length : Int) ∧ (y3.length : Int) ≤ (y3.length : Int)) (forIn' (fun k x (s : Unit) next => M_stack_CheckSpans_L3 Q y3 k x (next ())) (fun (s : Unit) => Q 0) (seg y3 y4 (y3.length : Int)) 0 ())) llk2 (k2 + 1) ()) := ⟨_, rfl⟩
          replace h : M_stack_CheckSpans_L2 Q y3 k2 xk2  next2 := by rw [hnext2]; exact h
          unfold M_stack_CheckSpans_L2 at h
          refine wp_seq ?_
          refine R.list ?_
          refine S.val hf hs (v := .bool true) rfl rfl rfl (V.cmp true rfl rfl rfl rfl hc) (fun a hf => ?_)
          refine R.nil ?_
          refine X.then_ ?_
          refine wp_seq ?_
          refine C.yes hf rfl ?_
          refine wp_skip ?_
          refine X.then_ ?_
          refine wp_seq ?_
          refine wp_block ?_
          refine wp_seq ?_
          refine R.list ?_
          refine S.val hf hs (v := .int .i64 (k2 : Int)) rfl rfl rfl (V.pure rfl) (fun a hf => ?_)
          refine S.val hf hs (v := elemPtr y3A (k2 * 2)) rfl rfl rfl (V.index rfl rfl rfl Try.runUnderlying52 Try.sizeOf59 (hs.ownSome 0 rfl (lt_of_get hxk2)) (Int.natCast_nonneg _) (lt_of_get hxk2) rfl) (fun a hf => ?_)
          refine S.val hf hs (v := .agg #[.int .i64 xk2.From, .int .i64 xk2.To]) rfl rfl rfl (V.loadOwn (off := 0) 0 rfl hxk2 rfl rfl rfl Try.isAgg59 Try.sizeOf59 rfl rfl) (fun a hf => ?_)
          refine S.alloc hf hs rfl rfl rfl [.int .i64 0, .int .i64 0] rfl Try.zeroValue59 rfl (fun g4 a w hf hs => ?_)
          refine S.val hf hs (v := .int .i64 (k2 : Int)) rfl rfl rfl (V.pure rfl) (fun a hf => ?_)
          refine S.storeBox 0 hf hs rfl rfl [.int .i64 xk2.From, .int .i64 xk2.To] [.int .i64 xk2.From, .int .i64 xk2.To] rfl rfl rfl rfl rfl Try.sizeOf59 rfl rfl rfl rfl (fun a w hf hs => ?_)
          refine R.nil ?_
          refine X.then_ ?_
          refine wp_seq ?_
          refine R.list ?_
          refine S.val hf hs (v := .slice y3A y3.length y3C) rfl rfl rfl (V.pure rfl) (fun a hf => ?_)
          refine S.val hf hs (v := .int .i64 (k2 : Int)) rfl rfl rfl (V.pure rfl) (fun a hf => ?_)
          obtain ⟨hp2, h⟩ := h
          refine S.val hf hs (v := .slice y3A (y3.take (k2 : Int).toNat).length y3C) rfl rfl rfl (V.slicePre (xs := y3) rfl rfl rfl rfl Try.runUnderlying52 Try.sizeOf59 rfl hp2 (hs.ownView 1 rfl).cap) (fun a hf => ?_)
          refine S.val hf hs (v := .int .i64 ((y3.take (k2 : Int).toNat).length : Int)) rfl rfl rfl (V.len rfl rfl Try.runUnderlying52) (fun a hf => ?_)
          refine S.val hf hs (v := .int .i64 0) rfl rfl rfl (V.pure rfl) (fun a hf => ?_)
          refine R.nil ?_
          refine X.then_ ?_
          refine wp_block ?_
          have hlenk5 := (View.take (hs.ownView 1 rfl) (k2 : Int).toNat).len64
          refine C.range (fun (ll : List Through) a w => ∃ (k5 : Nat) , (y3.take (k2 : Int).toNat).drop k5 = ll ∧ k5 + ll.length = (y3.take (k2 : Int).toNat).length ∧ forIn' (fun k x (s : Unit) next => M_stack_CheckSpans_L5 Q xk2 k x (next ())) (fun (s : Unit) => next2) ll k5 () ∧ FrOk 163 [(110, .int .i64 (k5 : Int)), (11, .slice y3A y3.length y3C), (12, .int .i64 y4), (14, .pointer (some ⟨g4, 0, none⟩)), (99, .slice y3A y3.length y3C), (100, .int .i64 (y3.length : Int)), (101, .int .i64 (k2 : Int)), (108, .slice y3A (y3.take (k2 : Int).toNat).length y3C), (109, .int .i64 ((y3.take (k2 : Int).toNat).length : Int))] a ∧ Sat w0 none_ [hbox g4 59 [.int .i64 xk2.From, .int .i64 xk2.To], hown 59 y3A y3C y3, hown 3 y2A y2C y2] w) (y3.take (k2 : Int).toNat) ⟨0, rfl, Nat.zero_add _, h, (((((((((hf.nil.cons (hf.get 109 _ rfl)).cons (hf.get 108 _ rfl)).cons (hf.get 101 _ rfl)).cons (hf.get 100 _ rfl)).cons (hf.get 99 _ rfl)).cons (hf.get 14 _ rfl)).cons (hf.get 12 _ rfl)).cons (hf.get 11 _ rfl)).cons (hf.get 110 _ rfl)), hs⟩ ?_
          clear h hf hs
          rintro llk5 a w ⟨k5, hlk5, hkk5, h, hf, hs⟩
          cases llk5 with
          | nil =>
            have hc := range_done hkk5
            replace h : next2 := h
            refine wp_seq ?_
            refine R.list ?_
            refine S.val hf hs (v := .bool false) rfl rfl rfl (V.cmp false rfl rfl rfl rfl hc) (fun a hf => ?_)
            refine R.nil ?_
            refine X.then_ ?_
            refine wp_seq ?_
            refine C.no hf rfl ?_
            refine wp_exit ?_
            refine X.then_exit ?_
            refine X.then_exit ?_
            refine X.blk_exit ?_
            refine X.blk ?_
            refine X.then_ ?_
            refine R.list ?_
            refine S.val hf hs (v := .int .i64 ((k2 + 1 : Nat) : Int)) rfl rfl rfl (V.incr rfl rfl rfl hltk2 hlenk2) (fun a hf => ?_)
            refine S.val hf hs (v := .int .i64 ((k2 + 1 : Nat) : Int)) rfl rfl rfl (V.pure rfl) (fun a hf => ?_)
            refine R.nil ?_
            refine X.then_ ?_
            exact ⟨xk2, llk2, rfl, k2 + 1, range_drop hlk2, range_len hkk2, (by rw [hnext2] at h; exact h), (((((hf.nil.cons (hf.get 100 _ rfl)).cons (hf.get 99 _ rfl)).cons (hf.get 12 _ rfl)).cons (hf.get 11 _ rfl)).cons (hf.get 101 _ rfl)), hs.drop⟩
          | cons xk5 llk5 =>
            have hltk5 := range_lt hkk5; have hc := range_go hkk5; have hxk5 := range_get hlk5
            obtain ⟨next5, hnext5⟩ : ∃ X : Prop, X = (forIn' (fun k x (s : Unit) next => M_stack_CheckSpans_L5 Q xk2 k x (next ())) (fun (s : Unit) => next2) llk5 (k5 + 1) ()) := ⟨_, rfl⟩
            replace h : M_stack_CheckSpans_L5 Q xk2 k5 xk5  next5 := by rw [hnext5]; exact h
            unfold M_stack_CheckSpans_L5 at h
            refine wp_seq ?_
            refine R.list ?_
            refine S.val hf hs (v := .bool true) rfl rfl rfl (V.cmp true rfl rfl rfl rfl hc) (fun a hf => ?_)
            refine R.nil ?_
            refine X.then_ ?_
            refine wp_seq ?_
            refine C.yes hf rfl ?_
            refine wp_skip ?_
            refine X.then_ ?_
            refine wp_seq ?_
            refine wp_block ?_
            refine wp_seq ?_
            refine R.list ?_
            have hx2 := take_get hxk5
            refine S.val hf hs (v := elemPtr y3A (k5 * 2)) rfl rfl rfl (V.index rfl rfl rfl Try.runUnderlying52 Try.sizeOf59 (hs.ownSome 1 rfl (lt_of_get hx2)) (Int.natCast_nonneg _) (lt_of_get hxk5) rfl) (fun a hf => ?_)
            refine S.val hf hs (v := .agg #[.int .i64 xk5.From, .int .i64 xk5.To]) rfl rfl rfl (V.loadOwn (off := 0) 1 rfl hx2 rfl rfl rfl Try.isAgg59 Try.sizeOf59 rfl rfl) (fun a hf => ?_)
            refine S.alloc hf hs rfl rfl rfl [.int .i64 0, .int .i64 0] rfl Try.zeroValue59 rfl (fun g5 a w hf hs => ?_)
            refine S.storeBox 0 hf hs rfl rfl [.int .i64 xk5.From, .int .i64 xk5.To] [.int .i64 xk5.From, .int .i64 xk5.To] rfl rfl rfl rfl rfl Try.sizeOf59 rfl rfl rfl rfl (fun a w hf hs => ?_)
            refine R.nil ?_
            refine X.then_ ?_
            refine wp_seq ?_
            refine C.cut (J := fun a w => ∃ (c1 : Bool), M_stack_CheckSpans_k6 Q next5 c1 ∧ FrOk 163 [(11, .slice y3A y3.length y3C), (12, .int .i64 y4), (14, .pointer (some ⟨g4, 0, none⟩)), (99, .slice y3A y3.length y3C), (100, .int .i64 (y3.length : Int)), (101, .int .i64 (k2 : Int)), (108, .slice y3A (y3.take (k2 : Int).toNat).length y3C), (109, .int .i64 ((y3.take (k2 : Int).toNat).length : Int)), (110, .int .i64 (k5 : Int)), (137, .bool c1)] a ∧ Sat w0 none_ [hbox g5 59 [.int .i64 xk5.From, .int .i64 xk5.To], hbox g4 59 [.int .i64 xk2.From, .int .i64 xk2.To], hown 59 y3A y3C y3, hown 3 y2A y2C y2] w) ?_ ?_
            · rintro a w ⟨c1, h, hf, hs⟩
              unfold M_stack_CheckSpans_k6 at h
              refine C.cond hf (b := c1) rfl (fun hc => ?_) (fun hc => ?_)
              · replace h := h.1 hc
                refine wp_seq ?_
                refine R.list ?_
                refine S.val hf hs (v := .int .i64 12) rfl rfl rfl (V.pure rfl) (fun a hf => ?_)
                refine R.nil ?_
                refine X.then_ ?_
                refine wp_ret ?_
                refine X.blk_ret ?_
                refine X.then_ret ?_
                refine X.then_ret ?_
                refine X.blk_ret ?_
                refine X.blk_ret ?_
                refine X.then_ret ?_
                refine X.then_ret ?_
                refine X.blk_ret ?_
                refine X.then_ret ?_
                exact L.ret hf (run_results1 Try.results44 (ResIs.tmp hf rfl)) ⟨12, rfl, h, hs.nil⟩
              · replace h := h.2 hc
                refine wp_skip ?_
                refine X.blk ?_
                refine X.then_ ?_
                refine R.list ?_
                refine S.val hf hs (v := .int .i64 ((k5 + 1 : Nat) : Int)) rfl rfl rfl (V.incr rfl rfl rfl hltk5 hlenk5) (fun a hf => ?_)
                refine S.val hf hs (v := .int .i64 ((k5 + 1 : Nat) : Int)) rfl rfl rfl (V.pure rfl) (fun a hf => ?_)
                refine R.nil ?_
                refine X.then_ ?_
                exact ⟨xk5, llk5, rfl, k5 + 1, range_drop hlk5, range_len hkk5, (by rw [hnext5] at h; exact h), (((((((((hf.nil.cons (hf.get 109 _ rfl)).cons (hf.get 108 _ rfl)).cons (hf.get 101 _ rfl)).cons (hf.get 100 _ rfl)).cons (hf.get 99 _ rfl)).cons (hf.get 14 _ rfl)).cons (hf.get 12 _ rfl)).cons (hf.get 11 _ rfl)).cons (hf.get 110 _ rfl)), hs.drop⟩
            · skip
              refine R.list ?_
              refine S.val hf hs (v := .pointer (some ⟨g4, 0, none⟩)) rfl rfl rfl (V.fieldBox rfl rfl Try.runUnderlying59 rfl Try.sizeOf3 rfl rfl) (fun a hf => ?_)
              refine S.val hf hs (v := .int .i64 xk2.From) rfl rfl rfl (V.loadBox 1 rfl rfl rfl Try.isAgg3 Try.sizeOf3 rfl rfl) (fun a hf => ?_)
              refine S.val hf hs (v := .pointer (some ⟨g5, 1, none⟩)) rfl rfl rfl (V.fieldBox rfl rfl Try.runUnderlying59 rfl Try.sizeOf3 rfl rfl) (fun a hf => ?_)
              refine S.val hf hs (v := .int .i64 xk5.To) rfl rfl rfl (V.loadBox 0 rfl rfl rfl Try.isAgg3 Try.sizeOf3 rfl rfl) (fun a hf => ?_)
              refine S.val hf hs (v := .bool (decide (xk2.From ≤ xk5.To))) rfl rfl rfl (V.pure rfl) (fun a hf => ?_)
              refine S.split hf hs (b := decide (xk2.From ≤ xk5.To)) rfl rfl rfl (V.pure rfl) (fun hc a hf => ?_) (fun hc a hf => ?_)
              · replace h := h.1 hc
                refine S.val hf hs (v := .pointer (some ⟨g5, 0, none⟩)) rfl rfl rfl (V.fieldBox rfl rfl Try.runUnderlying59 rfl Try.sizeOf3 rfl rfl) (fun a hf => ?_)
                refine S.val hf hs (v := .int .i64 xk5.From) rfl rfl rfl (V.loadBox 0 rfl rfl rfl Try.isAgg3 Try.sizeOf3 rfl rfl) (fun a hf => ?_)
                refine S.val hf hs (v := .pointer (some ⟨g4, 1, none⟩)) rfl rfl rfl (V.fieldBox rfl rfl Try.runUnderlying59 rfl Try.sizeOf3 rfl rfl) (fun a hf => ?_)
                refine S.val hf hs (v := .int .i64 xk2.To) rfl rfl rfl (V.loadBox 1 rfl rfl rfl Try.isAgg3 Try.sizeOf3 rfl rfl) (fun a hf => ?_)
                refine S.val hf hs (v := .bool (decide (xk5.From ≤ xk2.To))) rfl rfl rfl (V.pure rfl) (fun a hf => ?_)
                refine S.val hf hs (v := .bool (decide (xk5.From ≤ xk2.To))) rfl rfl rfl (V.pure rfl) (fun a hf => ?_)
                refine S.split hf hs (b := decide (xk5.From ≤ xk2.To)) rfl rfl rfl (V.pure rfl) (fun hc a hf => ?_) (fun hc a hf => ?_)
                · replace h := h.1 hc
                  refine S.val hf hs (v := .agg #[.int .i64 xk2.From, .int .i64 xk2.To]) rfl rfl rfl (V.loadBox 1 rfl rfl rfl Try.isAgg59 Try.sizeOf59 rfl rfl) (fun a hf => ?_)
                  refine S.val hf hs (v := .agg #[.int .i64 xk5.From, .int .i64 xk5.To]) rfl rfl rfl (V.loadBox 0 rfl rfl rfl Try.isAgg59 Try.sizeOf59 rfl rfl) (fun a hf => ?_)
                  refine S.call hf rfl rfl rfl (call_fn (vs := [.agg #[.int .i64 xk2.From, .int .i64 xk2.To], .agg #[.int .i64 xk5.From, .int .i64 xk5.To]]) rfl rfl rfl Try.call82) (R_stack_lies xk2 xk5 _  _ h) (fun v a w' hf hr => ?_)
                  obtain ⟨y6, rfl, h2, hs2⟩ := hr
                  replace h := h2; replace hs := hs.call hs2; clear h2 hs2
                  refine S.val hf hs (v := .bool (!y6)) rfl rfl rfl (V.pure rfl) (fun a hf => ?_)
                  refine S.val hf hs (v := .bool (!y6)) rfl rfl rfl (V.pure rfl) (fun a hf => ?_)
                  refine S.split hf hs (b := !y6) rfl rfl rfl (V.pure rfl) (fun hc a hf => ?_) (fun hc a hf => ?_)
                  · replace h := h.1 hc
                    refine S.val hf hs (v := .agg #[.int .i64 xk5.From, .int .i64 xk5.To]) rfl rfl rfl (V.loadBox 0 rfl rfl rfl Try.isAgg59 Try.sizeOf59 rfl rfl) (fun a hf => ?_)
                    refine S.val hf hs (v := .agg #[.int .i64 xk2.From, .int .i64 xk2.To]) rfl rfl rfl (V.loadBox 1 rfl rfl rfl Try.isAgg59 Try.sizeOf59 rfl rfl) (fun a hf => ?_)
                    refine S.call hf rfl rfl rfl (call_fn (vs := [.agg #[.int .i64 xk5.From, .int .i64 xk5.To], .agg #[.int .i64 xk2.From, .int .i64 xk2.To]]) rfl rfl rfl Try.call82) (R_stack_lies xk5 xk2 _  _ h) (fun v a w' hf hr => ?_)
                    obtain ⟨y7, rfl, h2, hs2⟩ := hr
                    replace h := h2; replace hs := hs.call hs2; clear h2 hs2
                    refine S.val hf hs (v := .bool (!y7)) rfl rfl rfl (V.pure rfl) (fun a hf => ?_)
                    refine S.val hf hs (v := .bool (!y7)) rfl rfl rfl (V.pure rfl) (fun a hf => ?_)
                    refine R.nil ?_
                    refine X.then_ ?_
                    exact ⟨(!y7), h, ((((((((((hf.nil.cons (hf.get 137 _ rfl)).cons (hf.get 110 _ rfl)).cons (hf.get 109 _ rfl)).cons (hf.get 108 _ rfl)).cons (hf.get 101 _ rfl)).cons (hf.get 100 _ rfl)).cons (hf.get 99 _ rfl)).cons (hf.get 14 _ rfl)).cons (hf.get 12 _ rfl)).cons (hf.get 11 _ rfl)), hs⟩
                  · replace h := h.2 hc
                    refine S.skip hf rfl rfl rfl (fun a hf => ?_)
                    refine S.skip hf rfl rfl rfl (fun a hf => ?_)
                    refine S.skip hf rfl rfl rfl (fun a hf => ?_)
                    refine S.skip hf rfl rfl rfl (fun a hf => ?_)
                    refine S.val hf hs (v := .bool false) rfl rfl rfl (V.pure rfl) (fun a hf => ?_)
                    refine R.nil ?_
                    refine X.then_ ?_
                    exact ⟨false, h, ((((((((((hf.nil.cons (hf.get 137 _ rfl)).cons (hf.get 110 _ rfl)).cons (hf.get 109 _ rfl)).cons (hf.get 108 _ rfl)).cons (hf.get 101 _ rfl)).cons (hf.get 100 _ rfl)).cons (hf.get 99 _ rfl)).cons (hf.get 14 _ rfl)).cons (hf.get 12 _ rfl)).cons (hf.get 11 _ rfl)), hs⟩
                · replace h := h.2 hc
                  refine S.skip hf rfl rfl rfl (fun a hf => ?_)
                  refine S.skip hf rfl rfl rfl (fun a hf => ?_)
                  refine S.skip hf rfl rfl rfl (fun a hf => ?_)
                  refine S.skip hf rfl rfl rfl (fun a hf => ?_)
                  refine S.val hf hs (v := .bool false) rfl rfl rfl (V.pure rfl) (fun a hf => ?_)
                  refine S.val hf hs (v := .bool false) rfl rfl rfl (V.pure rfl) (fun a hf => ?_)
                  refine S.skip hf rfl rfl rfl (fun a hf => ?_)
                  refine S.skip hf rfl rfl rfl (fun a hf => ?_)
                  refine S.skip hf rfl rfl rfl (fun a hf => ?_)
                  refine S.skip hf rfl rfl rfl (fun a hf => ?_)
                  refine S.val hf hs (v := .bool false) rfl rfl rfl (V.pure rfl) (fun a hf => ?_)
                  refine R.nil ?_
                  refine X.then_ ?_
                  exact ⟨false, h, ((((((((((hf.nil.cons (hf.get 137 _ rfl)).cons (hf.get 110 _ rfl)).cons (hf.get 109 _ rfl)).cons (hf.get 108 _ rfl)).cons (hf.get 101 _ rfl)).cons (hf.get 100 _ rfl)).cons (hf.get 99 _ rfl)).cons (hf.get 14 _ rfl)).cons (hf.get 12 _ rfl)).cons (hf.get 11 _ rfl)), hs⟩
              · replace h := h.2 hc
                refine S.skip hf rfl rfl rfl (fun a hf => ?_)
                refine S.skip hf rfl rfl rfl (fun a hf => ?_)
                refine S.skip hf rfl rfl rfl (fun a hf => ?_)
                refine S.skip hf rfl rfl rfl (fun a hf => ?_)
                refine S.skip hf rfl rfl rfl (fun a hf => ?_)
                refine S.val hf hs (v := .bool false) rfl rfl rfl (V.pure rfl) (fun a hf => ?_)
                refine S.val hf hs (v := .bool false) rfl rfl rfl (V.pure rfl) (fun a hf => ?_)
                refine S.skip hf rfl rfl rfl (fun a hf => ?_)
                refine S.skip hf rfl rfl rfl (fun a hf => ?_)
                refine S.skip hf rfl rfl rfl (fun a hf => ?_)
                refine S.skip hf rfl rfl rfl (fun a hf => ?_)
                refine S.val hf hs (v := .bool false) rfl rfl rfl (V.pure rfl) (fun a hf => ?_)
                refine S.val hf hs (v := .bool false) rfl rfl rfl (V.pure rfl) (fun a hf => ?_)
                refine S.skip hf rfl rfl rfl (fun a hf => ?_)
                refine S.skip hf rfl rfl rfl (fun a hf => ?_)
                refine S.skip hf rfl rfl rfl (fun a hf => ?_)
                refine S.skip hf rfl rfl rfl (fun a hf => ?_)
                refine S.val hf hs (v := .bool false) rfl rfl rfl (V.pure rfl) (fun a hf => ?_)
                refine R.nil ?_
                refine X.then_ ?_
                exact ⟨false, h, ((((((((((hf.nil.cons (hf.get 137 _ rfl)).cons (hf.get 110 _ rfl)).cons (hf.get 109 _ rfl)).cons (hf.get 108 _ rfl)).cons (hf.get 101 _ rfl)).cons (hf.get 100 _ rfl)).cons (hf.get 99 _ rfl)).cons (hf.get 14 _ rfl)).cons (hf.get 12 _ rfl)).cons (hf.get 11 _ rfl)), hs⟩
      | cons xk1 llk1 =>
        have hltk1 := range_lt hkk1; have hc := range_go hkk1; have hxk1 := range_get hlk1
        obtain ⟨next1, hnext1⟩ : ∃ X : Prop, X = (forIn' (fun k x (s : Unit) next => M_stack_CheckSpans_L1 l Q y2 k x (next ())) (fun (s : Unit) => M_stack_boards m s_ l fun y3 y4 => forIn' (fun k x (s : Unit) next => M_stack_CheckSpans_L2 Q y3 k x (next ())) (fun (s : Unit) => must (0 ≤ y4 ∧ y4 ≤ (y3.length : Int) ∧ (y3.length : Int) ≤ (y3.length : Int)) (forIn' (fun k x (s : Unit) next => M_stack_CheckSpans_L3 Q y3 k x (next ())) (fun (s : Unit) => Q 0) (seg y3 y4 (y3.length : Int)) 0 ())) y3 0 ()) llk1 (k1 + 1) ()) := ⟨_, rfl⟩
        replace h : M_stack_CheckSpans_L1 l Q y2 k1 xk1  next1 := by rw [hnext1]; exact h
        unfold M_stack_CheckSpans_L1 at h
        refine wp_seq ?_
        refine R.list ?_
        refine S.val hf hs (v := .bool true) rfl rfl rfl (V.cmp true rfl rfl rfl rfl hc) (fun a hf => ?_)
        refine R.nil ?_
        refine X.then_ ?_
        refine wp_seq ?_
        refine C.yes hf rfl ?_
        refine wp_skip ?_
        refine X.then_ ?_
        refine wp_seq ?_
        refine wp_block ?_
        refine wp_seq ?_
        refine R.list ?_
        refine S.val hf hs (v := .int .i64 (k1 : Int)) rfl rfl rfl (V.pure rfl) (fun a hf => ?_)
        refine S.val hf hs (v := elemPtr lA (k1 * 2)) rfl rfl rfl (V.index rfl rfl rfl Try.runUnderlying52 Try.sizeOf59 (hv_l.some_ (lt_of_get hxk1)) (Int.natCast_nonneg _) (lt_of_get hxk1) rfl) (fun a hf => ?_)
        refine S.val hf hs (v := .agg #[.int .i64 xk1.From, .int .i64 xk1.To]) rfl rfl rfl (V.loadEl (off := 0) (Ag.args _ _ _) (hv_l.flat hxk1) rfl rfl rfl Try.isAgg59 Try.sizeOf59 rfl rfl) (fun a hf => ?_)
        refine S.alloc hf hs rfl rfl rfl [.int .i64 0, .int .i64 0] rfl Try.zeroValue59 rfl (fun g6 a w hf hs => ?_)
        refine S.val hf hs (v := .int .i64 (k1 : Int)) rfl rfl rfl (V.pure rfl) (fun a hf => ?_)
        refine S.storeBox 0 hf hs rfl rfl [.int .i64 xk1.From, .int .i64 xk1.To] [.int .i64 xk1.From, .int .i64 xk1.To] rfl rfl rfl rfl rfl Try.sizeOf59 rfl rfl rfl rfl (fun a w hf hs => ?_)
        refine R.nil ?_
        refine X.then_ ?_
        refine wp_seq ?_
        refine wp_seq ?_
        refine C.cut (J := fun a w => ∃ (c2 : Bool), M_stack_CheckSpans_k7 l Q k1 xk1 next1 c2 ∧ FrOk 163 [(0, .slice mA m.length mC), (1, .slice s_A s_.length s_C), (2, .slice lA l.length lC), (8, .int .i64 (y2.length : Int)), (9, .int .i64 (k1 : Int)), (10, .pointer (some ⟨g6, 0, none⟩)), (33, .slice lA l.length lC), (34, .int .i64 (l.length : Int)), (35, .int .i64 (k1 : Int)), (55, .bool c2)] a ∧ Sat w0 none_ [hbox g6 59 [.int .i64 xk1.From, .int .i64 xk1.To], hown 3 y2A y2C y2] w) ?_ ?_
        · rintro a w ⟨c2, h, hf, hs⟩
          unfold M_stack_CheckSpans_k7 at h
          refine C.cond hf (b := c2) rfl (fun hc => ?_) (fun hc => ?_)
          · replace h := h.1 hc
            refine wp_seq ?_
            refine R.list ?_
            refine S.val hf hs (v := .int .i64 1) rfl rfl rfl (V.pure rfl) (fun a hf => ?_)
            refine R.nil ?_
            refine X.then_ ?_
            refine wp_ret ?_
            refine X.then_ret ?_
            refine X.blk_ret ?_
            refine X.then_ret ?_
            refine X.then_ret ?_
            refine X.blk_ret ?_
            refine X.then_ret ?_
            exact L.ret hf (run_results1 Try.results44 (ResIs.tmp hf rfl)) ⟨1, rfl, h, hs.nil⟩
          · replace h := h.2 hc
            refine wp_skip ?_
            refine X.then_ ?_
            refine wp_seq ?_
            refine C.cut (J := fun a w => ∃ (c3 : Bool), M_stack_CheckSpans_k8 Q next1 c3 ∧ FrOk 163 [(0, .slice mA m.length mC), (1, .slice s_A s_.length s_C), (2, .slice lA l.length lC), (8, .int .i64 (y2.length : Int)), (33, .slice lA l.length lC), (34, .int .i64 (l.length : Int)), (35, .int .i64 (k1 : Int)), (90, .bool c3)] a ∧ Sat w0 none_ [hbox g6 59 [.int .i64 xk1.From, .int .i64 xk1.To], hown 3 y2A y2C y2] w) ?_ ?_
            · rintro a w ⟨c3, h, hf, hs⟩
              unfold M_stack_CheckSpans_k8 at h
              refine C.cond hf (b := c3) rfl (fun hc => ?_) (fun hc => ?_)
              · replace h := h.1 hc
                refine wp_seq ?_
                refine R.list ?_
                refine S.val hf hs (v := .int .i64 8) rfl rfl rfl (V.pure rfl) (fun a hf => ?_)
                refine R.nil ?_
                refine X.then_ ?_
                refine wp_ret ?_
                refine X.blk_ret ?_
                refine X.then_ret ?_
                refine X.then_ret ?_
                refine X.blk_ret ?_
                refine X.then_ret ?_
                exact L.ret hf (run_results1 Try.results44 (ResIs.tmp hf rfl)) ⟨8, rfl, h, hs.nil⟩
              · replace h := h.2 hc
                refine wp_skip ?_
                refine X.blk ?_
                refine X.then_ ?_
                refine R.list ?_
                refine S.val hf hs (v := .int .i64 ((k1 + 1 : Nat) : Int)) rfl rfl rfl (V.incr rfl rfl rfl hltk1 hlenk1) (fun a hf => ?_)
                refine S.val hf hs (v := .int .i64 ((k1 + 1 : Nat) : Int)) rfl rfl rfl (V.pure rfl) (fun a hf => ?_)
                refine R.nil ?_
                refine X.then_ ?_
                exact ⟨xk1, llk1, rfl, k1 + 1, range_drop hlk1, range_len hkk1, (by rw [hnext1] at h; exact h), (((((((hf.nil.cons (hf.get 34 _ rfl)).cons (hf.get 33 _ rfl)).cons (hf.get 8 _ rfl)).cons (hf.get 2 _ rfl)).cons (hf.get 1 _ rfl)).cons (hf.get 0 _ rfl)).cons (hf.get 35 _ rfl)), hs.drop⟩
            · skip
              refine R.draw mo (by kernel_rfl) hs ?_
              refine D.val hf (v := .int .i64 (k1 : Int)) rfl rfl rfl (V.pure rfl) (fun a hf => ?_)
              refine D.val hf (v := .bool (decide ((k1 : Int) > 0))) rfl rfl rfl (V.pure rfl) (fun a hf => ?_)
              refine D.split hf (b := decide ((k1 : Int) > 0)) rfl rfl rfl (V.pure rfl) (fun hc a hf => ?_) (fun hc a hf => ?_)
              · replace h := h.1 hc
                refine D.val hf (v := .pointer (some ⟨g6, 0, none⟩)) rfl rfl rfl (V.fieldBox rfl rfl Try.runUnderlying59 rfl Try.sizeOf3 rfl rfl) (fun a hf => ?_)
                refine D.val hf (v := .int .i64 xk1.From) rfl rfl rfl (V.loadBox 0 rfl rfl rfl Try.isAgg3 Try.sizeOf3 rfl rfl) (fun a hf => ?_)
                refine D.val hf (v := .slice lA l.length lC) rfl rfl rfl (V.pure rfl) (fun a hf => ?_)
                refine D.val hf (v := .int .i64 (k1 : Int)) rfl rfl rfl (V.pure rfl) (fun a hf => ?_)
                refine D.val hf (v := .int .i64 (w64 ((k1 : Int) - 1))) rfl rfl rfl (V.pure rfl) (fun a hf => ?_)
                obtain ⟨h0x1, x1, hx1, h⟩ := h
                refine D.val hf (v := elemPtr lA ((w64 ((k1 : Int) - 1)).toNat * 2)) rfl rfl rfl (V.index rfl rfl rfl Try.runUnderlying52 Try.sizeOf59 (hv_l.some_ (lt_of_get hx1)) h0x1 (lt_of_get hx1) rfl) (fun a hf => ?_)
                refine D.val hf (v := elemPtr lA ((w64 ((k1 : Int) - 1)).toNat * 2)) rfl rfl rfl (V.fieldEl rfl rfl (hv_l.some_ (lt_of_get hx1)) Try.runUnderlying59 rfl Try.sizeOf3 rfl rfl) (fun a hf => ?_)
                refine D.val hf (v := .int .i64 x1.From) rfl rfl rfl (V.loadEl (off := 0) (Ag.args _ _ _) (hv_l.flat hx1) rfl rfl rfl Try.isAgg3 Try.sizeOf3 rfl rfl) (fun a hf => ?_)
                refine D.val hf (v := .bool (decide (xk1.From < x1.From))) rfl rfl rfl (V.pure rfl) (fun a hf => ?_)
                refine D.split hf (b := decide (xk1.From < x1.From)) rfl rfl rfl (V.pure rfl) (fun hc a hf => ?_) (fun hc a hf => ?_)
                · replace h := h.1 hc
                  refine D.skip hf rfl rfl rfl (fun a hf => ?_)
                  refine D.skip hf rfl rfl rfl (fun a hf => ?_)
                  refine D.skip hf rfl rfl rfl (fun a hf => ?_)
                  refine D.skip hf rfl rfl rfl (fun a hf => ?_)
                  refine D.skip hf rfl rfl rfl (fun a hf => ?_)
                  refine D.skip hf rfl rfl rfl (fun a hf => ?_)
                  refine D.skip hf rfl rfl rfl (fun a hf => ?_)
                  refine D.skip hf rfl rfl rfl (fun a hf => ?_)
                  refine D.skip hf rfl rfl rfl (fun a hf => ?_)
                  refine D.skip hf rfl rfl rfl (fun a hf => ?_)
                  refine D.skip hf rfl rfl rfl (fun a hf => ?_)
                  refine D.skip hf rfl rfl rfl (fun a hf => ?_)
                  refine D.skip hf rfl rfl rfl (fun a hf => ?_)
                  refine D.skip hf rfl rfl rfl (fun a hf => ?_)
                  refine D.skip hf rfl rfl rfl (fun a hf => ?_)
                  refine D.skip hf rfl rfl rfl (fun a hf => ?_)
                  refine D.skip hf rfl rfl rfl (fun a hf => ?_)
                  refine D.skip hf rfl rfl rfl (fun a hf => ?_)
                  refine D.skip hf rfl rfl rfl (fun a hf => ?_)
                  refine D.skip hf rfl rfl rfl (fun a hf => ?_)
                  refine D.val hf (v := .bool true) rfl rfl rfl (V.pure rfl) (fun a hf => ?_)
                  refine D.val hf (v := .bool true) rfl rfl rfl (V.pure rfl) (fun a hf => ?_)
                  refine D.done (fun w hs => ?_)
                  refine X.then_ ?_
                  exact ⟨true, h, ((((((((hf.nil.cons (hf.get 90 _ rfl)).cons (hf.get 35 _ rfl)).cons (hf.get 34 _ rfl)).cons (hf.get 33 _ rfl)).cons (hf.get 8 _ rfl)).cons (hf.get 2 _ rfl)).cons (hf.get 1 _ rfl)).cons (hf.get 0 _ rfl)), hs⟩
                · replace h := h.2 hc
                  refine D.val hf (v := .pointer (some ⟨g6, 0, none⟩)) rfl rfl rfl (V.fieldBox rfl rfl Try.runUnderlying59 rfl Try.sizeOf3 rfl rfl) (fun a hf => ?_)
                  refine D.val hf (v := .int .i64 xk1.From) rfl rfl rfl (V.loadBox 0 rfl rfl rfl Try.isAgg3 Try.sizeOf3 rfl rfl) (fun a hf => ?_)
                  refine D.val hf (v := .slice lA l.length lC) rfl rfl rfl (V.pure rfl) (fun a hf => ?_)
                  refine D.val hf (v := .int .i64 (k1 : Int)) rfl rfl rfl (V.pure rfl) (fun a hf => ?_)
                  refine D.val hf (v := .int .i64 (w64 ((k1 : Int) - 1))) rfl rfl rfl (V.pure rfl) (fun a hf => ?_)
                  refine D.val hf (v := elemPtr lA ((w64 ((k1 : Int) - 1)).toNat * 2)) rfl rfl rfl (V.index rfl rfl rfl Try.runUnderlying52 Try.sizeOf59 (hv_l.some_ (lt_of_get hx1)) h0x1 (lt_of_get hx1) rfl) (fun a hf => ?_)
                  refine D.val hf (v := elemPtr lA ((w64 ((k1 : Int) - 1)).toNat * 2)) rfl rfl rfl (V.fieldEl rfl rfl (hv_l.some_ (lt_of_get hx1)) Try.runUnderlying59 rfl Try.sizeOf3 rfl rfl) (fun a hf => ?_)
                  refine D.val hf (v := .int .i64 x1.From) rfl rfl rfl (V.loadEl (off := 0) (Ag.args _ _ _) (hv_l.flat hx1) rfl rfl rfl Try.isAgg3 Try.sizeOf3 rfl rfl) (fun a hf => ?_)
                  refine D.val hf (v := .bool (xk1.From == x1.From)) rfl rfl rfl (V.pure rfl) (fun a hf => ?_)
                  refine D.split hf (b := xk1.From == x1.From) rfl rfl rfl (V.pure rfl) (fun hc a hf => ?_) (fun hc a hf => ?_)
                  · replace h := h.1 hc
                    refine D.val hf (v := .pointer (some ⟨g6, 1, none⟩)) rfl rfl rfl (V.fieldBox rfl rfl Try.runUnderlying59 rfl Try.sizeOf3 rfl rfl) (fun a hf => ?_)
                    refine D.val hf (v := .int .i64 xk1.To) rfl rfl rfl (V.loadBox 0 rfl rfl rfl Try.isAgg3 Try.sizeOf3 rfl rfl) (fun a hf => ?_)
                    refine D.val hf (v := .slice lA l.length lC) rfl rfl rfl (V.pure rfl) (fun a hf => ?_)
                    refine D.val hf (v := .int .i64 (k1 : Int)) rfl rfl rfl (V.pure rfl) (fun a hf => ?_)
                    refine D.val hf (v := .int .i64 (w64 ((k1 : Int) - 1))) rfl rfl rfl (V.pure rfl) (fun a hf => ?_)
                    refine D.val hf (v := elemPtr lA ((w64 ((k1 : Int) - 1)).toNat * 2)) rfl rfl rfl (V.index rfl rfl rfl Try.runUnderlying52 Try.sizeOf59 (hv_l.some_ (lt_of_get hx1)) h0x1 (lt_of_get hx1) rfl) (fun a hf => ?_)
                    refine D.val hf (v := elemPtr lA ((w64 ((k1 : Int) - 1)).toNat * 2 + 1)) rfl rfl rfl (V.fieldEl rfl rfl (hv_l.some_ (lt_of_get hx1)) Try.runUnderlying59 rfl Try.sizeOf3 rfl rfl) (fun a hf => ?_)
                    refine D.val hf (v := .int .i64 x1.To) rfl rfl rfl (V.loadEl (off := 1) (Ag.args _ _ _) (hv_l.flat hx1) rfl rfl rfl Try.isAgg3 Try.sizeOf3 rfl rfl) (fun a hf => ?_)
                    refine D.val hf (v := .bool (decide (xk1.To ≤ x1.To))) rfl rfl rfl (V.pure rfl) (fun a hf => ?_)
                    refine D.val hf (v := .bool (decide (xk1.To ≤ x1.To))) rfl rfl rfl (V.pure rfl) (fun a hf => ?_)
                    refine D.val hf (v := .bool (decide (xk1.To ≤ x1.To))) rfl rfl rfl (V.pure rfl) (fun a hf => ?_)
                    refine D.val hf (v := .bool (decide (xk1.To ≤ x1.To))) rfl rfl rfl (V.pure rfl) (fun a hf => ?_)
                    refine D.done (fun w hs => ?_)
                    refine X.then_ ?_
                    exact ⟨(decide (xk1.To ≤ x1.To)), h, ((((((((hf.nil.cons (hf.get 90 _ rfl)).cons (hf.get 35 _ rfl)).cons (hf.get 34 _ rfl)).cons (hf.get 33 _ rfl)).cons (hf.get 8 _ rfl)).cons (hf.get 2 _ rfl)).cons (hf.get 1 _ rfl)).cons (hf.get 0 _ rfl)), hs⟩
                  · replace h := h.2 hc
                    refine D.skip hf rfl rfl rfl (fun a hf => ?_)
                    refine D.skip hf rfl rfl rfl (fun a hf => ?_)
                    refine D.skip hf rfl rfl rfl (fun a hf => ?_)
                    refine D.skip hf rfl rfl rfl (fun a hf => ?_)
                    refine D.skip hf rfl rfl rfl (fun a hf => ?_)
                    refine D.skip hf rfl rfl rfl (fun a hf => ?_)
                    refine D.skip hf rfl rfl rfl (fun a hf => ?_)
                    refine D.skip hf rfl rfl rfl (fun a hf => ?_)
                    refine D.skip hf rfl rfl rfl (fun a hf => ?_)
                    refine D.val hf (v := .bool false) rfl rfl rfl (V.pure rfl) (fun a hf => ?_)
                    refine D.val hf (v := .bool false) rfl rfl rfl (V.pure rfl) (fun a hf => ?_)
                    refine D.val hf (v := .bool false) rfl rfl rfl (V.pure rfl) (fun a hf => ?_)
                    refine D.done (fun w hs => ?_)
                    refine X.then_ ?_
                    exact ⟨false, h, ((((((((hf.nil.cons (hf.get 90 _ rfl)).cons (hf.get 35 _ rfl)).cons (hf.get 34 _ rfl)).cons (hf.get 33 _ rfl)).cons (hf.get 8 _ rfl)).cons (hf.get 2 _ rfl)).cons (hf.get 1 _ rfl)).cons (hf.get 0 _ rfl)), hs⟩
              · replace h := h.2 hc
                refine D.skip hf rfl rfl rfl (fun a hf => ?_)
                refine D.skip hf rfl rfl rfl (fun a hf => ?_)
                refine D.skip hf rfl rfl rfl (fun a hf => ?_)
                refine D.skip hf rfl rfl rfl (fun a hf => ?_)
                refine D.skip hf rfl rfl rfl (fun a hf => ?_)
                refine D.skip hf rfl rfl rfl (fun a hf => ?_)
                refine D.skip hf rfl rfl rfl (fun a hf => ?_)
                refine D.skip hf rfl rfl rfl (fun a hf => ?_)
                refine D.skip hf rfl rfl rfl (fun a hf => ?_)
                refine D.skip hf rfl rfl rfl (fun a hf => ?_)
                refine D.skip hf rfl rfl rfl (fun a hf => ?_)
                refine D.skip hf rfl rfl rfl (fun a hf => ?_)
                refine D.skip hf rfl rfl rfl (fun a hf => ?_)
                refine D.skip hf rfl rfl rfl (fun a hf => ?_)
                refine D.skip hf rfl rfl rfl (fun a hf => ?_)
                refine D.skip hf rfl rfl rfl (fun a hf => ?_)
                refine D.skip hf rfl rfl rfl (fun a hf => ?_)
                refine D.skip hf rfl rfl rfl (fun a hf => ?_)
                refine D.skip hf rfl rfl rfl (fun a hf => ?_)
                refine D.skip hf rfl rfl rfl (fun a hf => ?_)
                refine D.skip hf rfl rfl rfl (fun a hf => ?_)
                refine D.skip hf rfl rfl rfl (fun a hf => ?_)
                refine D.skip hf rfl rfl rfl (fun a hf => ?_)
                refine D.skip hf rfl rfl rfl (fun a hf => ?_)
                refine D.skip hf rfl rfl rfl (fun a hf => ?_)
                refine D.skip hf rfl rfl rfl (fun a hf => ?_)
                refine D.skip hf rfl rfl rfl (fun a hf => ?_)
                refine D.skip hf rfl rfl rfl (fun a hf => ?_)
                refine D.skip hf rfl rfl rfl (fun a hf => ?_)
                refine D.skip hf rfl rfl rfl (fun a hf => ?_)
                refine D.skip hf rfl rfl rfl (fun a hf => ?_)
                refine D.val hf (v := .bool false) rfl rfl rfl (V.pure rfl) (fun a hf => ?_)
                refine D.done (fun w hs => ?_)
                refine X.then_ ?_
                exact ⟨false, h, ((((((((hf.nil.cons (hf.get 90 _ rfl)).cons (hf.get 35 _ rfl)).cons (hf.get 34 _ rfl)).cons (hf.get 33 _ rfl)).cons (hf.get 8 _ rfl)).cons (hf.get 2 _ rfl)).cons (hf.get 1 _ rfl)).cons (hf.get 0 _ rfl)), hs⟩
        · skip
          refine R.list ?_
          refine S.val hf hs (v := .pointer (some ⟨g6, 0, none⟩)) rfl rfl rfl (V.fieldBox rfl rfl Try.runUnderlying59 rfl Try.sizeOf3 rfl rfl) (fun a hf => ?_)
          refine S.val hf hs (v := .int .i64 xk1.From) rfl rfl rfl (V.loadBox 0 rfl rfl rfl Try.isAgg3 Try.sizeOf3 rfl rfl) (fun a hf => ?_)
          refine S.val hf hs (v := .bool (decide (xk1.From < 1))) rfl rfl rfl (V.pure rfl) (fun a hf => ?_)
          refine S.split hf hs (b := decide (xk1.From < 1)) rfl rfl rfl (V.pure rfl) (fun hc a hf => ?_) (fun hc a hf => ?_)
          · replace h := h.1 hc
            refine S.skip hf rfl rfl rfl (fun a hf => ?_)
            refine S.skip hf rfl rfl rfl (fun a hf => ?_)
            refine S.skip hf rfl rfl rfl (fun a hf => ?_)
            refine S.skip hf rfl rfl rfl (fun a hf => ?_)
            refine S.val hf hs (v := .bool true) rfl rfl rfl (V.pure rfl) (fun a hf => ?_)
            refine S.val hf hs (v := .bool true) rfl rfl rfl (V.pure rfl) (fun a hf => ?_)
            refine S.skip hf rfl rfl rfl (fun a hf => ?_)
            refine S.skip hf rfl rfl rfl (fun a hf => ?_)
            refine S.skip hf rfl rfl rfl (fun a hf => ?_)
            refine S.skip hf rfl rfl rfl (fun a hf => ?_)
            refine S.skip hf rfl rfl rfl (fun a hf => ?_)
            refine S.val hf hs (v := .bool true) rfl rfl rfl (V.pure rfl) (fun a hf => ?_)
            refine R.nil ?_
            refine X.then_ ?_
            exact ⟨true, h, ((((((((((hf.nil.cons (hf.get 55 _ rfl)).cons (hf.get 35 _ rfl)).cons (hf.get 34 _ rfl)).cons (hf.get 33 _ rfl)).cons (hf.get 10 _ rfl)).cons (hf.get 9 _ rfl)).cons (hf.get 8 _ rfl)).cons (hf.get 2 _ rfl)).cons (hf.get 1 _ rfl)).cons (hf.get 0 _ rfl)), hs⟩
          · replace h := h.2 hc
            refine S.val hf hs (v := .pointer (some ⟨g6, 1, none⟩)) rfl rfl rfl (V.fieldBox rfl rfl Try.runUnderlying59 rfl Try.sizeOf3 rfl rfl) (fun a hf => ?_)
            refine S.val hf hs (v := .int .i64 xk1.To) rfl rfl rfl (V.loadBox 0 rfl rfl rfl Try.isAgg3 Try.sizeOf3 rfl rfl) (fun a hf => ?_)
            refine S.val hf hs (v := .int .i64 (y2.length : Int)) rfl rfl rfl (V.pure rfl) (fun a hf => ?_)
            refine S.val hf hs (v := .bool (decide (xk1.To > (y2.length : Int)))) rfl rfl rfl (V.pure rfl) (fun a hf => ?_)
            refine S.val hf hs (v := .bool (decide (xk1.To > (y2.length : Int)))) rfl rfl rfl (V.pure rfl) (fun a hf => ?_)
            refine S.split hf hs (b := decide (xk1.To > (y2.length : Int))) rfl rfl rfl (V.pure rfl) (fun hc a hf => ?_) (fun hc a hf => ?_)
            · replace h := h.1 hc
              refine S.skip hf rfl rfl rfl (fun a hf => ?_)
              refine S.skip hf rfl rfl rfl (fun a hf => ?_)
              refine S.skip hf rfl rfl rfl (fun a hf => ?_)
              refine S.skip hf rfl rfl rfl (fun a hf => ?_)
              refine S.skip hf rfl rfl rfl (fun a hf => ?_)
              refine S.val hf hs (v := .bool true) rfl rfl rfl (V.pure rfl) (fun a hf => ?_)
              refine R.nil ?_
              refine X.then_ ?_
              exact ⟨true, h, ((((((((((hf.nil.cons (hf.get 55 _ rfl)).cons (hf.get 35 _ rfl)).cons (hf.get 34 _ rfl)).cons (hf.get 33 _ rfl)).cons (hf.get 10 _ rfl)).cons (hf.get 9 _ rfl)).cons (hf.get 8 _ rfl)).cons (hf.get 2 _ rfl)).cons (hf.get 1 _ rfl)).cons (hf.get 0 _ rfl)), hs⟩
            · replace h := h.2 hc
              refine S.val hf hs (v := .pointer (some ⟨g6, 1, none⟩)) rfl rfl rfl (V.fieldBox rfl rfl Try.runUnderlying59 rfl Try.sizeOf3 rfl rfl) (fun a hf => ?_)
              refine S.val hf hs (v := .int .i64 xk1.To) rfl rfl rfl (V.loadBox 0 rfl rfl rfl Try.isAgg3 Try.sizeOf3 rfl rfl) (fun a hf => ?_)
              refine S.val hf hs (v := .pointer (some ⟨g6, 0, none⟩)) rfl rfl rfl (V.fieldBox rfl rfl Try.runUnderlying59 rfl Try.sizeOf3 rfl rfl) (fun a hf => ?_)
              refine S.val hf hs (v := .int .i64 xk1.From) rfl rfl rfl (V.loadBox 0 rfl rfl rfl Try.isAgg3 Try.sizeOf3 rfl rfl) (fun a hf => ?_)
              refine S.val hf hs (v := .bool (decide (xk1.To ≤ xk1.From))) rfl rfl rfl (V.pure rfl) (fun a hf => ?_)
              refine S.val hf hs (v := .bool (decide (xk1.To ≤ xk1.From))) rfl rfl rfl (V.pure rfl) (fun a hf => ?_)
              refine R.nil ?_
              refine X.then_ ?_
              exact ⟨(decide (xk1.To ≤ xk1.From)), h, ((((((((((hf.nil.cons (hf.get 55 _ rfl)).cons (hf.get 35 _ rfl)).cons (hf.get 34 _ rfl)).cons (hf.get 33 _ rfl)).cons (hf.get 10 _ rfl)).cons (hf.get 9 _ rfl)).cons (hf.get 8 _ rfl)).cons (hf.get 2 _ rfl)).cons (hf.get 1 _ rfl)).cons (hf.get 0 _ rfl)), hs⟩

set_option linter.unusedVariables false
def M_min_int_L1 (x_ : (List Int)) (Q : Int → Prop) (again1 : Int → Int → Prop) (n3 : Int) (n4 : Int) : Prop :=
  cnd (decide (n4 < (x_.length : Int))) (idx x_ n4 fun x2 => again1 (min n3 x2) (w64 (n4 + 1))) (Q n3)
def M_min_int (x_ : (List Int)) (Q : Int → Prop) : Prop :=
  cnd (decide ((x_.length : Int) < 1)) (False) (idx x_ 0 fun x1 => lp (fun again (s : Int × Int) => M_min_int_L1 x_ Q (fun n3 n4 => again (n3, n4)) s.1 s.2) (x1, 1))
set_option maxHeartbeats 1000000 in
theorem R_min_int (x_ : (List Int)) (w0 : World) (x_A : Option Addr) (x_C : Nat) (hv_x_ : View w0 (old w0 none_) x_A x_C x_) (Q : Int → Prop) (h : M_min_int x_ Q) :
    Ret Try.prog 103 #[.slice x_A x_.length x_C] w0 fun v w' => ∃ (r0 : Int), v = .int .i64 r0 ∧ Q r0 ∧ Sat w0 none_ [] w' := by
  refine fn_enter Try.func103 rfl Try.ntmps103 rfl (fs := [(0, .slice x_A x_.length x_C)]) rfl (fun a hf => ?_)
  have hs := Sat.start w0 none_
  unfold M_min_int at h
  refine wp_seq ?_
  refine R.list ?_
  refine S.val hf hs (v := .int .i64 0) rfl rfl rfl (V.pure rfl) (fun a hf => ?_)
  refine R.nil ?_
  refine X.then_ ?_
  refine wp_seq ?_
  refine wp_seq ?_
  refine R.list ?_
  refine S.val hf hs (v := .slice x_A x_.length x_C) rfl rfl rfl (V.pure rfl) (fun a hf => ?_)
  refine S.val hf hs (v := .int .i64 (x_.length : Int)) rfl rfl rfl (V.len rfl rfl Try.runUnderlying43) (fun a hf => ?_)
  refine S.val hf hs (v := .bool (decide ((x_.length : Int) < 1))) rfl rfl rfl (V.pure rfl) (fun a hf => ?_)
  refine R.nil ?_
  refine X.then_ ?_
  refine C.cond hf (b := decide ((x_.length : Int) < 1)) rfl (fun hc => ?_) (fun hc => ?_)
  · replace h := h.1 hc
    exact h.elim
  · replace h := h.2 hc
    refine wp_skip ?_
    refine X.then_ ?_
    refine wp_seq ?_
    refine R.list ?_
    refine S.val hf hs (v := .slice x_A x_.length x_C) rfl rfl rfl (V.pure rfl) (fun a hf => ?_)
    obtain ⟨h0x1, x1, hx1, h⟩ := h
    refine S.val hf hs (v := elemPtr x_A (0 * 1)) rfl rfl rfl (V.index rfl rfl rfl Try.runUnderlying43 Try.sizeOf3 (hv_x_.some_ (lt_of_get hx1)) h0x1 (lt_of_get hx1) rfl) (fun a hf => ?_)
    refine S.val hf hs (v := .int .i64 x1) rfl rfl rfl (V.loadEl (off := 0) (Ag.args _ _ _) (hv_x_.flat hx1) rfl rfl rfl Try.isAgg3 Try.sizeOf3 rfl rfl) (fun a hf => ?_)
    refine S.val hf hs (v := .int .i64 x1) rfl rfl rfl (V.pure rfl) (fun a hf => ?_)
    refine R.nil ?_
    refine X.then_ ?_
    refine wp_seq ?_
    refine wp_seq ?_
    refine R.list ?_
    refine S.val hf hs (v := .int .i64 1) rfl rfl rfl (V.pure rfl) (fun a hf => ?_)
    refine R.nil ?_
    refine X.then_ ?_
    refine wp_block ?_
    obtain ⟨kk, h⟩ := h
    refine C.loop (fun kk a w => ∃ (n3 : Int) (n4 : Int), iterF (fun again (s : Int × Int) => M_min_int_L1 x_ Q (fun n3 n4 => again (n3, n4)) s.1 s.2) kk (n3, n4) ∧ FrOk 25 [(0, .slice x_A x_.length x_C), (3, .int .i64 n3), (4, .int .i64 n4)] a ∧ Sat w0 none_ [] w) kk ⟨x1, 1, h, (((hf.nil.cons (hf.get 4 _ rfl)).cons (hf.get 3 _ rfl)).cons (hf.get 0 _ rfl)), hs⟩ (fun a w ⟨_, _, h, _, _⟩ => h) ?_
    clear h hf hs
    rintro kk a w ⟨n3, n4, h, hf, hs⟩
    obtain ⟨again1, hagain1⟩ : ∃ X : Int → Int → Prop, X = (fun n3 n4 => iterF (fun again (s : Int × Int) => M_min_int_L1 x_ Q (fun n3 n4 => again (n3, n4)) s.1 s.2) kk (n3, n4)) := ⟨_, rfl⟩
    replace h : M_min_int_L1 x_ Q again1 n3 n4 := by rw [hagain1]; exact h
    unfold M_min_int_L1 at h
    refine wp_seq ?_
    refine wp_seq ?_
    refine R.list ?_
    refine S.val hf hs (v := .int .i64 n4) rfl rfl rfl (V.pure rfl) (fun a hf => ?_)
    refine S.val hf hs (v := .slice x_A x_.length x_C) rfl rfl rfl (V.pure rfl) (fun a hf => ?_)
    refine S.val hf hs (v := .int .i64 (x_.length : Int)) rfl rfl rfl (V.len rfl rfl Try.runUnderlying43) (fun a hf => ?_)
    refine S.val hf hs (v := .bool (decide (n4 < (x_.length : Int)))) rfl rfl rfl (V.pure rfl) (fun a hf => ?_)
    refine R.nil ?_
    refine X.then_ ?_
    refine C.cond hf (b := decide (n4 < (x_.length : Int))) rfl (fun hc => ?_) (fun hc => ?_)
    · replace h := h.1 hc
      refine wp_skip ?_
      refine X.then_ ?_
      refine wp_seq ?_
      refine wp_block ?_
      refine R.list ?_
      refine S.val hf hs (v := .int .i64 n3) rfl rfl rfl (V.pure rfl) (fun a hf => ?_)
      refine S.val hf hs (v := .slice x_A x_.length x_C) rfl rfl rfl (V.pure rfl) (fun a hf => ?_)
      refine S.val hf hs (v := .int .i64 n4) rfl rfl rfl (V.pure rfl) (fun a hf => ?_)
      obtain ⟨h0x2, x2, hx2, h⟩ := h
      refine S.val hf hs (v := elemPtr x_A (n4.toNat * 1)) rfl rfl rfl (V.index rfl rfl rfl Try.runUnderlying43 Try.sizeOf3 (hv_x_.some_ (lt_of_get hx2)) h0x2 (lt_of_get hx2) rfl) (fun a hf => ?_)
      refine S.val hf hs (v := .int .i64 x2) rfl rfl rfl (V.loadEl (off := 0) (Ag.args _ _ _) (hv_x_.flat hx2) rfl rfl rfl Try.isAgg3 Try.sizeOf3 rfl rfl) (fun a hf => ?_)
      refine S.val hf hs (v := .int .i64 (min n3 x2)) rfl rfl rfl (V.min2 rfl rfl rfl) (fun a hf => ?_)
      refine S.val hf hs (v := .int .i64 (min n3 x2)) rfl rfl rfl (V.pure rfl) (fun a hf => ?_)
      refine R.nil ?_
      refine X.blk ?_
      refine X.then_ ?_
      refine R.list ?_
      refine S.val hf hs (v := .int .i64 n4) rfl rfl rfl (V.pure rfl) (fun a hf => ?_)
      refine S.val hf hs (v := .int .i64 (w64 (n4 + 1))) rfl rfl rfl (V.pure rfl) (fun a hf => ?_)
      refine S.val hf hs (v := .int .i64 (w64 (n4 + 1))) rfl rfl rfl (V.pure rfl) (fun a hf => ?_)
      refine R.nil ?_
      refine X.then_ ?_
      exact ⟨(min n3 x2), (w64 (n4 + 1)), (by rw [hagain1] at h; exact h), (((hf.nil.cons (hf.get 4 _ rfl)).cons (hf.get 3 _ rfl)).cons (hf.get 0 _ rfl)), hs⟩
    · replace h := h.2 hc
      refine wp_exit ?_
      refine X.then_exit ?_
      refine X.then_exit ?_
      refine X.blk_exit ?_
      refine X.then_ ?_
      refine wp_seq ?_
      refine R.list ?_
      refine S.val hf hs (v := .int .i64 n3) rfl rfl rfl (V.pure rfl) (fun a hf => ?_)
      refine S.val hf hs (v := .int .i64 n3) rfl rfl rfl (V.pure rfl) (fun a hf => ?_)
      refine R.nil ?_
      refine X.then_ ?_
      refine wp_ret ?_
      exact L.ret hf (run_results1 Try.results103 (ResIs.tmp hf rfl)) ⟨n3, rfl, h, hs.nil⟩

set_option linter.unusedVariables false
def M_stack_reach_L4 (xk3 : Through) (next3 : List Int → Bool → Prop) (y1 : Int) (again4 : List Int → Bool → Int → Prop) (l8 : List Int) (c6 : Bool) (n4 : Int) : Prop :=
  cnd (decide (n4 < xk3.To)) (idx l8 n4 fun x2 => cnd (x2 != y1) (again4 (l8.set n4.toNat y1) true (w64 (n4 + 1))) (again4 l8 c6 (w64 (n4 + 1)))) (next3 l8 c6)
def M_stack_reach_L3  (k3 : Nat) (xk3 : Through) (l6 : List Int) (c4 : Bool) (next3 : List Int → Bool → Prop) : Prop :=
  must (0 ≤ w64 (xk3.From - 1) ∧ w64 (xk3.From - 1) ≤ xk3.To ∧ xk3.To ≤ (l6.length : Int)) (M_min_int (seg l6 (w64 (xk3.From - 1)) xk3.To) fun y1 => lp (fun again (s : List Int × Bool × Int) => M_stack_reach_L4 xk3 next3 y1 (fun l8 c6 n4 => again (l8, c6, n4)) s.1 s.2.1 s.2.2) (l6, c4, w64 (xk3.From - 1)))
def M_stack_reach_L2 (l : (List Through)) (Q : (List Int) → Prop) (again2 : List Int → Bool → Prop) (l4 : List Int) (c2 : Bool) : Prop :=
  cnd c2 (forIn' (fun k x (s : List Int × Bool) next => M_stack_reach_L3 k x s.1 s.2 (fun l6 c4 => next (l6, c4))) (fun (s : List Int × Bool) => (fun (l6 : List Int) (c4 : Bool) => again2 l6 c4) s.1 s.2) l 0 (l4, false)) (Q l4)
def M_stack_reach_L1 (n : Int) (l : (List Through)) (Q : (List Int) → Prop) (again1 : List Int → Int → Prop) (l2 : List Int) (n2 : Int) : Prop :=
  cnd (decide (n2 < ((List.replicate n.toNat (0 : Int)).length : Int))) (idx l2 n2 fun x1 => again1 (l2.set n2.toNat n2) (w64 (n2 + 1))) (lp (fun again (s : List Int × Bool) => M_stack_reach_L2 l Q (fun l4 c2 => again (l4, c2)) s.1 s.2) (l2, true))
def M_stack_reach (n : Int) (l : (List Through)) (Q : (List Int) → Prop) : Prop :=
  must (0 ≤ n ∧ n * 8 ≤ 281474976710656) (lp (fun again (s : List Int × Int) => M_stack_reach_L1 n l Q (fun l2 n2 => again (l2, n2)) s.1 s.2) ((List.replicate n.toNat (0 : Int)), 0))
set_option maxHeartbeats 1000000 in
theorem R_stack_reach (n : Int) (l : (List Through)) (w0 : World) (lA : Option Addr) (lC : Nat) (hv_l : View w0 (old w0 none_) lA lC l) (Q : (List Int) → Prop) (h : M_stack_reach n l Q) :
    Ret Try.prog 77 #[.int .i64 n, .slice lA l.length lC] w0 fun v w' => ∃ (r0 : (List Int)) (r0A : Option Addr) (r0C : Nat), v = .slice r0A r0.length r0C ∧ Q r0 ∧ Sat w0 none_ [hown 3 r0A r0C r0] w' := by
  refine fn_enter Try.func77 rfl Try.ntmps77 rfl (fs := [(0, .int .i64 n), (1, .slice lA l.length lC)]) rfl (fun a hf => ?_)
  have hs := Sat.start w0 none_
  unfold M_stack_reach at h
  refine wp_seq ?_
  refine R.list ?_
  refine S.val hf hs (v := .slice none 0 0) rfl rfl rfl (V.pure rfl) (fun a hf => ?_)
  refine R.nil ?_
  refine X.then_ ?_
  refine wp_seq ?_
  refine R.list ?_
  refine S.val hf hs (v := .int .i64 n) rfl rfl rfl (V.pure rfl) (fun a hf => ?_)
  obtain ⟨hmk, h⟩ := h
  refine S.make hf hs rfl rfl rfl (α := Int) (0 : Int) (z := n) (N := n.toNat) rfl rfl rfl Try.underlying43 info3 hmk rfl (by have := hmk.2; omega) (fun A1 a w hf hs => ?_)
  refine S.val hf hs (v := .slice A1 (List.replicate n.toNat (0 : Int)).length n.toNat) rfl rfl rfl (V.pure rfl) (fun a hf => ?_)
  refine R.nil ?_
  refine X.then_ ?_
  refine wp_seq ?_
  refine wp_seq ?_
  refine R.list ?_
  refine S.val hf hs (v := .slice A1 (List.replicate n.toNat (0 : Int)).length n.toNat) rfl rfl rfl (V.pure rfl) (fun a hf => ?_)
  refine S.val hf hs (v := .int .i64 ((List.replicate n.toNat (0 : Int)).length : Int)) rfl rfl rfl (V.len rfl rfl Try.runUnderlying43) (fun a hf => ?_)
  refine S.val hf hs (v := .int .i64 0) rfl rfl rfl (V.pure rfl) (fun a hf => ?_)
  refine R.nil ?_
  refine X.then_ ?_
  refine wp_block ?_
  obtain ⟨kk, h⟩ := h
  refine C.loop (fun kk a w => ∃ (l2 : List Int) (l2A : Option Addr) (l2C : Nat) (n2 : Int), iterF (fun again (s : List Int × Int) => M_stack_reach_L1 n l Q (fun l2 n2 => again (l2, n2)) s.1 s.2) kk (l2, n2) ∧ FrOk 60 [(1, .slice lA l.length lC), (5, .slice l2A l2.length l2C), (15, .int .i64 ((List.replicate n.toNat (0 : Int)).length : Int)), (16, .int .i64 n2)] a ∧ Sat w0 none_ [hown 3 l2A l2C l2] w) kk ⟨(List.replicate n.toNat (0 : Int)), A1, n.toNat, 0, h, ((((hf.nil.cons (hf.get 16 _ rfl)).cons (hf.get 15 _ rfl)).cons (hf.get 5 _ rfl)).cons (hf.get 1 _ rfl)), hs⟩ (fun a w ⟨_, _, _, _, h, _, _⟩ => h) ?_
  clear h hf hs
  rintro kk a w ⟨l2, l2A, l2C, n2, h, hf, hs⟩
  obtain ⟨again1, hagain1⟩ : ∃ X : List Int → Int → Prop, X = (fun l2 n2 => iterF (fun again (s : List Int × Int) => M_stack_reach_L1 n l Q (fun l2 n2 => again (l2, n2)) s.1 s.2) kk (l2, n2)) := ⟨_, rfl⟩
  replace h : M_stack_reach_L1 n l Q again1 l2 n2 := by rw [hagain1]; exact h
  unfold M_stack_reach_L1 at h
  refine wp_seq ?_
  refine R.list ?_
  refine S.val hf hs (v := .bool (decide (n2 < ((List.replicate n.toNat (0 : Int)).length : Int)))) rfl rfl rfl (V.pure rfl) (fun a hf => ?_)
  refine R.nil ?_
  refine X.then_ ?_
  refine wp_seq ?_
  refine C.cond hf (b := decide (n2 < ((List.replicate n.toNat (0 : Int)).length : Int))) rfl (fun hc => ?_) (fun hc => ?_)
  · replace h := h.1 hc
    refine wp_skip ?_
    refine X.then_ ?_
    refine wp_seq ?_
    refine wp_block ?_
    refine wp_seq ?_
    refine R.list ?_
    refine S.val hf hs (v := .int .i64 n2) rfl rfl rfl (V.pure rfl) (fun a hf => ?_)
    refine S.val hf hs (v := .int .i64 n2) rfl rfl rfl (V.pure rfl) (fun a hf => ?_)
    refine R.nil ?_
    refine X.then_ ?_
    refine R.list ?_
    refine S.val hf hs (v := .slice l2A l2.length l2C) rfl rfl rfl (V.pure rfl) (fun a hf => ?_)
    refine S.val hf hs (v := .int .i64 n2) rfl rfl rfl (V.pure rfl) (fun a hf => ?_)
    refine S.val hf hs (v := .int .i64 n2) rfl rfl rfl (V.pure rfl) (fun a hf => ?_)
    obtain ⟨h0x1, x1, hx1, h⟩ := h
    refine S.val hf hs (v := elemPtr l2A (n2.toNat * 1)) rfl rfl rfl (V.index rfl rfl rfl Try.runUnderlying43 Try.sizeOf3 (hs.ownSome 0 rfl (lt_of_get hx1)) h0x1 (lt_of_get hx1) rfl) (fun a hf => ?_)
    refine S.storeOwn (off := 0) 0 hf hs rfl rfl n2 [.int .i64 n2] rfl hx1 rfl rfl rfl rfl rfl Try.sizeOf3 rfl (by decide) rfl rfl (fun a w hf hs => ?_)
    replace hf := hf.tell 5 (v := .slice l2A (l2.set n2.toNat n2).length l2C) ((hf.get 5 (.slice l2A l2.length l2C) rfl).trans (congrArg (fun n => Value.slice l2A n l2C) List.length_set.symm))
    replace hf := hf.tell 19 (v := .slice l2A (l2.set n2.toNat n2).length l2C) ((hf.get 19 (.slice l2A l2.length l2C) rfl).trans (congrArg (fun n => Value.slice l2A n l2C) List.length_set.symm))
    refine R.nil ?_
    refine X.blk ?_
    refine X.then_ ?_
    refine R.list ?_
    refine S.val hf hs (v := .int .i64 (w64 (n2 + 1))) rfl rfl rfl (V.pure rfl) (fun a hf => ?_)
    refine S.val hf hs (v := .int .i64 (w64 (n2 + 1))) rfl rfl rfl (V.pure rfl) (fun a hf => ?_)
    refine R.nil ?_
    refine X.then_ ?_
    exact ⟨(l2.set n2.toNat n2), l2A, l2C, (w64 (n2 + 1)), (by rw [hagain1] at h; exact h), ((((hf.nil.cons (hf.get 16 _ rfl)).cons (hf.get 15 _ rfl)).cons (hf.get 5 _ rfl)).cons (hf.get 1 _ rfl)), hs⟩
  · replace h := h.2 hc
    refine wp_exit ?_
    refine X.then_exit ?_
    refine X.then_exit ?_
    refine X.blk_exit ?_
    refine X.then_ ?_
    refine wp_seq ?_
    refine wp_seq ?_
    refine R.list ?_
    refine S.val hf hs (v := .bool true) rfl rfl rfl (V.pure rfl) (fun a hf => ?_)
    refine R.nil ?_
    refine X.then_ ?_
    refine wp_block ?_
    obtain ⟨kk, h⟩ := h
    refine C.loop (fun kk a w => ∃ (l4 : List Int) (l4A : Option Addr) (l4C : Nat) (c2 : Bool), iterF (fun again (s : List Int × Bool) => M_stack_reach_L2 l Q (fun l4 c2 => again (l4, c2)) s.1 s.2) kk (l4, c2) ∧ FrOk 60 [(1, .slice lA l.length lC), (5, .slice l4A l4.length l4C), (7, .bool c2)] a ∧ Sat w0 none_ [hown 3 l4A l4C l4] w) kk ⟨l2, l2A, l2C, true, h, (((hf.nil.cons (hf.get 7 _ rfl)).cons (hf.get 5 _ rfl)).cons (hf.get 1 _ rfl)), hs⟩ (fun a w ⟨_, _, _, _, h, _, _⟩ => h) ?_
    clear h hf hs
    rintro kk a w ⟨l4, l4A, l4C, c2, h, hf, hs⟩
    obtain ⟨again2, hagain2⟩ : ∃ X : List Int → Bool → Prop, X = (fun l4 c2 => iterF (fun again (s : List Int × Bool) => M_stack_reach_L2 l Q (fun l4 c2 => again (l4, c2)) s.1 s.2) kk (l4, c2)) := ⟨_, rfl⟩
    replace h : M_stack_reach_L2 l Q again2 l4 c2 := by rw [hagain2]; exact h
    unfold M_stack_reach_L2 at h
    refine wp_seq ?_
    refine wp_seq ?_
    refine R.list ?_
    refine S.val hf hs (v := .bool c2) rfl rfl rfl (V.pure rfl) (fun a hf => ?_)
    refine R.nil ?_
    refine X.then_ ?_
    refine C.cond hf (b := c2) rfl (fun hc => ?_) (fun hc => ?_)
    · replace h := h.1 hc
      refine wp_skip ?_
      refine X.then_ ?_
      refine wp_block ?_
      refine wp_seq ?_
      refine R.list ?_
      refine S.val hf hs (v := .bool false) rfl rfl rfl (V.pure rfl) (fun a hf => ?_)
      refine R.nil ?_
      refine X.then_ ?_
      refine wp_seq ?_
      refine R.list ?_
      refine S.val hf hs (v := .slice lA l.length lC) rfl rfl rfl (V.pure rfl) (fun a hf => ?_)
      refine S.val hf hs (v := .int .i64 (l.length : Int)) rfl rfl rfl (V.len rfl rfl Try.runUnderlying52) (fun a hf => ?_)
      refine S.val hf hs (v := .int .i64 0) rfl rfl rfl (V.pure rfl) (fun a hf => ?_)
      refine R.nil ?_
      refine X.then_ ?_
      refine wp_block ?_
      have hlenk3 := hv_l.len64
      refine C.range (fun (ll : List Through) a w => ∃ (k3 : Nat) (l6 : List Int) (l6A : Option Addr) (l6C : Nat) (c4 : Bool), l.drop k3 = ll ∧ k3 + ll.length = l.length ∧ forIn' (fun k x (s : List Int × Bool) next => M_stack_reach_L3 k x s.1 s.2 (fun l6 c4 => next (l6, c4))) (fun (s : List Int × Bool) => (fun (l6 : List Int) (c4 : Bool) => again2 l6 c4) s.1 s.2) ll k3 (l6, c4) ∧ FrOk 60 [(27, .int .i64 (k3 : Int)), (1, .slice lA l.length lC), (5, .slice l6A l6.length l6C), (7, .bool c4), (25, .slice lA l.length lC), (26, .int .i64 (l.length : Int))] a ∧ Sat w0 none_ [hown 3 l6A l6C l6] w) l ⟨0, l4, l4A, l4C, false, rfl, Nat.zero_add _, h, ((((((hf.nil.cons (hf.get 26 _ rfl)).cons (hf.get 25 _ rfl)).cons (hf.get 7 _ rfl)).cons (hf.get 5 _ rfl)).cons (hf.get 1 _ rfl)).cons (hf.get 27 _ rfl)), hs⟩ ?_
      clear h hf hs
      rintro llk3 a w ⟨k3, l6, l6A, l6C, c4, hlk3, hkk3, h, hf, hs⟩
      cases llk3 with
      | nil =>
        have hc := range_done hkk3
        replace h : (fun (l6 : List Int) (c4 : Bool) => again2 l6 c4) l6 c4 := h
        refine wp_seq ?_
        refine R.list ?_
        refine S.val hf hs (v := .bool false) rfl rfl rfl (V.cmp false rfl rfl rfl rfl hc) (fun a hf => ?_)
        refine R.nil ?_
        refine X.then_ ?_
        refine wp_seq ?_
        refine C.no hf rfl ?_
        refine wp_exit ?_
        refine X.then_exit ?_
        refine X.then_exit ?_
        refine X.blk_exit ?_
        refine X.blk ?_
        refine X.then_ ?_
        exact ⟨l6, l6A, l6C, c4, (by rw [hagain2] at h; exact h), (((hf.nil.cons (hf.get 7 _ rfl)).cons (hf.get 5 _ rfl)).cons (hf.get 1 _ rfl)), hs⟩
      | cons xk3 llk3 =>
        have hltk3 := range_lt hkk3; have hc := range_go hkk3; have hxk3 := range_get hlk3
        obtain ⟨next3, hnext3⟩ : ∃ X : List Int → Bool → Prop, X = (fun l6 c4 => forIn' (fun k x (s : List Int × Bool) next => M_stack_reach_L3 k x s.1 s.2 (fun l6 c4 => next (l6, c4))) (fun (s : List Int × Bool) => (fun (l6 : List Int) (c4 : Bool) => again2 l6 c4) s.1 s.2) llk3 (k3 + 1) (l6, c4)) := ⟨_, rfl⟩
        replace h : M_stack_reach_L3 k3 xk3 l6 c4 next3 := by rw [hnext3]; exact h
        unfold M_stack_reach_L3 at h
        refine wp_seq ?_
        refine R.list ?_
        refine S.val hf hs (v := .bool true) rfl rfl rfl (V.cmp true rfl rfl rfl rfl hc) (fun a hf => ?_)
        refine R.nil ?_
        refine X.then_ ?_
        refine wp_seq ?_
        refine C.yes hf rfl ?_
        refine wp_skip ?_
        refine X.then_ ?_
        refine wp_seq ?_
        refine wp_block ?_
        refine wp_seq ?_
        refine R.list ?_
        refine S.val hf hs (v := elemPtr lA (k3 * 2)) rfl rfl rfl (V.index rfl rfl rfl Try.runUnderlying52 Try.sizeOf59 (hv_l.some_ (lt_of_get hxk3)) (Int.natCast_nonneg _) (lt_of_get hxk3) rfl) (fun a hf => ?_)
        refine S.val hf hs (v := .agg #[.int .i64 xk3.From, .int .i64 xk3.To]) rfl rfl rfl (V.loadEl (off := 0) (Ag.args _ _ _) (hv_l.flat hxk3) rfl rfl rfl Try.isAgg59 Try.sizeOf59 rfl rfl) (fun a hf => ?_)
        refine S.alloc hf hs rfl rfl rfl [.int .i64 0, .int .i64 0] rfl Try.zeroValue59 rfl (fun g1 a w hf hs => ?_)
        refine S.storeBox 0 hf hs rfl rfl [.int .i64 xk3.From, .int .i64 xk3.To] [.int .i64 xk3.From, .int .i64 xk3.To] rfl rfl rfl rfl rfl Try.sizeOf59 rfl rfl rfl rfl (fun a w hf hs => ?_)
        refine R.nil ?_
        refine X.then_ ?_
        refine wp_seq ?_
        refine R.list ?_
        refine S.val hf hs (v := .slice l6A l6.length l6C) rfl rfl rfl (V.pure rfl) (fun a hf => ?_)
        refine S.val hf hs (v := .pointer (some ⟨g1, 0, none⟩)) rfl rfl rfl (V.fieldBox rfl rfl Try.runUnderlying59 rfl Try.sizeOf3 rfl rfl) (fun a hf => ?_)
        refine S.val hf hs (v := .int .i64 xk3.From) rfl rfl rfl (V.loadBox 0 rfl rfl rfl Try.isAgg3 Try.sizeOf3 rfl rfl) (fun a hf => ?_)
        refine S.val hf hs (v := .int .i64 (w64 (xk3.From - 1))) rfl rfl rfl (V.pure rfl) (fun a hf => ?_)
        refine S.val hf hs (v := .pointer (some ⟨g1, 1, none⟩)) rfl rfl rfl (V.fieldBox rfl rfl Try.runUnderlying59 rfl Try.sizeOf3 rfl rfl) (fun a hf => ?_)
        refine S.val hf hs (v := .int .i64 xk3.To) rfl rfl rfl (V.loadBox 0 rfl rfl rfl Try.isAgg3 Try.sizeOf3 rfl rfl) (fun a hf => ?_)
        obtain ⟨hp1, h⟩ := h
        refine S.val hf hs (v := .slice (segA l6A l6C (w64 (xk3.From - 1) : Int).toNat 1) (seg l6 (w64 (xk3.From - 1)) xk3.To).length (l6C - (w64 (xk3.From - 1) : Int).toNat)) rfl rfl rfl (V.slice rfl rfl rfl rfl Try.runUnderlying43 Try.sizeOf3 rfl rfl hp1 (hs.ownView 1 rfl).cap (seg_length (by have := hp1.2.2; omega))) (fun a hf => ?_)
        refine S.call hf rfl rfl rfl (call_fn (vs := [.slice (segA l6A l6C (w64 (xk3.From - 1) : Int).toNat 1) (seg l6 (w64 (xk3.From - 1)) xk3.To).length (l6C - (w64 (xk3.From - 1) : Int).toNat)]) rfl rfl rfl Try.call103) (R_min_int (seg l6 (w64 (xk3.From - 1)) xk3.To) _ (segA l6A l6C (w64 (xk3.From - 1) : Int).toNat 1) (l6C - (w64 (xk3.From - 1) : Int).toNat) (View.sub (hs.ownView 1 rfl) hp1) _ h) (fun v a w' hf hr => ?_)
        obtain ⟨y1, rfl, h2, hs2⟩ := hr
        replace h := h2; replace hs := hs.call hs2; clear h2 hs2
        refine S.val hf hs (v := .int .i64 y1) rfl rfl rfl (V.pure rfl) (fun a hf => ?_)
        refine R.nil ?_
        refine X.then_ ?_
        refine wp_seq ?_
        refine R.list ?_
        refine S.val hf hs (v := .pointer (some ⟨g1, 0, none⟩)) rfl rfl rfl (V.fieldBox rfl rfl Try.runUnderlying59 rfl Try.sizeOf3 rfl rfl) (fun a hf => ?_)
        refine S.val hf hs (v := .int .i64 xk3.From) rfl rfl rfl (V.loadBox 0 rfl rfl rfl Try.isAgg3 Try.sizeOf3 rfl rfl) (fun a hf => ?_)
        refine S.val hf hs (v := .int .i64 (w64 (xk3.From - 1))) rfl rfl rfl (V.pure rfl) (fun a hf => ?_)
        refine S.val hf hs (v := .int .i64 (w64 (xk3.From - 1))) rfl rfl rfl (V.pure rfl) (fun a hf => ?_)
        refine R.nil ?_
        refine X.then_ ?_
        refine wp_block ?_
        obtain ⟨kk, h⟩ := h
        refine C.loop (fun kk a w => ∃ (l8 : List Int) (l8A : Option Addr) (l8C : Nat) (c6 : Bool) (n4 : Int), iterF (fun again (s : List Int × Bool × Int) => M_stack_reach_L4 xk3 next3 y1 (fun l8 c6 n4 => again (l8, c6, n4)) s.1 s.2.1 s.2.2) kk (l8, c6, n4) ∧ FrOk 60 [(1, .slice lA l.length lC), (5, .slice l8A l8.length l8C), (7, .bool c6), (9, .pointer (some ⟨g1, 0, none⟩)), (10, .int .i64 y1), (11, .int .i64 n4), (25, .slice lA l.length lC), (26, .int .i64 (l.length : Int)), (27, .int .i64 (k3 : Int))] a ∧ Sat w0 none_ [hbox g1 59 [.int .i64 xk3.From, .int .i64 xk3.To], hown 3 l8A l8C l8] w) kk ⟨l6, l6A, l6C, c4, (w64 (xk3.From - 1)), h, (((((((((hf.nil.cons (hf.get 27 _ rfl)).cons (hf.get 26 _ rfl)).cons (hf.get 25 _ rfl)).cons (hf.get 11 _ rfl)).cons (hf.get 10 _ rfl)).cons (hf.get 9 _ rfl)).cons (hf.get 7 _ rfl)).cons (hf.get 5 _ rfl)).cons (hf.get 1 _ rfl)), hs⟩ (fun a w ⟨_, _, _, _, _, h, _, _⟩ => h) ?_
        clear h hf hs
        rintro kk a w ⟨l8, l8A, l8C, c6, n4, h, hf, hs⟩
        obtain ⟨again4, hagain4⟩ : ∃ X : List Int → Bool → Int → Prop, X = (fun l8 c6 n4 => iterF (fun again (s : List Int × Bool × Int) => M_stack_reach_L4 xk3 next3 y1 (fun l8 c6 n4 => again (l8, c6, n4)) s.1 s.2.1 s.2.2) kk (l8, c6, n4)) := ⟨_, rfl⟩
        replace h : M_stack_reach_L4 xk3 next3 y1 again4 l8 c6 n4 := by rw [hagain4]; exact h
        unfold M_stack_reach_L4 at h
        refine wp_seq ?_
        refine wp_seq ?_
        refine R.list ?_
        refine S.val hf hs (v := .int .i64 n4) rfl rfl rfl (V.pure rfl) (fun a hf => ?_)
        refine S.val hf hs (v := .pointer (some ⟨g1, 1, none⟩)) rfl rfl rfl (V.fieldBox rfl rfl Try.runUnderlying59 rfl Try.sizeOf3 rfl rfl) (fun a hf => ?_)
        refine S.val hf hs (v := .int .i64 xk3.To) rfl rfl rfl (V.loadBox 0 rfl rfl rfl Try.isAgg3 Try.sizeOf3 rfl rfl) (fun a hf => ?_)
        refine S.val hf hs (v := .bool (decide (n4 < xk3.To))) rfl rfl rfl (V.pure rfl) (fun a hf => ?_)
        refine R.nil ?_
        refine X.then_ ?_
        refine C.cond hf (b := decide (n4 < xk3.To)) rfl (fun hc => ?_) (fun hc => ?_)
        · replace h := h.1 hc
          refine wp_skip ?_
          refine X.then_ ?_
          refine wp_seq ?_
          refine wp_block ?_
          refine wp_seq ?_
          refine R.list ?_
          refine S.val hf hs (v := .slice l8A l8.length l8C) rfl rfl rfl (V.pure rfl) (fun a hf => ?_)
          refine S.val hf hs (v := .int .i64 n4) rfl rfl rfl (V.pure rfl) (fun a hf => ?_)
          obtain ⟨h0x2, x2, hx2, h⟩ := h
          refine S.val hf hs (v := elemPtr l8A (n4.toNat * 1)) rfl rfl rfl (V.index rfl rfl rfl Try.runUnderlying43 Try.sizeOf3 (hs.ownSome 1 rfl (lt_of_get hx2)) h0x2 (lt_of_get hx2) rfl) (fun a hf => ?_)
          refine S.val hf hs (v := .int .i64 x2) rfl rfl rfl (V.loadOwn (off := 0) 1 rfl hx2 rfl rfl rfl Try.isAgg3 Try.sizeOf3 rfl rfl) (fun a hf => ?_)
          refine S.val hf hs (v := .int .i64 y1) rfl rfl rfl (V.pure rfl) (fun a hf => ?_)
          refine S.val hf hs (v := .bool (x2 != y1)) rfl rfl rfl (V.pure rfl) (fun a hf => ?_)
          refine R.nil ?_
          refine X.then_ ?_
          refine C.cond hf (b := x2 != y1) rfl (fun hc => ?_) (fun hc => ?_)
          · replace h := h.1 hc
            refine R.list ?_
            refine S.val hf hs (v := .slice l8A l8.length l8C) rfl rfl rfl (V.pure rfl) (fun a hf => ?_)
            refine S.val hf hs (v := .int .i64 n4) rfl rfl rfl (V.pure rfl) (fun a hf => ?_)
            refine S.val hf hs (v := .int .i64 y1) rfl rfl rfl (V.pure rfl) (fun a hf => ?_)
            refine S.val hf hs (v := elemPtr l8A (n4.toNat * 1)) rfl rfl rfl (V.index rfl rfl rfl Try.runUnderlying43 Try.sizeOf3 (hs.ownSome 1 rfl (lt_of_get hx2)) h0x2 (lt_of_get hx2) rfl) (fun a hf => ?_)
            refine S.storeOwn (off := 0) 1 hf hs rfl rfl y1 [.int .i64 y1] rfl hx2 rfl rfl rfl rfl rfl Try.sizeOf3 rfl (by decide) rfl rfl (fun a w hf hs => ?_)
            replace hf := hf.tell 5 (v := .slice l8A (l8.set n4.toNat y1).length l8C) ((hf.get 5 (.slice l8A l8.length l8C) rfl).trans (congrArg (fun n => Value.slice l8A n l8C) List.length_set.symm))
            replace hf := hf.tell 48 (v := .slice l8A (l8.set n4.toNat y1).length l8C) ((hf.get 48 (.slice l8A l8.length l8C) rfl).trans (congrArg (fun n => Value.slice l8A n l8C) List.length_set.symm))
            replace hf := hf.tell 54 (v := .slice l8A (l8.set n4.toNat y1).length l8C) ((hf.get 54 (.slice l8A l8.length l8C) rfl).trans (congrArg (fun n => Value.slice l8A n l8C) List.length_set.symm))
            refine S.val hf hs (v := .bool true) rfl rfl rfl (V.pure rfl) (fun a hf => ?_)
            refine R.nil ?_
            refine X.blk ?_
            refine X.then_ ?_
            refine R.list ?_
            refine S.val hf hs (v := .int .i64 n4) rfl rfl rfl (V.pure rfl) (fun a hf => ?_)
            refine S.val hf hs (v := .int .i64 (w64 (n4 + 1))) rfl rfl rfl (V.pure rfl) (fun a hf => ?_)
            refine S.val hf hs (v := .int .i64 (w64 (n4 + 1))) rfl rfl rfl (V.pure rfl) (fun a hf => ?_)
            refine R.nil ?_
            refine X.then_ ?_
            exact ⟨(l8.set n4.toNat y1), l8A, l8C, true, (w64 (n4 + 1)), (by rw [hagain4] at h; exact h), (((((((((hf.nil.cons (hf.get 27 _ rfl)).cons (hf.get 26 _ rfl)).cons (hf.get 25 _ rfl)).cons (hf.get 11 _ rfl)).cons (hf.get 10 _ rfl)).cons (hf.get 9 _ rfl)).cons (hf.get 7 _ rfl)).cons (hf.get 5 _ rfl)).cons (hf.get 1 _ rfl)), hs⟩
          · replace h := h.2 hc
            refine wp_skip ?_
            refine X.blk ?_
            refine X.then_ ?_
            refine R.list ?_
            refine S.val hf hs (v := .int .i64 n4) rfl rfl rfl (V.pure rfl) (fun a hf => ?_)
            refine S.val hf hs (v := .int .i64 (w64 (n4 + 1))) rfl rfl rfl (V.pure rfl) (fun a hf => ?_)
            refine S.val hf hs (v := .int .i64 (w64 (n4 + 1))) rfl rfl rfl (V.pure rfl) (fun a hf => ?_)
            refine R.nil ?_
            refine X.then_ ?_
            exact ⟨l8, l8A, l8C, c6, (w64 (n4 + 1)), (by rw [hagain4] at h; exact h), (((((((((hf.nil.cons (hf.get 27 _ rfl)).cons (hf.get 26 _ rfl)).cons (hf.get 25 _ rfl)).cons (hf.get 11 _ rfl)).cons (hf.get 10 _ rfl)).cons (hf.get 9 _ rfl)).cons (hf.get 7 _ rfl)).cons (hf.get 5 _ rfl)).cons (hf.get 1 _ rfl)), hs⟩
        · replace h := h.2 hc
          refine wp_exit ?_
          refine X.then_exit ?_
          refine X.then_exit ?_
          refine X.blk_exit ?_
          refine X.blk ?_
          refine X.then_ ?_
          refine R.list ?_
          refine S.val hf hs (v := .int .i64 ((k3 + 1 : Nat) : Int)) rfl rfl rfl (V.incr rfl rfl rfl hltk3 hlenk3) (fun a hf => ?_)
          refine S.val hf hs (v := .int .i64 ((k3 + 1 : Nat) : Int)) rfl rfl rfl (V.pure rfl) (fun a hf => ?_)
          refine R.nil ?_
          refine X.then_ ?_
          exact ⟨xk3, llk3, rfl, k3 + 1, l8, l8A, l8C, c6, range_drop hlk3, range_len hkk3, (by rw [hnext3] at h; exact h), ((((((hf.nil.cons (hf.get 26 _ rfl)).cons (hf.get 25 _ rfl)).cons (hf.get 7 _ rfl)).cons (hf.get 5 _ rfl)).cons (hf.get 1 _ rfl)).cons (hf.get 27 _ rfl)), hs.drop⟩
    · replace h := h.2 hc
      refine wp_exit ?_
      refine X.then_exit ?_
      refine X.then_exit ?_
      refine X.blk_exit ?_
      refine X.then_ ?_
      refine wp_seq ?_
      refine R.list ?_
      refine S.val hf hs (v := .slice l4A l4.length l4C) rfl rfl rfl (V.pure rfl) (fun a hf => ?_)
      refine S.val hf hs (v := .slice l4A l4.length l4C) rfl rfl rfl (V.pure rfl) (fun a hf => ?_)
      refine R.nil ?_
      refine X.then_ ?_
      refine wp_ret ?_
      replace hs := hs.take 1
      exact L.ret hf (run_results1 Try.results77 (ResIs.tmp hf rfl)) ⟨l4, l4A, l4C, rfl, h, hs⟩

set_option linter.unusedVariables false
def M_index_int_L1 (v_ : Int) (Q : Int → Prop) (k1 : Nat) (xk1 : Int)  (next1 : Prop) : Prop :=
  cnd (v_ == xk1) (Q (k1 : Int)) (next1)
def M_index_int (s_ : (List Int)) (v_ : Int) (Q : Int → Prop) : Prop :=
  forIn' (fun k x (s : Unit) next => M_index_int_L1 v_ Q k x (next ())) (fun (s : Unit) => Q (-1)) s_ 0 ()
set_option maxHeartbeats 1000000 in
theorem R_index_int (s_ : (List Int)) (v_ : Int) (w0 : World) (s_A : Option Addr) (s_C : Nat) (hv_s_ : View w0 (old w0 none_) s_A s_C s_) (Q : Int → Prop) (h : M_index_int s_ v_ Q) :
    Ret Try.prog 78 #[.slice s_A s_.length s_C, .int .i64 v_] w0 fun v w' => ∃ (r0 : Int), v = .int .i64 r0 ∧ Q r0 ∧ Sat w0 none_ [] w' := by
  refine fn_enter Try.func78 rfl Try.ntmps78 rfl (fs := [(0, .slice s_A s_.length s_C), (1, .int .i64 v_)]) rfl (fun a hf => ?_)
  have hs := Sat.start w0 none_
  unfold M_index_int at h
  refine wp_seq ?_
  refine R.list ?_
  refine S.val hf hs (v := .int .i64 0) rfl rfl rfl (V.pure rfl) (fun a hf => ?_)
  refine R.nil ?_
  refine X.then_ ?_
  refine wp_seq ?_
  refine wp_seq ?_
  refine R.list ?_
  refine S.val hf hs (v := .slice s_A s_.length s_C) rfl rfl rfl (V.pure rfl) (fun a hf => ?_)
  refine S.val hf hs (v := .int .i64 (s_.length : Int)) rfl rfl rfl (V.len rfl rfl Try.runUnderlying43) (fun a hf => ?_)
  refine S.val hf hs (v := .int .i64 0) rfl rfl rfl (V.pure rfl) (fun a hf => ?_)
  refine R.nil ?_
  refine X.then_ ?_
  refine wp_block ?_
  have hlenk1 := hv_s_.len64
  refine C.range (fun (ll : List Int) a w => ∃ (k1 : Nat) , s_.drop k1 = ll ∧ k1 + ll.length = s_.length ∧ forIn' (fun k x (s : Unit) next => M_index_int_L1 v_ Q k x (next ())) (fun (s : Unit) => Q (-1)) ll k1 () ∧ FrOk 19 [(8, .int .i64 (k1 : Int)), (0, .slice s_A s_.length s_C), (1, .int .i64 v_), (7, .int .i64 (s_.length : Int))] a ∧ Sat w0 none_ [] w) s_ ⟨0, rfl, Nat.zero_add _, h, ((((hf.nil.cons (hf.get 7 _ rfl)).cons (hf.get 1 _ rfl)).cons (hf.get 0 _ rfl)).cons (hf.get 8 _ rfl)), hs⟩ ?_
  clear h hf hs
  rintro llk1 a w ⟨k1, hlk1, hkk1, h, hf, hs⟩
  cases llk1 with
  | nil =>
    have hc := range_done hkk1
    replace h : Q (-1) := h
    refine wp_seq ?_
    refine R.list ?_
    refine S.val hf hs (v := .bool false) rfl rfl rfl (V.cmp false rfl rfl rfl rfl hc) (fun a hf => ?_)
    refine R.nil ?_
    refine X.then_ ?_
    refine wp_seq ?_
    refine C.no hf rfl ?_
    refine wp_exit ?_
    refine X.then_exit ?_
    refine X.then_exit ?_
    refine X.blk_exit ?_
    refine X.then_ ?_
    refine wp_seq ?_
    refine R.list ?_
    refine S.val hf hs (v := .int .i64 (-1)) rfl rfl rfl (V.pure rfl) (fun a hf => ?_)
    refine R.nil ?_
    refine X.then_ ?_
    refine wp_ret ?_
    exact L.ret hf (run_results1 Try.results78 (ResIs.tmp hf rfl)) ⟨(-1), rfl, h, hs.nil⟩
  | cons xk1 llk1 =>
    have hltk1 := range_lt hkk1; have hc := range_go hkk1; have hxk1 := range_get hlk1
    obtain ⟨next1, hnext1⟩ : ∃ X : Prop, X = (forIn' (fun k x (s : Unit) next => M_index_int_L1 v_ Q k x (next ())) (fun (s : Unit) => Q (-1)) llk1 (k1 + 1) ()) := ⟨_, rfl⟩
    replace h : M_index_int_L1 v_ Q k1 xk1  next1 := by rw [hnext1]; exact h
    unfold M_index_int_L1 at h
    refine wp_seq ?_
    refine R.list ?_
    refine S.val hf hs (v := .bool true) rfl rfl rfl (V.cmp true rfl rfl rfl rfl hc) (fun a hf => ?_)
    refine R.nil ?_
    refine X.then_ ?_
    refine wp_seq ?_
    refine C.yes hf rfl ?_
    refine wp_skip ?_
    refine X.then_ ?_
    refine wp_seq ?_
    refine wp_block ?_
    refine wp_seq ?_
    refine R.list ?_
    refine S.val hf hs (v := .int .i64 (k1 : Int)) rfl rfl rfl (V.pure rfl) (fun a hf => ?_)
    refine S.val hf hs (v := .int .i64 (k1 : Int)) rfl rfl rfl (V.pure rfl) (fun a hf => ?_)
    refine R.nil ?_
    refine X.then_ ?_
    refine wp_seq ?_
    refine R.list ?_
    refine S.val hf hs (v := .int .i64 v_) rfl rfl rfl (V.pure rfl) (fun a hf => ?_)
    refine S.val hf hs (v := .slice s_A s_.length s_C) rfl rfl rfl (V.pure rfl) (fun a hf => ?_)
    refine S.val hf hs (v := .int .i64 (k1 : Int)) rfl rfl rfl (V.pure rfl) (fun a hf => ?_)
    refine S.val hf hs (v := elemPtr s_A (k1 * 1)) rfl rfl rfl (V.index rfl rfl rfl Try.runUnderlying43 Try.sizeOf3 (hv_s_.some_ (lt_of_get hxk1)) (Int.natCast_nonneg _) (lt_of_get hxk1) rfl) (fun a hf => ?_)
    refine S.val hf hs (v := .int .i64 xk1) rfl rfl rfl (V.loadEl (off := 0) (Ag.args _ _ _) (hv_s_.flat hxk1) rfl rfl rfl Try.isAgg3 Try.sizeOf3 rfl rfl) (fun a hf => ?_)
    refine S.val hf hs (v := .bool (v_ == xk1)) rfl rfl rfl (V.pure rfl) (fun a hf => ?_)
    refine R.nil ?_
    refine X.then_ ?_
    refine C.cond hf (b := v_ == xk1) rfl (fun hc => ?_) (fun hc => ?_)
    · replace h := h.1 hc
      refine wp_seq ?_
      refine R.list ?_
      refine S.val hf hs (v := .int .i64 (k1 : Int)) rfl rfl rfl (V.pure rfl) (fun a hf => ?_)
      refine S.val hf hs (v := .int .i64 (k1 : Int)) rfl rfl rfl (V.pure rfl) (fun a hf => ?_)
      refine R.nil ?_
      refine X.then_ ?_
      refine wp_ret ?_
      refine X.blk_ret ?_
      refine X.then_ret ?_
      refine X.then_ret ?_
      refine X.blk_ret ?_
      refine X.then_ret ?_
      exact L.ret hf (run_results1 Try.results78 (ResIs.tmp hf rfl)) ⟨(k1 : Int), rfl, h, hs.nil⟩
    · replace h := h.2 hc
      refine wp_skip ?_
      refine X.blk ?_
      refine X.then_ ?_
      refine R.list ?_
      refine S.val hf hs (v := .int .i64 ((k1 + 1 : Nat) : Int)) rfl rfl rfl (V.incr rfl rfl rfl hltk1 hlenk1) (fun a hf => ?_)
      refine S.val hf hs (v := .int .i64 ((k1 + 1 : Nat) : Int)) rfl rfl rfl (V.pure rfl) (fun a hf => ?_)
      refine R.nil ?_
      refine X.then_ ?_
      exact ⟨xk1, llk1, rfl, k1 + 1, range_drop hlk1, range_len hkk1, (by rw [hnext1] at h; exact h), ((((hf.nil.cons (hf.get 7 _ rfl)).cons (hf.get 1 _ rfl)).cons (hf.get 0 _ rfl)).cons (hf.get 8 _ rfl)), hs⟩

set_option linter.unusedVariables false
def M_stack_Reached_L1 (s_ : (List Layer)) (y3 : (List Int)) (x1 : Int) (k1 : Nat) (xk1 : Int) (l2 : List Str) (next1 : List Str → Prop) : Prop :=
  cnd (xk1 == x1) (idx y3 (k1 : Int) fun x2 => idx s_ x2 fun x3 => must (room (l2 ++ [x3.Name]).length 16) (next1 (l2 ++ [x3.Name]))) (next1 l2)
def M_stack_Reached (m : (List Material)) (s_ : (List Layer)) (l : (List Through)) (name : Str) (Q : (List Str) → Int → Prop) : Prop :=
  M_stack_CheckSpans m s_ l fun y1 => cnd (y1 != 0) (Q ([] : List Str) y1) (M_stack_find s_ name fun y2 => cnd (decide (y2 < 0)) (Q ([] : List Str) 9) (M_stack_coppers m s_ fun y3 => M_stack_reach (y3.length : Int) l fun y4 => M_index_int y3 y2 fun y5 => idx y4 y5 fun x1 => forIn' (fun k x (s : List Str) next => M_stack_Reached_L1 s_ y3 x1 k x s (fun l2 => next l2)) (fun (s : List Str) => (fun (l2 : List Str) => Q l2 0) s) y4 0 ([] : List Str)))
set_option maxHeartbeats 1000000 in
theorem R_stack_Reached (m : (List Material)) (s_ : (List Layer)) (l : (List Through)) (name : Str) (w0 : World) (mA : Option Addr) (mC : Nat) (hv_m : View w0 (old w0 none_) mA mC m) (s_A : Option Addr) (s_C : Nat) (hv_s_ : View w0 (old w0 none_) s_A s_C s_) (lA : Option Addr) (lC : Nat) (hv_l : View w0 (old w0 none_) lA lC l) (Q : (List Str) → Int → Prop) (h : M_stack_Reached m s_ l name Q) :
    Ret Try.prog 40 #[.slice mA m.length mC, .slice s_A s_.length s_C, .slice lA l.length lC, .string (ba name)] w0 fun v w' => ∃ (r0 : (List Str)) (r0A : Option Addr) (r0C : Nat) (r1 : Int), v = .tuple #[.slice r0A r0.length r0C, .int .i64 r1] ∧ Q r0 r1 ∧ Sat w0 none_ [hown 9 r0A r0C r0] w' := by
  refine fn_enter Try.func40 rfl Try.ntmps40 rfl (fs := [(0, .slice mA m.length mC), (1, .slice s_A s_.length s_C), (2, .slice lA l.length lC), (3, .string (ba name))]) rfl (fun a hf => ?_)
  have hs := Sat.start w0 none_
  unfold M_stack_Reached at h
  refine wp_seq ?_
  refine R.list ?_
  refine S.val hf hs (v := .slice none 0 0) rfl rfl rfl (V.pure rfl) (fun a hf => ?_)
  refine S.val hf hs (v := .int .i64 0) rfl rfl rfl (V.pure rfl) (fun a hf => ?_)
  refine R.nil ?_
  refine X.then_ ?_
  refine wp_seq ?_
  refine wp_seq ?_
  refine R.list ?_
  refine S.val hf hs (v := .slice mA m.length mC) rfl rfl rfl (V.pure rfl) (fun a hf => ?_)
  refine S.val hf hs (v := .slice s_A s_.length s_C) rfl rfl rfl (V.pure rfl) (fun a hf => ?_)
  refine S.val hf hs (v := .slice lA l.length lC) rfl rfl rfl (V.pure rfl) (fun a hf => ?_)
  refine S.call hf rfl rfl rfl (call_fn (vs := [.slice mA m.length mC, .slice s_A s_.length s_C, .slice lA l.length lC]) rfl rfl rfl Try.call44) (R_stack_CheckSpans m s_ l _ mA mC ((Ag.args _ _ _).view hv_m hs) s_A s_C ((Ag.args _ _ _).view hv_s_ hs) lA lC ((Ag.args _ _ _).view hv_l hs) _ h) (fun v a w' hf hr => ?_)
  obtain ⟨y1, rfl, h2, hs2⟩ := hr
  replace h := h2; replace hs := hs.call hs2; clear h2 hs2
  refine S.val hf hs (v := .int .i64 y1) rfl rfl rfl (V.pure rfl) (fun a hf => ?_)
  refine R.nil ?_
  refine X.then_ ?_
  refine wp_seq ?_
  refine R.list ?_
  refine S.val hf hs (v := .int .i64 y1) rfl rfl rfl (V.pure rfl) (fun a hf => ?_)
  refine S.val hf hs (v := .bool (y1 != 0)) rfl rfl rfl (V.pure rfl) (fun a hf => ?_)
  refine R.nil ?_
  refine X.then_ ?_
  refine C.cond hf (b := y1 != 0) rfl (fun hc => ?_) (fun hc => ?_)
  · replace h := h.1 hc
    refine wp_seq ?_
    refine R.list ?_
    refine S.val hf hs (v := .int .i64 y1) rfl rfl rfl (V.pure rfl) (fun a hf => ?_)
    refine S.val hf hs (v := .slice none 0 0) rfl rfl rfl (V.pure rfl) (fun a hf => ?_)
    refine S.val hf hs (v := .int .i64 y1) rfl rfl rfl (V.pure rfl) (fun a hf => ?_)
    refine R.nil ?_
    refine X.then_ ?_
    refine wp_ret ?_
    refine X.then_ret ?_
    replace hs := hs.nilOwn (α := Str) 9
    replace hs := hs.take 1
    exact L.ret hf (run_results2 Try.results40 (ResIs.tmp hf rfl) (ResIs.tmp hf rfl)) ⟨([] : List Str), none, 0, y1, rfl, h, hs⟩
  · replace h := h.2 hc
    refine wp_skip ?_
    refine X.then_ ?_
    refine wp_seq ?_
    refine R.list ?_
    refine S.val hf hs (v := .slice s_A s_.length s_C) rfl rfl rfl (V.pure rfl) (fun a hf => ?_)
    refine S.val hf hs (v := .string (ba name)) rfl rfl rfl (V.pure rfl) (fun a hf => ?_)
    refine S.call hf rfl rfl rfl (call_fn (vs := [.slice s_A s_.length s_C, .string (ba name)]) rfl rfl rfl Try.call66) (R_stack_find s_ name _ s_A s_C ((Ag.args _ _ _).view hv_s_ hs) _ h) (fun v a w' hf hr => ?_)
    obtain ⟨y2, rfl, h2, hs2⟩ := hr
    replace h := h2; replace hs := hs.call hs2; clear h2 hs2
    refine S.val hf hs (v := .int .i64 y2) rfl rfl rfl (V.pure rfl) (fun a hf => ?_)
    refine R.nil ?_
    refine X.then_ ?_
    refine wp_seq ?_
    refine wp_seq ?_
    refine R.list ?_
    refine S.val hf hs (v := .int .i64 y2) rfl rfl rfl (V.pure rfl) (fun a hf => ?_)
    refine S.val hf hs (v := .bool (decide (y2 < 0))) rfl rfl rfl (V.pure rfl) (fun a hf => ?_)
    refine R.nil ?_
    refine X.then_ ?_
    refine C.cond hf (b := decide (y2 < 0)) rfl (fun hc => ?_) (fun hc => ?_)
    · replace h := h.1 hc
      refine wp_seq ?_
      refine R.list ?_
      refine S.val hf hs (v := .slice none 0 0) rfl rfl rfl (V.pure rfl) (fun a hf => ?_)
      refine S.val hf hs (v := .int .i64 9) rfl rfl rfl (V.pure rfl) (fun a hf => ?_)
      refine R.nil ?_
      refine X.then_ ?_
      refine wp_ret ?_
      refine X.then_ret ?_
      replace hs := hs.nilOwn (α := Str) 9
      replace hs := hs.take 1
      exact L.ret hf (run_results2 Try.results40 (ResIs.tmp hf rfl) (ResIs.tmp hf rfl)) ⟨([] : List Str), none, 0, 9, rfl, h, hs⟩
    · replace h := h.2 hc
      refine wp_skip ?_
      refine X.then_ ?_
      refine wp_seq ?_
      refine R.list ?_
      refine S.val hf hs (v := .slice mA m.length mC) rfl rfl rfl (V.pure rfl) (fun a hf => ?_)
      refine S.val hf hs (v := .slice s_A s_.length s_C) rfl rfl rfl (V.pure rfl) (fun a hf => ?_)
      refine S.call hf rfl rfl rfl (call_fn (vs := [.slice mA m.length mC, .slice s_A s_.length s_C]) rfl rfl rfl Try.call61) (R_stack_coppers m s_ _ mA mC ((Ag.args _ _ _).view hv_m hs) s_A s_C ((Ag.args _ _ _).view hv_s_ hs) _ h) (fun v a w' hf hr => ?_)
      obtain ⟨y3, y3A, y3C, rfl, h2, hs2⟩ := hr
      replace h := h2; replace hs := hs.call hs2; clear h2 hs2
      refine S.val hf hs (v := .slice y3A y3.length y3C) rfl rfl rfl (V.pure rfl) (fun a hf => ?_)
      refine R.nil ?_
      refine X.then_ ?_
      refine wp_seq ?_
      refine R.list ?_
      refine S.val hf hs (v := .slice y3A y3.length y3C) rfl rfl rfl (V.pure rfl) (fun a hf => ?_)
      refine S.val hf hs (v := .int .i64 (y3.length : Int)) rfl rfl rfl (V.len rfl rfl Try.runUnderlying43) (fun a hf => ?_)
      refine S.val hf hs (v := .slice lA l.length lC) rfl rfl rfl (V.pure rfl) (fun a hf => ?_)
      refine S.call hf rfl rfl rfl (call_fn (vs := [.int .i64 (y3.length : Int), .slice lA l.length lC]) rfl rfl rfl Try.call77) (R_stack_reach (y3.length : Int) l _ lA lC ((Ag.args _ _ _).view hv_l hs) _ h) (fun v a w' hf hr => ?_)
      obtain ⟨y4, y4A, y4C, rfl, h2, hs2⟩ := hr
      replace h := h2; replace hs := hs.call hs2; clear h2 hs2
      refine S.val hf hs (v := .slice y4A y4.length y4C) rfl rfl rfl (V.pure rfl) (fun a hf => ?_)
      refine R.nil ?_
      refine X.then_ ?_
      refine wp_seq ?_
      refine R.list ?_
      refine S.val hf hs (v := .slice y4A y4.length y4C) rfl rfl rfl (V.pure rfl) (fun a hf => ?_)
      refine S.val hf hs (v := .slice y3A y3.length y3C) rfl rfl rfl (V.pure rfl) (fun a hf => ?_)
      refine S.val hf hs (v := .int .i64 y2) rfl rfl rfl (V.pure rfl) (fun a hf => ?_)
      refine S.call hf rfl rfl rfl (call_fn (vs := [.slice y3A y3.length y3C, .int .i64 y2]) rfl rfl rfl Try.call78) (R_index_int y3 y2 _ y3A y3C (hs.ownView 1 rfl) _ h) (fun v a w' hf hr => ?_)
      obtain ⟨y5, rfl, h2, hs2⟩ := hr
      replace h := h2; replace hs := hs.call hs2; clear h2 hs2
      obtain ⟨h0x1, x1, hx1, h⟩ := h
      refine S.val hf hs (v := elemPtr y4A (y5.toNat * 1)) rfl rfl rfl (V.index rfl rfl rfl Try.runUnderlying43 Try.sizeOf3 (hs.ownSome 0 rfl (lt_of_get hx1)) h0x1 (lt_of_get hx1) rfl) (fun a hf => ?_)
      refine S.val hf hs (v := .int .i64 x1) rfl rfl rfl (V.loadOwn (off := 0) 0 rfl hx1 rfl rfl rfl Try.isAgg3 Try.sizeOf3 rfl rfl) (fun a hf => ?_)
      refine S.val hf hs (v := .int .i64 x1) rfl rfl rfl (V.pure rfl) (fun a hf => ?_)
      refine R.nil ?_
      refine X.then_ ?_
      refine wp_seq ?_
      refine R.list ?_
      refine S.val hf hs (v := .slice none 0 0) rfl rfl rfl (V.pure rfl) (fun a hf => ?_)
      refine R.nil ?_
      refine X.then_ ?_
      refine wp_seq ?_
      refine wp_seq ?_
      refine R.list ?_
      refine S.val hf hs (v := .slice y4A y4.length y4C) rfl rfl rfl (V.pure rfl) (fun a hf => ?_)
      refine S.val hf hs (v := .int .i64 (y4.length : Int)) rfl rfl rfl (V.len rfl rfl Try.runUnderlying43) (fun a hf => ?_)
      refine S.val hf hs (v := .int .i64 0) rfl rfl rfl (V.pure rfl) (fun a hf => ?_)
      refine R.nil ?_
      refine X.then_ ?_
      refine wp_block ?_
      replace hs := hs.nilOwn (α := Str) 9
      have hlenk1 := (hs.ownView 1 rfl).len64
      refine C.range (fun (ll : List Int) a w => ∃ (k1 : Nat) (l2 : List Str) (l2A : Option Addr) (l2C : Nat), y4.drop k1 = ll ∧ k1 + ll.length = y4.length ∧ forIn' (fun k x (s : List Str) next => M_stack_Reached_L1 s_ y3 x1 k x s (fun l2 => next l2)) (fun (s : List Str) => (fun (l2 : List Str) => Q l2 0) s) ll k1 l2 ∧ FrOk 66 [(45, .int .i64 (k1 : Int)), (1, .slice s_A s_.length s_C), (12, .slice y3A y3.length y3C), (14, .int .i64 x1), (15, .slice l2A l2.length l2C), (43, .slice y4A y4.length y4C), (44, .int .i64 (y4.length : Int))] a ∧ Sat w0 none_ [hown 9 l2A l2C l2, hown 3 y4A y4C y4, hown 3 y3A y3C y3] w) y4 ⟨0, ([] : List Str), none, 0, rfl, Nat.zero_add _, h, (((((((hf.nil.cons (hf.get 44 _ rfl)).cons (hf.get 43 _ rfl)).cons (hf.get 15 _ rfl)).cons (hf.get 14 _ rfl)).cons (hf.get 12 _ rfl)).cons (hf.get 1 _ rfl)).cons (hf.get 45 _ rfl)), hs⟩ ?_
      clear h hf hs
      rintro llk1 a w ⟨k1, l2, l2A, l2C, hlk1, hkk1, h, hf, hs⟩
      cases llk1 with
      | nil =>
        have hc := range_done hkk1
        replace h : (fun (l2 : List Str) => Q l2 0) l2 := h
        refine wp_seq ?_
        refine R.list ?_
        refine S.val hf hs (v := .bool false) rfl rfl rfl (V.cmp false rfl rfl rfl rfl hc) (fun a hf => ?_)
        refine R.nil ?_
        refine X.then_ ?_
        refine wp_seq ?_
        refine C.no hf rfl ?_
        refine wp_exit ?_
        refine X.then_exit ?_
        refine X.then_exit ?_
        refine X.blk_exit ?_
        refine X.then_ ?_
        refine wp_seq ?_
        refine R.list ?_
        refine S.val hf hs (v := .slice l2A l2.length l2C) rfl rfl rfl (V.pure rfl) (fun a hf => ?_)
        refine S.val hf hs (v := .slice l2A l2.length l2C) rfl rfl rfl (V.pure rfl) (fun a hf => ?_)
        refine S.val hf hs (v := .int .i64 0) rfl rfl rfl (V.pure rfl) (fun a hf => ?_)
        refine R.nil ?_
        refine X.then_ ?_
        refine wp_ret ?_
        replace hs := hs.take 1
        exact L.ret hf (run_results2 Try.results40 (ResIs.tmp hf rfl) (ResIs.tmp hf rfl)) ⟨l2, l2A, l2C, 0, rfl, h, hs⟩
      | cons xk1 llk1 =>
        have hltk1 := range_lt hkk1; have hc := range_go hkk1; have hxk1 := range_get hlk1
        obtain ⟨next1, hnext1⟩ : ∃ X : List Str → Prop, X = (fun l2 => forIn' (fun k x (s : List Str) next => M_stack_Reached_L1 s_ y3 x1 k x s (fun l2 => next l2)) (fun (s : List Str) => (fun (l2 : List Str) => Q l2 0) s) llk1 (k1 + 1) l2) := ⟨_, rfl⟩
        replace h : M_stack_Reached_L1 s_ y3 x1 k1 xk1 l2 next1 := by rw [hnext1]; exact h
        unfold M_stack_Reached_L1 at h
        refine wp_seq ?_
        refine R.list ?_
        refine S.val hf hs (v := .bool true) rfl rfl rfl (V.cmp true rfl rfl rfl rfl hc) (fun a hf => ?_)
        refine R.nil ?_
        refine X.then_ ?_
        refine wp_seq ?_
        refine C.yes hf rfl ?_
        refine wp_skip ?_
        refine X.then_ ?_
        refine wp_seq ?_
        refine wp_block ?_
        refine wp_seq ?_
        refine R.list ?_
        refine S.val hf hs (v := .int .i64 (k1 : Int)) rfl rfl rfl (V.pure rfl) (fun a hf => ?_)
        refine S.val hf hs (v := elemPtr y4A (k1 * 1)) rfl rfl rfl (V.index rfl rfl rfl Try.runUnderlying43 Try.sizeOf3 (hs.ownSome 1 rfl (lt_of_get hxk1)) (Int.natCast_nonneg _) (lt_of_get hxk1) rfl) (fun a hf => ?_)
        refine S.val hf hs (v := .int .i64 xk1) rfl rfl rfl (V.loadOwn (off := 0) 1 rfl hxk1 rfl rfl rfl Try.isAgg3 Try.sizeOf3 rfl rfl) (fun a hf => ?_)
        refine S.val hf hs (v := .int .i64 (k1 : Int)) rfl rfl rfl (V.pure rfl) (fun a hf => ?_)
        refine S.val hf hs (v := .int .i64 xk1) rfl rfl rfl (V.pure rfl) (fun a hf => ?_)
        refine R.nil ?_
        refine X.then_ ?_
        refine wp_seq ?_
        refine R.list ?_
        refine S.val hf hs (v := .int .i64 xk1) rfl rfl rfl (V.pure rfl) (fun a hf => ?_)
        refine S.val hf hs (v := .int .i64 x1) rfl rfl rfl (V.pure rfl) (fun a hf => ?_)
        refine S.val hf hs (v := .bool (xk1 == x1)) rfl rfl rfl (V.pure rfl) (fun a hf => ?_)
        refine R.nil ?_
        refine X.then_ ?_
        refine C.cond hf (b := xk1 == x1) rfl (fun hc => ?_) (fun hc => ?_)
        · replace h := h.1 hc
          refine R.list ?_
          refine S.val hf hs (v := .slice l2A l2.length l2C) rfl rfl rfl (V.pure rfl) (fun a hf => ?_)
          refine S.val hf hs (v := .slice s_A s_.length s_C) rfl rfl rfl (V.pure rfl) (fun a hf => ?_)
          refine S.val hf hs (v := .slice y3A y3.length y3C) rfl rfl rfl (V.pure rfl) (fun a hf => ?_)
          refine S.val hf hs (v := .int .i64 (k1 : Int)) rfl rfl rfl (V.pure rfl) (fun a hf => ?_)
          obtain ⟨h0x2, x2, hx2, h⟩ := h
          refine S.val hf hs (v := elemPtr y3A (k1 * 1)) rfl rfl rfl (V.index rfl rfl rfl Try.runUnderlying43 Try.sizeOf3 (hs.ownSome 2 rfl (lt_of_get hx2)) (Int.natCast_nonneg _) (lt_of_get hx2) rfl) (fun a hf => ?_)
          refine S.val hf hs (v := .int .i64 x2) rfl rfl rfl (V.loadOwn (off := 0) 2 rfl hx2 rfl rfl rfl Try.isAgg3 Try.sizeOf3 rfl rfl) (fun a hf => ?_)
          obtain ⟨h0x3, x3, hx3, h⟩ := h
          refine S.val hf hs (v := elemPtr s_A (x2.toNat * 2)) rfl rfl rfl (V.index rfl rfl rfl Try.runUnderlying23 Try.sizeOf35 (hv_s_.some_ (lt_of_get hx3)) h0x3 (lt_of_get hx3) rfl) (fun a hf => ?_)
          refine S.val hf hs (v := elemPtr s_A (x2.toNat * 2)) rfl rfl rfl (V.fieldEl rfl rfl (hv_s_.some_ (lt_of_get hx3)) Try.runUnderlying35 rfl Try.sizeOf9 rfl rfl) (fun a hf => ?_)
          refine S.val hf hs (v := .string (ba x3.Name)) rfl rfl rfl (V.loadEl (off := 0) (Ag.args _ _ _) (hv_s_.flat hx3) rfl rfl rfl Try.isAgg9 Try.sizeOf9 rfl rfl) (fun a hf => ?_)
          refine S.build1 hf hs rfl rfl rfl (α := Str) x3.Name rfl rfl rfl Try.runUnderlying63 Try.sizeOf9 Try.zeroValue9 rfl (by decide) (fun A1 a w hf hs => ?_)
          obtain ⟨hroom, h⟩ := h
          refine S.appendCells 1 hf hs rfl rfl rfl rfl rfl rfl rfl Try.underlying63 info9 rfl hroom ((hs.ownView 0 rfl).some_ (i := 0) (by simp)) (hs.ownView 0 rfl) (fun A2 C1 a w hf hs => ?_)
          replace hs := hs.drop
          refine S.val hf hs (v := .slice A2 (l2 ++ [x3.Name]).length C1) rfl rfl rfl (V.pure rfl) (fun a hf => ?_)
          refine R.nil ?_
          refine X.blk ?_
          refine X.then_ ?_
          refine R.list ?_
          refine S.val hf hs (v := .int .i64 ((k1 + 1 : Nat) : Int)) rfl rfl rfl (V.incr rfl rfl rfl hltk1 hlenk1) (fun a hf => ?_)
          refine S.val hf hs (v := .int .i64 ((k1 + 1 : Nat) : Int)) rfl rfl rfl (V.pure rfl) (fun a hf => ?_)
          refine R.nil ?_
          refine X.then_ ?_
          exact ⟨xk1, llk1, rfl, k1 + 1, (l2 ++ [x3.Name]), A2, C1, range_drop hlk1, range_len hkk1, (by rw [hnext1] at h; exact h), (((((((hf.nil.cons (hf.get 44 _ rfl)).cons (hf.get 43 _ rfl)).cons (hf.get 15 _ rfl)).cons (hf.get 14 _ rfl)).cons (hf.get 12 _ rfl)).cons (hf.get 1 _ rfl)).cons (hf.get 45 _ rfl)), hs⟩
        · replace h := h.2 hc
          refine wp_skip ?_
          refine X.blk ?_
          refine X.then_ ?_
          refine R.list ?_
          refine S.val hf hs (v := .int .i64 ((k1 + 1 : Nat) : Int)) rfl rfl rfl (V.incr rfl rfl rfl hltk1 hlenk1) (fun a hf => ?_)
          refine S.val hf hs (v := .int .i64 ((k1 + 1 : Nat) : Int)) rfl rfl rfl (V.pure rfl) (fun a hf => ?_)
          refine R.nil ?_
          refine X.then_ ?_
          exact ⟨xk1, llk1, rfl, k1 + 1, l2, l2A, l2C, range_drop hlk1, range_len hkk1, (by rw [hnext1] at h; exact h), (((((((hf.nil.cons (hf.get 44 _ rfl)).cons (hf.get 43 _ rfl)).cons (hf.get 15 _ rfl)).cons (hf.get 14 _ rfl)).cons (hf.get 12 _ rfl)).cons (hf.get 1 _ rfl)).cons (hf.get 45 _ rfl)), hs⟩

set_option linter.unusedVariables false
def M_equal_str_L1 (s2 : (List Str)) (Q : Bool → Prop) (k1 : Nat) (xk1 : Str)  (next1 : Prop) : Prop :=
  idx s2 (k1 : Int) fun x1 => cnd (!(xk1 == x1)) (Q false) (next1)
def M_equal_str (s1 : (List Str)) (s2 : (List Str)) (Q : Bool → Prop) : Prop :=
  cnd ((s1.length : Int) != (s2.length : Int)) (Q false) (forIn' (fun k x (s : Unit) next => M_equal_str_L1 s2 Q k x (next ())) (fun (s : Unit) => Q true) s1 0 ())
set_option maxHeartbeats 1000000 in
theorem R_equal_str (s1 : (List Str)) (s2 : (List Str)) (w0 : World) (s1A : Option Addr) (s1C : Nat) (hv_s1 : View w0 (old w0 none_) s1A s1C s1) (s2A : Option Addr) (s2C : Nat) (hv_s2 : View w0 (old w0 none_) s2A s2C s2) (Q : Bool → Prop) (h : M_equal_str s1 s2 Q) :
    Ret Try.prog 41 #[.slice s1A s1.length s1C, .slice s2A s2.length s2C] w0 fun v w' => ∃ (r0 : Bool), v = .bool r0 ∧ Q r0 ∧ Sat w0 none_ [] w' := by
  refine fn_enter Try.func41 rfl Try.ntmps41 rfl (fs := [(0, .slice s1A s1.length s1C), (1, .slice s2A s2.length s2C)]) rfl (fun a hf => ?_)
  have hs := Sat.start w0 none_
  unfold M_equal_str at h
  refine wp_seq ?_
  refine R.list ?_
  refine S.val hf hs (v := .bool false) rfl rfl rfl (V.pure rfl) (fun a hf => ?_)
  refine R.nil ?_
  refine X.then_ ?_
  refine wp_seq ?_
  refine wp_seq ?_
  refine R.list ?_
  refine S.val hf hs (v := .slice s1A s1.length s1C) rfl rfl rfl (V.pure rfl) (fun a hf => ?_)
  refine S.val hf hs (v := .int .i64 (s1.length : Int)) rfl rfl rfl (V.len rfl rfl Try.runUnderlying63) (fun a hf => ?_)
  refine S.val hf hs (v := .slice s2A s2.length s2C) rfl rfl rfl (V.pure rfl) (fun a hf => ?_)
  refine S.val hf hs (v := .int .i64 (s2.length : Int)) rfl rfl rfl (V.len rfl rfl Try.runUnderlying63) (fun a hf => ?_)
  refine S.val hf hs (v := .bool ((s1.length : Int) != (s2.length : Int))) rfl rfl rfl (V.pure rfl) (fun a hf => ?_)
  refine R.nil ?_
  refine X.then_ ?_
  refine C.cond hf (b := (s1.length : Int) != (s2.length : Int)) rfl (fun hc => ?_) (fun hc => ?_)
  · replace h := h.1 hc
    refine wp_seq ?_
    refine R.list ?_
    refine S.val hf hs (v := .bool false) rfl rfl rfl (V.pure rfl) (fun a hf => ?_)
    refine R.nil ?_
    refine X.then_ ?_
    refine wp_ret ?_
    refine X.then_ret ?_
    exact L.ret hf (run_results1 Try.results41 (ResIs.tmp hf rfl)) ⟨false, rfl, h, hs.nil⟩
  · replace h := h.2 hc
    refine wp_skip ?_
    refine X.then_ ?_
    refine wp_seq ?_
    refine wp_seq ?_
    refine R.list ?_
    refine S.val hf hs (v := .slice s1A s1.length s1C) rfl rfl rfl (V.pure rfl) (fun a hf => ?_)
    refine S.val hf hs (v := .int .i64 (s1.length : Int)) rfl rfl rfl (V.len rfl rfl Try.runUnderlying63) (fun a hf => ?_)
    refine S.val hf hs (v := .int .i64 0) rfl rfl rfl (V.pure rfl) (fun a hf => ?_)
    refine R.nil ?_
    refine X.then_ ?_
    refine wp_block ?_
    have hlenk1 := hv_s1.len64
    refine C.range (fun (ll : List Str) a w => ∃ (k1 : Nat) , s1.drop k1 = ll ∧ k1 + ll.length = s1.length ∧ forIn' (fun k x (s : Unit) next => M_equal_str_L1 s2 Q k x (next ())) (fun (s : Unit) => Q true) ll k1 () ∧ FrOk 26 [(13, .int .i64 (k1 : Int)), (0, .slice s1A s1.length s1C), (1, .slice s2A s2.length s2C), (12, .int .i64 (s1.length : Int))] a ∧ Sat w0 none_ [] w) s1 ⟨0, rfl, Nat.zero_add _, h, ((((hf.nil.cons (hf.get 12 _ rfl)).cons (hf.get 1 _ rfl)).cons (hf.get 0 _ rfl)).cons (hf.get 13 _ rfl)), hs⟩ ?_
    clear h hf hs
    rintro llk1 a w ⟨k1, hlk1, hkk1, h, hf, hs⟩
    cases llk1 with
    | nil =>
      have hc := range_done hkk1
      replace h : Q true := h
      refine wp_seq ?_
      refine R.list ?_
      refine S.val hf hs (v := .bool false) rfl rfl rfl (V.cmp false rfl rfl rfl rfl hc) (fun a hf => ?_)
      refine R.nil ?_
      refine X.then_ ?_
      refine wp_seq ?_
      refine C.no hf rfl ?_
      refine wp_exit ?_
      refine X.then_exit ?_
      refine X.then_exit ?_
      refine X.blk_exit ?_
      refine X.then_ ?_
      refine wp_seq ?_
      refine R.list ?_
      refine S.val hf hs (v := .bool true) rfl rfl rfl (V.pure rfl) (fun a hf => ?_)
      refine R.nil ?_
      refine X.then_ ?_
      refine wp_ret ?_
      exact L.ret hf (run_results1 Try.results41 (ResIs.tmp hf rfl)) ⟨true, rfl, h, hs.nil⟩
    | cons xk1 llk1 =>
      have hltk1 := range_lt hkk1; have hc := range_go hkk1; have hxk1 := range_get hlk1
      obtain ⟨next1, hnext1⟩ : ∃ X : Prop, X = (forIn' (fun k x (s : Unit) next => M_equal_str_L1 s2 Q k x (next ())) (fun (s : Unit) => Q true) llk1 (k1 + 1) ()) := ⟨_, rfl⟩
      replace h : M_equal_str_L1 s2 Q k1 xk1  next1 := by rw [hnext1]; exact h
      unfold M_equal_str_L1 at h
      refine wp_seq ?_
      refine R.list ?_
      refine S.val hf hs (v := .bool true) rfl rfl rfl (V.cmp true rfl rfl rfl rfl hc) (fun a hf => ?_)
      refine R.nil ?_
      refine X.then_ ?_
      refine wp_seq ?_
      refine C.yes hf rfl ?_
      refine wp_skip ?_
      refine X.then_ ?_
      refine wp_seq ?_
      refine wp_block ?_
      refine wp_seq ?_
      refine R.list ?_
      refine S.val hf hs (v := .int .i64 (k1 : Int)) rfl rfl rfl (V.pure rfl) (fun a hf => ?_)
      refine S.val hf hs (v := .int .i64 (k1 : Int)) rfl rfl rfl (V.pure rfl) (fun a hf => ?_)
      refine R.nil ?_
      refine X.then_ ?_
      refine wp_seq ?_
      refine R.draw mo (by kernel_rfl) hs ?_
      refine D.val hf (v := .slice s1A s1.length s1C) rfl rfl rfl (V.pure rfl) (fun a hf => ?_)
      refine D.val hf (v := .int .i64 (k1 : Int)) rfl rfl rfl (V.pure rfl) (fun a hf => ?_)
      refine D.val hf (v := elemPtr s1A (k1 * 1)) rfl rfl rfl (V.index rfl rfl rfl Try.runUnderlying63 Try.sizeOf9 (hv_s1.some_ (lt_of_get hxk1)) (Int.natCast_nonneg _) (lt_of_get hxk1) rfl) (fun a hf => ?_)
      refine D.val hf (v := .string (ba xk1)) rfl rfl rfl (V.loadEl (off := 0) (Ag.args _ _ _) (hv_s1.flat hxk1) rfl rfl rfl Try.isAgg9 Try.sizeOf9 rfl rfl) (fun a hf => ?_)
      refine D.val hf (v := .slice s2A s2.length s2C) rfl rfl rfl (V.pure rfl) (fun a hf => ?_)
      refine D.val hf (v := .int .i64 (k1 : Int)) rfl rfl rfl (V.pure rfl) (fun a hf => ?_)
      obtain ⟨h0x1, x1, hx1, h⟩ := h
      refine D.val hf (v := elemPtr s2A (k1 * 1)) rfl rfl rfl (V.index rfl rfl rfl Try.runUnderlying63 Try.sizeOf9 (hv_s2.some_ (lt_of_get hx1)) (Int.natCast_nonneg _) (lt_of_get hx1) rfl) (fun a hf => ?_)
      refine D.val hf (v := .string (ba x1)) rfl rfl rfl (V.loadEl (off := 0) (Ag.args _ _ _) (hv_s2.flat hx1) rfl rfl rfl Try.isAgg9 Try.sizeOf9 rfl rfl) (fun a hf => ?_)
      refine D.val hf (v := .bool (!(xk1 == x1))) rfl rfl rfl (V.strCmp (!(xk1 == x1)) rfl rfl rfl rfl) (fun a hf => ?_)
      refine D.done (fun w hs => ?_)
      refine X.then_ ?_
      refine C.cond hf (b := !(xk1 == x1)) rfl (fun hc => ?_) (fun hc => ?_)
      · replace h := h.1 hc
        refine wp_seq ?_
        refine R.list ?_
        refine S.val hf hs (v := .bool false) rfl rfl rfl (V.pure rfl) (fun a hf => ?_)
        refine R.nil ?_
        refine X.then_ ?_
        refine wp_ret ?_
        refine X.blk_ret ?_
        refine X.then_ret ?_
        refine X.then_ret ?_
        refine X.blk_ret ?_
        refine X.then_ret ?_
        exact L.ret hf (run_results1 Try.results41 (ResIs.tmp hf rfl)) ⟨false, rfl, h, hs.nil⟩
      · replace h := h.2 hc
        refine wp_skip ?_
        refine X.blk ?_
        refine X.then_ ?_
        refine R.list ?_
        refine S.val hf hs (v := .int .i64 ((k1 + 1 : Nat) : Int)) rfl rfl rfl (V.incr rfl rfl rfl hltk1 hlenk1) (fun a hf => ?_)
        refine S.val hf hs (v := .int .i64 ((k1 + 1 : Nat) : Int)) rfl rfl rfl (V.pure rfl) (fun a hf => ?_)
        refine R.nil ?_
        refine X.then_ ?_
        exact ⟨xk1, llk1, rfl, k1 + 1, range_drop hlk1, range_len hkk1, (by rw [hnext1] at h; exact h), ((((hf.nil.cons (hf.get 12 _ rfl)).cons (hf.get 1 _ rfl)).cons (hf.get 0 _ rfl)).cons (hf.get 13 _ rfl)), hs⟩

set_option linter.unusedVariables false
def M_index_str_L1 (v_ : Str) (Q : Int → Prop) (k1 : Nat) (xk1 : Str)  (next1 : Prop) : Prop :=
  cnd (v_ == xk1) (Q (k1 : Int)) (next1)
def M_index_str (s_ : (List Str)) (v_ : Str) (Q : Int → Prop) : Prop :=
  forIn' (fun k x (s : Unit) next => M_index_str_L1 v_ Q k x (next ())) (fun (s : Unit) => Q (-1)) s_ 0 ()
set_option maxHeartbeats 1000000 in
theorem R_index_str (s_ : (List Str)) (v_ : Str) (w0 : World) (s_A : Option Addr) (s_C : Nat) (hv_s_ : View w0 (old w0 none_) s_A s_C s_) (Q : Int → Prop) (h : M_index_str s_ v_ Q) :
    Ret Try.prog 79 #[.slice s_A s_.length s_C, .string (ba v_)] w0 fun v w' => ∃ (r0 : Int), v = .int .i64 r0 ∧ Q r0 ∧ Sat w0 none_ [] w' := by
  refine fn_enter Try.func79 rfl Try.ntmps79 rfl (fs := [(0, .slice s_A s_.length s_C), (1, .string (ba v_))]) rfl (fun a hf => ?_)
  have hs := Sat.start w0 none_
  unfold M_index_str at h
  refine wp_seq ?_
  refine R.list ?_
  refine S.val hf hs (v := .int .i64 0) rfl rfl rfl (V.pure rfl) (fun a hf => ?_)
  refine R.nil ?_
  refine X.then_ ?_
  refine wp_seq ?_
  refine wp_seq ?_
  refine R.list ?_
  refine S.val hf hs (v := .slice s_A s_.length s_C) rfl rfl rfl (V.pure rfl) (fun a hf => ?_)
  refine S.val hf hs (v := .int .i64 (s_.length : Int)) rfl rfl rfl (V.len rfl rfl Try.runUnderlying63) (fun a hf => ?_)
  refine S.val hf hs (v := .int .i64 0) rfl rfl rfl (V.pure rfl) (fun a hf => ?_)
  refine R.nil ?_
  refine X.then_ ?_
  refine wp_block ?_
  have hlenk1 := hv_s_.len64
  refine C.range (fun (ll : List Str) a w => ∃ (k1 : Nat) , s_.drop k1 = ll ∧ k1 + ll.length = s_.length ∧ forIn' (fun k x (s : Unit) next => M_index_str_L1 v_ Q k x (next ())) (fun (s : Unit) => Q (-1)) ll k1 () ∧ FrOk 19 [(8, .int .i64 (k1 : Int)), (0, .slice s_A s_.length s_C), (1, .string (ba v_)), (7, .int .i64 (s_.length : Int))] a ∧ Sat w0 none_ [] w) s_ ⟨0, rfl, Nat.zero_add _, h, ((((hf.nil.cons (hf.get 7 _ rfl)).cons (hf.get 1 _ rfl)).cons (hf.get 0 _ rfl)).cons (hf.get 8 _ rfl)), hs⟩ ?_
  clear h hf hs
  rintro llk1 a w ⟨k1, hlk1, hkk1, h, hf, hs⟩
  cases llk1 with
  | nil =>
    have hc := range_done hkk1
    replace h : Q (-1) := h
    refine wp_seq ?_
    refine R.list ?_
    refine S.val hf hs (v := .bool false) rfl rfl rfl (V.cmp false rfl rfl rfl rfl hc) (fun a hf => ?_)
    refine R.nil ?_
    refine X.then_ ?_
    refine wp_seq ?_
    refine C.no hf rfl ?_
    refine wp_exit ?_
    refine X.then_exit ?_
    refine X.then_exit ?_
    refine X.blk_exit ?_
    refine X.then_ ?_
    refine wp_seq ?_
    refine R.list ?_
    refine S.val hf hs (v := .int .i64 (-1)) rfl rfl rfl (V.pure rfl) (fun a hf => ?_)
    refine R.nil ?_
    refine X.then_ ?_
    refine wp_ret ?_
    exact L.ret hf (run_results1 Try.results79 (ResIs.tmp hf rfl)) ⟨(-1), rfl, h, hs.nil⟩
  | cons xk1 llk1 =>
    have hltk1 := range_lt hkk1; have hc := range_go hkk1; have hxk1 := range_get hlk1
    obtain ⟨next1, hnext1⟩ : ∃ X : Prop, X = (forIn' (fun k x (s : Unit) next => M_index_str_L1 v_ Q k x (next ())) (fun (s : Unit) => Q (-1)) llk1 (k1 + 1) ()) := ⟨_, rfl⟩
    replace h : M_index_str_L1 v_ Q k1 xk1  next1 := by rw [hnext1]; exact h
    unfold M_index_str_L1 at h
    refine wp_seq ?_
    refine R.list ?_
    refine S.val hf hs (v := .bool true) rfl rfl rfl (V.cmp true rfl rfl rfl rfl hc) (fun a hf => ?_)
    refine R.nil ?_
    refine X.then_ ?_
    refine wp_seq ?_
    refine C.yes hf rfl ?_
    refine wp_skip ?_
    refine X.then_ ?_
    refine wp_seq ?_
    refine wp_block ?_
    refine wp_seq ?_
    refine R.list ?_
    refine S.val hf hs (v := .int .i64 (k1 : Int)) rfl rfl rfl (V.pure rfl) (fun a hf => ?_)
    refine S.val hf hs (v := .int .i64 (k1 : Int)) rfl rfl rfl (V.pure rfl) (fun a hf => ?_)
    refine R.nil ?_
    refine X.then_ ?_
    refine wp_seq ?_
    refine R.list ?_
    refine S.val hf hs (v := .string (ba v_)) rfl rfl rfl (V.pure rfl) (fun a hf => ?_)
    refine S.val hf hs (v := .slice s_A s_.length s_C) rfl rfl rfl (V.pure rfl) (fun a hf => ?_)
    refine S.val hf hs (v := .int .i64 (k1 : Int)) rfl rfl rfl (V.pure rfl) (fun a hf => ?_)
    refine S.val hf hs (v := elemPtr s_A (k1 * 1)) rfl rfl rfl (V.index rfl rfl rfl Try.runUnderlying63 Try.sizeOf9 (hv_s_.some_ (lt_of_get hxk1)) (Int.natCast_nonneg _) (lt_of_get hxk1) rfl) (fun a hf => ?_)
    refine S.val hf hs (v := .string (ba xk1)) rfl rfl rfl (V.loadEl (off := 0) (Ag.args _ _ _) (hv_s_.flat hxk1) rfl rfl rfl Try.isAgg9 Try.sizeOf9 rfl rfl) (fun a hf => ?_)
    refine S.val hf hs (v := .bool (v_ == xk1)) rfl rfl rfl (V.strCmp (v_ == xk1) rfl rfl rfl rfl) (fun a hf => ?_)
    refine R.nil ?_
    refine X.then_ ?_
    refine C.cond hf (b := v_ == xk1) rfl (fun hc => ?_) (fun hc => ?_)
    · replace h := h.1 hc
      refine wp_seq ?_
      refine R.list ?_
      refine S.val hf hs (v := .int .i64 (k1 : Int)) rfl rfl rfl (V.pure rfl) (fun a hf => ?_)
      refine S.val hf hs (v := .int .i64 (k1 : Int)) rfl rfl rfl (V.pure rfl) (fun a hf => ?_)
      refine R.nil ?_
      refine X.then_ ?_
      refine wp_ret ?_
      refine X.blk_ret ?_
      refine X.then_ret ?_
      refine X.then_ret ?_
      refine X.blk_ret ?_
      refine X.then_ret ?_
      exact L.ret hf (run_results1 Try.results79 (ResIs.tmp hf rfl)) ⟨(k1 : Int), rfl, h, hs.nil⟩
    · replace h := h.2 hc
      refine wp_skip ?_
      refine X.blk ?_
      refine X.then_ ?_
      refine R.list ?_
      refine S.val hf hs (v := .int .i64 ((k1 + 1 : Nat) : Int)) rfl rfl rfl (V.incr rfl rfl rfl hltk1 hlenk1) (fun a hf => ?_)
      refine S.val hf hs (v := .int .i64 ((k1 + 1 : Nat) : Int)) rfl rfl rfl (V.pure rfl) (fun a hf => ?_)
      refine R.nil ?_
      refine X.then_ ?_
      exact ⟨xk1, llk1, rfl, k1 + 1, range_drop hlk1, range_len hkk1, (by rw [hnext1] at h; exact h), ((((hf.nil.cons (hf.get 7 _ rfl)).cons (hf.get 1 _ rfl)).cons (hf.get 0 _ rfl)).cons (hf.get 8 _ rfl)), hs⟩

set_option linter.unusedVariables false
def M_contains_str (s_ : (List Str)) (v_ : Str) (Q : Bool → Prop) : Prop :=
  M_index_str s_ v_ fun y1 => Q (decide (y1 ≥ 0))
set_option maxHeartbeats 1000000 in
theorem R_contains_str (s_ : (List Str)) (v_ : Str) (w0 : World) (s_A : Option Addr) (s_C : Nat) (hv_s_ : View w0 (old w0 none_) s_A s_C s_) (Q : Bool → Prop) (h : M_contains_str s_ v_ Q) :
    Ret Try.prog 42 #[.slice s_A s_.length s_C, .string (ba v_)] w0 fun v w' => ∃ (r0 : Bool), v = .bool r0 ∧ Q r0 ∧ Sat w0 none_ [] w' := by
  refine fn_enter Try.func42 rfl Try.ntmps42 rfl (fs := [(0, .slice s_A s_.length s_C), (1, .string (ba v_))]) rfl (fun a hf => ?_)
  have hs := Sat.start w0 none_
  unfold M_contains_str at h
  refine wp_seq ?_
  refine R.list ?_
  refine S.val hf hs (v := .bool false) rfl rfl rfl (V.pure rfl) (fun a hf => ?_)
  refine R.nil ?_
  refine X.then_ ?_
  refine wp_seq ?_
  refine R.list ?_
  refine S.val hf hs (v := .slice s_A s_.length s_C) rfl rfl rfl (V.pure rfl) (fun a hf => ?_)
  refine S.val hf hs (v := .string (ba v_)) rfl rfl rfl (V.pure rfl) (fun a hf => ?_)
  refine S.call hf rfl rfl rfl (call_fn (vs := [.slice s_A s_.length s_C, .string (ba v_)]) rfl rfl rfl Try.call79) (R_index_str s_ v_ _ s_A s_C ((Ag.args _ _ _).view hv_s_ hs) _ h) (fun v a w' hf hr => ?_)
  obtain ⟨y1, rfl, h2, hs2⟩ := hr
  replace h := h2; replace hs := hs.call hs2; clear h2 hs2
  refine S.val hf hs (v := .bool (decide (y1 ≥ 0))) rfl rfl rfl (V.pure rfl) (fun a hf => ?_)
  refine S.val hf hs (v := .bool (decide (y1 ≥ 0))) rfl rfl rfl (V.pure rfl) (fun a hf => ?_)
  refine R.nil ?_
  refine X.then_ ?_
  refine wp_ret ?_
  exact L.ret hf (run_results1 Try.results42 (ResIs.tmp hf rfl)) ⟨(decide (y1 ≥ 0)), rfl, h, hs.nil⟩

set_option linter.unusedVariables false
def M_law_BothWays_k2 (Q : Bool → Prop) (next1 : Prop) (c1 : Bool) : Prop :=
  cnd c1 (Q false) (next1)
def M_law_BothWays_L1 (m : (List Material)) (s_ : (List Layer)) (l : (List Through)) (Q : Bool → Prop) (y1 : (List Str)) (k1 : Nat) (xk1 : Str)  (next1 : Prop) : Prop :=
  M_stack_Reached m s_ l xk1 fun y6 y7 => cnd (y7 != 0) (M_law_BothWays_k2 Q next1 true) (M_equal_str y1 y6 fun y8 => M_law_BothWays_k2 Q next1 (!y8))
def M_law_BothWays (m : (List Material)) (s_ : (List Layer)) (l : (List Through)) (name : Str) (Q : Bool → Prop) : Prop :=
  M_stack_Reached m s_ l name fun y1 y2 => cnd (y2 != 0) (cnd ((y1.length : Int) == 0) (M_awake  fun y3 => Q y3) (Q false)) (forIn' (fun k x (s : Unit) next => M_law_BothWays_L1 m s_ l Q y1 k x (next ())) (fun (s : Unit) => M_contains_str y1 name fun y4 => cnd y4 (M_awake  fun y5 => Q y5) (Q false)) y1 0 ())
set_option maxHeartbeats 1000000 in
theorem R_law_BothWays (m : (List Material)) (s_ : (List Layer)) (l : (List Through)) (name : Str) (w0 : World) (mA : Option Addr) (mC : Nat) (hv_m : View w0 (old w0 none_) mA mC m) (s_A : Option Addr) (s_C : Nat) (hv_s_ : View w0 (old w0 none_) s_A s_C s_) (lA : Option Addr) (lC : Nat) (hv_l : View w0 (old w0 none_) lA lC l) (Q : Bool → Prop) (h : M_law_BothWays m s_ l name Q) :
    Ret Try.prog 10 #[.slice mA m.length mC, .slice s_A s_.length s_C, .slice lA l.length lC, .string (ba name)] w0 fun v w' => ∃ (r0 : Bool), v = .bool r0 ∧ Q r0 ∧ Sat w0 none_ [] w' := by
  refine fn_enter Try.func10 rfl Try.ntmps10 rfl (fs := [(0, .slice mA m.length mC), (1, .slice s_A s_.length s_C), (2, .slice lA l.length lC), (3, .string (ba name))]) rfl (fun a hf => ?_)
  have hs := Sat.start w0 none_
  unfold M_law_BothWays at h
  refine wp_seq ?_
  refine R.list ?_
  refine S.val hf hs (v := .bool false) rfl rfl rfl (V.pure rfl) (fun a hf => ?_)
  refine R.nil ?_
  refine X.then_ ?_
  refine wp_seq ?_
  refine R.list ?_
  refine S.val hf hs (v := .slice mA m.length mC) rfl rfl rfl (V.pure rfl) (fun a hf => ?_)
  refine S.val hf hs (v := .slice s_A s_.length s_C) rfl rfl rfl (V.pure rfl) (fun a hf => ?_)
  refine S.val hf hs (v := .slice lA l.length lC) rfl rfl rfl (V.pure rfl) (fun a hf => ?_)
  refine S.val hf hs (v := .string (ba name)) rfl rfl rfl (V.pure rfl) (fun a hf => ?_)
  refine S.call hf rfl rfl rfl (call_fn (vs := [.slice mA m.length mC, .slice s_A s_.length s_C, .slice lA l.length lC, .string (ba name)]) rfl rfl rfl Try.call40) (R_stack_Reached m s_ l name _ mA mC ((Ag.args _ _ _).view hv_m hs) s_A s_C ((Ag.args _ _ _).view hv_s_ hs) lA lC ((Ag.args _ _ _).view hv_l hs) _ h) (fun v a w' hf hr => ?_)
  obtain ⟨y1, y1A, y1C, y2, rfl, h2, hs2⟩ := hr
  replace h := h2; replace hs := hs.call hs2; clear h2 hs2
  refine S.val hf hs (v := .tuple #[.slice y1A y1.length y1C, .int .i64 y2]) rfl rfl rfl (V.pure rfl) (fun a hf => ?_)
  refine S.val hf hs (v := .slice y1A y1.length y1C) rfl rfl rfl (V.pure rfl) (fun a hf => ?_)
  refine S.val hf hs (v := .int .i64 y2) rfl rfl rfl (V.pure rfl) (fun a hf => ?_)
  refine S.val hf hs (v := .slice y1A y1.length y1C) rfl rfl rfl (V.pure rfl) (fun a hf => ?_)
  refine S.val hf hs (v := .int .i64 y2) rfl rfl rfl (V.pure rfl) (fun a hf => ?_)
  refine R.nil ?_
  refine X.then_ ?_
  refine wp_seq ?_
  refine wp_seq ?_
  refine R.list ?_
  refine S.val hf hs (v := .int .i64 y2) rfl rfl rfl (V.pure rfl) (fun a hf => ?_)
  refine S.val hf hs (v := .bool (y2 != 0)) rfl rfl rfl (V.pure rfl) (fun a hf => ?_)
  refine R.nil ?_
  refine X.then_ ?_
  refine C.cond hf (b := y2 != 0) rfl (fun hc => ?_) (fun hc => ?_)
  · replace h := h.1 hc
    refine wp_seq ?_
    refine R.list ?_
    refine S.val hf hs (v := .slice y1A y1.length y1C) rfl rfl rfl (V.pure rfl) (fun a hf => ?_)
    refine S.val hf hs (v := .int .i64 (y1.length : Int)) rfl rfl rfl (V.len rfl rfl Try.runUnderlying63) (fun a hf => ?_)
    refine S.val hf hs (v := .bool ((y1.length : Int) == 0)) rfl rfl rfl (V.pure rfl) (fun a hf => ?_)
    refine S.split hf hs (b := (y1.length : Int) == 0) rfl rfl rfl (V.pure rfl) (fun hc a hf => ?_) (fun hc a hf => ?_)
    · replace h := h.1 hc
      refine S.call hf rfl rfl rfl (call_fn (vs := []) rfl rfl rfl Try.call20) (R_awake  _  _ h) (fun v a w' hf hr => ?_)
      obtain ⟨y3, rfl, h2, hs2⟩ := hr
      replace h := h2; replace hs := hs.call hs2; clear h2 hs2
      refine S.val hf hs (v := .bool y3) rfl rfl rfl (V.pure rfl) (fun a hf => ?_)
      refine S.val hf hs (v := .bool y3) rfl rfl rfl (V.pure rfl) (fun a hf => ?_)
      refine R.nil ?_
      refine X.then_ ?_
      refine wp_ret ?_
      refine X.then_ret ?_
      exact L.ret hf (run_results1 Try.results10 (ResIs.tmp hf rfl)) ⟨y3, rfl, h, hs.nil⟩
    · replace h := h.2 hc
      refine S.skip hf rfl rfl rfl (fun a hf => ?_)
      refine S.val hf hs (v := .bool false) rfl rfl rfl (V.pure rfl) (fun a hf => ?_)
      refine S.val hf hs (v := .bool false) rfl rfl rfl (V.pure rfl) (fun a hf => ?_)
      refine R.nil ?_
      refine X.then_ ?_
      refine wp_ret ?_
      refine X.then_ret ?_
      exact L.ret hf (run_results1 Try.results10 (ResIs.tmp hf rfl)) ⟨false, rfl, h, hs.nil⟩
  · replace h := h.2 hc
    refine wp_skip ?_
    refine X.then_ ?_
    refine wp_seq ?_
    refine wp_seq ?_
    refine R.list ?_
    refine S.val hf hs (v := .slice y1A y1.length y1C) rfl rfl rfl (V.pure rfl) (fun a hf => ?_)
    refine S.val hf hs (v := .int .i64 (y1.length : Int)) rfl rfl rfl (V.len rfl rfl Try.runUnderlying63) (fun a hf => ?_)
    refine S.val hf hs (v := .int .i64 0) rfl rfl rfl (V.pure rfl) (fun a hf => ?_)
    refine R.nil ?_
    refine X.then_ ?_
    refine wp_block ?_
    have hlenk1 := (hs.ownView 0 rfl).len64
    refine C.range (fun (ll : List Str) a w => ∃ (k1 : Nat) , y1.drop k1 = ll ∧ k1 + ll.length = y1.length ∧ forIn' (fun k x (s : Unit) next => M_law_BothWays_L1 m s_ l Q y1 k x (next ())) (fun (s : Unit) => M_contains_str y1 name fun y4 => cnd y4 (M_awake  fun y5 => Q y5) (Q false)) ll k1 () ∧ FrOk 60 [(33, .int .i64 (k1 : Int)), (0, .slice mA m.length mC), (1, .slice s_A s_.length s_C), (2, .slice lA l.length lC), (3, .string (ba name)), (9, .slice y1A y1.length y1C), (31, .slice y1A y1.length y1C), (32, .int .i64 (y1.length : Int))] a ∧ Sat w0 none_ [hown 9 y1A y1C y1] w) y1 ⟨0, rfl, Nat.zero_add _, h, ((((((((hf.nil.cons (hf.get 32 _ rfl)).cons (hf.get 31 _ rfl)).cons (hf.get 9 _ rfl)).cons (hf.get 3 _ rfl)).cons (hf.get 2 _ rfl)).cons (hf.get 1 _ rfl)).cons (hf.get 0 _ rfl)).cons (hf.get 33 _ rfl)), hs⟩ ?_
    clear h hf hs
    rintro llk1 a w ⟨k1, hlk1, hkk1, h, hf, hs⟩
    cases llk1 with
    | nil =>
      have hc := range_done hkk1
      replace h : M_contains_str y1 name fun y4 => cnd y4 (M_awake  fun y5 => Q y5) (Q false) := h
      refine wp_seq ?_
      refine R.list ?_
      refine S.val hf hs (v := .bool false) rfl rfl rfl (V.cmp false rfl rfl rfl rfl hc) (fun a hf => ?_)
      refine R.nil ?_
      refine X.then_ ?_
      refine wp_seq ?_
      refine C.no hf rfl ?_
      refine wp_exit ?_
      refine X.then_exit ?_
      refine X.then_exit ?_
      refine X.blk_exit ?_
      refine X.then_ ?_
      refine wp_seq ?_
      refine R.list ?_
      refine S.val hf hs (v := .slice y1A y1.length y1C) rfl rfl rfl (V.pure rfl) (fun a hf => ?_)
      refine S.val hf hs (v := .string (ba name)) rfl rfl rfl (V.pure rfl) (fun a hf => ?_)
      refine S.call hf rfl rfl rfl (call_fn (vs := [.slice y1A y1.length y1C, .string (ba name)]) rfl rfl rfl Try.call42) (R_contains_str y1 name _ y1A y1C (hs.ownView 0 rfl) _ h) (fun v a w' hf hr => ?_)
      obtain ⟨y4, rfl, h2, hs2⟩ := hr
      replace h := h2; replace hs := hs.call hs2; clear h2 hs2
      refine S.split hf hs (b := y4) rfl rfl rfl (V.pure rfl) (fun hc a hf => ?_) (fun hc a hf => ?_)
      · replace h := h.1 hc
        refine S.call hf rfl rfl rfl (call_fn (vs := []) rfl rfl rfl Try.call20) (R_awake  _  _ h) (fun v a w' hf hr => ?_)
        obtain ⟨y5, rfl, h2, hs2⟩ := hr
        replace h := h2; replace hs := hs.call hs2; clear h2 hs2
        refine S.val hf hs (v := .bool y5) rfl rfl rfl (V.pure rfl) (fun a hf => ?_)
        refine S.val hf hs (v := .bool y5) rfl rfl rfl (V.pure rfl) (fun a hf => ?_)
        refine R.nil ?_
        refine X.then_ ?_
        refine wp_ret ?_
        exact L.ret hf (run_results1 Try.results10 (ResIs.tmp hf rfl)) ⟨y5, rfl, h, hs.nil⟩
      · replace h := h.2 hc
        refine S.skip hf rfl rfl rfl (fun a hf => ?_)
        refine S.val hf hs (v := .bool false) rfl rfl rfl (V.pure rfl) (fun a hf => ?_)
        refine S.val hf hs (v := .bool false) rfl rfl rfl (V.pure rfl) (fun a hf => ?_)
        refine R.nil ?_
        refine X.then_ ?_
        refine wp_ret ?_
        exact L.ret hf (run_results1 Try.results10 (ResIs.tmp hf rfl)) ⟨false, rfl, h, hs.nil⟩
    | cons xk1 llk1 =>
      have hltk1 := range_lt hkk1; have hc := range_go hkk1; have hxk1 := range_get hlk1
      obtain ⟨next1, hnext1⟩ : ∃ X : Prop, X = (forIn' (fun k x (s : Unit) next => M_law_BothWays_L1 m s_ l Q y1 k x (next ())) (fun (s : Unit) => M_contains_str y1 name fun y4 => cnd y4 (M_awake  fun y5 => Q y5) (Q false)) llk1 (k1 + 1) ()) := ⟨_, rfl⟩
      replace h : M_law_BothWays_L1 m s_ l Q y1 k1 xk1  next1 := by rw [hnext1]; exact h
      unfold M_law_BothWays_L1 at h
      refine wp_seq ?_
      refine R.list ?_
      refine S.val hf hs (v := .bool true) rfl rfl rfl (V.cmp true rfl rfl rfl rfl hc) (fun a hf => ?_)
      refine R.nil ?_
      refine X.then_ ?_
      refine wp_seq ?_
      refine C.yes hf rfl ?_
      refine wp_skip ?_
      refine X.then_ ?_
      refine wp_seq ?_
      refine wp_block ?_
      refine wp_seq ?_
      refine R.list ?_
      refine S.val hf hs (v := elemPtr y1A (k1 * 1)) rfl rfl rfl (V.index rfl rfl rfl Try.runUnderlying63 Try.sizeOf9 (hs.ownSome 0 rfl (lt_of_get hxk1)) (Int.natCast_nonneg _) (lt_of_get hxk1) rfl) (fun a hf => ?_)
      refine S.val hf hs (v := .string (ba xk1)) rfl rfl rfl (V.loadOwn (off := 0) 0 rfl hxk1 rfl rfl rfl Try.isAgg9 Try.sizeOf9 rfl rfl) (fun a hf => ?_)
      refine S.val hf hs (v := .string (ba xk1)) rfl rfl rfl (V.pure rfl) (fun a hf => ?_)
      refine R.nil ?_
      refine X.then_ ?_
      refine wp_seq ?_
      refine R.list ?_
      refine S.val hf hs (v := .slice mA m.length mC) rfl rfl rfl (V.pure rfl) (fun a hf => ?_)
      refine S.val hf hs (v := .slice s_A s_.length s_C) rfl rfl rfl (V.pure rfl) (fun a hf => ?_)
      refine S.val hf hs (v := .slice lA l.length lC) rfl rfl rfl (V.pure rfl) (fun a hf => ?_)
      refine S.val hf hs (v := .string (ba xk1)) rfl rfl rfl (V.pure rfl) (fun a hf => ?_)
      refine S.call hf rfl rfl rfl (call_fn (vs := [.slice mA m.length mC, .slice s_A s_.length s_C, .slice lA l.length lC, .string (ba xk1)]) rfl rfl rfl Try.call40) (R_stack_Reached m s_ l xk1 _ mA mC ((Ag.args _ _ _).view hv_m hs) s_A s_C ((Ag.args _ _ _).view hv_s_ hs) lA lC ((Ag.args _ _ _).view hv_l hs) _ h) (fun v a w' hf hr => ?_)
      obtain ⟨y6, y6A, y6C, y7, rfl, h2, hs2⟩ := hr
      replace h := h2; replace hs := hs.call hs2; clear h2 hs2
      refine S.val hf hs (v := .tuple #[.slice y6A y6.length y6C, .int .i64 y7]) rfl rfl rfl (V.pure rfl) (fun a hf => ?_)
      refine S.val hf hs (v := .slice y6A y6.length y6C) rfl rfl rfl (V.pure rfl) (fun a hf => ?_)
      refine S.val hf hs (v := .int .i64 y7) rfl rfl rfl (V.pure rfl) (fun a hf => ?_)
      refine S.val hf hs (v := .slice y6A y6.length y6C) rfl rfl rfl (V.pure rfl) (fun a hf => ?_)
      refine S.val hf hs (v := .int .i64 y7) rfl rfl rfl (V.pure rfl) (fun a hf => ?_)
      refine R.nil ?_
      refine X.then_ ?_
      refine wp_seq ?_
      refine C.cut (J := fun a w => ∃ (c1 : Bool), M_law_BothWays_k2 Q next1 c1 ∧ FrOk 60 [(0, .slice mA m.length mC), (1, .slice s_A s_.length s_C), (2, .slice lA l.length lC), (3, .string (ba name)), (9, .slice y1A y1.length y1C), (31, .slice y1A y1.length y1C), (32, .int .i64 (y1.length : Int)), (33, .int .i64 (k1 : Int)), (52, .bool c1)] a ∧ Sat w0 none_ [hown 9 y6A y6C y6, hown 9 y1A y1C y1] w) ?_ ?_
      · rintro a w ⟨c1, h, hf, hs⟩
        unfold M_law_BothWays_k2 at h
        refine C.cond hf (b := c1) rfl (fun hc => ?_) (fun hc => ?_)
        · replace h := h.1 hc
          refine wp_seq ?_
          refine R.list ?_
          refine S.val hf hs (v := .bool false) rfl rfl rfl (V.pure rfl) (fun a hf => ?_)
          refine R.nil ?_
          refine X.then_ ?_
          refine wp_ret ?_
          refine X.blk_ret ?_
          refine X.then_ret ?_
          refine X.then_ret ?_
          refine X.blk_ret ?_
          refine X.then_ret ?_
          exact L.ret hf (run_results1 Try.results10 (ResIs.tmp hf rfl)) ⟨false, rfl, h, hs.nil⟩
        · replace h := h.2 hc
          refine wp_skip ?_
          refine X.blk ?_
          refine X.then_ ?_
          refine R.list ?_
          refine S.val hf hs (v := .int .i64 ((k1 + 1 : Nat) : Int)) rfl rfl rfl (V.incr rfl rfl rfl hltk1 hlenk1) (fun a hf => ?_)
          refine S.val hf hs (v := .int .i64 ((k1 + 1 : Nat) : Int)) rfl rfl rfl (V.pure rfl) (fun a hf => ?_)
          refine R.nil ?_
          refine X.then_ ?_
          exact ⟨xk1, llk1, rfl, k1 + 1, range_drop hlk1, range_len hkk1, (by rw [hnext1] at h; exact h), ((((((((hf.nil.cons (hf.get 32 _ rfl)).cons (hf.get 31 _ rfl)).cons (hf.get 9 _ rfl)).cons (hf.get 3 _ rfl)).cons (hf.get 2 _ rfl)).cons (hf.get 1 _ rfl)).cons (hf.get 0 _ rfl)).cons (hf.get 33 _ rfl)), hs.drop⟩
      · skip
        refine R.list ?_
        refine S.val hf hs (v := .int .i64 y7) rfl rfl rfl (V.pure rfl) (fun a hf => ?_)
        refine S.val hf hs (v := .bool (y7 != 0)) rfl rfl rfl (V.pure rfl) (fun a hf => ?_)
        refine S.split hf hs (b := y7 != 0) rfl rfl rfl (V.pure rfl) (fun hc a hf => ?_) (fun hc a hf => ?_)
        · replace h := h.1 hc
          refine S.skip hf rfl rfl rfl (fun a hf => ?_)
          refine S.skip hf rfl rfl rfl (fun a hf => ?_)
          refine S.skip hf rfl rfl rfl (fun a hf => ?_)
          refine S.skip hf rfl rfl rfl (fun a hf => ?_)
          refine S.val hf hs (v := .bool true) rfl rfl rfl (V.pure rfl) (fun a hf => ?_)
          refine R.nil ?_
          refine X.then_ ?_
          exact ⟨true, h, (((((((((hf.nil.cons (hf.get 52 _ rfl)).cons (hf.get 33 _ rfl)).cons (hf.get 32 _ rfl)).cons (hf.get 31 _ rfl)).cons (hf.get 9 _ rfl)).cons (hf.get 3 _ rfl)).cons (hf.get 2 _ rfl)).cons (hf.get 1 _ rfl)).cons (hf.get 0 _ rfl)), hs⟩
        · replace h := h.2 hc
          refine S.val hf hs (v := .slice y1A y1.length y1C) rfl rfl rfl (V.pure rfl) (fun a hf => ?_)
          refine S.val hf hs (v := .slice y6A y6.length y6C) rfl rfl rfl (V.pure rfl) (fun a hf => ?_)
          refine S.call hf rfl rfl rfl (call_fn (vs := [.slice y1A y1.length y1C, .slice y6A y6.length y6C]) rfl rfl rfl Try.call41) (R_equal_str y1 y6 _ y1A y1C (hs.ownView 1 rfl) y6A y6C (hs.ownView 0 rfl) _ h) (fun v a w' hf hr => ?_)
          obtain ⟨y8, rfl, h2, hs2⟩ := hr
          replace h := h2; replace hs := hs.call hs2; clear h2 hs2
          refine S.val hf hs (v := .bool (!y8)) rfl rfl rfl (V.pure rfl) (fun a hf => ?_)
          refine S.val hf hs (v := .bool (!y8)) rfl rfl rfl (V.pure rfl) (fun a hf => ?_)
          refine R.nil ?_
          refine X.then_ ?_
          exact ⟨(!y8), h, (((((((((hf.nil.cons (hf.get 52 _ rfl)).cons (hf.get 33 _ rfl)).cons (hf.get 32 _ rfl)).cons (hf.get 31 _ rfl)).cons (hf.get 9 _ rfl)).cons (hf.get 3 _ rfl)).cons (hf.get 2 _ rfl)).cons (hf.get 1 _ rfl)).cons (hf.get 0 _ rfl)), hs⟩

end Go.Proofs.Ytjkkefhfbcgahaa
