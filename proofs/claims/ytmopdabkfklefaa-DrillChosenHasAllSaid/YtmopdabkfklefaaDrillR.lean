/- Chapter 8: holes given to tools: the walks. -/
import Derived.Test.YtmopdabkfklefaaDrillG
namespace Go.Proofs.Ytmopdabkfklefaa
open Go Go.RowKit
set_option linter.unusedVariables false

def cmpNaN (x : Int) : Bool := false
set_option linter.unusedVariables false
def M_cmp_isNaN (x_ : Int) (Q : Bool → Prop) : Prop :=
  Q (x_ != x_)
set_option maxHeartbeats 1000000 in
theorem R_cmp_isNaN (x_ : Int) (w0 : World)  (Q : Bool → Prop) (h : M_cmp_isNaN x_ Q) :
    Ret Try.prog 100 #[.int .i64 x_] w0 fun v w' => ∃ (r0 : Bool), v = .bool r0 ∧ Q r0 ∧ Sat w0 none_ [] w' := by
  refine fn_enter Try.func100 rfl Try.ntmps100 rfl (fs := [(0, .int .i64 x_)]) rfl (fun a hf => ?_)
  have hs := Sat.start w0 none_
  unfold M_cmp_isNaN at h
  refine wp_seq ?_
  refine R.list ?_
  refine S.val hf hs (v := .bool false) rfl rfl rfl (V.pure rfl) (fun a hf => ?_)
  refine R.nil ?_
  refine X.then_ ?_
  refine wp_seq ?_
  refine R.list ?_
  refine S.val hf hs (v := .int .i64 x_) rfl rfl rfl (V.pure rfl) (fun a hf => ?_)
  refine S.val hf hs (v := .int .i64 x_) rfl rfl rfl (V.pure rfl) (fun a hf => ?_)
  refine S.val hf hs (v := .bool (x_ != x_)) rfl rfl rfl (V.pure rfl) (fun a hf => ?_)
  refine S.val hf hs (v := .bool (x_ != x_)) rfl rfl rfl (V.pure rfl) (fun a hf => ?_)
  refine R.nil ?_
  refine X.then_ ?_
  refine wp_ret ?_
  exact L.ret hf (run_results1 Try.results100 (ResIs.tmp hf rfl)) ⟨(x_ != x_), rfl, h, hs.nil⟩

theorem E_cmp_isNaN (x : Int) : M_cmp_isNaN x (· = cmpNaN x) := by
  unfold M_cmp_isNaN cmpNaN; simp
theorem C_cmp_isNaN (x_ : Int) (w0 : World)  : Ret Try.prog 100 #[.int .i64 x_] w0 fun v w' => v = .bool (cmpNaN x_) ∧ Sat w0 none_ [] w' :=
  (R_cmp_isNaN x_ w0  (· = (cmpNaN x_)) (E_cmp_isNaN x_)).mono fun v w' ⟨r0, hv, hr, hs⟩ => ⟨by subst hr; exact hv, hs⟩

def cmp3 (x y : Int) : Int := if x < y then -1 else if x > y then 1 else 0
set_option linter.unusedVariables false
def M_cmp_Compare (x_ : Int) (y : Int) (Q : Int → Prop) : Prop :=
  cnd (cmpNaN x_) (cnd (cmpNaN y) (Q 0) (Q (-1))) (cnd (cmpNaN y) (Q 1) (cnd (decide (x_ < y)) (Q (-1)) (cnd (decide (x_ > y)) (Q 1) (Q 0))))
set_option maxHeartbeats 1000000 in
theorem R_cmp_Compare (x_ : Int) (y : Int) (w0 : World)  (Q : Int → Prop) (h : M_cmp_Compare x_ y Q) :
    Ret Try.prog 91 #[.int .i64 x_, .int .i64 y] w0 fun v w' => ∃ (r0 : Int), v = .int .i64 r0 ∧ Q r0 ∧ Sat w0 none_ [] w' := by
  refine fn_enter Try.func91 rfl Try.ntmps91 rfl (fs := [(0, .int .i64 x_), (1, .int .i64 y)]) rfl (fun a hf => ?_)
  have hs := Sat.start w0 none_
  unfold M_cmp_Compare at h
  refine wp_seq ?_
  refine R.list ?_
  refine S.val hf hs (v := .int .i64 0) rfl rfl rfl (V.pure rfl) (fun a hf => ?_)
  refine R.nil ?_
  refine X.then_ ?_
  refine wp_seq ?_
  refine R.list ?_
  refine S.val hf hs (v := .int .i64 x_) rfl rfl rfl (V.pure rfl) (fun a hf => ?_)
  refine S.callv hf rfl rfl rfl (call_fn (vs := [.int .i64 x_]) rfl rfl rfl Try.call100) (C_cmp_isNaN x_ _ ) (fun a w hf hs' => ?_)
  replace hs := hs.call hs'; clear hs'
  refine S.val hf hs (v := .bool (cmpNaN x_)) rfl rfl rfl (V.pure rfl) (fun a hf => ?_)
  refine R.nil ?_
  refine X.then_ ?_
  refine wp_seq ?_
  refine R.list ?_
  refine S.val hf hs (v := .int .i64 y) rfl rfl rfl (V.pure rfl) (fun a hf => ?_)
  refine S.callv hf rfl rfl rfl (call_fn (vs := [.int .i64 y]) rfl rfl rfl Try.call100) (C_cmp_isNaN y _ ) (fun a w hf hs' => ?_)
  replace hs := hs.call hs'; clear hs'
  refine S.val hf hs (v := .bool (cmpNaN y)) rfl rfl rfl (V.pure rfl) (fun a hf => ?_)
  refine R.nil ?_
  refine X.then_ ?_
  refine wp_seq ?_
  refine wp_seq ?_
  refine R.list ?_
  refine S.val hf hs (v := .bool (cmpNaN x_)) rfl rfl rfl (V.pure rfl) (fun a hf => ?_)
  refine R.nil ?_
  refine X.then_ ?_
  refine C.cond hf (b := (cmpNaN x_)) rfl (fun hc => ?_) (fun hc => ?_)
  · replace h := h.1 hc
    refine wp_seq ?_
    refine wp_seq ?_
    refine R.list ?_
    refine S.val hf hs (v := .bool (cmpNaN y)) rfl rfl rfl (V.pure rfl) (fun a hf => ?_)
    refine R.nil ?_
    refine X.then_ ?_
    refine C.cond hf (b := (cmpNaN y)) rfl (fun hc => ?_) (fun hc => ?_)
    · replace h := h.1 hc
      refine wp_seq ?_
      refine R.list ?_
      refine S.val hf hs (v := .int .i64 0) rfl rfl rfl (V.pure rfl) (fun a hf => ?_)
      refine R.nil ?_
      refine X.then_ ?_
      refine wp_ret ?_
      refine X.then_ret ?_
      refine X.then_ret ?_
      exact L.ret hf (run_results1 Try.results91 (ResIs.tmp hf rfl)) ⟨0, rfl, h, hs.nil⟩
    · replace h := h.2 hc
      refine wp_skip ?_
      refine X.then_ ?_
      refine wp_seq ?_
      refine R.list ?_
      refine S.val hf hs (v := .int .i64 (-1)) rfl rfl rfl (V.pure rfl) (fun a hf => ?_)
      refine R.nil ?_
      refine X.then_ ?_
      refine wp_ret ?_
      refine X.then_ret ?_
      exact L.ret hf (run_results1 Try.results91 (ResIs.tmp hf rfl)) ⟨(-1), rfl, h, hs.nil⟩
  · replace h := h.2 hc
    refine wp_skip ?_
    refine X.then_ ?_
    refine wp_seq ?_
    refine wp_seq ?_
    refine R.list ?_
    refine S.val hf hs (v := .bool (cmpNaN y)) rfl rfl rfl (V.pure rfl) (fun a hf => ?_)
    refine R.nil ?_
    refine X.then_ ?_
    refine C.cond hf (b := (cmpNaN y)) rfl (fun hc => ?_) (fun hc => ?_)
    · replace h := h.1 hc
      refine wp_seq ?_
      refine R.list ?_
      refine S.val hf hs (v := .int .i64 1) rfl rfl rfl (V.pure rfl) (fun a hf => ?_)
      refine R.nil ?_
      refine X.then_ ?_
      refine wp_ret ?_
      refine X.then_ret ?_
      exact L.ret hf (run_results1 Try.results91 (ResIs.tmp hf rfl)) ⟨1, rfl, h, hs.nil⟩
    · replace h := h.2 hc
      refine wp_skip ?_
      refine X.then_ ?_
      refine wp_seq ?_
      refine wp_seq ?_
      refine R.list ?_
      refine S.val hf hs (v := .int .i64 x_) rfl rfl rfl (V.pure rfl) (fun a hf => ?_)
      refine S.val hf hs (v := .int .i64 y) rfl rfl rfl (V.pure rfl) (fun a hf => ?_)
      refine S.val hf hs (v := .bool (decide (x_ < y))) rfl rfl rfl (V.pure rfl) (fun a hf => ?_)
      refine R.nil ?_
      refine X.then_ ?_
      refine C.cond hf (b := decide (x_ < y)) rfl (fun hc => ?_) (fun hc => ?_)
      · replace h := h.1 hc
        refine wp_seq ?_
        refine R.list ?_
        refine S.val hf hs (v := .int .i64 (-1)) rfl rfl rfl (V.pure rfl) (fun a hf => ?_)
        refine R.nil ?_
        refine X.then_ ?_
        refine wp_ret ?_
        refine X.then_ret ?_
        exact L.ret hf (run_results1 Try.results91 (ResIs.tmp hf rfl)) ⟨(-1), rfl, h, hs.nil⟩
      · replace h := h.2 hc
        refine wp_skip ?_
        refine X.then_ ?_
        refine wp_seq ?_
        refine wp_seq ?_
        refine R.list ?_
        refine S.val hf hs (v := .int .i64 x_) rfl rfl rfl (V.pure rfl) (fun a hf => ?_)
        refine S.val hf hs (v := .int .i64 y) rfl rfl rfl (V.pure rfl) (fun a hf => ?_)
        refine S.val hf hs (v := .bool (decide (x_ > y))) rfl rfl rfl (V.pure rfl) (fun a hf => ?_)
        refine R.nil ?_
        refine X.then_ ?_
        refine C.cond hf (b := decide (x_ > y)) rfl (fun hc => ?_) (fun hc => ?_)
        · replace h := h.1 hc
          refine wp_seq ?_
          refine R.list ?_
          refine S.val hf hs (v := .int .i64 1) rfl rfl rfl (V.pure rfl) (fun a hf => ?_)
          refine R.nil ?_
          refine X.then_ ?_
          refine wp_ret ?_
          refine X.then_ret ?_
          exact L.ret hf (run_results1 Try.results91 (ResIs.tmp hf rfl)) ⟨1, rfl, h, hs.nil⟩
        · replace h := h.2 hc
          refine wp_skip ?_
          refine X.then_ ?_
          refine wp_seq ?_
          refine R.list ?_
          refine S.val hf hs (v := .int .i64 0) rfl rfl rfl (V.pure rfl) (fun a hf => ?_)
          refine R.nil ?_
          refine X.then_ ?_
          refine wp_ret ?_
          exact L.ret hf (run_results1 Try.results91 (ResIs.tmp hf rfl)) ⟨0, rfl, h, hs.nil⟩

theorem E_cmp_Compare (x y : Int) : M_cmp_Compare x y (· = cmp3 x y) := by
  unfold M_cmp_Compare cmpNaN cmp3
  refine cnd_of (fun e => by cases e) (fun _ => cnd_of (fun e => by cases e) (fun _ => cnd_of (fun e => ?_) (fun e => cnd_of (fun e2 => ?_) (fun e2 => ?_))))
  · rw [if_pos (by simpa using e)]
  · rw [if_neg (by simpa using e), if_pos (by simpa using e2)]
  · rw [if_neg (by simpa using e), if_neg (by simpa using e2)]
theorem C_cmp_Compare (x_ : Int) (y : Int) (w0 : World)  : Ret Try.prog 91 #[.int .i64 x_, .int .i64 y] w0 fun v w' => v = .int .i64 (cmp3 x_ y) ∧ Sat w0 none_ [] w' :=
  (R_cmp_Compare x_ y w0  (· = (cmp3 x_ y)) (E_cmp_Compare x_ y)).mono fun v w' ⟨r0, hv, hr, hs⟩ => ⟨by subst hr; exact hv, hs⟩

def orInts (l : List Int) : Int := (l.find? (fun x => x != 0)).getD 0
set_option linter.unusedVariables false
def M_cmp_Or_L1 (Q : Int → Prop) (k1 : Nat) (xk1 : Int)  (next1 : Prop) : Prop :=
  cnd (xk1 != 0) (Q xk1) (next1)
def M_cmp_Or (vals : (List Int)) (Q : Int → Prop) : Prop :=
  forIn' (fun k x (s : Unit) next => M_cmp_Or_L1 Q k x (next ())) (fun (s : Unit) => Q 0) vals 0 ()
set_option maxHeartbeats 1000000 in
theorem R_cmp_Or (vals : (List Int)) (w0 : World) (valsA : Option Addr) (valsC : Nat) (hv_vals : View w0 (old w0 none_) valsA valsC vals) (Q : Int → Prop) (h : M_cmp_Or vals Q) :
    Ret Try.prog 90 #[.slice valsA vals.length valsC] w0 fun v w' => ∃ (r0 : Int), v = .int .i64 r0 ∧ Q r0 ∧ Sat w0 none_ [] w' := by
  refine fn_enter Try.func90 rfl Try.ntmps90 rfl (fs := [(0, .slice valsA vals.length valsC)]) rfl (fun a hf => ?_)
  have hs := Sat.start w0 none_
  unfold M_cmp_Or at h
  refine wp_seq ?_
  refine R.list ?_
  refine S.val hf hs (v := .int .i64 0) rfl rfl rfl (V.pure rfl) (fun a hf => ?_)
  refine R.nil ?_
  refine X.then_ ?_
  refine wp_seq ?_
  refine R.list ?_
  refine S.val hf hs (v := .int .i64 0) rfl rfl rfl (V.pure rfl) (fun a hf => ?_)
  refine R.nil ?_
  refine X.then_ ?_
  refine wp_seq ?_
  refine wp_seq ?_
  refine R.list ?_
  refine S.val hf hs (v := .slice valsA vals.length valsC) rfl rfl rfl (V.pure rfl) (fun a hf => ?_)
  refine S.val hf hs (v := .int .i64 (vals.length : Int)) rfl rfl rfl (V.len rfl rfl Try.runUnderlying28) (fun a hf => ?_)
  refine S.val hf hs (v := .int .i64 0) rfl rfl rfl (V.pure rfl) (fun a hf => ?_)
  refine R.nil ?_
  refine X.then_ ?_
  refine wp_block ?_
  have hlenk1 := hv_vals.len64
  refine C.range (fun (ll : List Int) a w => ∃ (k1 : Nat) , vals.drop k1 = ll ∧ k1 + ll.length = vals.length ∧ forIn' (fun k x (s : Unit) next => M_cmp_Or_L1 Q k x (next ())) (fun (s : Unit) => Q 0) ll k1 () ∧ FrOk 18 [(8, .int .i64 (k1 : Int)), (3, .int .i64 0), (6, .slice valsA vals.length valsC), (7, .int .i64 (vals.length : Int))] a ∧ Sat w0 none_ [] w) vals ⟨0, rfl, Nat.zero_add _, h, ((((hf.nil.cons (hf.get 7 _ rfl)).cons (hf.get 6 _ rfl)).cons (hf.get 3 _ rfl)).cons (hf.get 8 _ rfl)), hs⟩ ?_
  clear h hf hs
  rintro llk1 a w ⟨k1, hlk1, hkk1, h, hf, hs⟩
  cases llk1 with
  | nil =>
    have hc := range_done hkk1
    replace h : Q 0 := h
    refine wp_seq ?_
    refine R.list ?_
    refine S.val hf hs (v := .bool false) rfl rfl rfl (V.cmp false rfl rfl rfl rfl hc) (fun a hf => ?_)
    refine R.nil ?_
    refine X.then_ ?_
    refine wp_seq ?_
    refine C.no hf rfl ?_
    refine wp_exit ?_
    refine X.then_exit ?_
    refine X.then_exit ?_
    refine X.blk_exit ?_
    refine X.then_ ?_
    refine wp_seq ?_
    refine R.list ?_
    refine S.val hf hs (v := .int .i64 0) rfl rfl rfl (V.pure rfl) (fun a hf => ?_)
    refine S.val hf hs (v := .int .i64 0) rfl rfl rfl (V.pure rfl) (fun a hf => ?_)
    refine R.nil ?_
    refine X.then_ ?_
    refine wp_ret ?_
    exact L.ret hf (run_results1 Try.results90 (ResIs.tmp hf rfl)) ⟨0, rfl, h, hs.nil⟩
  | cons xk1 llk1 =>
    have hltk1 := range_lt hkk1; have hc := range_go hkk1; have hxk1 := range_get hlk1
    obtain ⟨next1, hnext1⟩ : ∃ X : Prop, X = (forIn' (fun k x (s : Unit) next => M_cmp_Or_L1 Q k x (next ())) (fun (s : Unit) => Q 0) llk1 (k1 + 1) ()) := ⟨_, rfl⟩
    replace h : M_cmp_Or_L1 Q k1 xk1  next1 := by rw [hnext1]; exact h
    unfold M_cmp_Or_L1 at h
    refine wp_seq ?_
    refine R.list ?_
    refine S.val hf hs (v := .bool true) rfl rfl rfl (V.cmp true rfl rfl rfl rfl hc) (fun a hf => ?_)
    refine R.nil ?_
    refine X.then_ ?_
    refine wp_seq ?_
    refine C.yes hf rfl ?_
    refine wp_skip ?_
    refine X.then_ ?_
    refine wp_seq ?_
    refine wp_block ?_
    refine wp_seq ?_
    refine R.list ?_
    refine S.val hf hs (v := elemPtr valsA (k1 * 1)) rfl rfl rfl (V.index rfl rfl rfl Try.runUnderlying28 Try.sizeOf3 (hv_vals.some_ (lt_of_get hxk1)) (Int.natCast_nonneg _) (lt_of_get hxk1) rfl) (fun a hf => ?_)
    refine S.val hf hs (v := .int .i64 xk1) rfl rfl rfl (V.loadEl (off := 0) (Ag.args _ _ _) (hv_vals.flat hxk1) rfl rfl rfl Try.isAgg3 Try.sizeOf3 rfl rfl) (fun a hf => ?_)
    refine S.val hf hs (v := .int .i64 xk1) rfl rfl rfl (V.pure rfl) (fun a hf => ?_)
    refine R.nil ?_
    refine X.then_ ?_
    refine wp_seq ?_
    refine R.list ?_
    refine S.val hf hs (v := .int .i64 xk1) rfl rfl rfl (V.pure rfl) (fun a hf => ?_)
    refine S.val hf hs (v := .int .i64 0) rfl rfl rfl (V.pure rfl) (fun a hf => ?_)
    refine S.val hf hs (v := .bool (xk1 != 0)) rfl rfl rfl (V.pure rfl) (fun a hf => ?_)
    refine R.nil ?_
    refine X.then_ ?_
    refine C.cond hf (b := xk1 != 0) rfl (fun hc => ?_) (fun hc => ?_)
    · replace h := h.1 hc
      refine wp_seq ?_
      refine R.list ?_
      refine S.val hf hs (v := .int .i64 xk1) rfl rfl rfl (V.pure rfl) (fun a hf => ?_)
      refine S.val hf hs (v := .int .i64 xk1) rfl rfl rfl (V.pure rfl) (fun a hf => ?_)
      refine R.nil ?_
      refine X.then_ ?_
      refine wp_ret ?_
      refine X.blk_ret ?_
      refine X.then_ret ?_
      refine X.then_ret ?_
      refine X.blk_ret ?_
      refine X.then_ret ?_
      exact L.ret hf (run_results1 Try.results90 (ResIs.tmp hf rfl)) ⟨xk1, rfl, h, hs.nil⟩
    · replace h := h.2 hc
      refine wp_skip ?_
      refine X.blk ?_
      refine X.then_ ?_
      refine R.list ?_
      refine S.val hf hs (v := .int .i64 ((k1 + 1 : Nat) : Int)) rfl rfl rfl (V.incr rfl rfl rfl hltk1 hlenk1) (fun a hf => ?_)
      refine S.val hf hs (v := .int .i64 ((k1 + 1 : Nat) : Int)) rfl rfl rfl (V.pure rfl) (fun a hf => ?_)
      refine R.nil ?_
      refine X.then_ ?_
      exact ⟨xk1, llk1, rfl, k1 + 1, range_drop hlk1, range_len hkk1, (by rw [hnext1] at h; exact h), ((((hf.nil.cons (hf.get 7 _ rfl)).cons (hf.get 6 _ rfl)).cons (hf.get 3 _ rfl)).cons (hf.get 8 _ rfl)), hs⟩

theorem E_cmp_Or (vals : List Int) : M_cmp_Or vals (· = orInts vals) := by
  unfold M_cmp_Or orInts
  have key : ∀ (l : List Int) (k : Nat) (r : Int), r = (l.find? (fun x => x != 0)).getD 0 → forIn' (fun k x (s : Unit) next => M_cmp_Or_L1 (· = r) k x (next ())) (fun (s : Unit) => 0 = r) l k () := by
    intro l
    induction l with
    | nil => intro k r h; exact h.symm
    | cons x l ih =>
      intro k r h
      show cnd (x != 0) (x = r) _
      refine cnd_of (fun e => ?_) (fun e => ?_)
      · rw [h, List.find?_cons, e]; rfl
      · refine ih (k + 1) r ?_
        rw [h, List.find?_cons, e]
  exact key vals 0 _ rfl
theorem C_cmp_Or (vals : (List Int)) (w0 : World) (valsA : Option Addr) (valsC : Nat) (hv_vals : View w0 (old w0 none_) valsA valsC vals) : Ret Try.prog 90 #[.slice valsA vals.length valsC] w0 fun v w' => v = .int .i64 (orInts vals) ∧ Sat w0 none_ [] w' :=
  (R_cmp_Or vals w0 valsA valsC hv_vals (· = (orInts vals)) (E_cmp_Or vals)).mono fun v w' ⟨r0, hv, hr, hs⟩ => ⟨by subst hr; exact hv, hs⟩

def offOf (b : Bit) (size : Int) : Int := max (w64 (b.Size - size)) (w64 (size - b.Size))
set_option linter.unusedVariables false
def M_toolFor1 (b : Bit) (size : Int) (Q : Int → Prop) : Prop :=
  Q (max (w64 (b.Size - size)) (w64 (size - b.Size)))
set_option maxHeartbeats 1000000 in
theorem R_toolFor1 (b : Bit) (size : Int) (w0 : World) (sizeg : Nat) (hb_size : ElemAt w0 (old w0 none_) (some ⟨sizeg, 0, none⟩) 0 [.int .i64 size]) (Q : Int → Prop) (h : M_toolFor1 b size Q) :
    Ret Try.prog 89 #[.agg #[.string (ba b.Name), .int .i64 b.Size, .int .i64 b.Life, .int .i64 b.Stack], .pointer (some ⟨sizeg, 0, none⟩)] w0 fun v w' => ∃ (r0 : Int), v = .int .i64 r0 ∧ Q r0 ∧ Sat w0 none_ [] w' := by
  refine fn_enter Try.func89 rfl Try.ntmps89 rfl (fs := [(0, .agg #[.string (ba b.Name), .int .i64 b.Size, .int .i64 b.Life, .int .i64 b.Stack]), (1, .pointer (some ⟨sizeg, 0, none⟩))]) rfl (fun a hf => ?_)
  have hs := Sat.start w0 none_
  unfold M_toolFor1 at h
  refine wp_seq ?_
  refine R.list ?_
  refine S.box hf hs rfl rfl rfl [.string (ba b.Name), .int .i64 b.Size, .int .i64 b.Life, .int .i64 b.Stack] rfl rfl rfl (fun g1 a w hf hs => ?_)
  refine S.val hf hs (v := .int .i64 0) rfl rfl rfl (V.pure rfl) (fun a hf => ?_)
  refine R.nil ?_
  refine X.then_ ?_
  refine wp_seq ?_
  refine R.list ?_
  refine S.val hf hs (v := .pointer (some ⟨g1, 1, none⟩)) rfl rfl rfl (V.fieldBox rfl rfl Try.runUnderlying56 rfl Try.sizeOf3 rfl rfl) (fun a hf => ?_)
  refine S.val hf hs (v := .int .i64 b.Size) rfl rfl rfl (V.loadBox 0 rfl rfl rfl Try.isAgg3 Try.sizeOf3 rfl rfl) (fun a hf => ?_)
  refine S.val hf hs (v := .int .i64 size) rfl rfl rfl (V.loadAt0 (off := 0) (Ag.args _ _ _) hb_size rfl rfl Try.isAgg3 Try.sizeOf3 rfl rfl) (fun a hf => ?_)
  refine S.val hf hs (v := .int .i64 (w64 (b.Size - size))) rfl rfl rfl (V.pure rfl) (fun a hf => ?_)
  refine S.val hf hs (v := .int .i64 size) rfl rfl rfl (V.loadAt0 (off := 0) (Ag.args _ _ _) hb_size rfl rfl Try.isAgg3 Try.sizeOf3 rfl rfl) (fun a hf => ?_)
  refine S.val hf hs (v := .pointer (some ⟨g1, 1, none⟩)) rfl rfl rfl (V.fieldBox rfl rfl Try.runUnderlying56 rfl Try.sizeOf3 rfl rfl) (fun a hf => ?_)
  refine S.val hf hs (v := .int .i64 b.Size) rfl rfl rfl (V.loadBox 0 rfl rfl rfl Try.isAgg3 Try.sizeOf3 rfl rfl) (fun a hf => ?_)
  refine S.val hf hs (v := .int .i64 (w64 (size - b.Size))) rfl rfl rfl (V.pure rfl) (fun a hf => ?_)
  refine S.val hf hs (v := .int .i64 (max (w64 (b.Size - size)) (w64 (size - b.Size)))) rfl rfl rfl (V.max2 rfl rfl rfl) (fun a hf => ?_)
  refine S.val hf hs (v := .int .i64 (max (w64 (b.Size - size)) (w64 (size - b.Size)))) rfl rfl rfl (V.pure rfl) (fun a hf => ?_)
  refine R.nil ?_
  refine X.then_ ?_
  refine wp_ret ?_
  exact L.ret hf (run_results1 Try.results89 (ResIs.tmp hf rfl)) ⟨(max (w64 (b.Size - size)) (w64 (size - b.Size))), rfl, h, hs.nil⟩

theorem E_toolFor1 (b : Bit) (size : Int) : M_toolFor1 b size (· = offOf b size) := rfl
theorem C_toolFor1 (b : Bit) (size : Int) (w0 : World) (sizeg : Nat) (hb_size : ElemAt w0 (old w0 none_) (some ⟨sizeg, 0, none⟩) 0 [.int .i64 size]) : Ret Try.prog 89 #[.agg #[.string (ba b.Name), .int .i64 b.Size, .int .i64 b.Life, .int .i64 b.Stack], .pointer (some ⟨sizeg, 0, none⟩)] w0 fun v w' => v = .int .i64 (offOf b size) ∧ Sat w0 none_ [] w' :=
  (R_toolFor1 b size w0 sizeg hb_size (· = (offOf b size)) (E_toolFor1 b size)).mono fun v w' ⟨r0, hv, hr, hs⟩ => ⟨by subst hr; exact hv, hs⟩

set_option linter.unusedVariables false
def M_drill_toolFor_k2 (k1 : Nat) (n2 : Int) (next1 : Int → Prop) (c1 : Bool) : Prop :=
  cnd c1 (next1 (k1 : Int)) (next1 n2)
def M_drill_toolFor_L1 (t : (List Bit)) (size : Int) (near : Int) (k1 : Nat) (xk1 : Bit) (n2 : Int) (next1 : Int → Prop) : Prop :=
  cnd (decide ((offOf xk1 size) ≤ near)) (cnd (decide (n2 < 0)) (M_drill_toolFor_k2 k1 n2 next1 true) (idx t n2 fun x1 => M_drill_toolFor_k2 k1 n2 next1 (decide ((orInts ([(cmp3 (offOf xk1 size) (offOf x1 size)), (cmp3 x1.Size xk1.Size)] : List Int)) < 0)))) (M_drill_toolFor_k2 k1 n2 next1 false)
def M_drill_toolFor (t : (List Bit)) (size : Int) (near : Int) (Q : Int → Prop) : Prop :=
  forIn' (fun k x (s : Int) next => M_drill_toolFor_L1 t size near k x s (fun n2 => next n2)) (fun (s : Int) => (fun (n2 : Int) => Q n2) s) t 0 (-1)
set_option maxHeartbeats 1000000 in
theorem R_drill_toolFor (t : (List Bit)) (size : Int) (near : Int) (w0 : World) (tA : Option Addr) (tC : Nat) (hv_t : View w0 (old w0 none_) tA tC t) (Q : Int → Prop) (h : M_drill_toolFor t size near Q) :
    Ret Try.prog 69 #[.slice tA t.length tC, .int .i64 size, .int .i64 near] w0 fun v w' => ∃ (r0 : Int), v = .int .i64 r0 ∧ Q r0 ∧ Sat w0 none_ [] w' := by
  refine fn_enter Try.func69 rfl Try.ntmps69 rfl (fs := [(0, .slice tA t.length tC), (1, .int .i64 size), (2, .int .i64 near)]) rfl (fun a hf => ?_)
  have hs := Sat.start w0 none_
  unfold M_drill_toolFor at h
  refine wp_seq ?_
  refine R.list ?_
  refine S.box hf hs rfl rfl rfl [.int .i64 size] rfl rfl rfl (fun g1 a w hf hs => ?_)
  refine S.val hf hs (v := .int .i64 0) rfl rfl rfl (V.pure rfl) (fun a hf => ?_)
  refine R.nil ?_
  refine X.then_ ?_
  refine wp_seq ?_
  refine R.list ?_
  refine S.val hf hs (v := .func (.func 89) #[] #[.pointer (some ⟨g1, 0, none⟩)]) rfl rfl rfl (V.pure rfl) (fun a hf => ?_)
  refine S.val hf hs (v := .func (.func 89) #[] #[.pointer (some ⟨g1, 0, none⟩)]) rfl rfl rfl (V.pure rfl) (fun a hf => ?_)
  refine R.nil ?_
  refine X.then_ ?_
  refine wp_seq ?_
  refine R.list ?_
  refine S.val hf hs (v := .int .i64 (-1)) rfl rfl rfl (V.pure rfl) (fun a hf => ?_)
  refine R.nil ?_
  refine X.then_ ?_
  refine wp_seq ?_
  refine wp_seq ?_
  refine R.list ?_
  refine S.val hf hs (v := .slice tA t.length tC) rfl rfl rfl (V.pure rfl) (fun a hf => ?_)
  refine S.val hf hs (v := .int .i64 (t.length : Int)) rfl rfl rfl (V.len rfl rfl Try.runUnderlying48) (fun a hf => ?_)
  refine S.val hf hs (v := .int .i64 0) rfl rfl rfl (V.pure rfl) (fun a hf => ?_)
  refine R.nil ?_
  refine X.then_ ?_
  refine wp_block ?_
  have hlenk1 := hv_t.len64
  refine C.range (fun (ll : List Bit) a w => ∃ (k1 : Nat) (n2 : Int), t.drop k1 = ll ∧ k1 + ll.length = t.length ∧ forIn' (fun k x (s : Int) next => M_drill_toolFor_L1 t size near k x s (fun n2 => next n2)) (fun (s : Int) => (fun (n2 : Int) => Q n2) s) ll k1 n2 ∧ FrOk 54 [(14, .int .i64 (k1 : Int)), (0, .slice tA t.length tC), (2, .int .i64 near), (7, .func (.func 89) #[] #[.pointer (some ⟨g1, 0, none⟩)]), (8, .int .i64 n2), (12, .slice tA t.length tC), (13, .int .i64 (t.length : Int))] a ∧ Sat w0 none_ [hbox g1 3 [.int .i64 size]] w) t ⟨0, (-1), rfl, Nat.zero_add _, h, (((((((hf.nil.cons (hf.get 13 _ rfl)).cons (hf.get 12 _ rfl)).cons (hf.get 8 _ rfl)).cons (hf.get 7 _ rfl)).cons (hf.get 2 _ rfl)).cons (hf.get 0 _ rfl)).cons (hf.get 14 _ rfl)), hs⟩ ?_
  clear h hf hs
  rintro llk1 a w ⟨k1, n2, hlk1, hkk1, h, hf, hs⟩
  cases llk1 with
  | nil =>
    have hc := range_done hkk1
    replace h : (fun (n2 : Int) => Q n2) n2 := h
    refine wp_seq ?_
    refine R.list ?_
    refine S.val hf hs (v := .bool false) rfl rfl rfl (V.cmp false rfl rfl rfl rfl hc) (fun a hf => ?_)
    refine R.nil ?_
    refine X.then_ ?_
    refine wp_seq ?_
    refine C.no hf rfl ?_
    refine wp_exit ?_
    refine X.then_exit ?_
    refine X.then_exit ?_
    refine X.blk_exit ?_
    refine X.then_ ?_
    refine wp_seq ?_
    refine R.list ?_
    refine S.val hf hs (v := .int .i64 n2) rfl rfl rfl (V.pure rfl) (fun a hf => ?_)
    refine S.val hf hs (v := .int .i64 n2) rfl rfl rfl (V.pure rfl) (fun a hf => ?_)
    refine R.nil ?_
    refine X.then_ ?_
    refine wp_ret ?_
    exact L.ret hf (run_results1 Try.results69 (ResIs.tmp hf rfl)) ⟨n2, rfl, h, hs.nil⟩
  | cons xk1 llk1 =>
    have hltk1 := range_lt hkk1; have hc := range_go hkk1; have hxk1 := range_get hlk1
    obtain ⟨next1, hnext1⟩ : ∃ X : Int → Prop, X = (fun n2 => forIn' (fun k x (s : Int) next => M_drill_toolFor_L1 t size near k x s (fun n2 => next n2)) (fun (s : Int) => (fun (n2 : Int) => Q n2) s) llk1 (k1 + 1) n2) := ⟨_, rfl⟩
    replace h : M_drill_toolFor_L1 t size near k1 xk1 n2 next1 := by rw [hnext1]; exact h
    unfold M_drill_toolFor_L1 at h
    refine wp_seq ?_
    refine R.list ?_
    refine S.val hf hs (v := .bool true) rfl rfl rfl (V.cmp true rfl rfl rfl rfl hc) (fun a hf => ?_)
    refine R.nil ?_
    refine X.then_ ?_
    refine wp_seq ?_
    refine C.yes hf rfl ?_
    refine wp_skip ?_
    refine X.then_ ?_
    refine wp_seq ?_
    refine wp_block ?_
    refine wp_seq ?_
    refine R.list ?_
    refine S.val hf hs (v := .int .i64 (k1 : Int)) rfl rfl rfl (V.pure rfl) (fun a hf => ?_)
    refine S.val hf hs (v := elemPtr tA (k1 * 4)) rfl rfl rfl (V.index rfl rfl rfl Try.runUnderlying48 Try.sizeOf56 (hv_t.some_ (lt_of_get hxk1)) (Int.natCast_nonneg _) (lt_of_get hxk1) rfl) (fun a hf => ?_)
    refine S.val hf hs (v := .agg #[.string (ba xk1.Name), .int .i64 xk1.Size, .int .i64 xk1.Life, .int .i64 xk1.Stack]) rfl rfl rfl (V.loadEl (off := 0) (Ag.args _ _ _) (hv_t.flat hxk1) rfl rfl rfl Try.isAgg56 Try.sizeOf56 rfl rfl) (fun a hf => ?_)
    refine S.alloc hf hs rfl rfl rfl [.string (ba []), .int .i64 0, .int .i64 0, .int .i64 0] rfl Try.zeroValue56 rfl (fun g2 a w hf hs => ?_)
    refine S.val hf hs (v := .int .i64 (k1 : Int)) rfl rfl rfl (V.pure rfl) (fun a hf => ?_)
    refine S.storeBox 0 hf hs rfl rfl [.string (ba xk1.Name), .int .i64 xk1.Size, .int .i64 xk1.Life, .int .i64 xk1.Stack] [.string (ba xk1.Name), .int .i64 xk1.Size, .int .i64 xk1.Life, .int .i64 xk1.Stack] rfl rfl rfl rfl rfl Try.sizeOf56 rfl rfl rfl rfl (fun a w hf hs => ?_)
    refine R.nil ?_
    refine X.then_ ?_
    refine wp_seq ?_
    refine C.cut (J := fun a w => ∃ (c1 : Bool), M_drill_toolFor_k2 k1 n2 next1 c1 ∧ FrOk 54 [(0, .slice tA t.length tC), (2, .int .i64 near), (7, .func (.func 89) #[] #[.pointer (some ⟨g1, 0, none⟩)]), (8, .int .i64 n2), (9, .int .i64 (k1 : Int)), (12, .slice tA t.length tC), (13, .int .i64 (t.length : Int)), (14, .int .i64 (k1 : Int)), (50, .bool c1)] a ∧ Sat w0 none_ [hbox g2 56 [.string (ba xk1.Name), .int .i64 xk1.Size, .int .i64 xk1.Life, .int .i64 xk1.Stack], hbox g1 3 [.int .i64 size]] w) ?_ ?_
    · rintro a w ⟨c1, h, hf, hs⟩
      unfold M_drill_toolFor_k2 at h
      refine C.cond hf (b := c1) rfl (fun hc => ?_) (fun hc => ?_)
      · replace h := h.1 hc
        refine R.list ?_
        refine S.val hf hs (v := .int .i64 (k1 : Int)) rfl rfl rfl (V.pure rfl) (fun a hf => ?_)
        refine S.val hf hs (v := .int .i64 (k1 : Int)) rfl rfl rfl (V.pure rfl) (fun a hf => ?_)
        refine R.nil ?_
        refine X.blk ?_
        refine X.then_ ?_
        refine R.list ?_
        refine S.val hf hs (v := .int .i64 ((k1 + 1 : Nat) : Int)) rfl rfl rfl (V.incr rfl rfl rfl hltk1 hlenk1) (fun a hf => ?_)
        refine S.val hf hs (v := .int .i64 ((k1 + 1 : Nat) : Int)) rfl rfl rfl (V.pure rfl) (fun a hf => ?_)
        refine R.nil ?_
        refine X.then_ ?_
        exact ⟨xk1, llk1, rfl, k1 + 1, (k1 : Int), range_drop hlk1, range_len hkk1, (by rw [hnext1] at h; exact h), (((((((hf.nil.cons (hf.get 13 _ rfl)).cons (hf.get 12 _ rfl)).cons (hf.get 8 _ rfl)).cons (hf.get 7 _ rfl)).cons (hf.get 2 _ rfl)).cons (hf.get 0 _ rfl)).cons (hf.get 14 _ rfl)), hs.drop⟩
      · replace h := h.2 hc
        refine wp_skip ?_
        refine X.blk ?_
        refine X.then_ ?_
        refine R.list ?_
        refine S.val hf hs (v := .int .i64 ((k1 + 1 : Nat) : Int)) rfl rfl rfl (V.incr rfl rfl rfl hltk1 hlenk1) (fun a hf => ?_)
        refine S.val hf hs (v := .int .i64 ((k1 + 1 : Nat) : Int)) rfl rfl rfl (V.pure rfl) (fun a hf => ?_)
        refine R.nil ?_
        refine X.then_ ?_
        exact ⟨xk1, llk1, rfl, k1 + 1, n2, range_drop hlk1, range_len hkk1, (by rw [hnext1] at h; exact h), (((((((hf.nil.cons (hf.get 13 _ rfl)).cons (hf.get 12 _ rfl)).cons (hf.get 8 _ rfl)).cons (hf.get 7 _ rfl)).cons (hf.get 2 _ rfl)).cons (hf.get 0 _ rfl)).cons (hf.get 14 _ rfl)), hs.drop⟩
    · skip
      refine H.start (S := Sat w0 none_ [hbox g2 56 [.string (ba xk1.Name), .int .i64 xk1.Size, .int .i64 xk1.Life, .int .i64 xk1.Stack], hbox g1 3 [.int .i64 size]]) mo ?_
      replace hs := hs.drew
      refine H.val hf hs (v := .func (.func 89) #[] #[.pointer (some ⟨g1, 0, none⟩)]) (i := 0) rfl rfl rfl rfl (by kernel_rfl) (by kernel_rfl) (by kernel_rfl) (V.pure rfl) (fun a hf => ?_)
      refine H.val hf hs (v := .agg #[.string (ba xk1.Name), .int .i64 xk1.Size, .int .i64 xk1.Life, .int .i64 xk1.Stack]) (i := 1) rfl rfl rfl rfl (by kernel_rfl) (by kernel_rfl) (by kernel_rfl) (V.loadBox 0 rfl rfl rfl Try.isAgg56 Try.sizeOf56 rfl rfl) (fun a hf => ?_)
      refine H.val hf hs (v := .int .i64 near) (i := 3) rfl rfl rfl rfl (by kernel_rfl) (by kernel_rfl) (by kernel_rfl) (V.pure rfl) (fun a hf => ?_)
      refine H.one (i := 2) rfl (by kernel_rfl) ?_
      refine S.callv hf rfl rfl rfl (call_run (args := #[.agg #[.string (ba xk1.Name), .int .i64 xk1.Size, .int .i64 xk1.Life, .int .i64 xk1.Stack], .pointer (some ⟨g1, 0, none⟩)]) rfl rfl rfl Try.call89 (by simp)) (C_toolFor1 xk1 size _ g1 (hs.boxAt 1 rfl)) (fun a w hf hs' => ?_)
      replace hs := hs.call hs'; clear hs'
      refine R.nil ?_
      refine X.then_ ?_
      refine ⟨hs, ?_⟩
      refine H.val hf hs (v := .bool (decide ((offOf xk1 size) ≤ near))) (i := 4) rfl rfl rfl rfl (by kernel_rfl) (by kernel_rfl) (by kernel_rfl) (V.pure rfl) (fun a hf => ?_)
      refine H.split hf hs (b := decide ((offOf xk1 size) ≤ near)) (i := 5) rfl rfl rfl rfl (by kernel_rfl) (by kernel_rfl) (by kernel_rfl) (V.pure rfl) (fun hc a hf => ?_) (fun hc a hf => ?_)
      · replace h := h.1 hc
        refine H.val hf hs (v := .int .i64 n2) (i := 6) rfl rfl rfl rfl (by kernel_rfl) (by kernel_rfl) (by kernel_rfl) (V.pure rfl) (fun a hf => ?_)
        refine H.val hf hs (v := .bool (decide (n2 < 0))) (i := 7) rfl rfl rfl rfl (by kernel_rfl) (by kernel_rfl) (by kernel_rfl) (V.pure rfl) (fun a hf => ?_)
        refine H.split hf hs (b := decide (n2 < 0)) (i := 8) rfl rfl rfl rfl (by kernel_rfl) (by kernel_rfl) (by kernel_rfl) (V.pure rfl) (fun hc a hf => ?_) (fun hc a hf => ?_)
        · replace h := h.1 hc
          refine H.skip hf hs (i := 9) rfl rfl rfl rfl (by kernel_rfl) (by kernel_rfl) (by kernel_rfl) (fun a hf => ?_)
          refine H.skip hf hs (i := 10) rfl rfl rfl rfl (by kernel_rfl) (by kernel_rfl) (by kernel_rfl) (fun a hf => ?_)
          refine H.skip hf hs (i := 12) rfl rfl rfl rfl (by kernel_rfl) (by kernel_rfl) (by kernel_rfl) (fun a hf => ?_)
          refine H.skip hf hs (i := 13) rfl rfl rfl rfl (by kernel_rfl) (by kernel_rfl) (by kernel_rfl) (fun a hf => ?_)
          refine H.skip hf hs (i := 14) rfl rfl rfl rfl (by kernel_rfl) (by kernel_rfl) (by kernel_rfl) (fun a hf => ?_)
          refine H.skip hf hs (i := 15) rfl rfl rfl rfl (by kernel_rfl) (by kernel_rfl) (by kernel_rfl) (fun a hf => ?_)
          refine H.skip hf hs (i := 16) rfl rfl rfl rfl (by kernel_rfl) (by kernel_rfl) (by kernel_rfl) (fun a hf => ?_)
          refine H.skip hf hs (i := 19) rfl rfl rfl rfl (by kernel_rfl) (by kernel_rfl) (by kernel_rfl) (fun a hf => ?_)
          refine H.skip hf hs (i := 20) rfl rfl rfl rfl (by kernel_rfl) (by kernel_rfl) (by kernel_rfl) (fun a hf => ?_)
          refine H.skip hf hs (i := 21) rfl rfl rfl rfl (by kernel_rfl) (by kernel_rfl) (by kernel_rfl) (fun a hf => ?_)
          refine H.skip hf hs (i := 22) rfl rfl rfl rfl (by kernel_rfl) (by kernel_rfl) (by kernel_rfl) (fun a hf => ?_)
          refine H.skip hf hs (i := 23) rfl rfl rfl rfl (by kernel_rfl) (by kernel_rfl) (by kernel_rfl) (fun a hf => ?_)
          refine H.skip hf hs (i := 24) rfl rfl rfl rfl (by kernel_rfl) (by kernel_rfl) (by kernel_rfl) (fun a hf => ?_)
          refine H.skip hf hs (i := 25) rfl rfl rfl rfl (by kernel_rfl) (by kernel_rfl) (by kernel_rfl) (fun a hf => ?_)
          refine H.one (i := 11) rfl (by kernel_rfl) ?_
          refine S.skip hf rfl rfl rfl (fun a hf => ?_)
          refine R.nil ?_
          refine X.then_ ?_
          refine ⟨hs, ?_⟩
          refine H.one (i := 17) rfl (by kernel_rfl) ?_
          refine S.skip hf rfl rfl rfl (fun a hf => ?_)
          refine R.nil ?_
          refine X.then_ ?_
          refine ⟨hs, ?_⟩
          refine H.one (i := 18) rfl (by kernel_rfl) ?_
          refine S.skip hf rfl rfl rfl (fun a hf => ?_)
          refine R.nil ?_
          refine X.then_ ?_
          refine ⟨hs, ?_⟩
          refine H.one (i := 26) rfl (by kernel_rfl) ?_
          refine S.skip hf rfl rfl rfl (fun a hf => ?_)
          refine R.nil ?_
          refine X.then_ ?_
          refine ⟨hs, ?_⟩
          refine H.one (i := 27) rfl (by kernel_rfl) ?_
          refine S.skip hf rfl rfl rfl (fun a hf => ?_)
          refine R.nil ?_
          refine X.then_ ?_
          refine ⟨hs, ?_⟩
          refine H.one (i := 28) rfl (by kernel_rfl) ?_
          refine S.skip hf rfl rfl rfl (fun a hf => ?_)
          refine R.nil ?_
          refine X.then_ ?_
          refine ⟨hs, ?_⟩
          refine H.skip hf hs (i := 29) rfl rfl rfl rfl (by kernel_rfl) (by kernel_rfl) (by kernel_rfl) (fun a hf => ?_)
          refine H.val hf hs (v := .bool true) (i := 30) rfl rfl rfl rfl (by kernel_rfl) (by kernel_rfl) (by kernel_rfl) (V.pure rfl) (fun a hf => ?_)
          refine H.val hf hs (v := .bool true) (i := 31) rfl rfl rfl rfl (by kernel_rfl) (by kernel_rfl) (by kernel_rfl) (V.pure rfl) (fun a hf => ?_)
          refine H.done (by kernel_rfl) ?_
          refine X.then_ ?_
          exact ⟨true, h, (((((((((hf.nil.cons (hf.get 50 _ rfl)).cons (hf.get 14 _ rfl)).cons (hf.get 13 _ rfl)).cons (hf.get 12 _ rfl)).cons (hf.get 9 _ rfl)).cons (hf.get 8 _ rfl)).cons (hf.get 7 _ rfl)).cons (hf.get 2 _ rfl)).cons (hf.get 0 _ rfl)), hs⟩
        · replace h := h.2 hc
          refine H.val hf hs (v := .func (.func 89) #[] #[.pointer (some ⟨g1, 0, none⟩)]) (i := 9) rfl rfl rfl rfl (by kernel_rfl) (by kernel_rfl) (by kernel_rfl) (V.pure rfl) (fun a hf => ?_)
          refine H.val hf hs (v := .agg #[.string (ba xk1.Name), .int .i64 xk1.Size, .int .i64 xk1.Life, .int .i64 xk1.Stack]) (i := 10) rfl rfl rfl rfl (by kernel_rfl) (by kernel_rfl) (by kernel_rfl) (V.loadBox 0 rfl rfl rfl Try.isAgg56 Try.sizeOf56 rfl rfl) (fun a hf => ?_)
          refine H.val hf hs (v := .func (.func 89) #[] #[.pointer (some ⟨g1, 0, none⟩)]) (i := 12) rfl rfl rfl rfl (by kernel_rfl) (by kernel_rfl) (by kernel_rfl) (V.pure rfl) (fun a hf => ?_)
          refine H.val hf hs (v := .slice tA t.length tC) (i := 13) rfl rfl rfl rfl (by kernel_rfl) (by kernel_rfl) (by kernel_rfl) (V.pure rfl) (fun a hf => ?_)
          refine H.val hf hs (v := .int .i64 n2) (i := 14) rfl rfl rfl rfl (by kernel_rfl) (by kernel_rfl) (by kernel_rfl) (V.pure rfl) (fun a hf => ?_)
          obtain ⟨h0x1, x1, hx1, h⟩ := h
          refine H.val hf hs (v := elemPtr tA (n2.toNat * 4)) (i := 15) rfl rfl rfl rfl (by kernel_rfl) (by kernel_rfl) (by kernel_rfl) (V.index rfl rfl rfl Try.runUnderlying48 Try.sizeOf56 (hv_t.some_ (lt_of_get hx1)) h0x1 (lt_of_get hx1) rfl) (fun a hf => ?_)
          refine H.val hf hs (v := .agg #[.string (ba x1.Name), .int .i64 x1.Size, .int .i64 x1.Life, .int .i64 x1.Stack]) (i := 16) rfl rfl rfl rfl (by kernel_rfl) (by kernel_rfl) (by kernel_rfl) (V.loadEl (off := 0) (Ag.args _ _ _) (hv_t.flat hx1) rfl rfl rfl Try.isAgg56 Try.sizeOf56 rfl rfl) (fun a hf => ?_)
          refine H.val hf hs (v := .slice tA t.length tC) (i := 19) rfl rfl rfl rfl (by kernel_rfl) (by kernel_rfl) (by kernel_rfl) (V.pure rfl) (fun a hf => ?_)
          refine H.val hf hs (v := .int .i64 n2) (i := 20) rfl rfl rfl rfl (by kernel_rfl) (by kernel_rfl) (by kernel_rfl) (V.pure rfl) (fun a hf => ?_)
          refine H.val hf hs (v := elemPtr tA (n2.toNat * 4)) (i := 21) rfl rfl rfl rfl (by kernel_rfl) (by kernel_rfl) (by kernel_rfl) (V.index rfl rfl rfl Try.runUnderlying48 Try.sizeOf56 (hv_t.some_ (lt_of_get hx1)) h0x1 (lt_of_get hx1) rfl) (fun a hf => ?_)
          refine H.val hf hs (v := elemPtr tA (n2.toNat * 4 + 1)) (i := 22) rfl rfl rfl rfl (by kernel_rfl) (by kernel_rfl) (by kernel_rfl) (V.fieldEl rfl rfl (hv_t.some_ (lt_of_get hx1)) Try.runUnderlying56 rfl Try.sizeOf3 rfl rfl) (fun a hf => ?_)
          refine H.val hf hs (v := .int .i64 x1.Size) (i := 23) rfl rfl rfl rfl (by kernel_rfl) (by kernel_rfl) (by kernel_rfl) (V.loadEl (off := 1) (Ag.args _ _ _) (hv_t.flat hx1) rfl rfl rfl Try.isAgg3 Try.sizeOf3 rfl rfl) (fun a hf => ?_)
          refine H.val hf hs (v := .pointer (some ⟨g2, 1, none⟩)) (i := 24) rfl rfl rfl rfl (by kernel_rfl) (by kernel_rfl) (by kernel_rfl) (V.fieldBox rfl rfl Try.runUnderlying56 rfl Try.sizeOf3 rfl rfl) (fun a hf => ?_)
          refine H.val hf hs (v := .int .i64 xk1.Size) (i := 25) rfl rfl rfl rfl (by kernel_rfl) (by kernel_rfl) (by kernel_rfl) (V.loadBox 0 rfl rfl rfl Try.isAgg3 Try.sizeOf3 rfl rfl) (fun a hf => ?_)
          refine H.one (i := 11) rfl (by kernel_rfl) ?_
          refine S.callv hf rfl rfl rfl (call_run (args := #[.agg #[.string (ba xk1.Name), .int .i64 xk1.Size, .int .i64 xk1.Life, .int .i64 xk1.Stack], .pointer (some ⟨g1, 0, none⟩)]) rfl rfl rfl Try.call89 (by simp)) (C_toolFor1 xk1 size _ g1 (hs.boxAt 1 rfl)) (fun a w hf hs' => ?_)
          replace hs := hs.call hs'; clear hs'
          refine R.nil ?_
          refine X.then_ ?_
          refine ⟨hs, ?_⟩
          refine H.one (i := 17) rfl (by kernel_rfl) ?_
          refine S.callv hf rfl rfl rfl (call_run (args := #[.agg #[.string (ba x1.Name), .int .i64 x1.Size, .int .i64 x1.Life, .int .i64 x1.Stack], .pointer (some ⟨g1, 0, none⟩)]) rfl rfl rfl Try.call89 (by simp)) (C_toolFor1 x1 size _ g1 (hs.boxAt 1 rfl)) (fun a w hf hs' => ?_)
          replace hs := hs.call hs'; clear hs'
          refine R.nil ?_
          refine X.then_ ?_
          refine ⟨hs, ?_⟩
          refine H.one (i := 18) rfl (by kernel_rfl) ?_
          refine S.callv hf rfl rfl rfl (call_fn (vs := [.int .i64 (offOf xk1 size), .int .i64 (offOf x1 size)]) rfl rfl rfl Try.call91) (C_cmp_Compare (offOf xk1 size) (offOf x1 size) _ ) (fun a w hf hs' => ?_)
          replace hs := hs.call hs'; clear hs'
          refine R.nil ?_
          refine X.then_ ?_
          refine ⟨hs, ?_⟩
          refine H.one (i := 26) rfl (by kernel_rfl) ?_
          refine S.callv hf rfl rfl rfl (call_fn (vs := [.int .i64 x1.Size, .int .i64 xk1.Size]) rfl rfl rfl Try.call91) (C_cmp_Compare x1.Size xk1.Size _ ) (fun a w hf hs' => ?_)
          replace hs := hs.call hs'; clear hs'
          refine R.nil ?_
          refine X.then_ ?_
          refine ⟨hs, ?_⟩
          refine H.one (i := 27) rfl (by kernel_rfl) ?_
          refine S.buildSlice hf hs rfl rfl rfl (α := Int) [(cmp3 (offOf xk1 size) (offOf x1 size)), (cmp3 x1.Size xk1.Size)] rfl rfl Try.runUnderlying28 Try.sizeOf3 Try.zeroValue3 (by kernel_rfl) rfl (by decide) (by decide) (fun A1 a w hf hs => ?_)
          refine R.nil ?_
          refine X.then_ ?_
          refine ⟨(hs.mask [false, true, true]), ?_⟩
          refine H.one (i := 28) rfl (by kernel_rfl) ?_
          refine S.callv hf rfl rfl rfl (call_fn (vs := [.slice A1 ([(cmp3 (offOf xk1 size) (offOf x1 size)), (cmp3 x1.Size xk1.Size)] : List Int).length 2]) rfl rfl rfl Try.call90) (C_cmp_Or ([(cmp3 (offOf xk1 size) (offOf x1 size)), (cmp3 x1.Size xk1.Size)] : List Int) _ A1 2 (hs.ownView 0 rfl)) (fun a w hf hs' => ?_)
          replace hs := hs.call hs'; clear hs'
          refine R.nil ?_
          refine X.then_ ?_
          refine ⟨(hs.mask [false, true, true]), ?_⟩
          refine H.val hf (hs.mask [false, true, true]) (v := .bool (decide ((orInts ([(cmp3 (offOf xk1 size) (offOf x1 size)), (cmp3 x1.Size xk1.Size)] : List Int)) < 0))) (i := 29) rfl rfl rfl rfl (by kernel_rfl) (by kernel_rfl) (by kernel_rfl) (V.pure rfl) (fun a hf => ?_)
          refine H.val hf (hs.mask [false, true, true]) (v := .bool (decide ((orInts ([(cmp3 (offOf xk1 size) (offOf x1 size)), (cmp3 x1.Size xk1.Size)] : List Int)) < 0))) (i := 30) rfl rfl rfl rfl (by kernel_rfl) (by kernel_rfl) (by kernel_rfl) (V.pure rfl) (fun a hf => ?_)
          refine H.val hf (hs.mask [false, true, true]) (v := .bool (decide ((orInts ([(cmp3 (offOf xk1 size) (offOf x1 size)), (cmp3 x1.Size xk1.Size)] : List Int)) < 0))) (i := 31) rfl rfl rfl rfl (by kernel_rfl) (by kernel_rfl) (by kernel_rfl) (V.pure rfl) (fun a hf => ?_)
          refine H.done (by kernel_rfl) ?_
          refine X.then_ ?_
          exact ⟨(decide ((orInts ([(cmp3 (offOf xk1 size) (offOf x1 size)), (cmp3 x1.Size xk1.Size)] : List Int)) < 0)), h, (((((((((hf.nil.cons (hf.get 50 _ rfl)).cons (hf.get 14 _ rfl)).cons (hf.get 13 _ rfl)).cons (hf.get 12 _ rfl)).cons (hf.get 9 _ rfl)).cons (hf.get 8 _ rfl)).cons (hf.get 7 _ rfl)).cons (hf.get 2 _ rfl)).cons (hf.get 0 _ rfl)), hs.drop⟩
      · replace h := h.2 hc
        refine H.skip hf hs (i := 6) rfl rfl rfl rfl (by kernel_rfl) (by kernel_rfl) (by kernel_rfl) (fun a hf => ?_)
        refine H.skip hf hs (i := 7) rfl rfl rfl rfl (by kernel_rfl) (by kernel_rfl) (by kernel_rfl) (fun a hf => ?_)
        refine H.skip hf hs (i := 8) rfl rfl rfl rfl (by kernel_rfl) (by kernel_rfl) (by kernel_rfl) (fun a hf => ?_)
        refine H.skip hf hs (i := 9) rfl rfl rfl rfl (by kernel_rfl) (by kernel_rfl) (by kernel_rfl) (fun a hf => ?_)
        refine H.skip hf hs (i := 10) rfl rfl rfl rfl (by kernel_rfl) (by kernel_rfl) (by kernel_rfl) (fun a hf => ?_)
        refine H.skip hf hs (i := 12) rfl rfl rfl rfl (by kernel_rfl) (by kernel_rfl) (by kernel_rfl) (fun a hf => ?_)
        refine H.skip hf hs (i := 13) rfl rfl rfl rfl (by kernel_rfl) (by kernel_rfl) (by kernel_rfl) (fun a hf => ?_)
        refine H.skip hf hs (i := 14) rfl rfl rfl rfl (by kernel_rfl) (by kernel_rfl) (by kernel_rfl) (fun a hf => ?_)
        refine H.skip hf hs (i := 15) rfl rfl rfl rfl (by kernel_rfl) (by kernel_rfl) (by kernel_rfl) (fun a hf => ?_)
        refine H.skip hf hs (i := 16) rfl rfl rfl rfl (by kernel_rfl) (by kernel_rfl) (by kernel_rfl) (fun a hf => ?_)
        refine H.skip hf hs (i := 19) rfl rfl rfl rfl (by kernel_rfl) (by kernel_rfl) (by kernel_rfl) (fun a hf => ?_)
        refine H.skip hf hs (i := 20) rfl rfl rfl rfl (by kernel_rfl) (by kernel_rfl) (by kernel_rfl) (fun a hf => ?_)
        refine H.skip hf hs (i := 21) rfl rfl rfl rfl (by kernel_rfl) (by kernel_rfl) (by kernel_rfl) (fun a hf => ?_)
        refine H.skip hf hs (i := 22) rfl rfl rfl rfl (by kernel_rfl) (by kernel_rfl) (by kernel_rfl) (fun a hf => ?_)
        refine H.skip hf hs (i := 23) rfl rfl rfl rfl (by kernel_rfl) (by kernel_rfl) (by kernel_rfl) (fun a hf => ?_)
        refine H.skip hf hs (i := 24) rfl rfl rfl rfl (by kernel_rfl) (by kernel_rfl) (by kernel_rfl) (fun a hf => ?_)
        refine H.skip hf hs (i := 25) rfl rfl rfl rfl (by kernel_rfl) (by kernel_rfl) (by kernel_rfl) (fun a hf => ?_)
        refine H.one (i := 11) rfl (by kernel_rfl) ?_
        refine S.skip hf rfl rfl rfl (fun a hf => ?_)
        refine R.nil ?_
        refine X.then_ ?_
        refine ⟨hs, ?_⟩
        refine H.one (i := 17) rfl (by kernel_rfl) ?_
        refine S.skip hf rfl rfl rfl (fun a hf => ?_)
        refine R.nil ?_
        refine X.then_ ?_
        refine ⟨hs, ?_⟩
        refine H.one (i := 18) rfl (by kernel_rfl) ?_
        refine S.skip hf rfl rfl rfl (fun a hf => ?_)
        refine R.nil ?_
        refine X.then_ ?_
        refine ⟨hs, ?_⟩
        refine H.one (i := 26) rfl (by kernel_rfl) ?_
        refine S.skip hf rfl rfl rfl (fun a hf => ?_)
        refine R.nil ?_
        refine X.then_ ?_
        refine ⟨hs, ?_⟩
        refine H.one (i := 27) rfl (by kernel_rfl) ?_
        refine S.skip hf rfl rfl rfl (fun a hf => ?_)
        refine R.nil ?_
        refine X.then_ ?_
        refine ⟨hs, ?_⟩
        refine H.one (i := 28) rfl (by kernel_rfl) ?_
        refine S.skip hf rfl rfl rfl (fun a hf => ?_)
        refine R.nil ?_
        refine X.then_ ?_
        refine ⟨hs, ?_⟩
        refine H.skip hf hs (i := 29) rfl rfl rfl rfl (by kernel_rfl) (by kernel_rfl) (by kernel_rfl) (fun a hf => ?_)
        refine H.skip hf hs (i := 30) rfl rfl rfl rfl (by kernel_rfl) (by kernel_rfl) (by kernel_rfl) (fun a hf => ?_)
        refine H.val hf hs (v := .bool false) (i := 31) rfl rfl rfl rfl (by kernel_rfl) (by kernel_rfl) (by kernel_rfl) (V.pure rfl) (fun a hf => ?_)
        refine H.done (by kernel_rfl) ?_
        refine X.then_ ?_
        exact ⟨false, h, (((((((((hf.nil.cons (hf.get 50 _ rfl)).cons (hf.get 14 _ rfl)).cons (hf.get 13 _ rfl)).cons (hf.get 12 _ rfl)).cons (hf.get 9 _ rfl)).cons (hf.get 8 _ rfl)).cons (hf.get 7 _ rfl)).cons (hf.get 2 _ rfl)).cons (hf.get 0 _ rfl)), hs⟩

set_option linter.unusedVariables false
def M_ref8_toolFor_k2 (k1 : Nat) (n2 : Int) (next1 : Int → Prop) (c1 : Bool) : Prop :=
  cnd c1 (next1 (k1 : Int)) (next1 n2)
def M_ref8_toolFor_L1 (t : (List Bit)) (size : Int) (near : Int) (k1 : Nat) (xk1 : Bit) (n2 : Int) (next1 : Int → Prop) : Prop :=
  cnd (decide ((rabs (w64 (xk1.Size - size))) > near)) (next1 n2) (cnd (decide (n2 < 0)) (next1 (k1 : Int)) (idx t n2 fun x1 => cnd (decide ((rabs (w64 (xk1.Size - size))) < (rabs (w64 (x1.Size - size))))) (M_ref8_toolFor_k2 k1 n2 next1 true) (cnd ((rabs (w64 (xk1.Size - size))) == (rabs (w64 (x1.Size - size)))) (M_ref8_toolFor_k2 k1 n2 next1 (decide (xk1.Size > x1.Size))) (M_ref8_toolFor_k2 k1 n2 next1 false))))
def M_ref8_toolFor (t : (List Bit)) (size : Int) (near : Int) (Q : Int → Prop) : Prop :=
  forIn' (fun k x (s : Int) next => M_ref8_toolFor_L1 t size near k x s (fun n2 => next n2)) (fun (s : Int) => (fun (n2 : Int) => Q n2) s) t 0 (-1)
set_option maxHeartbeats 1000000 in
theorem R_ref8_toolFor (t : (List Bit)) (size : Int) (near : Int) (w0 : World) (tA : Option Addr) (tC : Nat) (hv_t : View w0 (old w0 none_) tA tC t) (Q : Int → Prop) (h : M_ref8_toolFor t size near Q) :
    Ret Try.prog 71 #[.slice tA t.length tC, .int .i64 size, .int .i64 near] w0 fun v w' => ∃ (r0 : Int), v = .int .i64 r0 ∧ Q r0 ∧ Sat w0 none_ [] w' := by
  refine fn_enter Try.func71 rfl Try.ntmps71 rfl (fs := [(0, .slice tA t.length tC), (1, .int .i64 size), (2, .int .i64 near)]) rfl (fun a hf => ?_)
  have hs := Sat.start w0 none_
  unfold M_ref8_toolFor at h
  refine wp_seq ?_
  refine R.list ?_
  refine S.val hf hs (v := .int .i64 0) rfl rfl rfl (V.pure rfl) (fun a hf => ?_)
  refine R.nil ?_
  refine X.then_ ?_
  refine wp_seq ?_
  refine R.list ?_
  refine S.val hf hs (v := .int .i64 (-1)) rfl rfl rfl (V.pure rfl) (fun a hf => ?_)
  refine R.nil ?_
  refine X.then_ ?_
  refine wp_seq ?_
  refine wp_seq ?_
  refine R.list ?_
  refine S.val hf hs (v := .slice tA t.length tC) rfl rfl rfl (V.pure rfl) (fun a hf => ?_)
  refine S.val hf hs (v := .int .i64 (t.length : Int)) rfl rfl rfl (V.len rfl rfl Try.runUnderlying48) (fun a hf => ?_)
  refine S.val hf hs (v := .int .i64 0) rfl rfl rfl (V.pure rfl) (fun a hf => ?_)
  refine R.nil ?_
  refine X.then_ ?_
  refine wp_block ?_
  have hlenk1 := hv_t.len64
  refine C.range (fun (ll : List Bit) a w => ∃ (k1 : Nat) (n2 : Int), t.drop k1 = ll ∧ k1 + ll.length = t.length ∧ forIn' (fun k x (s : Int) next => M_ref8_toolFor_L1 t size near k x s (fun n2 => next n2)) (fun (s : Int) => (fun (n2 : Int) => Q n2) s) ll k1 n2 ∧ FrOk 59 [(14, .int .i64 (k1 : Int)), (0, .slice tA t.length tC), (1, .int .i64 size), (2, .int .i64 near), (7, .int .i64 n2), (12, .slice tA t.length tC), (13, .int .i64 (t.length : Int))] a ∧ Sat w0 none_ [] w) t ⟨0, (-1), rfl, Nat.zero_add _, h, (((((((hf.nil.cons (hf.get 13 _ rfl)).cons (hf.get 12 _ rfl)).cons (hf.get 7 _ rfl)).cons (hf.get 2 _ rfl)).cons (hf.get 1 _ rfl)).cons (hf.get 0 _ rfl)).cons (hf.get 14 _ rfl)), hs⟩ ?_
  clear h hf hs
  rintro llk1 a w ⟨k1, n2, hlk1, hkk1, h, hf, hs⟩
  cases llk1 with
  | nil =>
    have hc := range_done hkk1
    replace h : (fun (n2 : Int) => Q n2) n2 := h
    refine wp_seq ?_
    refine R.list ?_
    refine S.val hf hs (v := .bool false) rfl rfl rfl (V.cmp false rfl rfl rfl rfl hc) (fun a hf => ?_)
    refine R.nil ?_
    refine X.then_ ?_
    refine wp_seq ?_
    refine C.no hf rfl ?_
    refine wp_exit ?_
    refine X.then_exit ?_
    refine X.then_exit ?_
    refine X.blk_exit ?_
    refine X.then_ ?_
    refine wp_seq ?_
    refine R.list ?_
    refine S.val hf hs (v := .int .i64 n2) rfl rfl rfl (V.pure rfl) (fun a hf => ?_)
    refine S.val hf hs (v := .int .i64 n2) rfl rfl rfl (V.pure rfl) (fun a hf => ?_)
    refine R.nil ?_
    refine X.then_ ?_
    refine wp_ret ?_
    exact L.ret hf (run_results1 Try.results71 (ResIs.tmp hf rfl)) ⟨n2, rfl, h, hs.nil⟩
  | cons xk1 llk1 =>
    have hltk1 := range_lt hkk1; have hc := range_go hkk1; have hxk1 := range_get hlk1
    obtain ⟨next1, hnext1⟩ : ∃ X : Int → Prop, X = (fun n2 => forIn' (fun k x (s : Int) next => M_ref8_toolFor_L1 t size near k x s (fun n2 => next n2)) (fun (s : Int) => (fun (n2 : Int) => Q n2) s) llk1 (k1 + 1) n2) := ⟨_, rfl⟩
    replace h : M_ref8_toolFor_L1 t size near k1 xk1 n2 next1 := by rw [hnext1]; exact h
    unfold M_ref8_toolFor_L1 at h
    refine wp_seq ?_
    refine R.list ?_
    refine S.val hf hs (v := .bool true) rfl rfl rfl (V.cmp true rfl rfl rfl rfl hc) (fun a hf => ?_)
    refine R.nil ?_
    refine X.then_ ?_
    refine wp_seq ?_
    refine C.yes hf rfl ?_
    refine wp_skip ?_
    refine X.then_ ?_
    refine wp_seq ?_
    refine wp_block ?_
    refine wp_seq ?_
    refine R.list ?_
    refine S.val hf hs (v := .int .i64 (k1 : Int)) rfl rfl rfl (V.pure rfl) (fun a hf => ?_)
    refine S.val hf hs (v := elemPtr tA (k1 * 4)) rfl rfl rfl (V.index rfl rfl rfl Try.runUnderlying48 Try.sizeOf56 (hv_t.some_ (lt_of_get hxk1)) (Int.natCast_nonneg _) (lt_of_get hxk1) rfl) (fun a hf => ?_)
    refine S.val hf hs (v := .agg #[.string (ba xk1.Name), .int .i64 xk1.Size, .int .i64 xk1.Life, .int .i64 xk1.Stack]) rfl rfl rfl (V.loadEl (off := 0) (Ag.args _ _ _) (hv_t.flat hxk1) rfl rfl rfl Try.isAgg56 Try.sizeOf56 rfl rfl) (fun a hf => ?_)
    refine S.alloc hf hs rfl rfl rfl [.string (ba []), .int .i64 0, .int .i64 0, .int .i64 0] rfl Try.zeroValue56 rfl (fun g1 a w hf hs => ?_)
    refine S.val hf hs (v := .int .i64 (k1 : Int)) rfl rfl rfl (V.pure rfl) (fun a hf => ?_)
    refine S.storeBox 0 hf hs rfl rfl [.string (ba xk1.Name), .int .i64 xk1.Size, .int .i64 xk1.Life, .int .i64 xk1.Stack] [.string (ba xk1.Name), .int .i64 xk1.Size, .int .i64 xk1.Life, .int .i64 xk1.Stack] rfl rfl rfl rfl rfl Try.sizeOf56 rfl rfl rfl rfl (fun a w hf hs => ?_)
    refine R.nil ?_
    refine X.then_ ?_
    refine wp_seq ?_
    refine R.list ?_
    refine S.val hf hs (v := .pointer (some ⟨g1, 1, none⟩)) rfl rfl rfl (V.fieldBox rfl rfl Try.runUnderlying56 rfl Try.sizeOf3 rfl rfl) (fun a hf => ?_)
    refine S.val hf hs (v := .int .i64 xk1.Size) rfl rfl rfl (V.loadBox 0 rfl rfl rfl Try.isAgg3 Try.sizeOf3 rfl rfl) (fun a hf => ?_)
    refine S.val hf hs (v := .int .i64 size) rfl rfl rfl (V.pure rfl) (fun a hf => ?_)
    refine S.val hf hs (v := .int .i64 (w64 (xk1.Size - size))) rfl rfl rfl (V.pure rfl) (fun a hf => ?_)
    refine S.callv hf rfl rfl rfl (call_fn (vs := [.int .i64 (w64 (xk1.Size - size))]) rfl rfl rfl Try.call84) (C_ref8_abs (w64 (xk1.Size - size)) _ ) (fun a w hf hs' => ?_)
    replace hs := hs.call hs'; clear hs'
    refine S.val hf hs (v := .int .i64 (rabs (w64 (xk1.Size - size)))) rfl rfl rfl (V.pure rfl) (fun a hf => ?_)
    refine R.nil ?_
    refine X.then_ ?_
    refine wp_seq ?_
    refine wp_seq ?_
    refine R.list ?_
    refine S.val hf hs (v := .int .i64 (rabs (w64 (xk1.Size - size)))) rfl rfl rfl (V.pure rfl) (fun a hf => ?_)
    refine S.val hf hs (v := .int .i64 near) rfl rfl rfl (V.pure rfl) (fun a hf => ?_)
    refine S.val hf hs (v := .bool (decide ((rabs (w64 (xk1.Size - size))) > near))) rfl rfl rfl (V.pure rfl) (fun a hf => ?_)
    refine R.nil ?_
    refine X.then_ ?_
    refine C.cond hf (b := decide ((rabs (w64 (xk1.Size - size))) > near)) rfl (fun hc => ?_) (fun hc => ?_)
    · replace h := h.1 hc
      refine wp_exit ?_
      refine X.then_exit ?_
      refine X.blk_exit ?_
      refine X.then_ ?_
      refine R.list ?_
      refine S.val hf hs (v := .int .i64 ((k1 + 1 : Nat) : Int)) rfl rfl rfl (V.incr rfl rfl rfl hltk1 hlenk1) (fun a hf => ?_)
      refine S.val hf hs (v := .int .i64 ((k1 + 1 : Nat) : Int)) rfl rfl rfl (V.pure rfl) (fun a hf => ?_)
      refine R.nil ?_
      refine X.then_ ?_
      exact ⟨xk1, llk1, rfl, k1 + 1, n2, range_drop hlk1, range_len hkk1, (by rw [hnext1] at h; exact h), (((((((hf.nil.cons (hf.get 13 _ rfl)).cons (hf.get 12 _ rfl)).cons (hf.get 7 _ rfl)).cons (hf.get 2 _ rfl)).cons (hf.get 1 _ rfl)).cons (hf.get 0 _ rfl)).cons (hf.get 14 _ rfl)), hs.drop⟩
    · replace h := h.2 hc
      refine wp_skip ?_
      refine X.then_ ?_
      refine wp_seq ?_
      refine wp_seq ?_
      refine R.list ?_
      refine S.val hf hs (v := .int .i64 n2) rfl rfl rfl (V.pure rfl) (fun a hf => ?_)
      refine S.val hf hs (v := .bool (decide (n2 < 0))) rfl rfl rfl (V.pure rfl) (fun a hf => ?_)
      refine R.nil ?_
      refine X.then_ ?_
      refine C.cond hf (b := decide (n2 < 0)) rfl (fun hc => ?_) (fun hc => ?_)
      · replace h := h.1 hc
        refine wp_seq ?_
        refine R.list ?_
        refine S.val hf hs (v := .int .i64 (k1 : Int)) rfl rfl rfl (V.pure rfl) (fun a hf => ?_)
        refine S.val hf hs (v := .int .i64 (k1 : Int)) rfl rfl rfl (V.pure rfl) (fun a hf => ?_)
        refine R.nil ?_
        refine X.then_ ?_
        refine wp_exit ?_
        refine X.then_exit ?_
        refine X.blk_exit ?_
        refine X.then_ ?_
        refine R.list ?_
        refine S.val hf hs (v := .int .i64 ((k1 + 1 : Nat) : Int)) rfl rfl rfl (V.incr rfl rfl rfl hltk1 hlenk1) (fun a hf => ?_)
        refine S.val hf hs (v := .int .i64 ((k1 + 1 : Nat) : Int)) rfl rfl rfl (V.pure rfl) (fun a hf => ?_)
        refine R.nil ?_
        refine X.then_ ?_
        exact ⟨xk1, llk1, rfl, k1 + 1, (k1 : Int), range_drop hlk1, range_len hkk1, (by rw [hnext1] at h; exact h), (((((((hf.nil.cons (hf.get 13 _ rfl)).cons (hf.get 12 _ rfl)).cons (hf.get 7 _ rfl)).cons (hf.get 2 _ rfl)).cons (hf.get 1 _ rfl)).cons (hf.get 0 _ rfl)).cons (hf.get 14 _ rfl)), hs.drop⟩
      · replace h := h.2 hc
        refine wp_skip ?_
        refine X.then_ ?_
        refine wp_seq ?_
        refine R.list ?_
        refine S.val hf hs (v := .slice tA t.length tC) rfl rfl rfl (V.pure rfl) (fun a hf => ?_)
        refine S.val hf hs (v := .int .i64 n2) rfl rfl rfl (V.pure rfl) (fun a hf => ?_)
        obtain ⟨h0x1, x1, hx1, h⟩ := h
        refine S.val hf hs (v := elemPtr tA (n2.toNat * 4)) rfl rfl rfl (V.index rfl rfl rfl Try.runUnderlying48 Try.sizeOf56 (hv_t.some_ (lt_of_get hx1)) h0x1 (lt_of_get hx1) rfl) (fun a hf => ?_)
        refine S.val hf hs (v := elemPtr tA (n2.toNat * 4 + 1)) rfl rfl rfl (V.fieldEl rfl rfl (hv_t.some_ (lt_of_get hx1)) Try.runUnderlying56 rfl Try.sizeOf3 rfl rfl) (fun a hf => ?_)
        refine S.val hf hs (v := .int .i64 x1.Size) rfl rfl rfl (V.loadEl (off := 1) (Ag.args _ _ _) (hv_t.flat hx1) rfl rfl rfl Try.isAgg3 Try.sizeOf3 rfl rfl) (fun a hf => ?_)
        refine S.val hf hs (v := .int .i64 size) rfl rfl rfl (V.pure rfl) (fun a hf => ?_)
        refine S.val hf hs (v := .int .i64 (w64 (x1.Size - size))) rfl rfl rfl (V.pure rfl) (fun a hf => ?_)
        refine S.callv hf rfl rfl rfl (call_fn (vs := [.int .i64 (w64 (x1.Size - size))]) rfl rfl rfl Try.call84) (C_ref8_abs (w64 (x1.Size - size)) _ ) (fun a w hf hs' => ?_)
        replace hs := hs.call hs'; clear hs'
        refine S.val hf hs (v := .int .i64 (rabs (w64 (x1.Size - size)))) rfl rfl rfl (V.pure rfl) (fun a hf => ?_)
        refine R.nil ?_
        refine X.then_ ?_
        refine wp_seq ?_
        refine C.cut (J := fun a w => ∃ (c1 : Bool), M_ref8_toolFor_k2 k1 n2 next1 c1 ∧ FrOk 59 [(0, .slice tA t.length tC), (1, .int .i64 size), (2, .int .i64 near), (7, .int .i64 n2), (8, .int .i64 (k1 : Int)), (12, .slice tA t.length tC), (13, .int .i64 (t.length : Int)), (14, .int .i64 (k1 : Int)), (55, .bool c1)] a ∧ Sat w0 none_ [hbox g1 56 [.string (ba xk1.Name), .int .i64 xk1.Size, .int .i64 xk1.Life, .int .i64 xk1.Stack]] w) ?_ ?_
        · rintro a w ⟨c1, h, hf, hs⟩
          unfold M_ref8_toolFor_k2 at h
          refine C.cond hf (b := c1) rfl (fun hc => ?_) (fun hc => ?_)
          · replace h := h.1 hc
            refine R.list ?_
            refine S.val hf hs (v := .int .i64 (k1 : Int)) rfl rfl rfl (V.pure rfl) (fun a hf => ?_)
            refine S.val hf hs (v := .int .i64 (k1 : Int)) rfl rfl rfl (V.pure rfl) (fun a hf => ?_)
            refine R.nil ?_
            refine X.blk ?_
            refine X.then_ ?_
            refine R.list ?_
            refine S.val hf hs (v := .int .i64 ((k1 + 1 : Nat) : Int)) rfl rfl rfl (V.incr rfl rfl rfl hltk1 hlenk1) (fun a hf => ?_)
            refine S.val hf hs (v := .int .i64 ((k1 + 1 : Nat) : Int)) rfl rfl rfl (V.pure rfl) (fun a hf => ?_)
            refine R.nil ?_
            refine X.then_ ?_
            exact ⟨xk1, llk1, rfl, k1 + 1, (k1 : Int), range_drop hlk1, range_len hkk1, (by rw [hnext1] at h; exact h), (((((((hf.nil.cons (hf.get 13 _ rfl)).cons (hf.get 12 _ rfl)).cons (hf.get 7 _ rfl)).cons (hf.get 2 _ rfl)).cons (hf.get 1 _ rfl)).cons (hf.get 0 _ rfl)).cons (hf.get 14 _ rfl)), hs.drop⟩
          · replace h := h.2 hc
            refine wp_skip ?_
            refine X.blk ?_
            refine X.then_ ?_
            refine R.list ?_
            refine S.val hf hs (v := .int .i64 ((k1 + 1 : Nat) : Int)) rfl rfl rfl (V.incr rfl rfl rfl hltk1 hlenk1) (fun a hf => ?_)
            refine S.val hf hs (v := .int .i64 ((k1 + 1 : Nat) : Int)) rfl rfl rfl (V.pure rfl) (fun a hf => ?_)
            refine R.nil ?_
            refine X.then_ ?_
            exact ⟨xk1, llk1, rfl, k1 + 1, n2, range_drop hlk1, range_len hkk1, (by rw [hnext1] at h; exact h), (((((((hf.nil.cons (hf.get 13 _ rfl)).cons (hf.get 12 _ rfl)).cons (hf.get 7 _ rfl)).cons (hf.get 2 _ rfl)).cons (hf.get 1 _ rfl)).cons (hf.get 0 _ rfl)).cons (hf.get 14 _ rfl)), hs.drop⟩
        · skip
          refine R.draw mo (by kernel_rfl) hs ?_
          refine D.val hf (v := .int .i64 (rabs (w64 (xk1.Size - size)))) rfl rfl rfl (V.pure rfl) (fun a hf => ?_)
          refine D.val hf (v := .int .i64 (rabs (w64 (x1.Size - size)))) rfl rfl rfl (V.pure rfl) (fun a hf => ?_)
          refine D.val hf (v := .bool (decide ((rabs (w64 (xk1.Size - size))) < (rabs (w64 (x1.Size - size)))))) rfl rfl rfl (V.pure rfl) (fun a hf => ?_)
          refine D.split hf (b := decide ((rabs (w64 (xk1.Size - size))) < (rabs (w64 (x1.Size - size))))) rfl rfl rfl (V.pure rfl) (fun hc a hf => ?_) (fun hc a hf => ?_)
          · replace h := h.1 hc
            refine D.skip hf rfl rfl rfl (fun a hf => ?_)
            refine D.skip hf rfl rfl rfl (fun a hf => ?_)
            refine D.skip hf rfl rfl rfl (fun a hf => ?_)
            refine D.skip hf rfl rfl rfl (fun a hf => ?_)
            refine D.skip hf rfl rfl rfl (fun a hf => ?_)
            refine D.skip hf rfl rfl rfl (fun a hf => ?_)
            refine D.skip hf rfl rfl rfl (fun a hf => ?_)
            refine D.skip hf rfl rfl rfl (fun a hf => ?_)
            refine D.skip hf rfl rfl rfl (fun a hf => ?_)
            refine D.skip hf rfl rfl rfl (fun a hf => ?_)
            refine D.skip hf rfl rfl rfl (fun a hf => ?_)
            refine D.skip hf rfl rfl rfl (fun a hf => ?_)
            refine D.skip hf rfl rfl rfl (fun a hf => ?_)
            refine D.val hf (v := .bool true) rfl rfl rfl (V.pure rfl) (fun a hf => ?_)
            refine D.done (fun w hs => ?_)
            refine X.then_ ?_
            exact ⟨true, h, (((((((((hf.nil.cons (hf.get 55 _ rfl)).cons (hf.get 14 _ rfl)).cons (hf.get 13 _ rfl)).cons (hf.get 12 _ rfl)).cons (hf.get 8 _ rfl)).cons (hf.get 7 _ rfl)).cons (hf.get 2 _ rfl)).cons (hf.get 1 _ rfl)).cons (hf.get 0 _ rfl)), hs⟩
          · replace h := h.2 hc
            refine D.val hf (v := .int .i64 (rabs (w64 (xk1.Size - size)))) rfl rfl rfl (V.pure rfl) (fun a hf => ?_)
            refine D.val hf (v := .int .i64 (rabs (w64 (x1.Size - size)))) rfl rfl rfl (V.pure rfl) (fun a hf => ?_)
            refine D.val hf (v := .bool ((rabs (w64 (xk1.Size - size))) == (rabs (w64 (x1.Size - size))))) rfl rfl rfl (V.pure rfl) (fun a hf => ?_)
            refine D.split hf (b := (rabs (w64 (xk1.Size - size))) == (rabs (w64 (x1.Size - size)))) rfl rfl rfl (V.pure rfl) (fun hc a hf => ?_) (fun hc a hf => ?_)
            · replace h := h.1 hc
              refine D.val hf (v := .pointer (some ⟨g1, 1, none⟩)) rfl rfl rfl (V.fieldBox rfl rfl Try.runUnderlying56 rfl Try.sizeOf3 rfl rfl) (fun a hf => ?_)
              refine D.val hf (v := .int .i64 xk1.Size) rfl rfl rfl (V.loadBox 0 rfl rfl rfl Try.isAgg3 Try.sizeOf3 rfl rfl) (fun a hf => ?_)
              refine D.val hf (v := .slice tA t.length tC) rfl rfl rfl (V.pure rfl) (fun a hf => ?_)
              refine D.val hf (v := .int .i64 n2) rfl rfl rfl (V.pure rfl) (fun a hf => ?_)
              refine D.val hf (v := elemPtr tA (n2.toNat * 4)) rfl rfl rfl (V.index rfl rfl rfl Try.runUnderlying48 Try.sizeOf56 (hv_t.some_ (lt_of_get hx1)) h0x1 (lt_of_get hx1) rfl) (fun a hf => ?_)
              refine D.val hf (v := elemPtr tA (n2.toNat * 4 + 1)) rfl rfl rfl (V.fieldEl rfl rfl (hv_t.some_ (lt_of_get hx1)) Try.runUnderlying56 rfl Try.sizeOf3 rfl rfl) (fun a hf => ?_)
              refine D.val hf (v := .int .i64 x1.Size) rfl rfl rfl (V.loadEl (off := 1) (Ag.args _ _ _) (hv_t.flat hx1) rfl rfl rfl Try.isAgg3 Try.sizeOf3 rfl rfl) (fun a hf => ?_)
              refine D.val hf (v := .bool (decide (xk1.Size > x1.Size))) rfl rfl rfl (V.pure rfl) (fun a hf => ?_)
              refine D.val hf (v := .bool (decide (xk1.Size > x1.Size))) rfl rfl rfl (V.pure rfl) (fun a hf => ?_)
              refine D.val hf (v := .bool (decide (xk1.Size > x1.Size))) rfl rfl rfl (V.pure rfl) (fun a hf => ?_)
              refine D.done (fun w hs => ?_)
              refine X.then_ ?_
              exact ⟨(decide (xk1.Size > x1.Size)), h, (((((((((hf.nil.cons (hf.get 55 _ rfl)).cons (hf.get 14 _ rfl)).cons (hf.get 13 _ rfl)).cons (hf.get 12 _ rfl)).cons (hf.get 8 _ rfl)).cons (hf.get 7 _ rfl)).cons (hf.get 2 _ rfl)).cons (hf.get 1 _ rfl)).cons (hf.get 0 _ rfl)), hs⟩
            · replace h := h.2 hc
              refine D.skip hf rfl rfl rfl (fun a hf => ?_)
              refine D.skip hf rfl rfl rfl (fun a hf => ?_)
              refine D.skip hf rfl rfl rfl (fun a hf => ?_)
              refine D.skip hf rfl rfl rfl (fun a hf => ?_)
              refine D.skip hf rfl rfl rfl (fun a hf => ?_)
              refine D.skip hf rfl rfl rfl (fun a hf => ?_)
              refine D.skip hf rfl rfl rfl (fun a hf => ?_)
              refine D.skip hf rfl rfl rfl (fun a hf => ?_)
              refine D.val hf (v := .bool false) rfl rfl rfl (V.pure rfl) (fun a hf => ?_)
              refine D.val hf (v := .bool false) rfl rfl rfl (V.pure rfl) (fun a hf => ?_)
              refine D.done (fun w hs => ?_)
              refine X.then_ ?_
              exact ⟨false, h, (((((((((hf.nil.cons (hf.get 55 _ rfl)).cons (hf.get 14 _ rfl)).cons (hf.get 13 _ rfl)).cons (hf.get 12 _ rfl)).cons (hf.get 8 _ rfl)).cons (hf.get 7 _ rfl)).cons (hf.get 2 _ rfl)).cons (hf.get 1 _ rfl)).cons (hf.get 0 _ rfl)), hs⟩

set_option linter.unusedVariables false
def M_drill_Chosen_L2 (t : (List Bit)) (k2 : Nat) (xk2 : (List Hole)) (l6 : List Job) (next2 : List Job → Prop) : Prop :=
  cnd (decide ((xk2.length : Int) > 0)) (idx t (k2 : Int) fun x1 => must (room (l6 ++ [(⟨x1.Name, xk2⟩ : Job)]).length 40) (next2 (l6 ++ [(⟨x1.Name, xk2⟩ : Job)]))) (next2 l6)
def M_drill_Chosen_L1 (t : (List Bit)) (near : Int) (k1 : Nat) (xk1 : Hole) (l3 : List Int) (l4 : List (List Hole)) (next1 : List Int → List (List Hole) → Prop) : Prop :=
  M_drill_toolFor t xk1.Size near fun y3 => cnd (decide (y3 < 0)) (must (room (l3 ++ [(k1 : Int)]).length 8) (next1 (l3 ++ [(k1 : Int)]) l4)) (idx l4 y3 fun x2 => must (room (x2 ++ [xk1]).length 40) (next1 l3 (l4.set y3.toNat (x2 ++ [xk1]))))
def M_drill_Chosen (t : (List Bit)) (l : (List Hole)) (near : Int) (Q : (List Job) → (List Int) → Int → Prop) : Prop :=
  M_drill_CheckTools t fun y1 => cnd (y1 != 0) (Q ([] : List Job) ([] : List Int) y1) (M_drill_CheckHoles l fun y2 => cnd (y2 != 0) (Q ([] : List Job) ([] : List Int) y2) (cnd (!(within near 0 10000)) (Q ([] : List Job) ([] : List Int) 1) (must (0 ≤ (t.length : Int) ∧ (t.length : Int) * 24 ≤ 281474976710656) (forIn' (fun k x (s : List Int × List (List Hole)) next => M_drill_Chosen_L1 t near k x s.1 s.2 (fun l3 l4 => next (l3, l4))) (fun (s : List Int × List (List Hole)) => (fun (l3 : List Int) (l4 : List (List Hole)) => forIn' (fun k x (s : List Job) next => M_drill_Chosen_L2 t k x s (fun l6 => next l6)) (fun (s : List Job) => (fun (l6 : List Job) => Q l6 l3 0) s) l4 0 ([] : List Job)) s.1 s.2) l 0 (([] : List Int), (List.replicate t.length ([] : (List Hole))))))))
set_option maxHeartbeats 1000000 in
theorem R_drill_Chosen (t : (List Bit)) (l : (List Hole)) (near : Int) (w0 : World) (tA : Option Addr) (tC : Nat) (hv_t : View w0 (old w0 none_) tA tC t) (lA : Option Addr) (lC : Nat) (hv_l : View w0 (old w0 none_) lA lC l) (Q : (List Job) → (List Int) → Int → Prop) (h : M_drill_Chosen t l near Q) :
    Ret Try.prog 33 #[.slice tA t.length tC, .slice lA l.length lC, .int .i64 near] w0 fun v w' => ∃ (r0 : (List Job)) (r0A : Option Addr) (r0C : Nat) (r0as : List (Option Addr × Nat)) (r1 : (List Int)) (r1A : Option Addr) (r1C : Nat) (r2 : Int), v = .tuple #[.slice r0A r0.length r0C, .slice r1A r1.length r1C, .int .i64 r2] ∧ Q r0 r1 r2 ∧ Sat w0 none_ [hrows 54 76 r0A r0C r0as r0, hown 3 r1A r1C r1] w' := by
  refine fn_enter Try.func33 rfl Try.ntmps33 rfl (fs := [(0, .slice tA t.length tC), (1, .slice lA l.length lC), (2, .int .i64 near)]) rfl (fun a hf => ?_)
  have hs := Sat.start w0 none_
  unfold M_drill_Chosen at h
  refine wp_seq ?_
  refine R.list ?_
  refine S.val hf hs (v := .slice none 0 0) rfl rfl rfl (V.pure rfl) (fun a hf => ?_)
  refine S.val hf hs (v := .slice none 0 0) rfl rfl rfl (V.pure rfl) (fun a hf => ?_)
  refine S.val hf hs (v := .int .i64 0) rfl rfl rfl (V.pure rfl) (fun a hf => ?_)
  refine R.nil ?_
  refine X.then_ ?_
  refine wp_seq ?_
  refine wp_seq ?_
  refine R.list ?_
  refine S.val hf hs (v := .slice tA t.length tC) rfl rfl rfl (V.pure rfl) (fun a hf => ?_)
  refine S.call hf rfl rfl rfl (call_fn (vs := [.slice tA t.length tC]) rfl rfl rfl Try.call68) (R_drill_CheckTools t _ tA tC ((Ag.args _ _ _).view hv_t hs) _ h) (fun v a w' hf hr => ?_)
  obtain ⟨y1, rfl, h2, hs2⟩ := hr
  replace h := h2; replace hs := hs.call hs2; clear h2 hs2
  refine S.val hf hs (v := .int .i64 y1) rfl rfl rfl (V.pure rfl) (fun a hf => ?_)
  refine R.nil ?_
  refine X.then_ ?_
  refine wp_seq ?_
  refine R.list ?_
  refine S.val hf hs (v := .int .i64 y1) rfl rfl rfl (V.pure rfl) (fun a hf => ?_)
  refine S.val hf hs (v := .bool (y1 != 0)) rfl rfl rfl (V.pure rfl) (fun a hf => ?_)
  refine R.nil ?_
  refine X.then_ ?_
  refine C.cond hf (b := y1 != 0) rfl (fun hc => ?_) (fun hc => ?_)
  · replace h := h.1 hc
    refine wp_seq ?_
    refine R.list ?_
    refine S.val hf hs (v := .int .i64 y1) rfl rfl rfl (V.pure rfl) (fun a hf => ?_)
    refine S.val hf hs (v := .slice none 0 0) rfl rfl rfl (V.pure rfl) (fun a hf => ?_)
    refine S.val hf hs (v := .slice none 0 0) rfl rfl rfl (V.pure rfl) (fun a hf => ?_)
    refine S.val hf hs (v := .int .i64 y1) rfl rfl rfl (V.pure rfl) (fun a hf => ?_)
    refine R.nil ?_
    refine X.then_ ?_
    refine wp_ret ?_
    refine X.then_ret ?_
    replace hs := hs.nilRows (α := Job) 54 76
    replace hs := hs.nilOwn (α := Int) 3
    replace hs := hs.front 1 rfl
    replace hs := hs.take 2
    exact L.ret hf (run_results3 Try.results33 (ResIs.tmp hf rfl) (ResIs.tmp hf rfl) (ResIs.tmp hf rfl)) ⟨([] : List Job), none, 0, [], ([] : List Int), none, 0, y1, rfl, h, hs⟩
  · replace h := h.2 hc
    refine wp_skip ?_
    refine X.then_ ?_
    refine wp_seq ?_
    refine wp_seq ?_
    refine R.list ?_
    refine S.val hf hs (v := .slice lA l.length lC) rfl rfl rfl (V.pure rfl) (fun a hf => ?_)
    refine S.call hf rfl rfl rfl (call_fn (vs := [.slice lA l.length lC]) rfl rfl rfl Try.call54) (R_drill_CheckHoles l _ lA lC ((Ag.args _ _ _).view hv_l hs) _ h) (fun v a w' hf hr => ?_)
    obtain ⟨y2, rfl, h2, hs2⟩ := hr
    replace h := h2; replace hs := hs.call hs2; clear h2 hs2
    refine S.val hf hs (v := .int .i64 y2) rfl rfl rfl (V.pure rfl) (fun a hf => ?_)
    refine R.nil ?_
    refine X.then_ ?_
    refine wp_seq ?_
    refine R.list ?_
    refine S.val hf hs (v := .int .i64 y2) rfl rfl rfl (V.pure rfl) (fun a hf => ?_)
    refine S.val hf hs (v := .bool (y2 != 0)) rfl rfl rfl (V.pure rfl) (fun a hf => ?_)
    refine R.nil ?_
    refine X.then_ ?_
    refine C.cond hf (b := y2 != 0) rfl (fun hc => ?_) (fun hc => ?_)
    · replace h := h.1 hc
      refine wp_seq ?_
      refine R.list ?_
      refine S.val hf hs (v := .int .i64 y2) rfl rfl rfl (V.pure rfl) (fun a hf => ?_)
      refine S.val hf hs (v := .slice none 0 0) rfl rfl rfl (V.pure rfl) (fun a hf => ?_)
      refine S.val hf hs (v := .slice none 0 0) rfl rfl rfl (V.pure rfl) (fun a hf => ?_)
      refine S.val hf hs (v := .int .i64 y2) rfl rfl rfl (V.pure rfl) (fun a hf => ?_)
      refine R.nil ?_
      refine X.then_ ?_
      refine wp_ret ?_
      refine X.then_ret ?_
      replace hs := hs.nilRows (α := Job) 54 76
      replace hs := hs.nilOwn (α := Int) 3
      replace hs := hs.front 1 rfl
      replace hs := hs.take 2
      exact L.ret hf (run_results3 Try.results33 (ResIs.tmp hf rfl) (ResIs.tmp hf rfl) (ResIs.tmp hf rfl)) ⟨([] : List Job), none, 0, [], ([] : List Int), none, 0, y2, rfl, h, hs⟩
    · replace h := h.2 hc
      refine wp_skip ?_
      refine X.then_ ?_
      refine wp_seq ?_
      refine wp_seq ?_
      refine R.list ?_
      refine S.val hf hs (v := .int .i64 near) rfl rfl rfl (V.pure rfl) (fun a hf => ?_)
      refine S.callv hf rfl rfl rfl (call_fn (vs := [.int .i64 near, .int .i64 0, .int .i64 10000]) rfl rfl rfl Try.call55) (C_drill_within near 0 10000 _ ) (fun a w hf hs' => ?_)
      replace hs := hs.call hs'; clear hs'
      refine S.val hf hs (v := .bool (!(within near 0 10000))) rfl rfl rfl (V.pure rfl) (fun a hf => ?_)
      refine R.nil ?_
      refine X.then_ ?_
      refine C.cond hf (b := !(within near 0 10000)) rfl (fun hc => ?_) (fun hc => ?_)
      · replace h := h.1 hc
        refine wp_seq ?_
        refine R.list ?_
        refine S.val hf hs (v := .slice none 0 0) rfl rfl rfl (V.pure rfl) (fun a hf => ?_)
        refine S.val hf hs (v := .slice none 0 0) rfl rfl rfl (V.pure rfl) (fun a hf => ?_)
        refine S.val hf hs (v := .int .i64 1) rfl rfl rfl (V.pure rfl) (fun a hf => ?_)
        refine R.nil ?_
        refine X.then_ ?_
        refine wp_ret ?_
        refine X.then_ret ?_
        replace hs := hs.nilRows (α := Job) 54 76
        replace hs := hs.nilOwn (α := Int) 3
        replace hs := hs.front 1 rfl
        replace hs := hs.take 2
        exact L.ret hf (run_results3 Try.results33 (ResIs.tmp hf rfl) (ResIs.tmp hf rfl) (ResIs.tmp hf rfl)) ⟨([] : List Job), none, 0, [], ([] : List Int), none, 0, 1, rfl, h, hs⟩
      · replace h := h.2 hc
        refine wp_skip ?_
        refine X.then_ ?_
        refine wp_seq ?_
        refine R.list ?_
        refine S.val hf hs (v := .slice tA t.length tC) rfl rfl rfl (V.pure rfl) (fun a hf => ?_)
        refine S.val hf hs (v := .int .i64 (t.length : Int)) rfl rfl rfl (V.len rfl rfl Try.runUnderlying48) (fun a hf => ?_)
        obtain ⟨hmk, h⟩ := h
        refine S.makeRows hf hs rfl rfl rfl ([] : (List Hole)) (z := (t.length : Int)) (N := t.length) 76 rfl rfl rfl rfl Try.underlying99 info34 hmk rfl (by have := hmk.2; omega) (fun A1 a w hf hs => ?_)
        refine S.val hf hs (v := .slice A1 (List.replicate t.length ([] : (List Hole))).length t.length) rfl rfl rfl (V.pure rfl) (fun a hf => ?_)
        refine R.nil ?_
        refine X.then_ ?_
        refine wp_seq ?_
        refine R.list ?_
        refine S.val hf hs (v := .slice none 0 0) rfl rfl rfl (V.pure rfl) (fun a hf => ?_)
        refine R.nil ?_
        refine X.then_ ?_
        refine wp_seq ?_
        refine wp_seq ?_
        refine R.list ?_
        refine S.val hf hs (v := .slice lA l.length lC) rfl rfl rfl (V.pure rfl) (fun a hf => ?_)
        refine S.val hf hs (v := .int .i64 (l.length : Int)) rfl rfl rfl (V.len rfl rfl Try.runUnderlying34) (fun a hf => ?_)
        refine S.val hf hs (v := .int .i64 0) rfl rfl rfl (V.pure rfl) (fun a hf => ?_)
        refine R.nil ?_
        refine X.then_ ?_
        refine wp_block ?_
        replace hs := hs.nilOwn (α := Int) 3
        have hlenk1 := hv_l.len64
        refine C.range (fun (ll : List Hole) a w => ∃ (k1 : Nat) (l3 : List Int) (l3A : Option Addr) (l3C : Nat) (l4 : List (List Hole)) (l4A : Option Addr) (l4C : Nat) (l4as : List (Option Addr × Nat)), l.drop k1 = ll ∧ k1 + ll.length = l.length ∧ forIn' (fun k x (s : List Int × List (List Hole)) next => M_drill_Chosen_L1 t near k x s.1 s.2 (fun l3 l4 => next (l3, l4))) (fun (s : List Int × List (List Hole)) => (fun (l3 : List Int) (l4 : List (List Hole)) => forIn' (fun k x (s : List Job) next => M_drill_Chosen_L2 t k x s (fun l6 => next l6)) (fun (s : List Job) => (fun (l6 : List Job) => Q l6 l3 0) s) l4 0 ([] : List Job)) s.1 s.2) ll k1 (l3, l4) ∧ FrOk 87 [(37, .int .i64 (k1 : Int)), (0, .slice tA t.length tC), (2, .int .i64 near), (11, .slice l4A l4.length l4C), (12, .slice l3A l3.length l3C), (35, .slice lA l.length lC), (36, .int .i64 (l.length : Int))] a ∧ Sat w0 none_ [hown 3 l3A l3C l3, hrows 34 76 l4A l4C l4as l4] w) l ⟨0, ([] : List Int), none, 0, (List.replicate t.length ([] : (List Hole))), A1, t.length, (List.replicate t.length ((none : Option Addr), 0)), rfl, Nat.zero_add _, h, (((((((hf.nil.cons (hf.get 36 _ rfl)).cons (hf.get 35 _ rfl)).cons (hf.get 12 _ rfl)).cons (hf.get 11 _ rfl)).cons (hf.get 2 _ rfl)).cons (hf.get 0 _ rfl)).cons (hf.get 37 _ rfl)), hs⟩ ?_
        clear h hf hs
        rintro llk1 a w ⟨k1, l3, l3A, l3C, l4, l4A, l4C, l4as, hlk1, hkk1, h, hf, hs⟩
        cases llk1 with
        | nil =>
          have hc := range_done hkk1
          replace h : (fun (l3 : List Int) (l4 : List (List Hole)) => forIn' (fun k x (s : List Job) next => M_drill_Chosen_L2 t k x s (fun l6 => next l6)) (fun (s : List Job) => (fun (l6 : List Job) => Q l6 l3 0) s) l4 0 ([] : List Job)) l3 l4 := h
          refine wp_seq ?_
          refine R.list ?_
          refine S.val hf hs (v := .bool false) rfl rfl rfl (V.cmp false rfl rfl rfl rfl hc) (fun a hf => ?_)
          refine R.nil ?_
          refine X.then_ ?_
          refine wp_seq ?_
          refine C.no hf rfl ?_
          refine wp_exit ?_
          refine X.then_exit ?_
          refine X.then_exit ?_
          refine X.blk_exit ?_
          refine X.then_ ?_
          refine wp_seq ?_
          refine R.list ?_
          refine S.val hf hs (v := .slice none 0 0) rfl rfl rfl (V.pure rfl) (fun a hf => ?_)
          refine R.nil ?_
          refine X.then_ ?_
          refine wp_seq ?_
          refine wp_seq ?_
          refine R.list ?_
          refine S.val hf hs (v := .slice l4A l4.length l4C) rfl rfl rfl (V.pure rfl) (fun a hf => ?_)
          refine S.val hf hs (v := .int .i64 (l4.length : Int)) rfl rfl rfl (V.len rfl rfl Try.runUnderlying99) (fun a hf => ?_)
          refine S.val hf hs (v := .int .i64 0) rfl rfl rfl (V.pure rfl) (fun a hf => ?_)
          refine R.nil ?_
          refine X.then_ ?_
          refine wp_block ?_
          replace hs := hs.nilRows (α := Job) 54 76
          replace hs := hs.fromRows 2 rfl
          have hlenk2 := hs.rowsLen64F 2 rfl
          refine C.range (fun (ll : List (List Hole)) a w => ∃ (k2 : Nat) (l6 : List Job) (l6A : Option Addr) (l6C : Nat) (l6as : List (Option Addr × Nat)), l4.drop k2 = ll ∧ k2 + ll.length = l4.length ∧ forIn' (fun k x (s : List Job) next => M_drill_Chosen_L2 t k x s (fun l6 => next l6)) (fun (s : List Job) => (fun (l6 : List Job) => Q l6 l3 0) s) ll k2 l6 ∧ FrOk 87 [(66, .int .i64 (k2 : Int)), (0, .slice tA t.length tC), (12, .slice l3A l3.length l3C), (16, .slice l6A l6.length l6C), (64, .slice l4A l4.length l4C), (65, .int .i64 (l4.length : Int))] a ∧ Sat w0 none_ [hrows 54 76 l6A l6C l6as l6, hown 3 l3A l3C l3, hrowsF 34 76 l4A l4C l4as l4 k2] w) l4 ⟨0, ([] : List Job), none, 0, ([] : List (Option Addr × Nat)), rfl, Nat.zero_add _, h, ((((((hf.nil.cons (hf.get 65 _ rfl)).cons (hf.get 64 _ rfl)).cons (hf.get 16 _ rfl)).cons (hf.get 12 _ rfl)).cons (hf.get 0 _ rfl)).cons (hf.get 66 _ rfl)), hs⟩ ?_
          clear h hf hs
          rintro llk2 a w ⟨k2, l6, l6A, l6C, l6as, hlk2, hkk2, h, hf, hs⟩
          cases llk2 with
          | nil =>
            have hc := range_done hkk2
            replace h : (fun (l6 : List Job) => Q l6 l3 0) l6 := h
            refine wp_seq ?_
            refine R.list ?_
            refine S.val hf hs (v := .bool false) rfl rfl rfl (V.cmp false rfl rfl rfl rfl hc) (fun a hf => ?_)
            refine R.nil ?_
            refine X.then_ ?_
            refine wp_seq ?_
            refine C.no hf rfl ?_
            refine wp_exit ?_
            refine X.then_exit ?_
            refine X.then_exit ?_
            refine X.blk_exit ?_
            refine X.then_ ?_
            refine wp_seq ?_
            refine R.list ?_
            refine S.val hf hs (v := .slice l6A l6.length l6C) rfl rfl rfl (V.pure rfl) (fun a hf => ?_)
            refine S.val hf hs (v := .slice l3A l3.length l3C) rfl rfl rfl (V.pure rfl) (fun a hf => ?_)
            refine S.val hf hs (v := .slice l6A l6.length l6C) rfl rfl rfl (V.pure rfl) (fun a hf => ?_)
            refine S.val hf hs (v := .slice l3A l3.length l3C) rfl rfl rfl (V.pure rfl) (fun a hf => ?_)
            refine S.val hf hs (v := .int .i64 0) rfl rfl rfl (V.pure rfl) (fun a hf => ?_)
            refine R.nil ?_
            refine X.then_ ?_
            refine wp_ret ?_
            replace hs := hs.front 1 rfl
            replace hs := hs.front 1 rfl
            replace hs := hs.take 2
            exact L.ret hf (run_results3 Try.results33 (ResIs.tmp hf rfl) (ResIs.tmp hf rfl) (ResIs.tmp hf rfl)) ⟨l6, l6A, l6C, l6as, l3, l3A, l3C, 0, rfl, h, hs⟩
          | cons xk2 llk2 =>
            have hltk2 := range_lt hkk2; have hc := range_go hkk2; have hxk2 := range_get hlk2
            obtain ⟨next2, hnext2⟩ : ∃ X : List Job → Prop, X = (fun l6 => forIn' (fun k x (s : List Job) next => M_drill_Chosen_L2 t k x s (fun l6 => next l6)) (fun (s : List Job) => (fun (l6 : List Job) => Q l6 l3 0) s) llk2 (k2 + 1) l6) := ⟨_, rfl⟩
            replace h : M_drill_Chosen_L2 t k2 xk2 l6 next2 := by rw [hnext2]; exact h
            unfold M_drill_Chosen_L2 at h
            refine wp_seq ?_
            refine R.list ?_
            refine S.val hf hs (v := .bool true) rfl rfl rfl (V.cmp true rfl rfl rfl rfl hc) (fun a hf => ?_)
            refine R.nil ?_
            refine X.then_ ?_
            refine wp_seq ?_
            refine C.yes hf rfl ?_
            refine wp_skip ?_
            refine X.then_ ?_
            refine wp_seq ?_
            refine wp_block ?_
            refine wp_seq ?_
            refine R.list ?_
            refine S.val hf hs (v := .int .i64 (k2 : Int)) rfl rfl rfl (V.pure rfl) (fun a hf => ?_)
            refine S.val hf hs (v := elemPtr l4A (k2 * 1)) rfl rfl rfl (V.index rfl rfl rfl Try.runUnderlying99 Try.sizeOf34 (hs.rowsSomeX 2 rfl hxk2) (Int.natCast_nonneg _) (lt_of_get hxk2) rfl) (fun a hf => ?_)
            obtain ⟨B1, D1, hrB1⟩ := hs.rowAtF 2 rfl hxk2
            refine S.val hf hs (v := .slice B1 xk2.length D1) rfl rfl rfl (V.loadRowsF (off := 0) 2 rfl hxk2 hrB1 rfl rfl rfl Try.isAgg34 Try.sizeOf34 rfl rfl) (fun a hf => ?_)
            refine S.val hf hs (v := .int .i64 (k2 : Int)) rfl rfl rfl (V.pure rfl) (fun a hf => ?_)
            refine S.val hf hs (v := .slice B1 xk2.length D1) rfl rfl rfl (V.pure rfl) (fun a hf => ?_)
            refine R.nil ?_
            refine X.then_ ?_
            refine wp_seq ?_
            refine R.list ?_
            refine S.val hf hs (v := .slice B1 xk2.length D1) rfl rfl rfl (V.pure rfl) (fun a hf => ?_)
            refine S.val hf hs (v := .int .i64 (xk2.length : Int)) rfl rfl rfl (V.len rfl rfl Try.runUnderlying34) (fun a hf => ?_)
            refine S.val hf hs (v := .bool (decide ((xk2.length : Int) > 0))) rfl rfl rfl (V.pure rfl) (fun a hf => ?_)
            refine R.nil ?_
            refine X.then_ ?_
            refine C.cond hf (b := decide ((xk2.length : Int) > 0)) rfl (fun hc => ?_) (fun hc => ?_)
            · replace h := h.1 hc
              refine R.list ?_
              refine S.val hf hs (v := .slice l6A l6.length l6C) rfl rfl rfl (V.pure rfl) (fun a hf => ?_)
              refine S.val hf hs (v := .slice tA t.length tC) rfl rfl rfl (V.pure rfl) (fun a hf => ?_)
              refine S.val hf hs (v := .int .i64 (k2 : Int)) rfl rfl rfl (V.pure rfl) (fun a hf => ?_)
              obtain ⟨h0x1, x1, hx1, h⟩ := h
              refine S.val hf hs (v := elemPtr tA (k2 * 4)) rfl rfl rfl (V.index rfl rfl rfl Try.runUnderlying48 Try.sizeOf56 (hv_t.some_ (lt_of_get hx1)) (Int.natCast_nonneg _) (lt_of_get hx1) rfl) (fun a hf => ?_)
              refine S.val hf hs (v := elemPtr tA (k2 * 4)) rfl rfl rfl (V.fieldEl rfl rfl (hv_t.some_ (lt_of_get hx1)) Try.runUnderlying56 rfl Try.sizeOf9 rfl rfl) (fun a hf => ?_)
              refine S.val hf hs (v := .string (ba x1.Name)) rfl rfl rfl (V.loadEl (off := 0) (Ag.args _ _ _) (hv_t.flat hx1) rfl rfl rfl Try.isAgg9 Try.sizeOf9 rfl rfl) (fun a hf => ?_)
              refine S.val hf hs (v := .slice B1 xk2.length D1) rfl rfl rfl (V.pure rfl) (fun a hf => ?_)
              refine S.val hf hs (v := .agg #[.string (ba x1.Name), .slice B1 xk2.length D1]) rfl rfl rfl (V.build (places := #[(0, 1), (1, 1)]) rfl Try.zeroValue54 Try.runUnderlying54 (by intro w; simp [Try.sizeOf34, Try.sizeOf9]) rfl rfl) (fun a hf => ?_)
              replace hs := hs.takeRowF 2 rfl hxk2 hrB1
              refine S.build1 hf hs rfl rfl rfl (α := JobSh) (⟨x1.Name, ⟨B1, xk2.length, D1⟩⟩ : JobSh) rfl rfl rfl Try.runUnderlying49 Try.sizeOf54 Try.zeroValue54 rfl (by decide) (fun A2 a w hf hs => ?_)
              replace hs := hs.front 1 rfl
              obtain ⟨hroom, h⟩ := h
              refine S.appendRow 1 hf hs rfl rfl rfl (⟨x1.Name, xk2⟩ : Job) rfl rfl rfl rfl rfl Try.underlying49 info54 rfl hroom ((hs.ownView 1 rfl).some_ (i := 0) (by simp)) (hs.ownView 1 rfl) (fun A3 C1 a w hf hs => ?_)
              replace hs := hs.drop
              refine S.val hf hs (v := .slice A3 (l6 ++ [(⟨x1.Name, xk2⟩ : Job)]).length C1) rfl rfl rfl (V.pure rfl) (fun a hf => ?_)
              refine R.nil ?_
              refine X.blk ?_
              refine X.then_ ?_
              refine R.list ?_
              refine S.val hf hs (v := .int .i64 ((k2 + 1 : Nat) : Int)) rfl rfl rfl (V.incr rfl rfl rfl hltk2 hlenk2) (fun a hf => ?_)
              refine S.val hf hs (v := .int .i64 ((k2 + 1 : Nat) : Int)) rfl rfl rfl (V.pure rfl) (fun a hf => ?_)
              refine R.nil ?_
              refine X.then_ ?_
              exact ⟨xk2, llk2, rfl, k2 + 1, (l6 ++ [(⟨x1.Name, xk2⟩ : Job)]), A3, C1, (l6as ++ [(B1, D1)]), range_drop hlk2, range_len hkk2, (by rw [hnext2] at h; exact h), ((((((hf.nil.cons (hf.get 65 _ rfl)).cons (hf.get 64 _ rfl)).cons (hf.get 16 _ rfl)).cons (hf.get 12 _ rfl)).cons (hf.get 0 _ rfl)).cons (hf.get 66 _ rfl)), hs⟩
            · replace h := h.2 hc
              refine wp_skip ?_
              refine X.blk ?_
              refine X.then_ ?_
              refine R.list ?_
              refine S.val hf hs (v := .int .i64 ((k2 + 1 : Nat) : Int)) rfl rfl rfl (V.incr rfl rfl rfl hltk2 hlenk2) (fun a hf => ?_)
              refine S.val hf hs (v := .int .i64 ((k2 + 1 : Nat) : Int)) rfl rfl rfl (V.pure rfl) (fun a hf => ?_)
              refine R.nil ?_
              refine X.then_ ?_
              replace hs := hs.fromNext 2 rfl hxk2
              exact ⟨xk2, llk2, rfl, k2 + 1, l6, l6A, l6C, l6as, range_drop hlk2, range_len hkk2, (by rw [hnext2] at h; exact h), ((((((hf.nil.cons (hf.get 65 _ rfl)).cons (hf.get 64 _ rfl)).cons (hf.get 16 _ rfl)).cons (hf.get 12 _ rfl)).cons (hf.get 0 _ rfl)).cons (hf.get 66 _ rfl)), hs⟩
        | cons xk1 llk1 =>
          have hltk1 := range_lt hkk1; have hc := range_go hkk1; have hxk1 := range_get hlk1
          obtain ⟨next1, hnext1⟩ : ∃ X : List Int → List (List Hole) → Prop, X = (fun l3 l4 => forIn' (fun k x (s : List Int × List (List Hole)) next => M_drill_Chosen_L1 t near k x s.1 s.2 (fun l3 l4 => next (l3, l4))) (fun (s : List Int × List (List Hole)) => (fun (l3 : List Int) (l4 : List (List Hole)) => forIn' (fun k x (s : List Job) next => M_drill_Chosen_L2 t k x s (fun l6 => next l6)) (fun (s : List Job) => (fun (l6 : List Job) => Q l6 l3 0) s) l4 0 ([] : List Job)) s.1 s.2) llk1 (k1 + 1) (l3, l4)) := ⟨_, rfl⟩
          replace h : M_drill_Chosen_L1 t near k1 xk1 l3 l4 next1 := by rw [hnext1]; exact h
          unfold M_drill_Chosen_L1 at h
          refine wp_seq ?_
          refine R.list ?_
          refine S.val hf hs (v := .bool true) rfl rfl rfl (V.cmp true rfl rfl rfl rfl hc) (fun a hf => ?_)
          refine R.nil ?_
          refine X.then_ ?_
          refine wp_seq ?_
          refine C.yes hf rfl ?_
          refine wp_skip ?_
          refine X.then_ ?_
          refine wp_seq ?_
          refine wp_block ?_
          refine wp_seq ?_
          refine R.list ?_
          refine S.val hf hs (v := .int .i64 (k1 : Int)) rfl rfl rfl (V.pure rfl) (fun a hf => ?_)
          refine S.val hf hs (v := elemPtr lA (k1 * 5)) rfl rfl rfl (V.index rfl rfl rfl Try.runUnderlying34 Try.sizeOf76 (hv_l.some_ (lt_of_get hxk1)) (Int.natCast_nonneg _) (lt_of_get hxk1) rfl) (fun a hf => ?_)
          refine S.val hf hs (v := .agg #[.int .i64 xk1.At.X, .int .i64 xk1.At.Y, .int .i64 xk1.Size, .int .i64 xk1.Depth, .bool xk1.Plated]) rfl rfl rfl (V.loadEl (off := 0) (Ag.args _ _ _) (hv_l.flat hxk1) rfl rfl rfl Try.isAgg76 Try.sizeOf76 rfl rfl) (fun a hf => ?_)
          refine S.alloc hf hs rfl rfl rfl [.int .i64 0, .int .i64 0, .int .i64 0, .int .i64 0, .bool false] rfl Try.zeroValue76 rfl (fun g1 a w hf hs => ?_)
          refine S.val hf hs (v := .int .i64 (k1 : Int)) rfl rfl rfl (V.pure rfl) (fun a hf => ?_)
          refine S.storeBox 0 hf hs rfl rfl [.int .i64 xk1.At.X, .int .i64 xk1.At.Y, .int .i64 xk1.Size, .int .i64 xk1.Depth, .bool xk1.Plated] [.int .i64 xk1.At.X, .int .i64 xk1.At.Y, .int .i64 xk1.Size, .int .i64 xk1.Depth, .bool xk1.Plated] rfl rfl rfl rfl rfl Try.sizeOf76 rfl rfl rfl rfl (fun a w hf hs => ?_)
          refine R.nil ?_
          refine X.then_ ?_
          refine wp_seq ?_
          refine R.list ?_
          refine S.val hf hs (v := .slice tA t.length tC) rfl rfl rfl (V.pure rfl) (fun a hf => ?_)
          refine S.val hf hs (v := .pointer (some ⟨g1, 2, none⟩)) rfl rfl rfl (V.fieldBox rfl rfl Try.runUnderlying76 rfl Try.sizeOf3 rfl rfl) (fun a hf => ?_)
          refine S.val hf hs (v := .int .i64 xk1.Size) rfl rfl rfl (V.loadBox 0 rfl rfl rfl Try.isAgg3 Try.sizeOf3 rfl rfl) (fun a hf => ?_)
          refine S.val hf hs (v := .int .i64 near) rfl rfl rfl (V.pure rfl) (fun a hf => ?_)
          refine S.call hf rfl rfl rfl (call_fn (vs := [.slice tA t.length tC, .int .i64 xk1.Size, .int .i64 near]) rfl rfl rfl Try.call69) (R_drill_toolFor t xk1.Size near _ tA tC ((Ag.args _ _ _).view hv_t hs) _ h) (fun v a w' hf hr => ?_)
          obtain ⟨y3, rfl, h2, hs2⟩ := hr
          replace h := h2; replace hs := hs.call hs2; clear h2 hs2
          refine S.val hf hs (v := .int .i64 y3) rfl rfl rfl (V.pure rfl) (fun a hf => ?_)
          refine R.nil ?_
          refine X.then_ ?_
          refine wp_seq ?_
          refine R.list ?_
          refine S.val hf hs (v := .int .i64 y3) rfl rfl rfl (V.pure rfl) (fun a hf => ?_)
          refine S.val hf hs (v := .bool (decide (y3 < 0))) rfl rfl rfl (V.pure rfl) (fun a hf => ?_)
          refine R.nil ?_
          refine X.then_ ?_
          refine C.cond hf (b := decide (y3 < 0)) rfl (fun hc => ?_) (fun hc => ?_)
          · replace h := h.1 hc
            refine R.list ?_
            refine S.val hf hs (v := .slice l3A l3.length l3C) rfl rfl rfl (V.pure rfl) (fun a hf => ?_)
            refine S.val hf hs (v := .int .i64 (k1 : Int)) rfl rfl rfl (V.pure rfl) (fun a hf => ?_)
            refine S.build1 hf hs rfl rfl rfl (α := Int) (k1 : Int) rfl rfl rfl Try.runUnderlying28 Try.sizeOf3 Try.zeroValue3 rfl (by decide) (fun A4 a w hf hs => ?_)
            obtain ⟨hroom, h⟩ := h
            refine S.appendCells 2 hf hs rfl rfl rfl rfl rfl rfl rfl Try.underlying28 info3 rfl hroom ((hs.ownView 0 rfl).some_ (i := 0) (by simp)) (hs.ownView 0 rfl) (fun A5 C2 a w hf hs => ?_)
            replace hs := hs.drop
            refine S.val hf hs (v := .slice A5 (l3 ++ [(k1 : Int)]).length C2) rfl rfl rfl (V.pure rfl) (fun a hf => ?_)
            refine R.nil ?_
            refine X.blk ?_
            refine X.then_ ?_
            refine R.list ?_
            refine S.val hf hs (v := .int .i64 ((k1 + 1 : Nat) : Int)) rfl rfl rfl (V.incr rfl rfl rfl hltk1 hlenk1) (fun a hf => ?_)
            refine S.val hf hs (v := .int .i64 ((k1 + 1 : Nat) : Int)) rfl rfl rfl (V.pure rfl) (fun a hf => ?_)
            refine R.nil ?_
            refine X.then_ ?_
            exact ⟨xk1, llk1, rfl, k1 + 1, (l3 ++ [(k1 : Int)]), A5, C2, l4, l4A, l4C, l4as, range_drop hlk1, range_len hkk1, (by rw [hnext1] at h; exact h), (((((((hf.nil.cons (hf.get 36 _ rfl)).cons (hf.get 35 _ rfl)).cons (hf.get 12 _ rfl)).cons (hf.get 11 _ rfl)).cons (hf.get 2 _ rfl)).cons (hf.get 0 _ rfl)).cons (hf.get 37 _ rfl)), hs.drop⟩
          · replace h := h.2 hc
            refine H.start (S := Sat w0 none_ [hbox g1 76 [.int .i64 xk1.At.X, .int .i64 xk1.At.Y, .int .i64 xk1.Size, .int .i64 xk1.Depth, .bool xk1.Plated], hown 3 l3A l3C l3]) mo ?_
            replace hs := hs.drew
            refine H.val hf (hs.mask [true, true, false]) (v := .slice l4A l4.length l4C) (i := 0) rfl rfl rfl rfl (by kernel_rfl) (by kernel_rfl) (by kernel_rfl) (V.pure rfl) (fun a hf => ?_)
            refine H.val hf (hs.mask [true, true, false]) (v := .int .i64 y3) (i := 1) rfl rfl rfl rfl (by kernel_rfl) (by kernel_rfl) (by kernel_rfl) (V.pure rfl) (fun a hf => ?_)
            refine H.val hf (hs.mask [true, true, false]) (v := .slice l4A l4.length l4C) (i := 2) rfl rfl rfl rfl (by kernel_rfl) (by kernel_rfl) (by kernel_rfl) (V.pure rfl) (fun a hf => ?_)
            refine H.val hf (hs.mask [true, true, false]) (v := .int .i64 y3) (i := 3) rfl rfl rfl rfl (by kernel_rfl) (by kernel_rfl) (by kernel_rfl) (V.pure rfl) (fun a hf => ?_)
            obtain ⟨h0x2, x2, hx2, h⟩ := h
            refine H.val hf (hs.mask [true, true, false]) (v := elemPtr l4A (y3.toNat * 1)) (i := 4) rfl rfl rfl rfl (by kernel_rfl) (by kernel_rfl) (by kernel_rfl) (V.index rfl rfl rfl Try.runUnderlying99 Try.sizeOf34 (hs.rowsSome 2 rfl hx2) h0x2 (lt_of_get hx2) rfl) (fun a hf => ?_)
            refine H.val hf (hs.mask [true, true, false]) (v := .agg #[.int .i64 xk1.At.X, .int .i64 xk1.At.Y, .int .i64 xk1.Size, .int .i64 xk1.Depth, .bool xk1.Plated]) (i := 6) rfl rfl rfl rfl (by kernel_rfl) (by kernel_rfl) (by kernel_rfl) (V.loadBox 0 rfl rfl rfl Try.isAgg76 Try.sizeOf76 rfl rfl) (fun a hf => ?_)
            refine H.each2 (i0 := 5) (i1 := 7) rfl rfl (by kernel_rfl) ?_ ?_
            · obtain ⟨B2, D2, hrB2⟩ := hs.rowAt 2 rfl hx2
              refine S.val hf hs (v := .slice B2 x2.length D2) rfl rfl rfl (V.loadRows (off := 0) 2 rfl hx2 hrB2 rfl rfl rfl Try.isAgg34 Try.sizeOf34 rfl rfl) (fun a hf => ?_)
              refine R.nil ?_
              refine X.then_ ?_
              refine ⟨(hs.mask [true, true, false]), ?_⟩
              refine H.one (i := 7) rfl (by kernel_rfl) ?_
              refine S.build1 hf hs rfl rfl rfl (α := Hole) xk1 rfl rfl rfl Try.runUnderlying34 Try.sizeOf76 Try.zeroValue76 rfl (by decide) (fun A6 a w hf hs => ?_)
              refine R.nil ?_
              refine X.then_ ?_
              refine ⟨(hs.mask [false, true, true, false]), ?_⟩
              refine H.one (i := 8) rfl (by kernel_rfl) ?_
              replace hs := hs.takeRow 3 rfl hx2 hrB2
              obtain ⟨hroom, h⟩ := h
              refine S.appendCells 0 hf hs rfl rfl rfl rfl rfl rfl rfl Try.underlying34 info76 rfl hroom ((hs.ownView 1 rfl).some_ (i := 0) (by simp)) (hs.ownView 1 rfl) (fun A7 C3 a w hf hs => ?_)
              refine R.nil ?_
              refine X.then_ ?_
              refine ⟨(hs.mask [false, false, true, true, false]), ?_⟩
              refine H.val hf (hs.mask [false, false, true, true, false]) (v := elemPtr l4A (y3.toNat * 1)) (i := 9) rfl rfl rfl rfl (by kernel_rfl) (by kernel_rfl) (by kernel_rfl) (V.index rfl rfl rfl Try.runUnderlying99 Try.sizeOf34 (hs.rowsSomeX 4 rfl hx2) h0x2 (lt_of_get hx2) rfl) (fun a hf => ?_)
              refine H.one (i := 10) rfl (by kernel_rfl) ?_
              refine S.putBack (off := 0) 3 hf hs rfl rfl (x2 ++ [xk1]) [.slice A7 (x2 ++ [xk1]).length C3] rfl hx2 hrB2 rfl rfl rfl rfl rfl rfl Try.sizeOf34 rfl (by decide) rfl rfl (fun a w hf hs => ?_)
              replace hf := hf.tell 11 (v := .slice l4A (l4.set y3.toNat (x2 ++ [xk1])).length l4C) ((hf.get 11 (.slice l4A l4.length l4C) rfl).trans (congrArg (fun n => Value.slice l4A n l4C) List.length_set.symm))
              replace hf := hf.tell 53 (v := .slice l4A (l4.set y3.toNat (x2 ++ [xk1])).length l4C) ((hf.get 53 (.slice l4A l4.length l4C) rfl).trans (congrArg (fun n => Value.slice l4A n l4C) List.length_set.symm))
              replace hf := hf.tell 55 (v := .slice l4A (l4.set y3.toNat (x2 ++ [xk1])).length l4C) ((hf.get 55 (.slice l4A l4.length l4C) rfl).trans (congrArg (fun n => Value.slice l4A n l4C) List.length_set.symm))
              have hx1 : (l4.set y3.toNat (x2 ++ [xk1]))[y3.toNat]? = some (x2 ++ [xk1]) := List.getElem?_set_self (lt_of_get hx2)
              have hr1 : (l4as.set y3.toNat (A7, C3))[y3.toNat]? = some (A7, C3) := List.getElem?_set_self (lt_of_get hrB2)
              refine R.nil ?_
              refine X.then_ ?_
              refine ⟨(hs.mask [false, true, true, false]), ?_⟩
              refine H.done (by kernel_rfl) ?_
              refine X.blk ?_
              refine X.then_ ?_
              refine R.list ?_
              refine S.val hf hs (v := .int .i64 ((k1 + 1 : Nat) : Int)) rfl rfl rfl (V.incr rfl rfl rfl hltk1 hlenk1) (fun a hf => ?_)
              refine S.val hf hs (v := .int .i64 ((k1 + 1 : Nat) : Int)) rfl rfl rfl (V.pure rfl) (fun a hf => ?_)
              refine R.nil ?_
              refine X.then_ ?_
              exact ⟨xk1, llk1, rfl, k1 + 1, l3, l3A, l3C, (l4.set y3.toNat (x2 ++ [xk1])), l4A, l4C, (l4as.set y3.toNat (A7, C3)), range_drop hlk1, range_len hkk1, (by rw [hnext1] at h; exact h), (((((((hf.nil.cons (hf.get 36 _ rfl)).cons (hf.get 35 _ rfl)).cons (hf.get 12 _ rfl)).cons (hf.get 11 _ rfl)).cons (hf.get 2 _ rfl)).cons (hf.get 0 _ rfl)).cons (hf.get 37 _ rfl)), hs.drop.drop⟩
            · refine S.build1 hf hs rfl rfl rfl (α := Hole) xk1 rfl rfl rfl Try.runUnderlying34 Try.sizeOf76 Try.zeroValue76 rfl (by decide) (fun A6 a w hf hs => ?_)
              refine R.nil ?_
              refine X.then_ ?_
              refine ⟨(hs.mask [false, true, true, false]), ?_⟩
              refine H.one (i := 5) rfl (by kernel_rfl) ?_
              obtain ⟨B2, D2, hrB2⟩ := hs.rowAt 3 rfl hx2
              refine S.val hf hs (v := .slice B2 x2.length D2) rfl rfl rfl (V.loadRows (off := 0) 3 rfl hx2 hrB2 rfl rfl rfl Try.isAgg34 Try.sizeOf34 rfl rfl) (fun a hf => ?_)
              refine R.nil ?_
              refine X.then_ ?_
              refine ⟨(hs.mask [false, true, true, false]), ?_⟩
              refine H.one (i := 8) rfl (by kernel_rfl) ?_
              replace hs := hs.takeRow 3 rfl hx2 hrB2
              obtain ⟨hroom, h⟩ := h
              refine S.appendCells 0 hf hs rfl rfl rfl rfl rfl rfl rfl Try.underlying34 info76 rfl hroom ((hs.ownView 1 rfl).some_ (i := 0) (by simp)) (hs.ownView 1 rfl) (fun A7 C3 a w hf hs => ?_)
              refine R.nil ?_
              refine X.then_ ?_
              refine ⟨(hs.mask [false, false, true, true, false]), ?_⟩
              refine H.val hf (hs.mask [false, false, true, true, false]) (v := elemPtr l4A (y3.toNat * 1)) (i := 9) rfl rfl rfl rfl (by kernel_rfl) (by kernel_rfl) (by kernel_rfl) (V.index rfl rfl rfl Try.runUnderlying99 Try.sizeOf34 (hs.rowsSomeX 4 rfl hx2) h0x2 (lt_of_get hx2) rfl) (fun a hf => ?_)
              refine H.one (i := 10) rfl (by kernel_rfl) ?_
              refine S.putBack (off := 0) 3 hf hs rfl rfl (x2 ++ [xk1]) [.slice A7 (x2 ++ [xk1]).length C3] rfl hx2 hrB2 rfl rfl rfl rfl rfl rfl Try.sizeOf34 rfl (by decide) rfl rfl (fun a w hf hs => ?_)
              replace hf := hf.tell 11 (v := .slice l4A (l4.set y3.toNat (x2 ++ [xk1])).length l4C) ((hf.get 11 (.slice l4A l4.length l4C) rfl).trans (congrArg (fun n => Value.slice l4A n l4C) List.length_set.symm))
              replace hf := hf.tell 53 (v := .slice l4A (l4.set y3.toNat (x2 ++ [xk1])).length l4C) ((hf.get 53 (.slice l4A l4.length l4C) rfl).trans (congrArg (fun n => Value.slice l4A n l4C) List.length_set.symm))
              replace hf := hf.tell 55 (v := .slice l4A (l4.set y3.toNat (x2 ++ [xk1])).length l4C) ((hf.get 55 (.slice l4A l4.length l4C) rfl).trans (congrArg (fun n => Value.slice l4A n l4C) List.length_set.symm))
              have hx1 : (l4.set y3.toNat (x2 ++ [xk1]))[y3.toNat]? = some (x2 ++ [xk1]) := List.getElem?_set_self (lt_of_get hx2)
              have hr1 : (l4as.set y3.toNat (A7, C3))[y3.toNat]? = some (A7, C3) := List.getElem?_set_self (lt_of_get hrB2)
              refine R.nil ?_
              refine X.then_ ?_
              refine ⟨(hs.mask [false, true, true, false]), ?_⟩
              refine H.done (by kernel_rfl) ?_
              refine X.blk ?_
              refine X.then_ ?_
              refine R.list ?_
              refine S.val hf hs (v := .int .i64 ((k1 + 1 : Nat) : Int)) rfl rfl rfl (V.incr rfl rfl rfl hltk1 hlenk1) (fun a hf => ?_)
              refine S.val hf hs (v := .int .i64 ((k1 + 1 : Nat) : Int)) rfl rfl rfl (V.pure rfl) (fun a hf => ?_)
              refine R.nil ?_
              refine X.then_ ?_
              exact ⟨xk1, llk1, rfl, k1 + 1, l3, l3A, l3C, (l4.set y3.toNat (x2 ++ [xk1])), l4A, l4C, (l4as.set y3.toNat (A7, C3)), range_drop hlk1, range_len hkk1, (by rw [hnext1] at h; exact h), (((((((hf.nil.cons (hf.get 36 _ rfl)).cons (hf.get 35 _ rfl)).cons (hf.get 12 _ rfl)).cons (hf.get 11 _ rfl)).cons (hf.get 2 _ rfl)).cons (hf.get 0 _ rfl)).cons (hf.get 37 _ rfl)), hs.drop.drop⟩

set_option linter.unusedVariables false
def M_ref8_Chosen_L2 (l4 : List (List Hole)) (k2 : Nat) (xk2 : Bit) (l6 : List Job) (next2 : List Job → Prop) : Prop :=
  idx l4 (k2 : Int) fun x1 => cnd (decide ((x1.length : Int) > 0)) (must (room (l6 ++ [(⟨xk2.Name, x1⟩ : Job)]).length 40) (next2 (l6 ++ [(⟨xk2.Name, x1⟩ : Job)]))) (next2 l6)
def M_ref8_Chosen_L1 (t : (List Bit)) (near : Int) (k1 : Nat) (xk1 : Hole) (l3 : List Int) (l4 : List (List Hole)) (next1 : List Int → List (List Hole) → Prop) : Prop :=
  M_ref8_toolFor t xk1.Size near fun y3 => cnd (decide (y3 < 0)) (must (room (l3 ++ [(k1 : Int)]).length 8) (next1 (l3 ++ [(k1 : Int)]) l4)) (idx l4 y3 fun x2 => must (room (x2 ++ [xk1]).length 40) (next1 l3 (l4.set y3.toNat (x2 ++ [xk1]))))
def M_ref8_Chosen (t : (List Bit)) (l : (List Hole)) (near : Int) (Q : (List Job) → (List Int) → Int → Prop) : Prop :=
  M_ref8_CheckTools t fun y1 => cnd (y1 != 0) (Q ([] : List Job) ([] : List Int) y1) (M_ref8_CheckHoles l fun y2 => cnd (y2 != 0) (Q ([] : List Job) ([] : List Int) y2) (cnd (!(within near 0 10000)) (Q ([] : List Job) ([] : List Int) 1) (must (0 ≤ (t.length : Int) ∧ (t.length : Int) * 24 ≤ 281474976710656) (forIn' (fun k x (s : List Int × List (List Hole)) next => M_ref8_Chosen_L1 t near k x s.1 s.2 (fun l3 l4 => next (l3, l4))) (fun (s : List Int × List (List Hole)) => (fun (l3 : List Int) (l4 : List (List Hole)) => forIn' (fun k x (s : List Job) next => M_ref8_Chosen_L2 l4 k x s (fun l6 => next l6)) (fun (s : List Job) => (fun (l6 : List Job) => Q l6 l3 0) s) t 0 ([] : List Job)) s.1 s.2) l 0 (([] : List Int), (List.replicate t.length ([] : (List Hole))))))))
set_option maxHeartbeats 1000000 in
theorem R_ref8_Chosen (t : (List Bit)) (l : (List Hole)) (near : Int) (w0 : World) (tA : Option Addr) (tC : Nat) (hv_t : View w0 (old w0 none_) tA tC t) (lA : Option Addr) (lC : Nat) (hv_l : View w0 (old w0 none_) lA lC l) (Q : (List Job) → (List Int) → Int → Prop) (h : M_ref8_Chosen t l near Q) :
    Ret Try.prog 34 #[.slice tA t.length tC, .slice lA l.length lC, .int .i64 near] w0 fun v w' => ∃ (r0 : (List Job)) (r0A : Option Addr) (r0C : Nat) (r0as : List (Option Addr × Nat)) (r1 : (List Int)) (r1A : Option Addr) (r1C : Nat) (r2 : Int), v = .tuple #[.slice r0A r0.length r0C, .slice r1A r1.length r1C, .int .i64 r2] ∧ Q r0 r1 r2 ∧ Sat w0 none_ [hrows 54 76 r0A r0C r0as r0, hown 3 r1A r1C r1] w' := by
  refine fn_enter Try.func34 rfl Try.ntmps34 rfl (fs := [(0, .slice tA t.length tC), (1, .slice lA l.length lC), (2, .int .i64 near)]) rfl (fun a hf => ?_)
  have hs := Sat.start w0 none_
  unfold M_ref8_Chosen at h
  refine wp_seq ?_
  refine R.list ?_
  refine S.val hf hs (v := .slice none 0 0) rfl rfl rfl (V.pure rfl) (fun a hf => ?_)
  refine S.val hf hs (v := .slice none 0 0) rfl rfl rfl (V.pure rfl) (fun a hf => ?_)
  refine S.val hf hs (v := .int .i64 0) rfl rfl rfl (V.pure rfl) (fun a hf => ?_)
  refine R.nil ?_
  refine X.then_ ?_
  refine wp_seq ?_
  refine wp_seq ?_
  refine R.list ?_
  refine S.val hf hs (v := .slice tA t.length tC) rfl rfl rfl (V.pure rfl) (fun a hf => ?_)
  refine S.call hf rfl rfl rfl (call_fn (vs := [.slice tA t.length tC]) rfl rfl rfl Try.call70) (R_ref8_CheckTools t _ tA tC ((Ag.args _ _ _).view hv_t hs) _ h) (fun v a w' hf hr => ?_)
  obtain ⟨y1, rfl, h2, hs2⟩ := hr
  replace h := h2; replace hs := hs.call hs2; clear h2 hs2
  refine S.val hf hs (v := .int .i64 y1) rfl rfl rfl (V.pure rfl) (fun a hf => ?_)
  refine R.nil ?_
  refine X.then_ ?_
  refine wp_seq ?_
  refine R.list ?_
  refine S.val hf hs (v := .int .i64 y1) rfl rfl rfl (V.pure rfl) (fun a hf => ?_)
  refine S.val hf hs (v := .bool (y1 != 0)) rfl rfl rfl (V.pure rfl) (fun a hf => ?_)
  refine R.nil ?_
  refine X.then_ ?_
  refine C.cond hf (b := y1 != 0) rfl (fun hc => ?_) (fun hc => ?_)
  · replace h := h.1 hc
    refine wp_seq ?_
    refine R.list ?_
    refine S.val hf hs (v := .int .i64 y1) rfl rfl rfl (V.pure rfl) (fun a hf => ?_)
    refine S.val hf hs (v := .slice none 0 0) rfl rfl rfl (V.pure rfl) (fun a hf => ?_)
    refine S.val hf hs (v := .slice none 0 0) rfl rfl rfl (V.pure rfl) (fun a hf => ?_)
    refine S.val hf hs (v := .int .i64 y1) rfl rfl rfl (V.pure rfl) (fun a hf => ?_)
    refine R.nil ?_
    refine X.then_ ?_
    refine wp_ret ?_
    refine X.then_ret ?_
    replace hs := hs.nilRows (α := Job) 54 76
    replace hs := hs.nilOwn (α := Int) 3
    replace hs := hs.front 1 rfl
    replace hs := hs.take 2
    exact L.ret hf (run_results3 Try.results34 (ResIs.tmp hf rfl) (ResIs.tmp hf rfl) (ResIs.tmp hf rfl)) ⟨([] : List Job), none, 0, [], ([] : List Int), none, 0, y1, rfl, h, hs⟩
  · replace h := h.2 hc
    refine wp_skip ?_
    refine X.then_ ?_
    refine wp_seq ?_
    refine wp_seq ?_
    refine R.list ?_
    refine S.val hf hs (v := .slice lA l.length lC) rfl rfl rfl (V.pure rfl) (fun a hf => ?_)
    refine S.call hf rfl rfl rfl (call_fn (vs := [.slice lA l.length lC]) rfl rfl rfl Try.call58) (R_ref8_CheckHoles l _ lA lC ((Ag.args _ _ _).view hv_l hs) _ h) (fun v a w' hf hr => ?_)
    obtain ⟨y2, rfl, h2, hs2⟩ := hr
    replace h := h2; replace hs := hs.call hs2; clear h2 hs2
    refine S.val hf hs (v := .int .i64 y2) rfl rfl rfl (V.pure rfl) (fun a hf => ?_)
    refine R.nil ?_
    refine X.then_ ?_
    refine wp_seq ?_
    refine R.list ?_
    refine S.val hf hs (v := .int .i64 y2) rfl rfl rfl (V.pure rfl) (fun a hf => ?_)
    refine S.val hf hs (v := .bool (y2 != 0)) rfl rfl rfl (V.pure rfl) (fun a hf => ?_)
    refine R.nil ?_
    refine X.then_ ?_
    refine C.cond hf (b := y2 != 0) rfl (fun hc => ?_) (fun hc => ?_)
    · replace h := h.1 hc
      refine wp_seq ?_
      refine R.list ?_
      refine S.val hf hs (v := .int .i64 y2) rfl rfl rfl (V.pure rfl) (fun a hf => ?_)
      refine S.val hf hs (v := .slice none 0 0) rfl rfl rfl (V.pure rfl) (fun a hf => ?_)
      refine S.val hf hs (v := .slice none 0 0) rfl rfl rfl (V.pure rfl) (fun a hf => ?_)
      refine S.val hf hs (v := .int .i64 y2) rfl rfl rfl (V.pure rfl) (fun a hf => ?_)
      refine R.nil ?_
      refine X.then_ ?_
      refine wp_ret ?_
      refine X.then_ret ?_
      replace hs := hs.nilRows (α := Job) 54 76
      replace hs := hs.nilOwn (α := Int) 3
      replace hs := hs.front 1 rfl
      replace hs := hs.take 2
      exact L.ret hf (run_results3 Try.results34 (ResIs.tmp hf rfl) (ResIs.tmp hf rfl) (ResIs.tmp hf rfl)) ⟨([] : List Job), none, 0, [], ([] : List Int), none, 0, y2, rfl, h, hs⟩
    · replace h := h.2 hc
      refine wp_skip ?_
      refine X.then_ ?_
      refine wp_seq ?_
      refine wp_seq ?_
      refine R.list ?_
      refine S.val hf hs (v := .int .i64 near) rfl rfl rfl (V.pure rfl) (fun a hf => ?_)
      refine S.callv hf rfl rfl rfl (call_fn (vs := [.int .i64 near, .int .i64 0, .int .i64 10000]) rfl rfl rfl Try.call59) (C_ref8_within near 0 10000 _ ) (fun a w hf hs' => ?_)
      replace hs := hs.call hs'; clear hs'
      refine S.val hf hs (v := .bool (!(within near 0 10000))) rfl rfl rfl (V.pure rfl) (fun a hf => ?_)
      refine R.nil ?_
      refine X.then_ ?_
      refine C.cond hf (b := !(within near 0 10000)) rfl (fun hc => ?_) (fun hc => ?_)
      · replace h := h.1 hc
        refine wp_seq ?_
        refine R.list ?_
        refine S.val hf hs (v := .slice none 0 0) rfl rfl rfl (V.pure rfl) (fun a hf => ?_)
        refine S.val hf hs (v := .slice none 0 0) rfl rfl rfl (V.pure rfl) (fun a hf => ?_)
        refine S.val hf hs (v := .int .i64 1) rfl rfl rfl (V.pure rfl) (fun a hf => ?_)
        refine R.nil ?_
        refine X.then_ ?_
        refine wp_ret ?_
        refine X.then_ret ?_
        replace hs := hs.nilRows (α := Job) 54 76
        replace hs := hs.nilOwn (α := Int) 3
        replace hs := hs.front 1 rfl
        replace hs := hs.take 2
        exact L.ret hf (run_results3 Try.results34 (ResIs.tmp hf rfl) (ResIs.tmp hf rfl) (ResIs.tmp hf rfl)) ⟨([] : List Job), none, 0, [], ([] : List Int), none, 0, 1, rfl, h, hs⟩
      · replace h := h.2 hc
        refine wp_skip ?_
        refine X.then_ ?_
        refine wp_seq ?_
        refine R.list ?_
        refine S.val hf hs (v := .slice tA t.length tC) rfl rfl rfl (V.pure rfl) (fun a hf => ?_)
        refine S.val hf hs (v := .int .i64 (t.length : Int)) rfl rfl rfl (V.len rfl rfl Try.runUnderlying48) (fun a hf => ?_)
        obtain ⟨hmk, h⟩ := h
        refine S.makeRows hf hs rfl rfl rfl ([] : (List Hole)) (z := (t.length : Int)) (N := t.length) 76 rfl rfl rfl rfl Try.underlying99 info34 hmk rfl (by have := hmk.2; omega) (fun A1 a w hf hs => ?_)
        refine S.val hf hs (v := .slice A1 (List.replicate t.length ([] : (List Hole))).length t.length) rfl rfl rfl (V.pure rfl) (fun a hf => ?_)
        refine R.nil ?_
        refine X.then_ ?_
        refine wp_seq ?_
        refine R.list ?_
        refine S.val hf hs (v := .slice none 0 0) rfl rfl rfl (V.pure rfl) (fun a hf => ?_)
        refine R.nil ?_
        refine X.then_ ?_
        refine wp_seq ?_
        refine wp_seq ?_
        refine R.list ?_
        refine S.val hf hs (v := .slice lA l.length lC) rfl rfl rfl (V.pure rfl) (fun a hf => ?_)
        refine S.val hf hs (v := .int .i64 (l.length : Int)) rfl rfl rfl (V.len rfl rfl Try.runUnderlying34) (fun a hf => ?_)
        refine S.val hf hs (v := .int .i64 0) rfl rfl rfl (V.pure rfl) (fun a hf => ?_)
        refine R.nil ?_
        refine X.then_ ?_
        refine wp_block ?_
        replace hs := hs.nilOwn (α := Int) 3
        have hlenk1 := hv_l.len64
        refine C.range (fun (ll : List Hole) a w => ∃ (k1 : Nat) (l3 : List Int) (l3A : Option Addr) (l3C : Nat) (l4 : List (List Hole)) (l4A : Option Addr) (l4C : Nat) (l4as : List (Option Addr × Nat)), l.drop k1 = ll ∧ k1 + ll.length = l.length ∧ forIn' (fun k x (s : List Int × List (List Hole)) next => M_ref8_Chosen_L1 t near k x s.1 s.2 (fun l3 l4 => next (l3, l4))) (fun (s : List Int × List (List Hole)) => (fun (l3 : List Int) (l4 : List (List Hole)) => forIn' (fun k x (s : List Job) next => M_ref8_Chosen_L2 l4 k x s (fun l6 => next l6)) (fun (s : List Job) => (fun (l6 : List Job) => Q l6 l3 0) s) t 0 ([] : List Job)) s.1 s.2) ll k1 (l3, l4) ∧ FrOk 90 [(37, .int .i64 (k1 : Int)), (0, .slice tA t.length tC), (2, .int .i64 near), (11, .slice l4A l4.length l4C), (12, .slice l3A l3.length l3C), (35, .slice lA l.length lC), (36, .int .i64 (l.length : Int))] a ∧ Sat w0 none_ [hown 3 l3A l3C l3, hrows 34 76 l4A l4C l4as l4] w) l ⟨0, ([] : List Int), none, 0, (List.replicate t.length ([] : (List Hole))), A1, t.length, (List.replicate t.length ((none : Option Addr), 0)), rfl, Nat.zero_add _, h, (((((((hf.nil.cons (hf.get 36 _ rfl)).cons (hf.get 35 _ rfl)).cons (hf.get 12 _ rfl)).cons (hf.get 11 _ rfl)).cons (hf.get 2 _ rfl)).cons (hf.get 0 _ rfl)).cons (hf.get 37 _ rfl)), hs⟩ ?_
        clear h hf hs
        rintro llk1 a w ⟨k1, l3, l3A, l3C, l4, l4A, l4C, l4as, hlk1, hkk1, h, hf, hs⟩
        cases llk1 with
        | nil =>
          have hc := range_done hkk1
          replace h : (fun (l3 : List Int) (l4 : List (List Hole)) => forIn' (fun k x (s : List Job) next => M_ref8_Chosen_L2 l4 k x s (fun l6 => next l6)) (fun (s : List Job) => (fun (l6 : List Job) => Q l6 l3 0) s) t 0 ([] : List Job)) l3 l4 := h
          refine wp_seq ?_
          refine R.list ?_
          refine S.val hf hs (v := .bool false) rfl rfl rfl (V.cmp false rfl rfl rfl rfl hc) (fun a hf => ?_)
          refine R.nil ?_
          refine X.then_ ?_
          refine wp_seq ?_
          refine C.no hf rfl ?_
          refine wp_exit ?_
          refine X.then_exit ?_
          refine X.then_exit ?_
          refine X.blk_exit ?_
          refine X.then_ ?_
          refine wp_seq ?_
          refine R.list ?_
          refine S.val hf hs (v := .slice none 0 0) rfl rfl rfl (V.pure rfl) (fun a hf => ?_)
          refine R.nil ?_
          refine X.then_ ?_
          refine wp_seq ?_
          refine wp_seq ?_
          refine R.list ?_
          refine S.val hf hs (v := .slice tA t.length tC) rfl rfl rfl (V.pure rfl) (fun a hf => ?_)
          refine S.val hf hs (v := .int .i64 (t.length : Int)) rfl rfl rfl (V.len rfl rfl Try.runUnderlying48) (fun a hf => ?_)
          refine S.val hf hs (v := .int .i64 0) rfl rfl rfl (V.pure rfl) (fun a hf => ?_)
          refine R.nil ?_
          refine X.then_ ?_
          refine wp_block ?_
          replace hs := hs.nilRows (α := Job) 54 76
          replace hs := hs.fromRows 2 rfl
          have hlenk2 := hv_t.len64
          refine C.range (fun (ll : List Bit) a w => ∃ (k2 : Nat) (l6 : List Job) (l6A : Option Addr) (l6C : Nat) (l6as : List (Option Addr × Nat)), t.drop k2 = ll ∧ k2 + ll.length = t.length ∧ forIn' (fun k x (s : List Job) next => M_ref8_Chosen_L2 l4 k x s (fun l6 => next l6)) (fun (s : List Job) => (fun (l6 : List Job) => Q l6 l3 0) s) ll k2 l6 ∧ FrOk 90 [(66, .int .i64 (k2 : Int)), (11, .slice l4A l4.length l4C), (12, .slice l3A l3.length l3C), (16, .slice l6A l6.length l6C), (64, .slice tA t.length tC), (65, .int .i64 (t.length : Int))] a ∧ Sat w0 none_ [hrows 54 76 l6A l6C l6as l6, hown 3 l3A l3C l3, hrowsF 34 76 l4A l4C l4as l4 k2] w) t ⟨0, ([] : List Job), none, 0, ([] : List (Option Addr × Nat)), rfl, Nat.zero_add _, h, ((((((hf.nil.cons (hf.get 65 _ rfl)).cons (hf.get 64 _ rfl)).cons (hf.get 16 _ rfl)).cons (hf.get 12 _ rfl)).cons (hf.get 11 _ rfl)).cons (hf.get 66 _ rfl)), hs⟩ ?_
          clear h hf hs
          rintro llk2 a w ⟨k2, l6, l6A, l6C, l6as, hlk2, hkk2, h, hf, hs⟩
          cases llk2 with
          | nil =>
            have hc := range_done hkk2
            replace h : (fun (l6 : List Job) => Q l6 l3 0) l6 := h
            refine wp_seq ?_
            refine R.list ?_
            refine S.val hf hs (v := .bool false) rfl rfl rfl (V.cmp false rfl rfl rfl rfl hc) (fun a hf => ?_)
            refine R.nil ?_
            refine X.then_ ?_
            refine wp_seq ?_
            refine C.no hf rfl ?_
            refine wp_exit ?_
            refine X.then_exit ?_
            refine X.then_exit ?_
            refine X.blk_exit ?_
            refine X.then_ ?_
            refine wp_seq ?_
            refine R.list ?_
            refine S.val hf hs (v := .slice l6A l6.length l6C) rfl rfl rfl (V.pure rfl) (fun a hf => ?_)
            refine S.val hf hs (v := .slice l3A l3.length l3C) rfl rfl rfl (V.pure rfl) (fun a hf => ?_)
            refine S.val hf hs (v := .slice l6A l6.length l6C) rfl rfl rfl (V.pure rfl) (fun a hf => ?_)
            refine S.val hf hs (v := .slice l3A l3.length l3C) rfl rfl rfl (V.pure rfl) (fun a hf => ?_)
            refine S.val hf hs (v := .int .i64 0) rfl rfl rfl (V.pure rfl) (fun a hf => ?_)
            refine R.nil ?_
            refine X.then_ ?_
            refine wp_ret ?_
            replace hs := hs.front 1 rfl
            replace hs := hs.front 1 rfl
            replace hs := hs.take 2
            exact L.ret hf (run_results3 Try.results34 (ResIs.tmp hf rfl) (ResIs.tmp hf rfl) (ResIs.tmp hf rfl)) ⟨l6, l6A, l6C, l6as, l3, l3A, l3C, 0, rfl, h, hs⟩
          | cons xk2 llk2 =>
            have hltk2 := range_lt hkk2; have hc := range_go hkk2; have hxk2 := range_get hlk2
            obtain ⟨next2, hnext2⟩ : ∃ X : List Job → Prop, X = (fun l6 => forIn' (fun k x (s : List Job) next => M_ref8_Chosen_L2 l4 k x s (fun l6 => next l6)) (fun (s : List Job) => (fun (l6 : List Job) => Q l6 l3 0) s) llk2 (k2 + 1) l6) := ⟨_, rfl⟩
            replace h : M_ref8_Chosen_L2 l4 k2 xk2 l6 next2 := by rw [hnext2]; exact h
            unfold M_ref8_Chosen_L2 at h
            refine wp_seq ?_
            refine R.list ?_
            refine S.val hf hs (v := .bool true) rfl rfl rfl (V.cmp true rfl rfl rfl rfl hc) (fun a hf => ?_)
            refine R.nil ?_
            refine X.then_ ?_
            refine wp_seq ?_
            refine C.yes hf rfl ?_
            refine wp_skip ?_
            refine X.then_ ?_
            refine wp_seq ?_
            refine wp_block ?_
            refine wp_seq ?_
            refine R.list ?_
            refine S.val hf hs (v := .int .i64 (k2 : Int)) rfl rfl rfl (V.pure rfl) (fun a hf => ?_)
            refine S.val hf hs (v := elemPtr tA (k2 * 4)) rfl rfl rfl (V.index rfl rfl rfl Try.runUnderlying48 Try.sizeOf56 (hv_t.some_ (lt_of_get hxk2)) (Int.natCast_nonneg _) (lt_of_get hxk2) rfl) (fun a hf => ?_)
            refine S.val hf hs (v := .agg #[.string (ba xk2.Name), .int .i64 xk2.Size, .int .i64 xk2.Life, .int .i64 xk2.Stack]) rfl rfl rfl (V.loadEl (off := 0) (Ag.args _ _ _) (hv_t.flat hxk2) rfl rfl rfl Try.isAgg56 Try.sizeOf56 rfl rfl) (fun a hf => ?_)
            refine S.alloc hf hs rfl rfl rfl [.string (ba []), .int .i64 0, .int .i64 0, .int .i64 0] rfl Try.zeroValue56 rfl (fun g1 a w hf hs => ?_)
            refine S.val hf hs (v := .int .i64 (k2 : Int)) rfl rfl rfl (V.pure rfl) (fun a hf => ?_)
            refine S.storeBox 0 hf hs rfl rfl [.string (ba xk2.Name), .int .i64 xk2.Size, .int .i64 xk2.Life, .int .i64 xk2.Stack] [.string (ba xk2.Name), .int .i64 xk2.Size, .int .i64 xk2.Life, .int .i64 xk2.Stack] rfl rfl rfl rfl rfl Try.sizeOf56 rfl rfl rfl rfl (fun a w hf hs => ?_)
            refine R.nil ?_
            refine X.then_ ?_
            refine wp_seq ?_
            refine R.list ?_
            refine S.val hf hs (v := .slice l4A l4.length l4C) rfl rfl rfl (V.pure rfl) (fun a hf => ?_)
            refine S.val hf hs (v := .int .i64 (k2 : Int)) rfl rfl rfl (V.pure rfl) (fun a hf => ?_)
            obtain ⟨h0x1, x1, hx1, h⟩ := h
            refine S.val hf hs (v := elemPtr l4A (k2 * 1)) rfl rfl rfl (V.index rfl rfl rfl Try.runUnderlying99 Try.sizeOf34 (hs.rowsSomeX 3 rfl hx1) (Int.natCast_nonneg _) (lt_of_get hx1) rfl) (fun a hf => ?_)
            obtain ⟨B1, D1, hrB1⟩ := hs.rowAtF 3 rfl hx1
            refine S.val hf hs (v := .slice B1 x1.length D1) rfl rfl rfl (V.loadRowsF (off := 0) 3 rfl hx1 hrB1 rfl rfl rfl Try.isAgg34 Try.sizeOf34 rfl rfl) (fun a hf => ?_)
            refine S.val hf hs (v := .int .i64 (x1.length : Int)) rfl rfl rfl (V.len rfl rfl Try.runUnderlying34) (fun a hf => ?_)
            refine S.val hf hs (v := .bool (decide ((x1.length : Int) > 0))) rfl rfl rfl (V.pure rfl) (fun a hf => ?_)
            refine R.nil ?_
            refine X.then_ ?_
            refine C.cond hf (b := decide ((x1.length : Int) > 0)) rfl (fun hc => ?_) (fun hc => ?_)
            · replace h := h.1 hc
              refine H.start (S := Sat w0 none_ [hbox g1 56 [.string (ba xk2.Name), .int .i64 xk2.Size, .int .i64 xk2.Life, .int .i64 xk2.Stack], hown 3 l3A l3C l3]) mo ?_
              replace hs := hs.drew
              refine H.val hf (hs.mask [true, false, true, false]) (v := .slice l6A l6.length l6C) (i := 0) rfl rfl rfl rfl (by kernel_rfl) (by kernel_rfl) (by kernel_rfl) (V.pure rfl) (fun a hf => ?_)
              refine H.val hf (hs.mask [true, false, true, false]) (v := .pointer (some ⟨g1, 0, none⟩)) (i := 1) rfl rfl rfl rfl (by kernel_rfl) (by kernel_rfl) (by kernel_rfl) (V.fieldBox rfl rfl Try.runUnderlying56 rfl Try.sizeOf9 rfl rfl) (fun a hf => ?_)
              refine H.val hf (hs.mask [true, false, true, false]) (v := .string (ba xk2.Name)) (i := 2) rfl rfl rfl rfl (by kernel_rfl) (by kernel_rfl) (by kernel_rfl) (V.loadBox 0 rfl rfl rfl Try.isAgg9 Try.sizeOf9 rfl rfl) (fun a hf => ?_)
              refine H.val hf (hs.mask [true, false, true, false]) (v := .slice l4A l4.length l4C) (i := 3) rfl rfl rfl rfl (by kernel_rfl) (by kernel_rfl) (by kernel_rfl) (V.pure rfl) (fun a hf => ?_)
              refine H.val hf (hs.mask [true, false, true, false]) (v := .int .i64 (k2 : Int)) (i := 4) rfl rfl rfl rfl (by kernel_rfl) (by kernel_rfl) (by kernel_rfl) (V.pure rfl) (fun a hf => ?_)
              refine H.val hf (hs.mask [true, false, true, false]) (v := elemPtr l4A (k2 * 1)) (i := 5) rfl rfl rfl rfl (by kernel_rfl) (by kernel_rfl) (by kernel_rfl) (V.index rfl rfl rfl Try.runUnderlying99 Try.sizeOf34 (hs.rowsSomeX 3 rfl hx1) (Int.natCast_nonneg _) (lt_of_get hx1) rfl) (fun a hf => ?_)
              refine H.one (i := 6) rfl (by kernel_rfl) ?_
              refine S.val hf hs (v := .slice B1 x1.length D1) rfl rfl rfl (V.loadRowsF (off := 0) 3 rfl hx1 hrB1 rfl rfl rfl Try.isAgg34 Try.sizeOf34 rfl rfl) (fun a hf => ?_)
              refine R.nil ?_
              refine X.then_ ?_
              refine ⟨(hs.mask [true, false, true, false]), ?_⟩
              refine H.one (i := 7) rfl (by kernel_rfl) ?_
              refine S.val hf hs (v := .agg #[.string (ba xk2.Name), .slice B1 x1.length D1]) rfl rfl rfl (V.build (places := #[(0, 1), (1, 1)]) rfl Try.zeroValue54 Try.runUnderlying54 (by intro w; simp [Try.sizeOf34, Try.sizeOf9]) rfl rfl) (fun a hf => ?_)
              refine R.nil ?_
              refine X.then_ ?_
              refine ⟨(hs.mask [true, false, true, false]), ?_⟩
              refine H.one (i := 8) rfl (by kernel_rfl) ?_
              replace hs := hs.takeRowF 3 rfl hx1 hrB1
              refine S.build1 hf hs rfl rfl rfl (α := JobSh) (⟨xk2.Name, ⟨B1, x1.length, D1⟩⟩ : JobSh) rfl rfl rfl Try.runUnderlying49 Try.sizeOf54 Try.zeroValue54 rfl (by decide) (fun A2 a w hf hs => ?_)
              refine R.nil ?_
              refine X.then_ ?_
              refine ⟨(hs.mask [false, false, true, false, true, false]), ?_⟩
              refine H.one (i := 9) rfl (by kernel_rfl) ?_
              replace hs := hs.front 1 rfl
              obtain ⟨hroom, h⟩ := h
              refine S.appendRow 2 hf hs rfl rfl rfl (⟨xk2.Name, x1⟩ : Job) rfl rfl rfl rfl rfl Try.underlying49 info54 rfl hroom ((hs.ownView 1 rfl).some_ (i := 0) (by simp)) (hs.ownView 1 rfl) (fun A3 C1 a w hf hs => ?_)
              replace hs := hs.drop
              refine R.nil ?_
              refine X.then_ ?_
              refine ⟨(hs.mask [true, false, true, false]), ?_⟩
              refine H.val hf (hs.mask [true, false, true, false]) (v := .slice A3 (l6 ++ [(⟨xk2.Name, x1⟩ : Job)]).length C1) (i := 10) rfl rfl rfl rfl (by kernel_rfl) (by kernel_rfl) (by kernel_rfl) (V.pure rfl) (fun a hf => ?_)
              refine H.done (by kernel_rfl) ?_
              refine X.blk ?_
              refine X.then_ ?_
              refine R.list ?_
              refine S.val hf hs (v := .int .i64 ((k2 + 1 : Nat) : Int)) rfl rfl rfl (V.incr rfl rfl rfl hltk2 hlenk2) (fun a hf => ?_)
              refine S.val hf hs (v := .int .i64 ((k2 + 1 : Nat) : Int)) rfl rfl rfl (V.pure rfl) (fun a hf => ?_)
              refine R.nil ?_
              refine X.then_ ?_
              exact ⟨xk2, llk2, rfl, k2 + 1, (l6 ++ [(⟨xk2.Name, x1⟩ : Job)]), A3, C1, (l6as ++ [(B1, D1)]), range_drop hlk2, range_len hkk2, (by rw [hnext2] at h; exact h), ((((((hf.nil.cons (hf.get 65 _ rfl)).cons (hf.get 64 _ rfl)).cons (hf.get 16 _ rfl)).cons (hf.get 12 _ rfl)).cons (hf.get 11 _ rfl)).cons (hf.get 66 _ rfl)), hs.drop⟩
            · replace h := h.2 hc
              refine wp_skip ?_
              refine X.blk ?_
              refine X.then_ ?_
              refine R.list ?_
              refine S.val hf hs (v := .int .i64 ((k2 + 1 : Nat) : Int)) rfl rfl rfl (V.incr rfl rfl rfl hltk2 hlenk2) (fun a hf => ?_)
              refine S.val hf hs (v := .int .i64 ((k2 + 1 : Nat) : Int)) rfl rfl rfl (V.pure rfl) (fun a hf => ?_)
              refine R.nil ?_
              refine X.then_ ?_
              replace hs := hs.fromNext 3 rfl hx1
              exact ⟨xk2, llk2, rfl, k2 + 1, l6, l6A, l6C, l6as, range_drop hlk2, range_len hkk2, (by rw [hnext2] at h; exact h), ((((((hf.nil.cons (hf.get 65 _ rfl)).cons (hf.get 64 _ rfl)).cons (hf.get 16 _ rfl)).cons (hf.get 12 _ rfl)).cons (hf.get 11 _ rfl)).cons (hf.get 66 _ rfl)), hs.drop⟩
        | cons xk1 llk1 =>
          have hltk1 := range_lt hkk1; have hc := range_go hkk1; have hxk1 := range_get hlk1
          obtain ⟨next1, hnext1⟩ : ∃ X : List Int → List (List Hole) → Prop, X = (fun l3 l4 => forIn' (fun k x (s : List Int × List (List Hole)) next => M_ref8_Chosen_L1 t near k x s.1 s.2 (fun l3 l4 => next (l3, l4))) (fun (s : List Int × List (List Hole)) => (fun (l3 : List Int) (l4 : List (List Hole)) => forIn' (fun k x (s : List Job) next => M_ref8_Chosen_L2 l4 k x s (fun l6 => next l6)) (fun (s : List Job) => (fun (l6 : List Job) => Q l6 l3 0) s) t 0 ([] : List Job)) s.1 s.2) llk1 (k1 + 1) (l3, l4)) := ⟨_, rfl⟩
          replace h : M_ref8_Chosen_L1 t near k1 xk1 l3 l4 next1 := by rw [hnext1]; exact h
          unfold M_ref8_Chosen_L1 at h
          refine wp_seq ?_
          refine R.list ?_
          refine S.val hf hs (v := .bool true) rfl rfl rfl (V.cmp true rfl rfl rfl rfl hc) (fun a hf => ?_)
          refine R.nil ?_
          refine X.then_ ?_
          refine wp_seq ?_
          refine C.yes hf rfl ?_
          refine wp_skip ?_
          refine X.then_ ?_
          refine wp_seq ?_
          refine wp_block ?_
          refine wp_seq ?_
          refine R.list ?_
          refine S.val hf hs (v := .int .i64 (k1 : Int)) rfl rfl rfl (V.pure rfl) (fun a hf => ?_)
          refine S.val hf hs (v := elemPtr lA (k1 * 5)) rfl rfl rfl (V.index rfl rfl rfl Try.runUnderlying34 Try.sizeOf76 (hv_l.some_ (lt_of_get hxk1)) (Int.natCast_nonneg _) (lt_of_get hxk1) rfl) (fun a hf => ?_)
          refine S.val hf hs (v := .agg #[.int .i64 xk1.At.X, .int .i64 xk1.At.Y, .int .i64 xk1.Size, .int .i64 xk1.Depth, .bool xk1.Plated]) rfl rfl rfl (V.loadEl (off := 0) (Ag.args _ _ _) (hv_l.flat hxk1) rfl rfl rfl Try.isAgg76 Try.sizeOf76 rfl rfl) (fun a hf => ?_)
          refine S.alloc hf hs rfl rfl rfl [.int .i64 0, .int .i64 0, .int .i64 0, .int .i64 0, .bool false] rfl Try.zeroValue76 rfl (fun g2 a w hf hs => ?_)
          refine S.val hf hs (v := .int .i64 (k1 : Int)) rfl rfl rfl (V.pure rfl) (fun a hf => ?_)
          refine S.storeBox 0 hf hs rfl rfl [.int .i64 xk1.At.X, .int .i64 xk1.At.Y, .int .i64 xk1.Size, .int .i64 xk1.Depth, .bool xk1.Plated] [.int .i64 xk1.At.X, .int .i64 xk1.At.Y, .int .i64 xk1.Size, .int .i64 xk1.Depth, .bool xk1.Plated] rfl rfl rfl rfl rfl Try.sizeOf76 rfl rfl rfl rfl (fun a w hf hs => ?_)
          refine R.nil ?_
          refine X.then_ ?_
          refine wp_seq ?_
          refine R.list ?_
          refine S.val hf hs (v := .slice tA t.length tC) rfl rfl rfl (V.pure rfl) (fun a hf => ?_)
          refine S.val hf hs (v := .pointer (some ⟨g2, 2, none⟩)) rfl rfl rfl (V.fieldBox rfl rfl Try.runUnderlying76 rfl Try.sizeOf3 rfl rfl) (fun a hf => ?_)
          refine S.val hf hs (v := .int .i64 xk1.Size) rfl rfl rfl (V.loadBox 0 rfl rfl rfl Try.isAgg3 Try.sizeOf3 rfl rfl) (fun a hf => ?_)
          refine S.val hf hs (v := .int .i64 near) rfl rfl rfl (V.pure rfl) (fun a hf => ?_)
          refine S.call hf rfl rfl rfl (call_fn (vs := [.slice tA t.length tC, .int .i64 xk1.Size, .int .i64 near]) rfl rfl rfl Try.call71) (R_ref8_toolFor t xk1.Size near _ tA tC ((Ag.args _ _ _).view hv_t hs) _ h) (fun v a w' hf hr => ?_)
          obtain ⟨y3, rfl, h2, hs2⟩ := hr
          replace h := h2; replace hs := hs.call hs2; clear h2 hs2
          refine S.val hf hs (v := .int .i64 y3) rfl rfl rfl (V.pure rfl) (fun a hf => ?_)
          refine R.nil ?_
          refine X.then_ ?_
          refine wp_seq ?_
          refine R.list ?_
          refine S.val hf hs (v := .int .i64 y3) rfl rfl rfl (V.pure rfl) (fun a hf => ?_)
          refine S.val hf hs (v := .bool (decide (y3 < 0))) rfl rfl rfl (V.pure rfl) (fun a hf => ?_)
          refine R.nil ?_
          refine X.then_ ?_
          refine C.cond hf (b := decide (y3 < 0)) rfl (fun hc => ?_) (fun hc => ?_)
          · replace h := h.1 hc
            refine R.list ?_
            refine S.val hf hs (v := .slice l3A l3.length l3C) rfl rfl rfl (V.pure rfl) (fun a hf => ?_)
            refine S.val hf hs (v := .int .i64 (k1 : Int)) rfl rfl rfl (V.pure rfl) (fun a hf => ?_)
            refine S.build1 hf hs rfl rfl rfl (α := Int) (k1 : Int) rfl rfl rfl Try.runUnderlying28 Try.sizeOf3 Try.zeroValue3 rfl (by decide) (fun A4 a w hf hs => ?_)
            obtain ⟨hroom, h⟩ := h
            refine S.appendCells 2 hf hs rfl rfl rfl rfl rfl rfl rfl Try.underlying28 info3 rfl hroom ((hs.ownView 0 rfl).some_ (i := 0) (by simp)) (hs.ownView 0 rfl) (fun A5 C2 a w hf hs => ?_)
            replace hs := hs.drop
            refine S.val hf hs (v := .slice A5 (l3 ++ [(k1 : Int)]).length C2) rfl rfl rfl (V.pure rfl) (fun a hf => ?_)
            refine R.nil ?_
            refine X.blk ?_
            refine X.then_ ?_
            refine R.list ?_
            refine S.val hf hs (v := .int .i64 ((k1 + 1 : Nat) : Int)) rfl rfl rfl (V.incr rfl rfl rfl hltk1 hlenk1) (fun a hf => ?_)
            refine S.val hf hs (v := .int .i64 ((k1 + 1 : Nat) : Int)) rfl rfl rfl (V.pure rfl) (fun a hf => ?_)
            refine R.nil ?_
            refine X.then_ ?_
            exact ⟨xk1, llk1, rfl, k1 + 1, (l3 ++ [(k1 : Int)]), A5, C2, l4, l4A, l4C, l4as, range_drop hlk1, range_len hkk1, (by rw [hnext1] at h; exact h), (((((((hf.nil.cons (hf.get 36 _ rfl)).cons (hf.get 35 _ rfl)).cons (hf.get 12 _ rfl)).cons (hf.get 11 _ rfl)).cons (hf.get 2 _ rfl)).cons (hf.get 0 _ rfl)).cons (hf.get 37 _ rfl)), hs.drop⟩
          · replace h := h.2 hc
            refine H.start (S := Sat w0 none_ [hbox g2 76 [.int .i64 xk1.At.X, .int .i64 xk1.At.Y, .int .i64 xk1.Size, .int .i64 xk1.Depth, .bool xk1.Plated], hown 3 l3A l3C l3]) mo ?_
            replace hs := hs.drew
            refine H.val hf (hs.mask [true, true, false]) (v := .slice l4A l4.length l4C) (i := 0) rfl rfl rfl rfl (by kernel_rfl) (by kernel_rfl) (by kernel_rfl) (V.pure rfl) (fun a hf => ?_)
            refine H.val hf (hs.mask [true, true, false]) (v := .int .i64 y3) (i := 1) rfl rfl rfl rfl (by kernel_rfl) (by kernel_rfl) (by kernel_rfl) (V.pure rfl) (fun a hf => ?_)
            refine H.val hf (hs.mask [true, true, false]) (v := .slice l4A l4.length l4C) (i := 2) rfl rfl rfl rfl (by kernel_rfl) (by kernel_rfl) (by kernel_rfl) (V.pure rfl) (fun a hf => ?_)
            refine H.val hf (hs.mask [true, true, false]) (v := .int .i64 y3) (i := 3) rfl rfl rfl rfl (by kernel_rfl) (by kernel_rfl) (by kernel_rfl) (V.pure rfl) (fun a hf => ?_)
            obtain ⟨h0x2, x2, hx2, h⟩ := h
            refine H.val hf (hs.mask [true, true, false]) (v := elemPtr l4A (y3.toNat * 1)) (i := 4) rfl rfl rfl rfl (by kernel_rfl) (by kernel_rfl) (by kernel_rfl) (V.index rfl rfl rfl Try.runUnderlying99 Try.sizeOf34 (hs.rowsSome 2 rfl hx2) h0x2 (lt_of_get hx2) rfl) (fun a hf => ?_)
            refine H.val hf (hs.mask [true, true, false]) (v := .agg #[.int .i64 xk1.At.X, .int .i64 xk1.At.Y, .int .i64 xk1.Size, .int .i64 xk1.Depth, .bool xk1.Plated]) (i := 6) rfl rfl rfl rfl (by kernel_rfl) (by kernel_rfl) (by kernel_rfl) (V.loadBox 0 rfl rfl rfl Try.isAgg76 Try.sizeOf76 rfl rfl) (fun a hf => ?_)
            refine H.each2 (i0 := 5) (i1 := 7) rfl rfl (by kernel_rfl) ?_ ?_
            · obtain ⟨B2, D2, hrB2⟩ := hs.rowAt 2 rfl hx2
              refine S.val hf hs (v := .slice B2 x2.length D2) rfl rfl rfl (V.loadRows (off := 0) 2 rfl hx2 hrB2 rfl rfl rfl Try.isAgg34 Try.sizeOf34 rfl rfl) (fun a hf => ?_)
              refine R.nil ?_
              refine X.then_ ?_
              refine ⟨(hs.mask [true, true, false]), ?_⟩
              refine H.one (i := 7) rfl (by kernel_rfl) ?_
              refine S.build1 hf hs rfl rfl rfl (α := Hole) xk1 rfl rfl rfl Try.runUnderlying34 Try.sizeOf76 Try.zeroValue76 rfl (by decide) (fun A6 a w hf hs => ?_)
              refine R.nil ?_
              refine X.then_ ?_
              refine ⟨(hs.mask [false, true, true, false]), ?_⟩
              refine H.one (i := 8) rfl (by kernel_rfl) ?_
              replace hs := hs.takeRow 3 rfl hx2 hrB2
              obtain ⟨hroom, h⟩ := h
              refine S.appendCells 0 hf hs rfl rfl rfl rfl rfl rfl rfl Try.underlying34 info76 rfl hroom ((hs.ownView 1 rfl).some_ (i := 0) (by simp)) (hs.ownView 1 rfl) (fun A7 C3 a w hf hs => ?_)
              refine R.nil ?_
              refine X.then_ ?_
              refine ⟨(hs.mask [false, false, true, true, false]), ?_⟩
              refine H.val hf (hs.mask [false, false, true, true, false]) (v := elemPtr l4A (y3.toNat * 1)) (i := 9) rfl rfl rfl rfl (by kernel_rfl) (by kernel_rfl) (by kernel_rfl) (V.index rfl rfl rfl Try.runUnderlying99 Try.sizeOf34 (hs.rowsSomeX 4 rfl hx2) h0x2 (lt_of_get hx2) rfl) (fun a hf => ?_)
              refine H.one (i := 10) rfl (by kernel_rfl) ?_
              refine S.putBack (off := 0) 3 hf hs rfl rfl (x2 ++ [xk1]) [.slice A7 (x2 ++ [xk1]).length C3] rfl hx2 hrB2 rfl rfl rfl rfl rfl rfl Try.sizeOf34 rfl (by decide) rfl rfl (fun a w hf hs => ?_)
              replace hf := hf.tell 11 (v := .slice l4A (l4.set y3.toNat (x2 ++ [xk1])).length l4C) ((hf.get 11 (.slice l4A l4.length l4C) rfl).trans (congrArg (fun n => Value.slice l4A n l4C) List.length_set.symm))
              replace hf := hf.tell 53 (v := .slice l4A (l4.set y3.toNat (x2 ++ [xk1])).length l4C) ((hf.get 53 (.slice l4A l4.length l4C) rfl).trans (congrArg (fun n => Value.slice l4A n l4C) List.length_set.symm))
              replace hf := hf.tell 55 (v := .slice l4A (l4.set y3.toNat (x2 ++ [xk1])).length l4C) ((hf.get 55 (.slice l4A l4.length l4C) rfl).trans (congrArg (fun n => Value.slice l4A n l4C) List.length_set.symm))
              have hx1 : (l4.set y3.toNat (x2 ++ [xk1]))[y3.toNat]? = some (x2 ++ [xk1]) := List.getElem?_set_self (lt_of_get hx2)
              have hr1 : (l4as.set y3.toNat (A7, C3))[y3.toNat]? = some (A7, C3) := List.getElem?_set_self (lt_of_get hrB2)
              refine R.nil ?_
              refine X.then_ ?_
              refine ⟨(hs.mask [false, true, true, false]), ?_⟩
              refine H.done (by kernel_rfl) ?_
              refine X.blk ?_
              refine X.then_ ?_
              refine R.list ?_
              refine S.val hf hs (v := .int .i64 ((k1 + 1 : Nat) : Int)) rfl rfl rfl (V.incr rfl rfl rfl hltk1 hlenk1) (fun a hf => ?_)
              refine S.val hf hs (v := .int .i64 ((k1 + 1 : Nat) : Int)) rfl rfl rfl (V.pure rfl) (fun a hf => ?_)
              refine R.nil ?_
              refine X.then_ ?_
              exact ⟨xk1, llk1, rfl, k1 + 1, l3, l3A, l3C, (l4.set y3.toNat (x2 ++ [xk1])), l4A, l4C, (l4as.set y3.toNat (A7, C3)), range_drop hlk1, range_len hkk1, (by rw [hnext1] at h; exact h), (((((((hf.nil.cons (hf.get 36 _ rfl)).cons (hf.get 35 _ rfl)).cons (hf.get 12 _ rfl)).cons (hf.get 11 _ rfl)).cons (hf.get 2 _ rfl)).cons (hf.get 0 _ rfl)).cons (hf.get 37 _ rfl)), hs.drop.drop⟩
            · refine S.build1 hf hs rfl rfl rfl (α := Hole) xk1 rfl rfl rfl Try.runUnderlying34 Try.sizeOf76 Try.zeroValue76 rfl (by decide) (fun A6 a w hf hs => ?_)
              refine R.nil ?_
              refine X.then_ ?_
              refine ⟨(hs.mask [false, true, true, false]), ?_⟩
              refine H.one (i := 5) rfl (by kernel_rfl) ?_
              obtain ⟨B2, D2, hrB2⟩ := hs.rowAt 3 rfl hx2
              refine S.val hf hs (v := .slice B2 x2.length D2) rfl rfl rfl (V.loadRows (off := 0) 3 rfl hx2 hrB2 rfl rfl rfl Try.isAgg34 Try.sizeOf34 rfl rfl) (fun a hf => ?_)
              refine R.nil ?_
              refine X.then_ ?_
              refine ⟨(hs.mask [false, true, true, false]), ?_⟩
              refine H.one (i := 8) rfl (by kernel_rfl) ?_
              replace hs := hs.takeRow 3 rfl hx2 hrB2
              obtain ⟨hroom, h⟩ := h
              refine S.appendCells 0 hf hs rfl rfl rfl rfl rfl rfl rfl Try.underlying34 info76 rfl hroom ((hs.ownView 1 rfl).some_ (i := 0) (by simp)) (hs.ownView 1 rfl) (fun A7 C3 a w hf hs => ?_)
              refine R.nil ?_
              refine X.then_ ?_
              refine ⟨(hs.mask [false, false, true, true, false]), ?_⟩
              refine H.val hf (hs.mask [false, false, true, true, false]) (v := elemPtr l4A (y3.toNat * 1)) (i := 9) rfl rfl rfl rfl (by kernel_rfl) (by kernel_rfl) (by kernel_rfl) (V.index rfl rfl rfl Try.runUnderlying99 Try.sizeOf34 (hs.rowsSomeX 4 rfl hx2) h0x2 (lt_of_get hx2) rfl) (fun a hf => ?_)
              refine H.one (i := 10) rfl (by kernel_rfl) ?_
              refine S.putBack (off := 0) 3 hf hs rfl rfl (x2 ++ [xk1]) [.slice A7 (x2 ++ [xk1]).length C3] rfl hx2 hrB2 rfl rfl rfl rfl rfl rfl Try.sizeOf34 rfl (by decide) rfl rfl (fun a w hf hs => ?_)
              replace hf := hf.tell 11 (v := .slice l4A (l4.set y3.toNat (x2 ++ [xk1])).length l4C) ((hf.get 11 (.slice l4A l4.length l4C) rfl).trans (congrArg (fun n => Value.slice l4A n l4C) List.length_set.symm))
              replace hf := hf.tell 53 (v := .slice l4A (l4.set y3.toNat (x2 ++ [xk1])).length l4C) ((hf.get 53 (.slice l4A l4.length l4C) rfl).trans (congrArg (fun n => Value.slice l4A n l4C) List.length_set.symm))
              replace hf := hf.tell 55 (v := .slice l4A (l4.set y3.toNat (x2 ++ [xk1])).length l4C) ((hf.get 55 (.slice l4A l4.length l4C) rfl).trans (congrArg (fun n => Value.slice l4A n l4C) List.length_set.symm))
              have hx1 : (l4.set y3.toNat (x2 ++ [xk1]))[y3.toNat]? = some (x2 ++ [xk1]) := List.getElem?_set_self (lt_of_get hx2)
              have hr1 : (l4as.set y3.toNat (A7, C3))[y3.toNat]? = some (A7, C3) := List.getElem?_set_self (lt_of_get hrB2)
              refine R.nil ?_
              refine X.then_ ?_
              refine ⟨(hs.mask [false, true, true, false]), ?_⟩
              refine H.done (by kernel_rfl) ?_
              refine X.blk ?_
              refine X.then_ ?_
              refine R.list ?_
              refine S.val hf hs (v := .int .i64 ((k1 + 1 : Nat) : Int)) rfl rfl rfl (V.incr rfl rfl rfl hltk1 hlenk1) (fun a hf => ?_)
              refine S.val hf hs (v := .int .i64 ((k1 + 1 : Nat) : Int)) rfl rfl rfl (V.pure rfl) (fun a hf => ?_)
              refine R.nil ?_
              refine X.then_ ?_
              exact ⟨xk1, llk1, rfl, k1 + 1, l3, l3A, l3C, (l4.set y3.toNat (x2 ++ [xk1])), l4A, l4C, (l4as.set y3.toNat (A7, C3)), range_drop hlk1, range_len hkk1, (by rw [hnext1] at h; exact h), (((((((hf.nil.cons (hf.get 36 _ rfl)).cons (hf.get 35 _ rfl)).cons (hf.get 12 _ rfl)).cons (hf.get 11 _ rfl)).cons (hf.get 2 _ rfl)).cons (hf.get 0 _ rfl)).cons (hf.get 37 _ rfl)), hs.drop.drop⟩

set_option linter.unusedVariables false
def M_equal_hole_L1 (s2 : (List Hole)) (Q : Bool → Prop) (k1 : Nat) (xk1 : Hole)  (next1 : Prop) : Prop :=
  idx s2 (k1 : Int) fun x1 => cnd (!(decide (xk1 = x1))) (Q false) (next1)
def M_equal_hole (s1 : (List Hole)) (s2 : (List Hole)) (Q : Bool → Prop) : Prop :=
  cnd ((s1.length : Int) != (s2.length : Int)) (Q false) (forIn' (fun k x (s : Unit) next => M_equal_hole_L1 s2 Q k x (next ())) (fun (s : Unit) => Q true) s1 0 ())
set_option maxHeartbeats 1000000 in
theorem R_equal_hole (s1 : (List Hole)) (s2 : (List Hole)) (w0 : World) (s1A : Option Addr) (s1C : Nat) (hv_s1 : View w0 (old w0 none_) s1A s1C s1) (s2A : Option Addr) (s2C : Nat) (hv_s2 : View w0 (old w0 none_) s2A s2C s2) (Q : Bool → Prop) (h : M_equal_hole s1 s2 Q) :
    Ret Try.prog 72 #[.slice s1A s1.length s1C, .slice s2A s2.length s2C] w0 fun v w' => ∃ (r0 : Bool), v = .bool r0 ∧ Q r0 ∧ Sat w0 none_ [] w' := by
  refine fn_enter Try.func72 rfl Try.ntmps72 rfl (fs := [(0, .slice s1A s1.length s1C), (1, .slice s2A s2.length s2C)]) rfl (fun a hf => ?_)
  have hs := Sat.start w0 none_
  unfold M_equal_hole at h
  refine wp_seq ?_
  refine R.list ?_
  refine S.val hf hs (v := .bool false) rfl rfl rfl (V.pure rfl) (fun a hf => ?_)
  refine R.nil ?_
  refine X.then_ ?_
  refine wp_seq ?_
  refine wp_seq ?_
  refine R.list ?_
  refine S.val hf hs (v := .slice s1A s1.length s1C) rfl rfl rfl (V.pure rfl) (fun a hf => ?_)
  refine S.val hf hs (v := .int .i64 (s1.length : Int)) rfl rfl rfl (V.len rfl rfl Try.runUnderlying34) (fun a hf => ?_)
  refine S.val hf hs (v := .slice s2A s2.length s2C) rfl rfl rfl (V.pure rfl) (fun a hf => ?_)
  refine S.val hf hs (v := .int .i64 (s2.length : Int)) rfl rfl rfl (V.len rfl rfl Try.runUnderlying34) (fun a hf => ?_)
  refine S.val hf hs (v := .bool ((s1.length : Int) != (s2.length : Int))) rfl rfl rfl (V.pure rfl) (fun a hf => ?_)
  refine R.nil ?_
  refine X.then_ ?_
  refine C.cond hf (b := (s1.length : Int) != (s2.length : Int)) rfl (fun hc => ?_) (fun hc => ?_)
  · replace h := h.1 hc
    refine wp_seq ?_
    refine R.list ?_
    refine S.val hf hs (v := .bool false) rfl rfl rfl (V.pure rfl) (fun a hf => ?_)
    refine R.nil ?_
    refine X.then_ ?_
    refine wp_ret ?_
    refine X.then_ret ?_
    exact L.ret hf (run_results1 Try.results72 (ResIs.tmp hf rfl)) ⟨false, rfl, h, hs.nil⟩
  · replace h := h.2 hc
    refine wp_skip ?_
    refine X.then_ ?_
    refine wp_seq ?_
    refine wp_seq ?_
    refine R.list ?_
    refine S.val hf hs (v := .slice s1A s1.length s1C) rfl rfl rfl (V.pure rfl) (fun a hf => ?_)
    refine S.val hf hs (v := .int .i64 (s1.length : Int)) rfl rfl rfl (V.len rfl rfl Try.runUnderlying34) (fun a hf => ?_)
    refine S.val hf hs (v := .int .i64 0) rfl rfl rfl (V.pure rfl) (fun a hf => ?_)
    refine R.nil ?_
    refine X.then_ ?_
    refine wp_block ?_
    have hlenk1 := hv_s1.len64
    refine C.range (fun (ll : List Hole) a w => ∃ (k1 : Nat) , s1.drop k1 = ll ∧ k1 + ll.length = s1.length ∧ forIn' (fun k x (s : Unit) next => M_equal_hole_L1 s2 Q k x (next ())) (fun (s : Unit) => Q true) ll k1 () ∧ FrOk 26 [(13, .int .i64 (k1 : Int)), (0, .slice s1A s1.length s1C), (1, .slice s2A s2.length s2C), (12, .int .i64 (s1.length : Int))] a ∧ Sat w0 none_ [] w) s1 ⟨0, rfl, Nat.zero_add _, h, ((((hf.nil.cons (hf.get 12 _ rfl)).cons (hf.get 1 _ rfl)).cons (hf.get 0 _ rfl)).cons (hf.get 13 _ rfl)), hs⟩ ?_
    clear h hf hs
    rintro llk1 a w ⟨k1, hlk1, hkk1, h, hf, hs⟩
    cases llk1 with
    | nil =>
      have hc := range_done hkk1
      replace h : Q true := h
      refine wp_seq ?_
      refine R.list ?_
      refine S.val hf hs (v := .bool false) rfl rfl rfl (V.cmp false rfl rfl rfl rfl hc) (fun a hf => ?_)
      refine R.nil ?_
      refine X.then_ ?_
      refine wp_seq ?_
      refine C.no hf rfl ?_
      refine wp_exit ?_
      refine X.then_exit ?_
      refine X.then_exit ?_
      refine X.blk_exit ?_
      refine X.then_ ?_
      refine wp_seq ?_
      refine R.list ?_
      refine S.val hf hs (v := .bool true) rfl rfl rfl (V.pure rfl) (fun a hf => ?_)
      refine R.nil ?_
      refine X.then_ ?_
      refine wp_ret ?_
      exact L.ret hf (run_results1 Try.results72 (ResIs.tmp hf rfl)) ⟨true, rfl, h, hs.nil⟩
    | cons xk1 llk1 =>
      have hltk1 := range_lt hkk1; have hc := range_go hkk1; have hxk1 := range_get hlk1
      obtain ⟨next1, hnext1⟩ : ∃ X : Prop, X = (forIn' (fun k x (s : Unit) next => M_equal_hole_L1 s2 Q k x (next ())) (fun (s : Unit) => Q true) llk1 (k1 + 1) ()) := ⟨_, rfl⟩
      replace h : M_equal_hole_L1 s2 Q k1 xk1  next1 := by rw [hnext1]; exact h
      unfold M_equal_hole_L1 at h
      refine wp_seq ?_
      refine R.list ?_
      refine S.val hf hs (v := .bool true) rfl rfl rfl (V.cmp true rfl rfl rfl rfl hc) (fun a hf => ?_)
      refine R.nil ?_
      refine X.then_ ?_
      refine wp_seq ?_
      refine C.yes hf rfl ?_
      refine wp_skip ?_
      refine X.then_ ?_
      refine wp_seq ?_
      refine wp_block ?_
      refine wp_seq ?_
      refine R.list ?_
      refine S.val hf hs (v := .int .i64 (k1 : Int)) rfl rfl rfl (V.pure rfl) (fun a hf => ?_)
      refine S.val hf hs (v := .int .i64 (k1 : Int)) rfl rfl rfl (V.pure rfl) (fun a hf => ?_)
      refine R.nil ?_
      refine X.then_ ?_
      refine wp_seq ?_
      refine R.draw mo (by kernel_rfl) hs ?_
      refine D.val hf (v := .slice s1A s1.length s1C) rfl rfl rfl (V.pure rfl) (fun a hf => ?_)
      refine D.val hf (v := .int .i64 (k1 : Int)) rfl rfl rfl (V.pure rfl) (fun a hf => ?_)
      refine D.val hf (v := elemPtr s1A (k1 * 5)) rfl rfl rfl (V.index rfl rfl rfl Try.runUnderlying34 Try.sizeOf76 (hv_s1.some_ (lt_of_get hxk1)) (Int.natCast_nonneg _) (lt_of_get hxk1) rfl) (fun a hf => ?_)
      refine D.val hf (v := .agg #[.int .i64 xk1.At.X, .int .i64 xk1.At.Y, .int .i64 xk1.Size, .int .i64 xk1.Depth, .bool xk1.Plated]) rfl rfl rfl (V.loadEl (off := 0) (Ag.args _ _ _) (hv_s1.flat hxk1) rfl rfl rfl Try.isAgg76 Try.sizeOf76 rfl rfl) (fun a hf => ?_)
      refine D.val hf (v := .slice s2A s2.length s2C) rfl rfl rfl (V.pure rfl) (fun a hf => ?_)
      refine D.val hf (v := .int .i64 (k1 : Int)) rfl rfl rfl (V.pure rfl) (fun a hf => ?_)
      obtain ⟨h0x1, x1, hx1, h⟩ := h
      refine D.val hf (v := elemPtr s2A (k1 * 5)) rfl rfl rfl (V.index rfl rfl rfl Try.runUnderlying34 Try.sizeOf76 (hv_s2.some_ (lt_of_get hx1)) (Int.natCast_nonneg _) (lt_of_get hx1) rfl) (fun a hf => ?_)
      refine D.val hf (v := .agg #[.int .i64 x1.At.X, .int .i64 x1.At.Y, .int .i64 x1.Size, .int .i64 x1.Depth, .bool x1.Plated]) rfl rfl rfl (V.loadEl (off := 0) (Ag.args _ _ _) (hv_s2.flat hx1) rfl rfl rfl Try.isAgg76 Try.sizeOf76 rfl rfl) (fun a hf => ?_)
      refine D.val hf (v := .bool (!(decide (xk1 = x1)))) rfl rfl rfl (V.aggneq rfl rfl rfl (by kernel_rfl) (fun w => eqS76 xk1 x1 w)) (fun a hf => ?_)
      refine D.done (fun w hs => ?_)
      refine X.then_ ?_
      refine C.cond hf (b := !(decide (xk1 = x1))) rfl (fun hc => ?_) (fun hc => ?_)
      · replace h := h.1 hc
        refine wp_seq ?_
        refine R.list ?_
        refine S.val hf hs (v := .bool false) rfl rfl rfl (V.pure rfl) (fun a hf => ?_)
        refine R.nil ?_
        refine X.then_ ?_
        refine wp_ret ?_
        refine X.blk_ret ?_
        refine X.then_ret ?_
        refine X.then_ret ?_
        refine X.blk_ret ?_
        refine X.then_ret ?_
        exact L.ret hf (run_results1 Try.results72 (ResIs.tmp hf rfl)) ⟨false, rfl, h, hs.nil⟩
      · replace h := h.2 hc
        refine wp_skip ?_
        refine X.blk ?_
        refine X.then_ ?_
        refine R.list ?_
        refine S.val hf hs (v := .int .i64 ((k1 + 1 : Nat) : Int)) rfl rfl rfl (V.incr rfl rfl rfl hltk1 hlenk1) (fun a hf => ?_)
        refine S.val hf hs (v := .int .i64 ((k1 + 1 : Nat) : Int)) rfl rfl rfl (V.pure rfl) (fun a hf => ?_)
        refine R.nil ?_
        refine X.then_ ?_
        exact ⟨xk1, llk1, rfl, k1 + 1, range_drop hlk1, range_len hkk1, (by rw [hnext1] at h; exact h), ((((hf.nil.cons (hf.get 12 _ rfl)).cons (hf.get 1 _ rfl)).cons (hf.get 0 _ rfl)).cons (hf.get 13 _ rfl)), hs⟩

set_option linter.unusedVariables false
def M_ref8_SameJobs_k2 (Q : Bool → Prop) (next1 : Prop) (c1 : Bool) : Prop :=
  cnd c1 (Q false) (next1)
def M_ref8_SameJobs_L1 (b : (List Job)) (Q : Bool → Prop) (k1 : Nat) (xk1 : Job)  (next1 : Prop) : Prop :=
  idx b (k1 : Int) fun x1 => cnd (!(xk1.Tool == x1.Tool)) (M_ref8_SameJobs_k2 Q next1 true) (M_equal_hole xk1.Holes x1.Holes fun y1 => M_ref8_SameJobs_k2 Q next1 (!y1))
def M_ref8_SameJobs (a_ : (List Job)) (b : (List Job)) (Q : Bool → Prop) : Prop :=
  cnd ((a_.length : Int) != (b.length : Int)) (Q false) (forIn' (fun k x (s : Unit) next => M_ref8_SameJobs_L1 b Q k x (next ())) (fun (s : Unit) => Q true) a_ 0 ())
set_option maxHeartbeats 1000000 in
theorem R_ref8_SameJobs (a_ : (List Job)) (b : (List Job)) (w0 : World) (a_A : Option Addr) (a_C : Nat) (hv_a_ : View w0 (old w0 none_) a_A a_C a_) (bA : Option Addr) (bC : Nat) (hv_b : View w0 (old w0 none_) bA bC b) (Q : Bool → Prop) (h : M_ref8_SameJobs a_ b Q) :
    Ret Try.prog 35 #[.slice a_A a_.length a_C, .slice bA b.length bC] w0 fun v w' => ∃ (r0 : Bool), v = .bool r0 ∧ Q r0 ∧ Sat w0 none_ [] w' := by
  refine fn_enter Try.func35 rfl Try.ntmps35 rfl (fs := [(0, .slice a_A a_.length a_C), (1, .slice bA b.length bC)]) rfl (fun a hf => ?_)
  have hs := Sat.start w0 none_
  unfold M_ref8_SameJobs at h
  refine wp_seq ?_
  refine R.list ?_
  refine S.val hf hs (v := .bool false) rfl rfl rfl (V.pure rfl) (fun a hf => ?_)
  refine R.nil ?_
  refine X.then_ ?_
  refine wp_seq ?_
  refine wp_seq ?_
  refine R.list ?_
  refine S.val hf hs (v := .slice a_A a_.length a_C) rfl rfl rfl (V.pure rfl) (fun a hf => ?_)
  refine S.val hf hs (v := .int .i64 (a_.length : Int)) rfl rfl rfl (V.len rfl rfl Try.runUnderlying49) (fun a hf => ?_)
  refine S.val hf hs (v := .slice bA b.length bC) rfl rfl rfl (V.pure rfl) (fun a hf => ?_)
  refine S.val hf hs (v := .int .i64 (b.length : Int)) rfl rfl rfl (V.len rfl rfl Try.runUnderlying49) (fun a hf => ?_)
  refine S.val hf hs (v := .bool ((a_.length : Int) != (b.length : Int))) rfl rfl rfl (V.pure rfl) (fun a hf => ?_)
  refine R.nil ?_
  refine X.then_ ?_
  refine C.cond hf (b := (a_.length : Int) != (b.length : Int)) rfl (fun hc => ?_) (fun hc => ?_)
  · replace h := h.1 hc
    refine wp_seq ?_
    refine R.list ?_
    refine S.val hf hs (v := .bool false) rfl rfl rfl (V.pure rfl) (fun a hf => ?_)
    refine R.nil ?_
    refine X.then_ ?_
    refine wp_ret ?_
    refine X.then_ret ?_
    exact L.ret hf (run_results1 Try.results35 (ResIs.tmp hf rfl)) ⟨false, rfl, h, hs.nil⟩
  · replace h := h.2 hc
    refine wp_skip ?_
    refine X.then_ ?_
    refine wp_seq ?_
    refine wp_seq ?_
    refine R.list ?_
    refine S.val hf hs (v := .slice a_A a_.length a_C) rfl rfl rfl (V.pure rfl) (fun a hf => ?_)
    refine S.val hf hs (v := .int .i64 (a_.length : Int)) rfl rfl rfl (V.len rfl rfl Try.runUnderlying49) (fun a hf => ?_)
    refine S.val hf hs (v := .int .i64 0) rfl rfl rfl (V.pure rfl) (fun a hf => ?_)
    refine R.nil ?_
    refine X.then_ ?_
    refine wp_block ?_
    have hlenk1 := hv_a_.len64
    refine C.range (fun (ll : List Job) a w => ∃ (k1 : Nat) , a_.drop k1 = ll ∧ k1 + ll.length = a_.length ∧ forIn' (fun k x (s : Unit) next => M_ref8_SameJobs_L1 b Q k x (next ())) (fun (s : Unit) => Q true) ll k1 () ∧ FrOk 42 [(13, .int .i64 (k1 : Int)), (0, .slice a_A a_.length a_C), (1, .slice bA b.length bC), (12, .int .i64 (a_.length : Int))] a ∧ Sat w0 none_ [] w) a_ ⟨0, rfl, Nat.zero_add _, h, ((((hf.nil.cons (hf.get 12 _ rfl)).cons (hf.get 1 _ rfl)).cons (hf.get 0 _ rfl)).cons (hf.get 13 _ rfl)), hs⟩ ?_
    clear h hf hs
    rintro llk1 a w ⟨k1, hlk1, hkk1, h, hf, hs⟩
    cases llk1 with
    | nil =>
      have hc := range_done hkk1
      replace h : Q true := h
      refine wp_seq ?_
      refine R.list ?_
      refine S.val hf hs (v := .bool false) rfl rfl rfl (V.cmp false rfl rfl rfl rfl hc) (fun a hf => ?_)
      refine R.nil ?_
      refine X.then_ ?_
      refine wp_seq ?_
      refine C.no hf rfl ?_
      refine wp_exit ?_
      refine X.then_exit ?_
      refine X.then_exit ?_
      refine X.blk_exit ?_
      refine X.then_ ?_
      refine wp_seq ?_
      refine R.list ?_
      refine S.val hf hs (v := .bool true) rfl rfl rfl (V.pure rfl) (fun a hf => ?_)
      refine R.nil ?_
      refine X.then_ ?_
      refine wp_ret ?_
      exact L.ret hf (run_results1 Try.results35 (ResIs.tmp hf rfl)) ⟨true, rfl, h, hs.nil⟩
    | cons xk1 llk1 =>
      have hltk1 := range_lt hkk1; have hc := range_go hkk1; have hxk1 := range_get hlk1
      obtain ⟨next1, hnext1⟩ : ∃ X : Prop, X = (forIn' (fun k x (s : Unit) next => M_ref8_SameJobs_L1 b Q k x (next ())) (fun (s : Unit) => Q true) llk1 (k1 + 1) ()) := ⟨_, rfl⟩
      replace h : M_ref8_SameJobs_L1 b Q k1 xk1  next1 := by rw [hnext1]; exact h
      unfold M_ref8_SameJobs_L1 at h
      refine wp_seq ?_
      refine R.list ?_
      refine S.val hf hs (v := .bool true) rfl rfl rfl (V.cmp true rfl rfl rfl rfl hc) (fun a hf => ?_)
      refine R.nil ?_
      refine X.then_ ?_
      refine wp_seq ?_
      refine C.yes hf rfl ?_
      refine wp_skip ?_
      refine X.then_ ?_
      refine wp_seq ?_
      refine wp_block ?_
      refine wp_seq ?_
      refine R.list ?_
      refine S.val hf hs (v := .int .i64 (k1 : Int)) rfl rfl rfl (V.pure rfl) (fun a hf => ?_)
      refine S.val hf hs (v := .int .i64 (k1 : Int)) rfl rfl rfl (V.pure rfl) (fun a hf => ?_)
      refine R.nil ?_
      refine X.then_ ?_
      refine wp_seq ?_
      refine C.cut (J := fun a w => ∃ (c1 : Bool), M_ref8_SameJobs_k2 Q next1 c1 ∧ FrOk 42 [(0, .slice a_A a_.length a_C), (1, .slice bA b.length bC), (12, .int .i64 (a_.length : Int)), (13, .int .i64 (k1 : Int)), (40, .bool c1)] a ∧ Sat w0 none_ [] w) ?_ ?_
      · rintro a w ⟨c1, h, hf, hs⟩
        unfold M_ref8_SameJobs_k2 at h
        refine C.cond hf (b := c1) rfl (fun hc => ?_) (fun hc => ?_)
        · replace h := h.1 hc
          refine wp_seq ?_
          refine R.list ?_
          refine S.val hf hs (v := .bool false) rfl rfl rfl (V.pure rfl) (fun a hf => ?_)
          refine R.nil ?_
          refine X.then_ ?_
          refine wp_ret ?_
          refine X.blk_ret ?_
          refine X.then_ret ?_
          refine X.then_ret ?_
          refine X.blk_ret ?_
          refine X.then_ret ?_
          exact L.ret hf (run_results1 Try.results35 (ResIs.tmp hf rfl)) ⟨false, rfl, h, hs.nil⟩
        · replace h := h.2 hc
          refine wp_skip ?_
          refine X.blk ?_
          refine X.then_ ?_
          refine R.list ?_
          refine S.val hf hs (v := .int .i64 ((k1 + 1 : Nat) : Int)) rfl rfl rfl (V.incr rfl rfl rfl hltk1 hlenk1) (fun a hf => ?_)
          refine S.val hf hs (v := .int .i64 ((k1 + 1 : Nat) : Int)) rfl rfl rfl (V.pure rfl) (fun a hf => ?_)
          refine R.nil ?_
          refine X.then_ ?_
          exact ⟨xk1, llk1, rfl, k1 + 1, range_drop hlk1, range_len hkk1, (by rw [hnext1] at h; exact h), ((((hf.nil.cons (hf.get 12 _ rfl)).cons (hf.get 1 _ rfl)).cons (hf.get 0 _ rfl)).cons (hf.get 13 _ rfl)), hs⟩
      · skip
        refine H.start (S := Sat w0 none_ []) mo ?_
        replace hs := hs.drew
        refine H.val hf hs (v := .slice a_A a_.length a_C) (i := 0) rfl rfl rfl rfl (by kernel_rfl) (by kernel_rfl) (by kernel_rfl) (V.pure rfl) (fun a hf => ?_)
        refine H.val hf hs (v := .int .i64 (k1 : Int)) (i := 1) rfl rfl rfl rfl (by kernel_rfl) (by kernel_rfl) (by kernel_rfl) (V.pure rfl) (fun a hf => ?_)
        obtain ⟨cs1, he1, hr1⟩ := hv_a_.at_ _ _ hxk1
        obtain ⟨u1A, u1C, rfl, hvu1⟩ := hr1
        refine H.val hf hs (v := elemPtr a_A (k1 * 2)) (i := 2) rfl rfl rfl rfl (by kernel_rfl) (by kernel_rfl) (by kernel_rfl) (V.index rfl rfl rfl Try.runUnderlying49 Try.sizeOf54 (hv_a_.some_ (lt_of_get hxk1)) (Int.natCast_nonneg _) (lt_of_get hxk1) rfl) (fun a hf => ?_)
        refine H.val hf hs (v := elemPtr a_A (k1 * 2)) (i := 3) rfl rfl rfl rfl (by kernel_rfl) (by kernel_rfl) (by kernel_rfl) (V.fieldEl rfl rfl (hv_a_.some_ (lt_of_get hxk1)) Try.runUnderlying54 rfl Try.sizeOf9 rfl rfl) (fun a hf => ?_)
        refine H.val hf hs (v := .string (ba xk1.Tool)) (i := 4) rfl rfl rfl rfl (by kernel_rfl) (by kernel_rfl) (by kernel_rfl) (V.loadEl (off := 0) (Ag.args _ _ _) he1 rfl rfl rfl Try.isAgg9 Try.sizeOf9 rfl rfl) (fun a hf => ?_)
        refine H.val hf hs (v := .slice bA b.length bC) (i := 5) rfl rfl rfl rfl (by kernel_rfl) (by kernel_rfl) (by kernel_rfl) (V.pure rfl) (fun a hf => ?_)
        refine H.val hf hs (v := .int .i64 (k1 : Int)) (i := 6) rfl rfl rfl rfl (by kernel_rfl) (by kernel_rfl) (by kernel_rfl) (V.pure rfl) (fun a hf => ?_)
        obtain ⟨h0x1, x1, hx1, h⟩ := h
        obtain ⟨cs2, he2, hr2⟩ := hv_b.at_ _ _ hx1
        obtain ⟨u2A, u2C, rfl, hvu2⟩ := hr2
        refine H.val hf hs (v := elemPtr bA (k1 * 2)) (i := 7) rfl rfl rfl rfl (by kernel_rfl) (by kernel_rfl) (by kernel_rfl) (V.index rfl rfl rfl Try.runUnderlying49 Try.sizeOf54 (hv_b.some_ (lt_of_get hx1)) (Int.natCast_nonneg _) (lt_of_get hx1) rfl) (fun a hf => ?_)
        refine H.val hf hs (v := elemPtr bA (k1 * 2)) (i := 8) rfl rfl rfl rfl (by kernel_rfl) (by kernel_rfl) (by kernel_rfl) (V.fieldEl rfl rfl (hv_b.some_ (lt_of_get hx1)) Try.runUnderlying54 rfl Try.sizeOf9 rfl rfl) (fun a hf => ?_)
        refine H.val hf hs (v := .string (ba x1.Tool)) (i := 9) rfl rfl rfl rfl (by kernel_rfl) (by kernel_rfl) (by kernel_rfl) (V.loadEl (off := 0) (Ag.args _ _ _) he2 rfl rfl rfl Try.isAgg9 Try.sizeOf9 rfl rfl) (fun a hf => ?_)
        refine H.val hf hs (v := .bool (!(xk1.Tool == x1.Tool))) (i := 10) rfl rfl rfl rfl (by kernel_rfl) (by kernel_rfl) (by kernel_rfl) (V.strCmp (!(xk1.Tool == x1.Tool)) rfl rfl rfl rfl) (fun a hf => ?_)
        refine H.split hf hs (b := !(xk1.Tool == x1.Tool)) (i := 11) rfl rfl rfl rfl (by kernel_rfl) (by kernel_rfl) (by kernel_rfl) (V.pure rfl) (fun hc a hf => ?_) (fun hc a hf => ?_)
        · replace h := h.1 hc
          refine H.skip hf hs (i := 12) rfl rfl rfl rfl (by kernel_rfl) (by kernel_rfl) (by kernel_rfl) (fun a hf => ?_)
          refine H.skip hf hs (i := 13) rfl rfl rfl rfl (by kernel_rfl) (by kernel_rfl) (by kernel_rfl) (fun a hf => ?_)
          refine H.skip hf hs (i := 14) rfl rfl rfl rfl (by kernel_rfl) (by kernel_rfl) (by kernel_rfl) (fun a hf => ?_)
          refine H.skip hf hs (i := 15) rfl rfl rfl rfl (by kernel_rfl) (by kernel_rfl) (by kernel_rfl) (fun a hf => ?_)
          refine H.skip hf hs (i := 16) rfl rfl rfl rfl (by kernel_rfl) (by kernel_rfl) (by kernel_rfl) (fun a hf => ?_)
          refine H.skip hf hs (i := 17) rfl rfl rfl rfl (by kernel_rfl) (by kernel_rfl) (by kernel_rfl) (fun a hf => ?_)
          refine H.skip hf hs (i := 18) rfl rfl rfl rfl (by kernel_rfl) (by kernel_rfl) (by kernel_rfl) (fun a hf => ?_)
          refine H.skip hf hs (i := 19) rfl rfl rfl rfl (by kernel_rfl) (by kernel_rfl) (by kernel_rfl) (fun a hf => ?_)
          refine H.skip hf hs (i := 20) rfl rfl rfl rfl (by kernel_rfl) (by kernel_rfl) (by kernel_rfl) (fun a hf => ?_)
          refine H.skip hf hs (i := 21) rfl rfl rfl rfl (by kernel_rfl) (by kernel_rfl) (by kernel_rfl) (fun a hf => ?_)
          refine H.one (i := 22) rfl (by kernel_rfl) ?_
          refine S.skip hf rfl rfl rfl (fun a hf => ?_)
          refine R.nil ?_
          refine X.then_ ?_
          refine ⟨hs, ?_⟩
          refine H.skip hf hs (i := 23) rfl rfl rfl rfl (by kernel_rfl) (by kernel_rfl) (by kernel_rfl) (fun a hf => ?_)
          refine H.val hf hs (v := .bool true) (i := 24) rfl rfl rfl rfl (by kernel_rfl) (by kernel_rfl) (by kernel_rfl) (V.pure rfl) (fun a hf => ?_)
          refine H.done (by kernel_rfl) ?_
          refine X.then_ ?_
          exact ⟨true, h, (((((hf.nil.cons (hf.get 40 _ rfl)).cons (hf.get 13 _ rfl)).cons (hf.get 12 _ rfl)).cons (hf.get 1 _ rfl)).cons (hf.get 0 _ rfl)), hs⟩
        · replace h := h.2 hc
          refine H.val hf hs (v := .slice a_A a_.length a_C) (i := 12) rfl rfl rfl rfl (by kernel_rfl) (by kernel_rfl) (by kernel_rfl) (V.pure rfl) (fun a hf => ?_)
          refine H.val hf hs (v := .int .i64 (k1 : Int)) (i := 13) rfl rfl rfl rfl (by kernel_rfl) (by kernel_rfl) (by kernel_rfl) (V.pure rfl) (fun a hf => ?_)
          refine H.val hf hs (v := elemPtr a_A (k1 * 2)) (i := 14) rfl rfl rfl rfl (by kernel_rfl) (by kernel_rfl) (by kernel_rfl) (V.index rfl rfl rfl Try.runUnderlying49 Try.sizeOf54 (hv_a_.some_ (lt_of_get hxk1)) (Int.natCast_nonneg _) (lt_of_get hxk1) rfl) (fun a hf => ?_)
          refine H.val hf hs (v := elemPtr a_A (k1 * 2 + 1)) (i := 15) rfl rfl rfl rfl (by kernel_rfl) (by kernel_rfl) (by kernel_rfl) (V.fieldEl rfl rfl (hv_a_.some_ (lt_of_get hxk1)) Try.runUnderlying54 rfl Try.sizeOf34 rfl rfl) (fun a hf => ?_)
          refine H.val hf hs (v := .slice u1A xk1.Holes.length u1C) (i := 16) rfl rfl rfl rfl (by kernel_rfl) (by kernel_rfl) (by kernel_rfl) (V.loadEl (off := 1) (Ag.args _ _ _) he1 rfl rfl rfl Try.isAgg34 Try.sizeOf34 rfl rfl) (fun a hf => ?_)
          refine H.val hf hs (v := .slice bA b.length bC) (i := 17) rfl rfl rfl rfl (by kernel_rfl) (by kernel_rfl) (by kernel_rfl) (V.pure rfl) (fun a hf => ?_)
          refine H.val hf hs (v := .int .i64 (k1 : Int)) (i := 18) rfl rfl rfl rfl (by kernel_rfl) (by kernel_rfl) (by kernel_rfl) (V.pure rfl) (fun a hf => ?_)
          refine H.val hf hs (v := elemPtr bA (k1 * 2)) (i := 19) rfl rfl rfl rfl (by kernel_rfl) (by kernel_rfl) (by kernel_rfl) (V.index rfl rfl rfl Try.runUnderlying49 Try.sizeOf54 (hv_b.some_ (lt_of_get hx1)) (Int.natCast_nonneg _) (lt_of_get hx1) rfl) (fun a hf => ?_)
          refine H.val hf hs (v := elemPtr bA (k1 * 2 + 1)) (i := 20) rfl rfl rfl rfl (by kernel_rfl) (by kernel_rfl) (by kernel_rfl) (V.fieldEl rfl rfl (hv_b.some_ (lt_of_get hx1)) Try.runUnderlying54 rfl Try.sizeOf34 rfl rfl) (fun a hf => ?_)
          refine H.val hf hs (v := .slice u2A x1.Holes.length u2C) (i := 21) rfl rfl rfl rfl (by kernel_rfl) (by kernel_rfl) (by kernel_rfl) (V.loadEl (off := 1) (Ag.args _ _ _) he2 rfl rfl rfl Try.isAgg34 Try.sizeOf34 rfl rfl) (fun a hf => ?_)
          refine H.one (i := 22) rfl (by kernel_rfl) ?_
          refine S.call hf rfl rfl rfl (call_fn (vs := [.slice u1A xk1.Holes.length u1C, .slice u2A x1.Holes.length u2C]) rfl rfl rfl Try.call72) (R_equal_hole xk1.Holes x1.Holes _ u1A u1C ((Ag.args _ _ _).view hvu1 hs) u2A u2C ((Ag.args _ _ _).view hvu2 hs) _ h) (fun v a w' hf hr => ?_)
          obtain ⟨y1, rfl, h2, hs2⟩ := hr
          replace h := h2; replace hs := hs.call hs2; clear h2 hs2
          refine R.nil ?_
          refine X.then_ ?_
          refine ⟨hs, ?_⟩
          refine H.val hf hs (v := .bool (!y1)) (i := 23) rfl rfl rfl rfl (by kernel_rfl) (by kernel_rfl) (by kernel_rfl) (V.pure rfl) (fun a hf => ?_)
          refine H.val hf hs (v := .bool (!y1)) (i := 24) rfl rfl rfl rfl (by kernel_rfl) (by kernel_rfl) (by kernel_rfl) (V.pure rfl) (fun a hf => ?_)
          refine H.done (by kernel_rfl) ?_
          refine X.then_ ?_
          exact ⟨(!y1), h, (((((hf.nil.cons (hf.get 40 _ rfl)).cons (hf.get 13 _ rfl)).cons (hf.get 12 _ rfl)).cons (hf.get 1 _ rfl)).cons (hf.get 0 _ rfl)), hs⟩

set_option linter.unusedVariables false
def M_law_Chosen (t : (List Bit)) (l : (List Hole)) (near : Int) (Q : Bool → Prop) : Prop :=
  M_drill_Chosen t l near fun y1 y2 y3 => M_ref8_Chosen t l near fun y4 y5 y6 => cnd (y3 == y6) (M_ref8_SameJobs y1 y4 fun y7 => cnd y7 (M_equal_int y2 y5 fun y8 => cnd y8 (M_awake  fun y9 => Q y9) (Q false)) (Q false)) (Q false)
set_option maxHeartbeats 1000000 in
theorem R_law_Chosen (t : (List Bit)) (l : (List Hole)) (near : Int) (w0 : World) (tA : Option Addr) (tC : Nat) (hv_t : View w0 (old w0 none_) tA tC t) (lA : Option Addr) (lC : Nat) (hv_l : View w0 (old w0 none_) lA lC l) (Q : Bool → Prop) (h : M_law_Chosen t l near Q) :
    Ret Try.prog 10 #[.slice tA t.length tC, .slice lA l.length lC, .int .i64 near] w0 fun v w' => ∃ (r0 : Bool), v = .bool r0 ∧ Q r0 ∧ Sat w0 none_ [] w' := by
  refine fn_enter Try.func10 rfl Try.ntmps10 rfl (fs := [(0, .slice tA t.length tC), (1, .slice lA l.length lC), (2, .int .i64 near)]) rfl (fun a hf => ?_)
  have hs := Sat.start w0 none_
  unfold M_law_Chosen at h
  refine wp_seq ?_
  refine R.list ?_
  refine S.val hf hs (v := .bool false) rfl rfl rfl (V.pure rfl) (fun a hf => ?_)
  refine R.nil ?_
  refine X.then_ ?_
  refine wp_seq ?_
  refine R.list ?_
  refine S.val hf hs (v := .slice tA t.length tC) rfl rfl rfl (V.pure rfl) (fun a hf => ?_)
  refine S.val hf hs (v := .slice lA l.length lC) rfl rfl rfl (V.pure rfl) (fun a hf => ?_)
  refine S.val hf hs (v := .int .i64 near) rfl rfl rfl (V.pure rfl) (fun a hf => ?_)
  refine S.call hf rfl rfl rfl (call_fn (vs := [.slice tA t.length tC, .slice lA l.length lC, .int .i64 near]) rfl rfl rfl Try.call33) (R_drill_Chosen t l near _ tA tC ((Ag.args _ _ _).view hv_t hs) lA lC ((Ag.args _ _ _).view hv_l hs) _ h) (fun v a w' hf hr => ?_)
  obtain ⟨y1, y1A, y1C, y1as, y2, y2A, y2C, y3, rfl, h2, hs2⟩ := hr
  replace h := h2; replace hs := hs.call hs2; clear h2 hs2
  refine S.val hf hs (v := .tuple #[.slice y1A y1.length y1C, .slice y2A y2.length y2C, .int .i64 y3]) rfl rfl rfl (V.pure rfl) (fun a hf => ?_)
  refine S.val hf hs (v := .slice y1A y1.length y1C) rfl rfl rfl (V.pure rfl) (fun a hf => ?_)
  refine S.val hf hs (v := .slice y2A y2.length y2C) rfl rfl rfl (V.pure rfl) (fun a hf => ?_)
  refine S.val hf hs (v := .int .i64 y3) rfl rfl rfl (V.pure rfl) (fun a hf => ?_)
  refine S.val hf hs (v := .slice y1A y1.length y1C) rfl rfl rfl (V.pure rfl) (fun a hf => ?_)
  refine S.val hf hs (v := .slice y2A y2.length y2C) rfl rfl rfl (V.pure rfl) (fun a hf => ?_)
  refine S.val hf hs (v := .int .i64 y3) rfl rfl rfl (V.pure rfl) (fun a hf => ?_)
  refine R.nil ?_
  refine X.then_ ?_
  refine wp_seq ?_
  refine R.list ?_
  refine S.val hf hs (v := .slice tA t.length tC) rfl rfl rfl (V.pure rfl) (fun a hf => ?_)
  refine S.val hf hs (v := .slice lA l.length lC) rfl rfl rfl (V.pure rfl) (fun a hf => ?_)
  refine S.val hf hs (v := .int .i64 near) rfl rfl rfl (V.pure rfl) (fun a hf => ?_)
  refine S.call hf rfl rfl rfl (call_fn (vs := [.slice tA t.length tC, .slice lA l.length lC, .int .i64 near]) rfl rfl rfl Try.call34) (R_ref8_Chosen t l near _ tA tC ((Ag.args _ _ _).view hv_t hs) lA lC ((Ag.args _ _ _).view hv_l hs) _ h) (fun v a w' hf hr => ?_)
  obtain ⟨y4, y4A, y4C, y4as, y5, y5A, y5C, y6, rfl, h2, hs2⟩ := hr
  replace h := h2; replace hs := hs.call hs2; clear h2 hs2
  refine S.val hf hs (v := .tuple #[.slice y4A y4.length y4C, .slice y5A y5.length y5C, .int .i64 y6]) rfl rfl rfl (V.pure rfl) (fun a hf => ?_)
  refine S.val hf hs (v := .slice y4A y4.length y4C) rfl rfl rfl (V.pure rfl) (fun a hf => ?_)
  refine S.val hf hs (v := .slice y5A y5.length y5C) rfl rfl rfl (V.pure rfl) (fun a hf => ?_)
  refine S.val hf hs (v := .int .i64 y6) rfl rfl rfl (V.pure rfl) (fun a hf => ?_)
  refine S.val hf hs (v := .slice y4A y4.length y4C) rfl rfl rfl (V.pure rfl) (fun a hf => ?_)
  refine S.val hf hs (v := .slice y5A y5.length y5C) rfl rfl rfl (V.pure rfl) (fun a hf => ?_)
  refine S.val hf hs (v := .int .i64 y6) rfl rfl rfl (V.pure rfl) (fun a hf => ?_)
  refine R.nil ?_
  refine X.then_ ?_
  refine wp_seq ?_
  refine R.list ?_
  refine S.val hf hs (v := .int .i64 y3) rfl rfl rfl (V.pure rfl) (fun a hf => ?_)
  refine S.val hf hs (v := .int .i64 y6) rfl rfl rfl (V.pure rfl) (fun a hf => ?_)
  refine S.val hf hs (v := .bool (y3 == y6)) rfl rfl rfl (V.pure rfl) (fun a hf => ?_)
  refine S.split hf hs (b := y3 == y6) rfl rfl rfl (V.pure rfl) (fun hc a hf => ?_) (fun hc a hf => ?_)
  · replace h := h.1 hc
    refine S.val hf hs (v := .slice y1A y1.length y1C) rfl rfl rfl (V.pure rfl) (fun a hf => ?_)
    refine S.val hf hs (v := .slice y4A y4.length y4C) rfl rfl rfl (V.pure rfl) (fun a hf => ?_)
    refine S.call hf rfl rfl rfl (call_fn (vs := [.slice y1A y1.length y1C, .slice y4A y4.length y4C]) rfl rfl rfl Try.call35) (R_ref8_SameJobs y1 y4 _ y1A y1C (hs.rowsView 2 rfl) y4A y4C (hs.rowsView 0 rfl) _ h) (fun v a w' hf hr => ?_)
    obtain ⟨y7, rfl, h2, hs2⟩ := hr
    replace h := h2; replace hs := hs.call hs2; clear h2 hs2
    refine S.val hf hs (v := .bool y7) rfl rfl rfl (V.pure rfl) (fun a hf => ?_)
    refine S.split hf hs (b := y7) rfl rfl rfl (V.pure rfl) (fun hc a hf => ?_) (fun hc a hf => ?_)
    · replace h := h.1 hc
      refine S.val hf hs (v := .slice y2A y2.length y2C) rfl rfl rfl (V.pure rfl) (fun a hf => ?_)
      refine S.val hf hs (v := .slice y5A y5.length y5C) rfl rfl rfl (V.pure rfl) (fun a hf => ?_)
      refine S.call hf rfl rfl rfl (call_fn (vs := [.slice y2A y2.length y2C, .slice y5A y5.length y5C]) rfl rfl rfl Try.call19) (R_equal_int y2 y5 _ y2A y2C (hs.ownView 3 rfl) y5A y5C (hs.ownView 1 rfl) _ h) (fun v a w' hf hr => ?_)
      obtain ⟨y8, rfl, h2, hs2⟩ := hr
      replace h := h2; replace hs := hs.call hs2; clear h2 hs2
      refine S.val hf hs (v := .bool y8) rfl rfl rfl (V.pure rfl) (fun a hf => ?_)
      refine S.split hf hs (b := y8) rfl rfl rfl (V.pure rfl) (fun hc a hf => ?_) (fun hc a hf => ?_)
      · replace h := h.1 hc
        refine S.call hf rfl rfl rfl (call_fn (vs := []) rfl rfl rfl Try.call20) (R_awake  _  _ h) (fun v a w' hf hr => ?_)
        obtain ⟨y9, rfl, h2, hs2⟩ := hr
        replace h := h2; replace hs := hs.call hs2; clear h2 hs2
        refine S.val hf hs (v := .bool y9) rfl rfl rfl (V.pure rfl) (fun a hf => ?_)
        refine S.val hf hs (v := .bool y9) rfl rfl rfl (V.pure rfl) (fun a hf => ?_)
        refine R.nil ?_
        refine X.then_ ?_
        refine wp_ret ?_
        exact L.ret hf (run_results1 Try.results10 (ResIs.tmp hf rfl)) ⟨y9, rfl, h, hs.nil⟩
      · replace h := h.2 hc
        refine S.skip hf rfl rfl rfl (fun a hf => ?_)
        refine S.val hf hs (v := .bool false) rfl rfl rfl (V.pure rfl) (fun a hf => ?_)
        refine S.val hf hs (v := .bool false) rfl rfl rfl (V.pure rfl) (fun a hf => ?_)
        refine R.nil ?_
        refine X.then_ ?_
        refine wp_ret ?_
        exact L.ret hf (run_results1 Try.results10 (ResIs.tmp hf rfl)) ⟨false, rfl, h, hs.nil⟩
    · replace h := h.2 hc
      refine S.skip hf rfl rfl rfl (fun a hf => ?_)
      refine S.skip hf rfl rfl rfl (fun a hf => ?_)
      refine S.skip hf rfl rfl rfl (fun a hf => ?_)
      refine S.val hf hs (v := .bool false) rfl rfl rfl (V.pure rfl) (fun a hf => ?_)
      refine S.val hf hs (v := .bool false) rfl rfl rfl (V.pure rfl) (fun a hf => ?_)
      refine S.skip hf rfl rfl rfl (fun a hf => ?_)
      refine S.val hf hs (v := .bool false) rfl rfl rfl (V.pure rfl) (fun a hf => ?_)
      refine S.val hf hs (v := .bool false) rfl rfl rfl (V.pure rfl) (fun a hf => ?_)
      refine R.nil ?_
      refine X.then_ ?_
      refine wp_ret ?_
      exact L.ret hf (run_results1 Try.results10 (ResIs.tmp hf rfl)) ⟨false, rfl, h, hs.nil⟩
  · replace h := h.2 hc
    refine S.skip hf rfl rfl rfl (fun a hf => ?_)
    refine S.skip hf rfl rfl rfl (fun a hf => ?_)
    refine S.skip hf rfl rfl rfl (fun a hf => ?_)
    refine S.val hf hs (v := .bool false) rfl rfl rfl (V.pure rfl) (fun a hf => ?_)
    refine S.val hf hs (v := .bool false) rfl rfl rfl (V.pure rfl) (fun a hf => ?_)
    refine S.skip hf rfl rfl rfl (fun a hf => ?_)
    refine S.skip hf rfl rfl rfl (fun a hf => ?_)
    refine S.skip hf rfl rfl rfl (fun a hf => ?_)
    refine S.val hf hs (v := .bool false) rfl rfl rfl (V.pure rfl) (fun a hf => ?_)
    refine S.val hf hs (v := .bool false) rfl rfl rfl (V.pure rfl) (fun a hf => ?_)
    refine S.skip hf rfl rfl rfl (fun a hf => ?_)
    refine S.val hf hs (v := .bool false) rfl rfl rfl (V.pure rfl) (fun a hf => ?_)
    refine S.val hf hs (v := .bool false) rfl rfl rfl (V.pure rfl) (fun a hf => ?_)
    refine R.nil ?_
    refine X.then_ ?_
    refine wp_ret ?_
    exact L.ret hf (run_results1 Try.results10 (ResIs.tmp hf rfl)) ⟨false, rfl, h, hs.nil⟩

set_option linter.unusedVariables false
def M_ref8_All_L1  (k1 : Nat) (xk1 : Job) (l2 : List Hole) (next1 : List Hole → Prop) : Prop :=
  must (room (l2 ++ xk1.Holes).length 40) (next1 (l2 ++ xk1.Holes))
def M_ref8_All (j : (List Job)) (Q : (List Hole) → Prop) : Prop :=
  forIn' (fun k x (s : List Hole) next => M_ref8_All_L1 k x s (fun l2 => next l2)) (fun (s : List Hole) => (fun (l2 : List Hole) => Q l2) s) j 0 ([] : List Hole)
set_option maxHeartbeats 1000000 in
theorem R_ref8_All (j : (List Job)) (w0 : World) (jA : Option Addr) (jC : Nat) (hv_j : View w0 (old w0 none_) jA jC j) (Q : (List Hole) → Prop) (h : M_ref8_All j Q) :
    Ret Try.prog 46 #[.slice jA j.length jC] w0 fun v w' => ∃ (r0 : (List Hole)) (r0A : Option Addr) (r0C : Nat), v = .slice r0A r0.length r0C ∧ Q r0 ∧ Sat w0 none_ [hown 76 r0A r0C r0] w' := by
  refine fn_enter Try.func46 rfl Try.ntmps46 rfl (fs := [(0, .slice jA j.length jC)]) rfl (fun a hf => ?_)
  have hs := Sat.start w0 none_
  unfold M_ref8_All at h
  refine wp_seq ?_
  refine R.list ?_
  refine S.val hf hs (v := .slice none 0 0) rfl rfl rfl (V.pure rfl) (fun a hf => ?_)
  refine R.nil ?_
  refine X.then_ ?_
  refine wp_seq ?_
  refine R.list ?_
  refine S.val hf hs (v := .slice none 0 0) rfl rfl rfl (V.pure rfl) (fun a hf => ?_)
  refine R.nil ?_
  refine X.then_ ?_
  refine wp_seq ?_
  refine wp_seq ?_
  refine R.list ?_
  refine S.val hf hs (v := .slice jA j.length jC) rfl rfl rfl (V.pure rfl) (fun a hf => ?_)
  refine S.val hf hs (v := .int .i64 (j.length : Int)) rfl rfl rfl (V.len rfl rfl Try.runUnderlying49) (fun a hf => ?_)
  refine S.val hf hs (v := .int .i64 0) rfl rfl rfl (V.pure rfl) (fun a hf => ?_)
  refine R.nil ?_
  refine X.then_ ?_
  refine wp_block ?_
  replace hs := hs.nilOwn (α := Hole) 76
  have hlenk1 := hv_j.len64
  refine C.range (fun (ll : List Job) a w => ∃ (k1 : Nat) (l2 : List Hole) (l2A : Option Addr) (l2C : Nat), j.drop k1 = ll ∧ k1 + ll.length = j.length ∧ forIn' (fun k x (s : List Hole) next => M_ref8_All_L1 k x s (fun l2 => next l2)) (fun (s : List Hole) => (fun (l2 : List Hole) => Q l2) s) ll k1 l2 ∧ FrOk 18 [(8, .int .i64 (k1 : Int)), (3, .slice l2A l2.length l2C), (6, .slice jA j.length jC), (7, .int .i64 (j.length : Int))] a ∧ Sat w0 none_ [hown 76 l2A l2C l2] w) j ⟨0, ([] : List Hole), none, 0, rfl, Nat.zero_add _, h, ((((hf.nil.cons (hf.get 7 _ rfl)).cons (hf.get 6 _ rfl)).cons (hf.get 3 _ rfl)).cons (hf.get 8 _ rfl)), hs⟩ ?_
  clear h hf hs
  rintro llk1 a w ⟨k1, l2, l2A, l2C, hlk1, hkk1, h, hf, hs⟩
  cases llk1 with
  | nil =>
    have hc := range_done hkk1
    replace h : (fun (l2 : List Hole) => Q l2) l2 := h
    refine wp_seq ?_
    refine R.list ?_
    refine S.val hf hs (v := .bool false) rfl rfl rfl (V.cmp false rfl rfl rfl rfl hc) (fun a hf => ?_)
    refine R.nil ?_
    refine X.then_ ?_
    refine wp_seq ?_
    refine C.no hf rfl ?_
    refine wp_exit ?_
    refine X.then_exit ?_
    refine X.then_exit ?_
    refine X.blk_exit ?_
    refine X.then_ ?_
    refine wp_seq ?_
    refine R.list ?_
    refine S.val hf hs (v := .slice l2A l2.length l2C) rfl rfl rfl (V.pure rfl) (fun a hf => ?_)
    refine S.val hf hs (v := .slice l2A l2.length l2C) rfl rfl rfl (V.pure rfl) (fun a hf => ?_)
    refine R.nil ?_
    refine X.then_ ?_
    refine wp_ret ?_
    replace hs := hs.take 1
    exact L.ret hf (run_results1 Try.results46 (ResIs.tmp hf rfl)) ⟨l2, l2A, l2C, rfl, h, hs⟩
  | cons xk1 llk1 =>
    have hltk1 := range_lt hkk1; have hc := range_go hkk1; have hxk1 := range_get hlk1
    obtain ⟨next1, hnext1⟩ : ∃ X : List Hole → Prop, X = (fun l2 => forIn' (fun k x (s : List Hole) next => M_ref8_All_L1 k x s (fun l2 => next l2)) (fun (s : List Hole) => (fun (l2 : List Hole) => Q l2) s) llk1 (k1 + 1) l2) := ⟨_, rfl⟩
    replace h : M_ref8_All_L1 k1 xk1 l2 next1 := by rw [hnext1]; exact h
    unfold M_ref8_All_L1 at h
    refine wp_seq ?_
    refine R.list ?_
    refine S.val hf hs (v := .bool true) rfl rfl rfl (V.cmp true rfl rfl rfl rfl hc) (fun a hf => ?_)
    refine R.nil ?_
    refine X.then_ ?_
    refine wp_seq ?_
    refine C.yes hf rfl ?_
    refine wp_skip ?_
    refine X.then_ ?_
    refine wp_seq ?_
    refine wp_block ?_
    refine wp_seq ?_
    refine R.list ?_
    obtain ⟨cs1, he1, hr1⟩ := hv_j.at_ _ _ hxk1
    obtain ⟨u1A, u1C, rfl, hvu1⟩ := hr1
    refine S.val hf hs (v := elemPtr jA (k1 * 2)) rfl rfl rfl (V.index rfl rfl rfl Try.runUnderlying49 Try.sizeOf54 (hv_j.some_ (lt_of_get hxk1)) (Int.natCast_nonneg _) (lt_of_get hxk1) rfl) (fun a hf => ?_)
    refine S.val hf hs (v := .agg #[.string (ba xk1.Tool), .slice u1A xk1.Holes.length u1C]) rfl rfl rfl (V.loadEl (off := 0) (Ag.args _ _ _) he1 rfl rfl rfl Try.isAgg54 Try.sizeOf54 rfl rfl) (fun a hf => ?_)
    refine S.alloc hf hs rfl rfl rfl [.string (ba []), .slice none 0 0] rfl Try.zeroValue54 rfl (fun g1 a w hf hs => ?_)
    refine S.storeBox 0 hf hs rfl rfl [.string (ba xk1.Tool), .slice u1A xk1.Holes.length u1C] [.string (ba xk1.Tool), .slice u1A xk1.Holes.length u1C] rfl rfl rfl rfl rfl Try.sizeOf54 rfl rfl rfl rfl (fun a w hf hs => ?_)
    refine R.nil ?_
    refine X.then_ ?_
    refine R.list ?_
    refine S.val hf hs (v := .slice l2A l2.length l2C) rfl rfl rfl (V.pure rfl) (fun a hf => ?_)
    refine S.val hf hs (v := .pointer (some ⟨g1, 1, none⟩)) rfl rfl rfl (V.fieldBox rfl rfl Try.runUnderlying54 rfl Try.sizeOf34 rfl rfl) (fun a hf => ?_)
    refine S.val hf hs (v := .slice u1A xk1.Holes.length u1C) rfl rfl rfl (V.loadBox 0 rfl rfl rfl Try.isAgg34 Try.sizeOf34 rfl rfl) (fun a hf => ?_)
    obtain ⟨hroom, h⟩ := h
    refine S.appendAny 1 hf hs rfl rfl rfl rfl rfl rfl rfl Try.underlying34 info76 rfl hroom ((Ag.args _ _ _).view hvu1 hs) (fun A1 C1 a w hf hs => ?_)
    refine S.val hf hs (v := .slice A1 (l2 ++ xk1.Holes).length C1) rfl rfl rfl (V.pure rfl) (fun a hf => ?_)
    refine R.nil ?_
    refine X.blk ?_
    refine X.then_ ?_
    refine R.list ?_
    refine S.val hf hs (v := .int .i64 ((k1 + 1 : Nat) : Int)) rfl rfl rfl (V.incr rfl rfl rfl hltk1 hlenk1) (fun a hf => ?_)
    refine S.val hf hs (v := .int .i64 ((k1 + 1 : Nat) : Int)) rfl rfl rfl (V.pure rfl) (fun a hf => ?_)
    refine R.nil ?_
    refine X.then_ ?_
    exact ⟨xk1, llk1, rfl, k1 + 1, (l2 ++ xk1.Holes), A1, C1, range_drop hlk1, range_len hkk1, (by rw [hnext1] at h; exact h), ((((hf.nil.cons (hf.get 7 _ rfl)).cons (hf.get 6 _ rfl)).cons (hf.get 3 _ rfl)).cons (hf.get 8 _ rfl)), hs.drop⟩

set_option linter.unusedVariables false
def M_ref8_many_L1 (h_ : Hole) (k1 : Nat) (xk1 : Hole) (n2 : Int) (next1 : Int → Prop) : Prop :=
  cnd (decide (xk1 = h_)) (next1 (w64 (n2 + 1))) (next1 n2)
def M_ref8_many (l : (List Hole)) (h_ : Hole) (Q : Int → Prop) : Prop :=
  forIn' (fun k x (s : Int) next => M_ref8_many_L1 h_ k x s (fun n2 => next n2)) (fun (s : Int) => (fun (n2 : Int) => Q n2) s) l 0 0
set_option maxHeartbeats 1000000 in
theorem R_ref8_many (l : (List Hole)) (h_ : Hole) (w0 : World) (lA : Option Addr) (lC : Nat) (hv_l : View w0 (old w0 none_) lA lC l) (Q : Int → Prop) (h : M_ref8_many l h_ Q) :
    Ret Try.prog 81 #[.slice lA l.length lC, .agg #[.int .i64 h_.At.X, .int .i64 h_.At.Y, .int .i64 h_.Size, .int .i64 h_.Depth, .bool h_.Plated]] w0 fun v w' => ∃ (r0 : Int), v = .int .i64 r0 ∧ Q r0 ∧ Sat w0 none_ [] w' := by
  refine fn_enter Try.func81 rfl Try.ntmps81 rfl (fs := [(0, .slice lA l.length lC), (1, .agg #[.int .i64 h_.At.X, .int .i64 h_.At.Y, .int .i64 h_.Size, .int .i64 h_.Depth, .bool h_.Plated])]) rfl (fun a hf => ?_)
  have hs := Sat.start w0 none_
  unfold M_ref8_many at h
  refine wp_seq ?_
  refine R.list ?_
  refine S.box hf hs rfl rfl rfl [.int .i64 h_.At.X, .int .i64 h_.At.Y, .int .i64 h_.Size, .int .i64 h_.Depth, .bool h_.Plated] rfl rfl rfl (fun g1 a w hf hs => ?_)
  refine S.val hf hs (v := .int .i64 0) rfl rfl rfl (V.pure rfl) (fun a hf => ?_)
  refine R.nil ?_
  refine X.then_ ?_
  refine wp_seq ?_
  refine R.list ?_
  refine S.val hf hs (v := .int .i64 0) rfl rfl rfl (V.pure rfl) (fun a hf => ?_)
  refine R.nil ?_
  refine X.then_ ?_
  refine wp_seq ?_
  refine wp_seq ?_
  refine R.list ?_
  refine S.val hf hs (v := .slice lA l.length lC) rfl rfl rfl (V.pure rfl) (fun a hf => ?_)
  refine S.val hf hs (v := .int .i64 (l.length : Int)) rfl rfl rfl (V.len rfl rfl Try.runUnderlying34) (fun a hf => ?_)
  refine S.val hf hs (v := .int .i64 0) rfl rfl rfl (V.pure rfl) (fun a hf => ?_)
  refine R.nil ?_
  refine X.then_ ?_
  refine wp_block ?_
  have hlenk1 := hv_l.len64
  refine C.range (fun (ll : List Hole) a w => ∃ (k1 : Nat) (n2 : Int), l.drop k1 = ll ∧ k1 + ll.length = l.length ∧ forIn' (fun k x (s : Int) next => M_ref8_many_L1 h_ k x s (fun n2 => next n2)) (fun (s : Int) => (fun (n2 : Int) => Q n2) s) ll k1 n2 ∧ FrOk 21 [(10, .int .i64 (k1 : Int)), (3, .pointer (some ⟨g1, 0, none⟩)), (5, .int .i64 n2), (8, .slice lA l.length lC), (9, .int .i64 (l.length : Int))] a ∧ Sat w0 none_ [hbox g1 76 [.int .i64 h_.At.X, .int .i64 h_.At.Y, .int .i64 h_.Size, .int .i64 h_.Depth, .bool h_.Plated]] w) l ⟨0, 0, rfl, Nat.zero_add _, h, (((((hf.nil.cons (hf.get 9 _ rfl)).cons (hf.get 8 _ rfl)).cons (hf.get 5 _ rfl)).cons (hf.get 3 _ rfl)).cons (hf.get 10 _ rfl)), hs⟩ ?_
  clear h hf hs
  rintro llk1 a w ⟨k1, n2, hlk1, hkk1, h, hf, hs⟩
  cases llk1 with
  | nil =>
    have hc := range_done hkk1
    replace h : (fun (n2 : Int) => Q n2) n2 := h
    refine wp_seq ?_
    refine R.list ?_
    refine S.val hf hs (v := .bool false) rfl rfl rfl (V.cmp false rfl rfl rfl rfl hc) (fun a hf => ?_)
    refine R.nil ?_
    refine X.then_ ?_
    refine wp_seq ?_
    refine C.no hf rfl ?_
    refine wp_exit ?_
    refine X.then_exit ?_
    refine X.then_exit ?_
    refine X.blk_exit ?_
    refine X.then_ ?_
    refine wp_seq ?_
    refine R.list ?_
    refine S.val hf hs (v := .int .i64 n2) rfl rfl rfl (V.pure rfl) (fun a hf => ?_)
    refine S.val hf hs (v := .int .i64 n2) rfl rfl rfl (V.pure rfl) (fun a hf => ?_)
    refine R.nil ?_
    refine X.then_ ?_
    refine wp_ret ?_
    exact L.ret hf (run_results1 Try.results81 (ResIs.tmp hf rfl)) ⟨n2, rfl, h, hs.nil⟩
  | cons xk1 llk1 =>
    have hltk1 := range_lt hkk1; have hc := range_go hkk1; have hxk1 := range_get hlk1
    obtain ⟨next1, hnext1⟩ : ∃ X : Int → Prop, X = (fun n2 => forIn' (fun k x (s : Int) next => M_ref8_many_L1 h_ k x s (fun n2 => next n2)) (fun (s : Int) => (fun (n2 : Int) => Q n2) s) llk1 (k1 + 1) n2) := ⟨_, rfl⟩
    replace h : M_ref8_many_L1 h_ k1 xk1 n2 next1 := by rw [hnext1]; exact h
    unfold M_ref8_many_L1 at h
    refine wp_seq ?_
    refine R.list ?_
    refine S.val hf hs (v := .bool true) rfl rfl rfl (V.cmp true rfl rfl rfl rfl hc) (fun a hf => ?_)
    refine R.nil ?_
    refine X.then_ ?_
    refine wp_seq ?_
    refine C.yes hf rfl ?_
    refine wp_skip ?_
    refine X.then_ ?_
    refine wp_seq ?_
    refine wp_block ?_
    refine wp_seq ?_
    refine R.list ?_
    refine S.val hf hs (v := elemPtr lA (k1 * 5)) rfl rfl rfl (V.index rfl rfl rfl Try.runUnderlying34 Try.sizeOf76 (hv_l.some_ (lt_of_get hxk1)) (Int.natCast_nonneg _) (lt_of_get hxk1) rfl) (fun a hf => ?_)
    refine S.val hf hs (v := .agg #[.int .i64 xk1.At.X, .int .i64 xk1.At.Y, .int .i64 xk1.Size, .int .i64 xk1.Depth, .bool xk1.Plated]) rfl rfl rfl (V.loadEl (off := 0) (Ag.args _ _ _) (hv_l.flat hxk1) rfl rfl rfl Try.isAgg76 Try.sizeOf76 rfl rfl) (fun a hf => ?_)
    refine S.alloc hf hs rfl rfl rfl [.int .i64 0, .int .i64 0, .int .i64 0, .int .i64 0, .bool false] rfl Try.zeroValue76 rfl (fun g2 a w hf hs => ?_)
    refine S.storeBox 0 hf hs rfl rfl [.int .i64 xk1.At.X, .int .i64 xk1.At.Y, .int .i64 xk1.Size, .int .i64 xk1.Depth, .bool xk1.Plated] [.int .i64 xk1.At.X, .int .i64 xk1.At.Y, .int .i64 xk1.Size, .int .i64 xk1.Depth, .bool xk1.Plated] rfl rfl rfl rfl rfl Try.sizeOf76 rfl rfl rfl rfl (fun a w hf hs => ?_)
    refine R.nil ?_
    refine X.then_ ?_
    refine wp_seq ?_
    refine R.list ?_
    refine S.val hf hs (v := .agg #[.int .i64 xk1.At.X, .int .i64 xk1.At.Y, .int .i64 xk1.Size, .int .i64 xk1.Depth, .bool xk1.Plated]) rfl rfl rfl (V.loadBox 0 rfl rfl rfl Try.isAgg76 Try.sizeOf76 rfl rfl) (fun a hf => ?_)
    refine S.val hf hs (v := .agg #[.int .i64 h_.At.X, .int .i64 h_.At.Y, .int .i64 h_.Size, .int .i64 h_.Depth, .bool h_.Plated]) rfl rfl rfl (V.loadBox 1 rfl rfl rfl Try.isAgg76 Try.sizeOf76 rfl rfl) (fun a hf => ?_)
    refine S.val hf hs (v := .bool (decide (xk1 = h_))) rfl rfl rfl (V.aggeql rfl rfl rfl (by kernel_rfl) (fun w => eqS76 xk1 h_ w)) (fun a hf => ?_)
    refine R.nil ?_
    refine X.then_ ?_
    refine C.cond hf (b := decide (xk1 = h_)) rfl (fun hc => ?_) (fun hc => ?_)
    · replace h := h.1 hc
      refine R.list ?_
      refine S.val hf hs (v := .int .i64 n2) rfl rfl rfl (V.pure rfl) (fun a hf => ?_)
      refine S.val hf hs (v := .int .i64 (w64 (n2 + 1))) rfl rfl rfl (V.pure rfl) (fun a hf => ?_)
      refine S.val hf hs (v := .int .i64 (w64 (n2 + 1))) rfl rfl rfl (V.pure rfl) (fun a hf => ?_)
      refine R.nil ?_
      refine X.blk ?_
      refine X.then_ ?_
      refine R.list ?_
      refine S.val hf hs (v := .int .i64 ((k1 + 1 : Nat) : Int)) rfl rfl rfl (V.incr rfl rfl rfl hltk1 hlenk1) (fun a hf => ?_)
      refine S.val hf hs (v := .int .i64 ((k1 + 1 : Nat) : Int)) rfl rfl rfl (V.pure rfl) (fun a hf => ?_)
      refine R.nil ?_
      refine X.then_ ?_
      exact ⟨xk1, llk1, rfl, k1 + 1, (w64 (n2 + 1)), range_drop hlk1, range_len hkk1, (by rw [hnext1] at h; exact h), (((((hf.nil.cons (hf.get 9 _ rfl)).cons (hf.get 8 _ rfl)).cons (hf.get 5 _ rfl)).cons (hf.get 3 _ rfl)).cons (hf.get 10 _ rfl)), hs.drop⟩
    · replace h := h.2 hc
      refine wp_skip ?_
      refine X.blk ?_
      refine X.then_ ?_
      refine R.list ?_
      refine S.val hf hs (v := .int .i64 ((k1 + 1 : Nat) : Int)) rfl rfl rfl (V.incr rfl rfl rfl hltk1 hlenk1) (fun a hf => ?_)
      refine S.val hf hs (v := .int .i64 ((k1 + 1 : Nat) : Int)) rfl rfl rfl (V.pure rfl) (fun a hf => ?_)
      refine R.nil ?_
      refine X.then_ ?_
      exact ⟨xk1, llk1, rfl, k1 + 1, n2, range_drop hlk1, range_len hkk1, (by rw [hnext1] at h; exact h), (((((hf.nil.cons (hf.get 9 _ rfl)).cons (hf.get 8 _ rfl)).cons (hf.get 5 _ rfl)).cons (hf.get 3 _ rfl)).cons (hf.get 10 _ rfl)), hs.drop⟩

set_option linter.unusedVariables false
def M_ref8_SameHoles_L1 (a_ : (List Hole)) (b : (List Hole)) (Q : Bool → Prop) (k1 : Nat) (xk1 : Hole)  (next1 : Prop) : Prop :=
  M_ref8_many a_ xk1 fun y1 => M_ref8_many b xk1 fun y2 => cnd (y1 != y2) (Q false) (next1)
def M_ref8_SameHoles (a_ : (List Hole)) (b : (List Hole)) (Q : Bool → Prop) : Prop :=
  forIn' (fun k x (s : Unit) next => M_ref8_SameHoles_L1 a_ b Q k x (next ())) (fun (s : Unit) => Q ((a_.length : Int) == (b.length : Int))) a_ 0 ()
set_option maxHeartbeats 1000000 in
theorem R_ref8_SameHoles (a_ : (List Hole)) (b : (List Hole)) (w0 : World) (a_A : Option Addr) (a_C : Nat) (hv_a_ : View w0 (old w0 none_) a_A a_C a_) (bA : Option Addr) (bC : Nat) (hv_b : View w0 (old w0 none_) bA bC b) (Q : Bool → Prop) (h : M_ref8_SameHoles a_ b Q) :
    Ret Try.prog 47 #[.slice a_A a_.length a_C, .slice bA b.length bC] w0 fun v w' => ∃ (r0 : Bool), v = .bool r0 ∧ Q r0 ∧ Sat w0 none_ [] w' := by
  refine fn_enter Try.func47 rfl Try.ntmps47 rfl (fs := [(0, .slice a_A a_.length a_C), (1, .slice bA b.length bC)]) rfl (fun a hf => ?_)
  have hs := Sat.start w0 none_
  unfold M_ref8_SameHoles at h
  refine wp_seq ?_
  refine R.list ?_
  refine S.val hf hs (v := .bool false) rfl rfl rfl (V.pure rfl) (fun a hf => ?_)
  refine R.nil ?_
  refine X.then_ ?_
  refine wp_seq ?_
  refine wp_seq ?_
  refine R.list ?_
  refine S.val hf hs (v := .slice a_A a_.length a_C) rfl rfl rfl (V.pure rfl) (fun a hf => ?_)
  refine S.val hf hs (v := .int .i64 (a_.length : Int)) rfl rfl rfl (V.len rfl rfl Try.runUnderlying34) (fun a hf => ?_)
  refine S.val hf hs (v := .int .i64 0) rfl rfl rfl (V.pure rfl) (fun a hf => ?_)
  refine R.nil ?_
  refine X.then_ ?_
  refine wp_block ?_
  have hlenk1 := hv_a_.len64
  refine C.range (fun (ll : List Hole) a w => ∃ (k1 : Nat) , a_.drop k1 = ll ∧ k1 + ll.length = a_.length ∧ forIn' (fun k x (s : Unit) next => M_ref8_SameHoles_L1 a_ b Q k x (next ())) (fun (s : Unit) => Q ((a_.length : Int) == (b.length : Int))) ll k1 () ∧ FrOk 26 [(9, .int .i64 (k1 : Int)), (0, .slice a_A a_.length a_C), (1, .slice bA b.length bC), (7, .slice a_A a_.length a_C), (8, .int .i64 (a_.length : Int))] a ∧ Sat w0 none_ [] w) a_ ⟨0, rfl, Nat.zero_add _, h, (((((hf.nil.cons (hf.get 8 _ rfl)).cons (hf.get 7 _ rfl)).cons (hf.get 1 _ rfl)).cons (hf.get 0 _ rfl)).cons (hf.get 9 _ rfl)), hs⟩ ?_
  clear h hf hs
  rintro llk1 a w ⟨k1, hlk1, hkk1, h, hf, hs⟩
  cases llk1 with
  | nil =>
    have hc := range_done hkk1
    replace h : Q ((a_.length : Int) == (b.length : Int)) := h
    refine wp_seq ?_
    refine R.list ?_
    refine S.val hf hs (v := .bool false) rfl rfl rfl (V.cmp false rfl rfl rfl rfl hc) (fun a hf => ?_)
    refine R.nil ?_
    refine X.then_ ?_
    refine wp_seq ?_
    refine C.no hf rfl ?_
    refine wp_exit ?_
    refine X.then_exit ?_
    refine X.then_exit ?_
    refine X.blk_exit ?_
    refine X.then_ ?_
    refine wp_seq ?_
    refine R.list ?_
    refine S.val hf hs (v := .slice a_A a_.length a_C) rfl rfl rfl (V.pure rfl) (fun a hf => ?_)
    refine S.val hf hs (v := .int .i64 (a_.length : Int)) rfl rfl rfl (V.len rfl rfl Try.runUnderlying34) (fun a hf => ?_)
    refine S.val hf hs (v := .slice bA b.length bC) rfl rfl rfl (V.pure rfl) (fun a hf => ?_)
    refine S.val hf hs (v := .int .i64 (b.length : Int)) rfl rfl rfl (V.len rfl rfl Try.runUnderlying34) (fun a hf => ?_)
    refine S.val hf hs (v := .bool ((a_.length : Int) == (b.length : Int))) rfl rfl rfl (V.pure rfl) (fun a hf => ?_)
    refine S.val hf hs (v := .bool ((a_.length : Int) == (b.length : Int))) rfl rfl rfl (V.pure rfl) (fun a hf => ?_)
    refine R.nil ?_
    refine X.then_ ?_
    refine wp_ret ?_
    exact L.ret hf (run_results1 Try.results47 (ResIs.tmp hf rfl)) ⟨((a_.length : Int) == (b.length : Int)), rfl, h, hs.nil⟩
  | cons xk1 llk1 =>
    have hltk1 := range_lt hkk1; have hc := range_go hkk1; have hxk1 := range_get hlk1
    obtain ⟨next1, hnext1⟩ : ∃ X : Prop, X = (forIn' (fun k x (s : Unit) next => M_ref8_SameHoles_L1 a_ b Q k x (next ())) (fun (s : Unit) => Q ((a_.length : Int) == (b.length : Int))) llk1 (k1 + 1) ()) := ⟨_, rfl⟩
    replace h : M_ref8_SameHoles_L1 a_ b Q k1 xk1  next1 := by rw [hnext1]; exact h
    unfold M_ref8_SameHoles_L1 at h
    refine wp_seq ?_
    refine R.list ?_
    refine S.val hf hs (v := .bool true) rfl rfl rfl (V.cmp true rfl rfl rfl rfl hc) (fun a hf => ?_)
    refine R.nil ?_
    refine X.then_ ?_
    refine wp_seq ?_
    refine C.yes hf rfl ?_
    refine wp_skip ?_
    refine X.then_ ?_
    refine wp_seq ?_
    refine wp_block ?_
    refine wp_seq ?_
    refine R.list ?_
    refine S.val hf hs (v := elemPtr a_A (k1 * 5)) rfl rfl rfl (V.index rfl rfl rfl Try.runUnderlying34 Try.sizeOf76 (hv_a_.some_ (lt_of_get hxk1)) (Int.natCast_nonneg _) (lt_of_get hxk1) rfl) (fun a hf => ?_)
    refine S.val hf hs (v := .agg #[.int .i64 xk1.At.X, .int .i64 xk1.At.Y, .int .i64 xk1.Size, .int .i64 xk1.Depth, .bool xk1.Plated]) rfl rfl rfl (V.loadEl (off := 0) (Ag.args _ _ _) (hv_a_.flat hxk1) rfl rfl rfl Try.isAgg76 Try.sizeOf76 rfl rfl) (fun a hf => ?_)
    refine S.alloc hf hs rfl rfl rfl [.int .i64 0, .int .i64 0, .int .i64 0, .int .i64 0, .bool false] rfl Try.zeroValue76 rfl (fun g1 a w hf hs => ?_)
    refine S.storeBox 0 hf hs rfl rfl [.int .i64 xk1.At.X, .int .i64 xk1.At.Y, .int .i64 xk1.Size, .int .i64 xk1.Depth, .bool xk1.Plated] [.int .i64 xk1.At.X, .int .i64 xk1.At.Y, .int .i64 xk1.Size, .int .i64 xk1.Depth, .bool xk1.Plated] rfl rfl rfl rfl rfl Try.sizeOf76 rfl rfl rfl rfl (fun a w hf hs => ?_)
    refine R.nil ?_
    refine X.then_ ?_
    refine wp_seq ?_
    refine H.start (S := Sat w0 none_ [hbox g1 76 [.int .i64 xk1.At.X, .int .i64 xk1.At.Y, .int .i64 xk1.Size, .int .i64 xk1.Depth, .bool xk1.Plated]]) mo ?_
    replace hs := hs.drew
    refine H.val hf hs (v := .slice a_A a_.length a_C) (i := 0) rfl rfl rfl rfl (by kernel_rfl) (by kernel_rfl) (by kernel_rfl) (V.pure rfl) (fun a hf => ?_)
    refine H.val hf hs (v := .agg #[.int .i64 xk1.At.X, .int .i64 xk1.At.Y, .int .i64 xk1.Size, .int .i64 xk1.Depth, .bool xk1.Plated]) (i := 1) rfl rfl rfl rfl (by kernel_rfl) (by kernel_rfl) (by kernel_rfl) (V.loadBox 0 rfl rfl rfl Try.isAgg76 Try.sizeOf76 rfl rfl) (fun a hf => ?_)
    refine H.val hf hs (v := .slice bA b.length bC) (i := 3) rfl rfl rfl rfl (by kernel_rfl) (by kernel_rfl) (by kernel_rfl) (V.pure rfl) (fun a hf => ?_)
    refine H.val hf hs (v := .agg #[.int .i64 xk1.At.X, .int .i64 xk1.At.Y, .int .i64 xk1.Size, .int .i64 xk1.Depth, .bool xk1.Plated]) (i := 4) rfl rfl rfl rfl (by kernel_rfl) (by kernel_rfl) (by kernel_rfl) (V.loadBox 0 rfl rfl rfl Try.isAgg76 Try.sizeOf76 rfl rfl) (fun a hf => ?_)
    refine H.one (i := 2) rfl (by kernel_rfl) ?_
    refine S.call hf rfl rfl rfl (call_fn (vs := [.slice a_A a_.length a_C, .agg #[.int .i64 xk1.At.X, .int .i64 xk1.At.Y, .int .i64 xk1.Size, .int .i64 xk1.Depth, .bool xk1.Plated]]) rfl rfl rfl Try.call81) (R_ref8_many a_ xk1 _ a_A a_C ((Ag.args _ _ _).view hv_a_ hs) _ h) (fun v a w' hf hr => ?_)
    obtain ⟨y1, rfl, h2, hs2⟩ := hr
    replace h := h2; replace hs := hs.call hs2; clear h2 hs2
    refine R.nil ?_
    refine X.then_ ?_
    refine ⟨hs, ?_⟩
    refine H.one (i := 5) rfl (by kernel_rfl) ?_
    refine S.call hf rfl rfl rfl (call_fn (vs := [.slice bA b.length bC, .agg #[.int .i64 xk1.At.X, .int .i64 xk1.At.Y, .int .i64 xk1.Size, .int .i64 xk1.Depth, .bool xk1.Plated]]) rfl rfl rfl Try.call81) (R_ref8_many b xk1 _ bA bC ((Ag.args _ _ _).view hv_b hs) _ h) (fun v a w' hf hr => ?_)
    obtain ⟨y2, rfl, h2, hs2⟩ := hr
    replace h := h2; replace hs := hs.call hs2; clear h2 hs2
    refine R.nil ?_
    refine X.then_ ?_
    refine ⟨hs, ?_⟩
    refine H.val hf hs (v := .bool (y1 != y2)) (i := 6) rfl rfl rfl rfl (by kernel_rfl) (by kernel_rfl) (by kernel_rfl) (V.pure rfl) (fun a hf => ?_)
    refine H.done (by kernel_rfl) ?_
    refine X.then_ ?_
    refine C.cond hf (b := y1 != y2) rfl (fun hc => ?_) (fun hc => ?_)
    · replace h := h.1 hc
      refine wp_seq ?_
      refine R.list ?_
      refine S.val hf hs (v := .bool false) rfl rfl rfl (V.pure rfl) (fun a hf => ?_)
      refine R.nil ?_
      refine X.then_ ?_
      refine wp_ret ?_
      refine X.blk_ret ?_
      refine X.then_ret ?_
      refine X.then_ret ?_
      refine X.blk_ret ?_
      refine X.then_ret ?_
      exact L.ret hf (run_results1 Try.results47 (ResIs.tmp hf rfl)) ⟨false, rfl, h, hs.nil⟩
    · replace h := h.2 hc
      refine wp_skip ?_
      refine X.blk ?_
      refine X.then_ ?_
      refine R.list ?_
      refine S.val hf hs (v := .int .i64 ((k1 + 1 : Nat) : Int)) rfl rfl rfl (V.incr rfl rfl rfl hltk1 hlenk1) (fun a hf => ?_)
      refine S.val hf hs (v := .int .i64 ((k1 + 1 : Nat) : Int)) rfl rfl rfl (V.pure rfl) (fun a hf => ?_)
      refine R.nil ?_
      refine X.then_ ?_
      exact ⟨xk1, llk1, rfl, k1 + 1, range_drop hlk1, range_len hkk1, (by rw [hnext1] at h; exact h), (((((hf.nil.cons (hf.get 8 _ rfl)).cons (hf.get 7 _ rfl)).cons (hf.get 1 _ rfl)).cons (hf.get 0 _ rfl)).cons (hf.get 9 _ rfl)), hs.drop⟩

set_option linter.unusedVariables false
def M_law_HasAll_k5 (Q : Bool → Prop) (next4 : Prop) (c1 : Bool) : Prop :=
  cnd c1 (Q false) (next4)
def M_law_HasAll_L4 (near : Int) (Q : Bool → Prop) (xk2 : Job) (xk3 : Bit) (k4 : Nat) (xk4 : Hole)  (next4 : Prop) : Prop :=
  cnd (xk3.Name == xk2.Tool) (cnd (decide (xk3.Size > w64 (xk4.Size + near))) (M_law_HasAll_k5 Q next4 true) (M_law_HasAll_k5 Q next4 (decide (xk4.Size > w64 (xk3.Size + near))))) (M_law_HasAll_k5 Q next4 false)
def M_law_HasAll_L3 (near : Int) (Q : Bool → Prop) (xk2 : Job) (k3 : Nat) (xk3 : Bit)  (next3 : Prop) : Prop :=
  forIn' (fun k x (s : Unit) next => M_law_HasAll_L4 near Q xk2 xk3 k x (next ())) (fun (s : Unit) => next3) xk2.Holes 0 ()
def M_law_HasAll_L2 (t : (List Bit)) (near : Int) (Q : Bool → Prop) (k2 : Nat) (xk2 : Job)  (next2 : Prop) : Prop :=
  forIn' (fun k x (s : Unit) next => M_law_HasAll_L3 near Q xk2 k x (next ())) (fun (s : Unit) => next2) t 0 ()
def M_law_HasAll_k6 (l : (List Hole)) (Q : Bool → Prop) (xk1 : Int) (l2 : List Hole) (next1 : List Hole → Prop) (c2 : Bool) : Prop :=
  cnd c2 (Q false) (idx l xk1 fun x1 => must (room (l2 ++ [x1]).length 40) (next1 (l2 ++ [x1])))
def M_law_HasAll_L1 (l : (List Hole)) (Q : Bool → Prop) (k1 : Nat) (xk1 : Int) (l2 : List Hole) (next1 : List Hole → Prop) : Prop :=
  cnd (decide (xk1 < 0)) (M_law_HasAll_k6 l Q xk1 l2 next1 true) (M_law_HasAll_k6 l Q xk1 l2 next1 (decide (xk1 ≥ (l.length : Int))))
def M_law_HasAll (t : (List Bit)) (l : (List Hole)) (near : Int) (Q : Bool → Prop) : Prop :=
  M_drill_Chosen t l near fun y1 y2 y3 => cnd (y3 != 0) (cnd ((y1.length : Int) == 0) (cnd ((y2.length : Int) == 0) (M_awake  fun y4 => Q y4) (Q false)) (Q false)) (M_ref8_All y1 fun y5 => forIn' (fun k x (s : List Hole) next => M_law_HasAll_L1 l Q k x s (fun l2 => next l2)) (fun (s : List Hole) => (fun (l2 : List Hole) => forIn' (fun k x (s : Unit) next => M_law_HasAll_L2 t near Q k x (next ())) (fun (s : Unit) => M_ref8_SameHoles l2 l fun y6 => cnd y6 (M_drill_CheckJobs t y1 fun y7 => cnd (y7 == 0) (M_awake  fun y8 => Q y8) (Q false)) (Q false)) y1 0 ()) s) y2 0 y5)
set_option maxHeartbeats 1000000 in
theorem R_law_HasAll (t : (List Bit)) (l : (List Hole)) (near : Int) (w0 : World) (tA : Option Addr) (tC : Nat) (hv_t : View w0 (old w0 none_) tA tC t) (lA : Option Addr) (lC : Nat) (hv_l : View w0 (old w0 none_) lA lC l) (Q : Bool → Prop) (h : M_law_HasAll t l near Q) :
    Ret Try.prog 14 #[.slice tA t.length tC, .slice lA l.length lC, .int .i64 near] w0 fun v w' => ∃ (r0 : Bool), v = .bool r0 ∧ Q r0 ∧ Sat w0 none_ [] w' := by
  refine fn_enter Try.func14 rfl Try.ntmps14 rfl (fs := [(0, .slice tA t.length tC), (1, .slice lA l.length lC), (2, .int .i64 near)]) rfl (fun a hf => ?_)
  have hs := Sat.start w0 none_
  unfold M_law_HasAll at h
  refine wp_seq ?_
  refine R.list ?_
  refine S.val hf hs (v := .bool false) rfl rfl rfl (V.pure rfl) (fun a hf => ?_)
  refine R.nil ?_
  refine X.then_ ?_
  refine wp_seq ?_
  refine R.list ?_
  refine S.val hf hs (v := .slice tA t.length tC) rfl rfl rfl (V.pure rfl) (fun a hf => ?_)
  refine S.val hf hs (v := .slice lA l.length lC) rfl rfl rfl (V.pure rfl) (fun a hf => ?_)
  refine S.val hf hs (v := .int .i64 near) rfl rfl rfl (V.pure rfl) (fun a hf => ?_)
  refine S.call hf rfl rfl rfl (call_fn (vs := [.slice tA t.length tC, .slice lA l.length lC, .int .i64 near]) rfl rfl rfl Try.call33) (R_drill_Chosen t l near _ tA tC ((Ag.args _ _ _).view hv_t hs) lA lC ((Ag.args _ _ _).view hv_l hs) _ h) (fun v a w' hf hr => ?_)
  obtain ⟨y1, y1A, y1C, y1as, y2, y2A, y2C, y3, rfl, h2, hs2⟩ := hr
  replace h := h2; replace hs := hs.call hs2; clear h2 hs2
  refine S.val hf hs (v := .tuple #[.slice y1A y1.length y1C, .slice y2A y2.length y2C, .int .i64 y3]) rfl rfl rfl (V.pure rfl) (fun a hf => ?_)
  refine S.val hf hs (v := .slice y1A y1.length y1C) rfl rfl rfl (V.pure rfl) (fun a hf => ?_)
  refine S.val hf hs (v := .slice y2A y2.length y2C) rfl rfl rfl (V.pure rfl) (fun a hf => ?_)
  refine S.val hf hs (v := .int .i64 y3) rfl rfl rfl (V.pure rfl) (fun a hf => ?_)
  refine S.val hf hs (v := .slice y1A y1.length y1C) rfl rfl rfl (V.pure rfl) (fun a hf => ?_)
  refine S.val hf hs (v := .slice y2A y2.length y2C) rfl rfl rfl (V.pure rfl) (fun a hf => ?_)
  refine S.val hf hs (v := .int .i64 y3) rfl rfl rfl (V.pure rfl) (fun a hf => ?_)
  refine R.nil ?_
  refine X.then_ ?_
  refine wp_seq ?_
  refine wp_seq ?_
  refine R.list ?_
  refine S.val hf hs (v := .int .i64 y3) rfl rfl rfl (V.pure rfl) (fun a hf => ?_)
  refine S.val hf hs (v := .bool (y3 != 0)) rfl rfl rfl (V.pure rfl) (fun a hf => ?_)
  refine R.nil ?_
  refine X.then_ ?_
  refine C.cond hf (b := y3 != 0) rfl (fun hc => ?_) (fun hc => ?_)
  · replace h := h.1 hc
    refine wp_seq ?_
    refine R.list ?_
    refine S.val hf hs (v := .slice y1A y1.length y1C) rfl rfl rfl (V.pure rfl) (fun a hf => ?_)
    refine S.val hf hs (v := .int .i64 (y1.length : Int)) rfl rfl rfl (V.len rfl rfl Try.runUnderlying49) (fun a hf => ?_)
    refine S.val hf hs (v := .bool ((y1.length : Int) == 0)) rfl rfl rfl (V.pure rfl) (fun a hf => ?_)
    refine S.split hf hs (b := (y1.length : Int) == 0) rfl rfl rfl (V.pure rfl) (fun hc a hf => ?_) (fun hc a hf => ?_)
    · replace h := h.1 hc
      refine S.val hf hs (v := .slice y2A y2.length y2C) rfl rfl rfl (V.pure rfl) (fun a hf => ?_)
      refine S.val hf hs (v := .int .i64 (y2.length : Int)) rfl rfl rfl (V.len rfl rfl Try.runUnderlying28) (fun a hf => ?_)
      refine S.val hf hs (v := .bool ((y2.length : Int) == 0)) rfl rfl rfl (V.pure rfl) (fun a hf => ?_)
      refine S.val hf hs (v := .bool ((y2.length : Int) == 0)) rfl rfl rfl (V.pure rfl) (fun a hf => ?_)
      refine S.split hf hs (b := (y2.length : Int) == 0) rfl rfl rfl (V.pure rfl) (fun hc a hf => ?_) (fun hc a hf => ?_)
      · replace h := h.1 hc
        refine S.call hf rfl rfl rfl (call_fn (vs := []) rfl rfl rfl Try.call20) (R_awake  _  _ h) (fun v a w' hf hr => ?_)
        obtain ⟨y4, rfl, h2, hs2⟩ := hr
        replace h := h2; replace hs := hs.call hs2; clear h2 hs2
        refine S.val hf hs (v := .bool y4) rfl rfl rfl (V.pure rfl) (fun a hf => ?_)
        refine S.val hf hs (v := .bool y4) rfl rfl rfl (V.pure rfl) (fun a hf => ?_)
        refine R.nil ?_
        refine X.then_ ?_
        refine wp_ret ?_
        refine X.then_ret ?_
        exact L.ret hf (run_results1 Try.results14 (ResIs.tmp hf rfl)) ⟨y4, rfl, h, hs.nil⟩
      · replace h := h.2 hc
        refine S.skip hf rfl rfl rfl (fun a hf => ?_)
        refine S.val hf hs (v := .bool false) rfl rfl rfl (V.pure rfl) (fun a hf => ?_)
        refine S.val hf hs (v := .bool false) rfl rfl rfl (V.pure rfl) (fun a hf => ?_)
        refine R.nil ?_
        refine X.then_ ?_
        refine wp_ret ?_
        refine X.then_ret ?_
        exact L.ret hf (run_results1 Try.results14 (ResIs.tmp hf rfl)) ⟨false, rfl, h, hs.nil⟩
    · replace h := h.2 hc
      refine S.skip hf rfl rfl rfl (fun a hf => ?_)
      refine S.skip hf rfl rfl rfl (fun a hf => ?_)
      refine S.skip hf rfl rfl rfl (fun a hf => ?_)
      refine S.val hf hs (v := .bool false) rfl rfl rfl (V.pure rfl) (fun a hf => ?_)
      refine S.val hf hs (v := .bool false) rfl rfl rfl (V.pure rfl) (fun a hf => ?_)
      refine S.skip hf rfl rfl rfl (fun a hf => ?_)
      refine S.val hf hs (v := .bool false) rfl rfl rfl (V.pure rfl) (fun a hf => ?_)
      refine S.val hf hs (v := .bool false) rfl rfl rfl (V.pure rfl) (fun a hf => ?_)
      refine R.nil ?_
      refine X.then_ ?_
      refine wp_ret ?_
      refine X.then_ret ?_
      exact L.ret hf (run_results1 Try.results14 (ResIs.tmp hf rfl)) ⟨false, rfl, h, hs.nil⟩
  · replace h := h.2 hc
    refine wp_skip ?_
    refine X.then_ ?_
    refine wp_seq ?_
    refine R.list ?_
    refine S.val hf hs (v := .slice y1A y1.length y1C) rfl rfl rfl (V.pure rfl) (fun a hf => ?_)
    refine S.call hf rfl rfl rfl (call_fn (vs := [.slice y1A y1.length y1C]) rfl rfl rfl Try.call46) (R_ref8_All y1 _ y1A y1C (hs.rowsView 0 rfl) _ h) (fun v a w' hf hr => ?_)
    obtain ⟨y5, y5A, y5C, rfl, h2, hs2⟩ := hr
    replace h := h2; replace hs := hs.call hs2; clear h2 hs2
    refine S.val hf hs (v := .slice y5A y5.length y5C) rfl rfl rfl (V.pure rfl) (fun a hf => ?_)
    refine R.nil ?_
    refine X.then_ ?_
    refine wp_seq ?_
    refine wp_seq ?_
    refine R.list ?_
    refine S.val hf hs (v := .slice y2A y2.length y2C) rfl rfl rfl (V.pure rfl) (fun a hf => ?_)
    refine S.val hf hs (v := .int .i64 (y2.length : Int)) rfl rfl rfl (V.len rfl rfl Try.runUnderlying28) (fun a hf => ?_)
    refine S.val hf hs (v := .int .i64 0) rfl rfl rfl (V.pure rfl) (fun a hf => ?_)
    refine R.nil ?_
    refine X.then_ ?_
    refine wp_block ?_
    have hlenk1 := (hs.ownView 2 rfl).len64
    refine C.range (fun (ll : List Int) a w => ∃ (k1 : Nat) (l2 : List Hole) (l2A : Option Addr) (l2C : Nat), y2.drop k1 = ll ∧ k1 + ll.length = y2.length ∧ forIn' (fun k x (s : List Hole) next => M_law_HasAll_L1 l Q k x s (fun l2 => next l2)) (fun (s : List Hole) => (fun (l2 : List Hole) => forIn' (fun k x (s : Unit) next => M_law_HasAll_L2 t near Q k x (next ())) (fun (s : Unit) => M_ref8_SameHoles l2 l fun y6 => cnd y6 (M_drill_CheckJobs t y1 fun y7 => cnd (y7 == 0) (M_awake  fun y8 => Q y8) (Q false)) (Q false)) y1 0 ()) s) ll k1 l2 ∧ FrOk 121 [(44, .int .i64 (k1 : Int)), (0, .slice tA t.length tC), (1, .slice lA l.length lC), (2, .int .i64 near), (7, .slice y1A y1.length y1C), (10, .slice l2A l2.length l2C), (42, .slice y2A y2.length y2C), (43, .int .i64 (y2.length : Int))] a ∧ Sat w0 none_ [hown 76 l2A l2C l2, hrows 54 76 y1A y1C y1as y1, hown 3 y2A y2C y2] w) y2 ⟨0, y5, y5A, y5C, rfl, Nat.zero_add _, h, ((((((((hf.nil.cons (hf.get 43 _ rfl)).cons (hf.get 42 _ rfl)).cons (hf.get 10 _ rfl)).cons (hf.get 7 _ rfl)).cons (hf.get 2 _ rfl)).cons (hf.get 1 _ rfl)).cons (hf.get 0 _ rfl)).cons (hf.get 44 _ rfl)), hs⟩ ?_
    clear h hf hs
    rintro llk1 a w ⟨k1, l2, l2A, l2C, hlk1, hkk1, h, hf, hs⟩
    cases llk1 with
    | nil =>
      have hc := range_done hkk1
      replace h : (fun (l2 : List Hole) => forIn' (fun k x (s : Unit) next => M_law_HasAll_L2 t near Q k x (next ())) (fun (s : Unit) => M_ref8_SameHoles l2 l fun y6 => cnd y6 (M_drill_CheckJobs t y1 fun y7 => cnd (y7 == 0) (M_awake  fun y8 => Q y8) (Q false)) (Q false)) y1 0 ()) l2 := h
      refine wp_seq ?_
      refine R.list ?_
      refine S.val hf hs (v := .bool false) rfl rfl rfl (V.cmp false rfl rfl rfl rfl hc) (fun a hf => ?_)
      refine R.nil ?_
      refine X.then_ ?_
      refine wp_seq ?_
      refine C.no hf rfl ?_
      refine wp_exit ?_
      refine X.then_exit ?_
      refine X.then_exit ?_
      refine X.blk_exit ?_
      refine X.then_ ?_
      refine wp_seq ?_
      refine wp_seq ?_
      refine R.list ?_
      refine S.val hf hs (v := .slice y1A y1.length y1C) rfl rfl rfl (V.pure rfl) (fun a hf => ?_)
      refine S.val hf hs (v := .int .i64 (y1.length : Int)) rfl rfl rfl (V.len rfl rfl Try.runUnderlying49) (fun a hf => ?_)
      refine S.val hf hs (v := .int .i64 0) rfl rfl rfl (V.pure rfl) (fun a hf => ?_)
      refine R.nil ?_
      refine X.then_ ?_
      refine wp_block ?_
      have hlenk2 := (hs.rowsView 1 rfl).len64
      refine C.range (fun (ll : List Job) a w => ∃ (k2 : Nat) , y1.drop k2 = ll ∧ k2 + ll.length = y1.length ∧ forIn' (fun k x (s : Unit) next => M_law_HasAll_L2 t near Q k x (next ())) (fun (s : Unit) => M_ref8_SameHoles l2 l fun y6 => cnd y6 (M_drill_CheckJobs t y1 fun y7 => cnd (y7 == 0) (M_awake  fun y8 => Q y8) (Q false)) (Q false)) ll k2 () ∧ FrOk 121 [(66, .int .i64 (k2 : Int)), (0, .slice tA t.length tC), (1, .slice lA l.length lC), (2, .int .i64 near), (7, .slice y1A y1.length y1C), (10, .slice l2A l2.length l2C), (64, .slice y1A y1.length y1C), (65, .int .i64 (y1.length : Int))] a ∧ Sat w0 none_ [hown 76 l2A l2C l2, hrows 54 76 y1A y1C y1as y1, hown 3 y2A y2C y2] w) y1 ⟨0, rfl, Nat.zero_add _, h, ((((((((hf.nil.cons (hf.get 65 _ rfl)).cons (hf.get 64 _ rfl)).cons (hf.get 10 _ rfl)).cons (hf.get 7 _ rfl)).cons (hf.get 2 _ rfl)).cons (hf.get 1 _ rfl)).cons (hf.get 0 _ rfl)).cons (hf.get 66 _ rfl)), hs⟩ ?_
      clear h hf hs
      rintro llk2 a w ⟨k2, hlk2, hkk2, h, hf, hs⟩
      cases llk2 with
      | nil =>
        have hc := range_done hkk2
        replace h : M_ref8_SameHoles l2 l fun y6 => cnd y6 (M_drill_CheckJobs t y1 fun y7 => cnd (y7 == 0) (M_awake  fun y8 => Q y8) (Q false)) (Q false) := h
        refine wp_seq ?_
        refine R.list ?_
        refine S.val hf hs (v := .bool false) rfl rfl rfl (V.cmp false rfl rfl rfl rfl hc) (fun a hf => ?_)
        refine R.nil ?_
        refine X.then_ ?_
        refine wp_seq ?_
        refine C.no hf rfl ?_
        refine wp_exit ?_
        refine X.then_exit ?_
        refine X.then_exit ?_
        refine X.blk_exit ?_
        refine X.then_ ?_
        refine wp_seq ?_
        refine R.list ?_
        refine S.val hf hs (v := .slice l2A l2.length l2C) rfl rfl rfl (V.pure rfl) (fun a hf => ?_)
        refine S.val hf hs (v := .slice lA l.length lC) rfl rfl rfl (V.pure rfl) (fun a hf => ?_)
        refine S.call hf rfl rfl rfl (call_fn (vs := [.slice l2A l2.length l2C, .slice lA l.length lC]) rfl rfl rfl Try.call47) (R_ref8_SameHoles l2 l _ l2A l2C (hs.ownView 0 rfl) lA lC ((Ag.args _ _ _).view hv_l hs) _ h) (fun v a w' hf hr => ?_)
        obtain ⟨y6, rfl, h2, hs2⟩ := hr
        replace h := h2; replace hs := hs.call hs2; clear h2 hs2
        refine S.split hf hs (b := y6) rfl rfl rfl (V.pure rfl) (fun hc a hf => ?_) (fun hc a hf => ?_)
        · replace h := h.1 hc
          refine S.val hf hs (v := .slice tA t.length tC) rfl rfl rfl (V.pure rfl) (fun a hf => ?_)
          refine S.val hf hs (v := .slice y1A y1.length y1C) rfl rfl rfl (V.pure rfl) (fun a hf => ?_)
          refine S.call hf rfl rfl rfl (call_fn (vs := [.slice tA t.length tC, .slice y1A y1.length y1C]) rfl rfl rfl Try.call42) (R_drill_CheckJobs t y1 _ tA tC ((Ag.args _ _ _).view hv_t hs) y1A y1C (hs.rowsView 1 rfl) _ h) (fun v a w' hf hr => ?_)
          obtain ⟨y7, rfl, h2, hs2⟩ := hr
          replace h := h2; replace hs := hs.call hs2; clear h2 hs2
          refine S.val hf hs (v := .bool (y7 == 0)) rfl rfl rfl (V.pure rfl) (fun a hf => ?_)
          refine S.val hf hs (v := .bool (y7 == 0)) rfl rfl rfl (V.pure rfl) (fun a hf => ?_)
          refine S.split hf hs (b := y7 == 0) rfl rfl rfl (V.pure rfl) (fun hc a hf => ?_) (fun hc a hf => ?_)
          · replace h := h.1 hc
            refine S.call hf rfl rfl rfl (call_fn (vs := []) rfl rfl rfl Try.call20) (R_awake  _  _ h) (fun v a w' hf hr => ?_)
            obtain ⟨y8, rfl, h2, hs2⟩ := hr
            replace h := h2; replace hs := hs.call hs2; clear h2 hs2
            refine S.val hf hs (v := .bool y8) rfl rfl rfl (V.pure rfl) (fun a hf => ?_)
            refine S.val hf hs (v := .bool y8) rfl rfl rfl (V.pure rfl) (fun a hf => ?_)
            refine R.nil ?_
            refine X.then_ ?_
            refine wp_ret ?_
            exact L.ret hf (run_results1 Try.results14 (ResIs.tmp hf rfl)) ⟨y8, rfl, h, hs.nil⟩
          · replace h := h.2 hc
            refine S.skip hf rfl rfl rfl (fun a hf => ?_)
            refine S.val hf hs (v := .bool false) rfl rfl rfl (V.pure rfl) (fun a hf => ?_)
            refine S.val hf hs (v := .bool false) rfl rfl rfl (V.pure rfl) (fun a hf => ?_)
            refine R.nil ?_
            refine X.then_ ?_
            refine wp_ret ?_
            exact L.ret hf (run_results1 Try.results14 (ResIs.tmp hf rfl)) ⟨false, rfl, h, hs.nil⟩
        · replace h := h.2 hc
          refine S.skip hf rfl rfl rfl (fun a hf => ?_)
          refine S.skip hf rfl rfl rfl (fun a hf => ?_)
          refine S.skip hf rfl rfl rfl (fun a hf => ?_)
          refine S.skip hf rfl rfl rfl (fun a hf => ?_)
          refine S.val hf hs (v := .bool false) rfl rfl rfl (V.pure rfl) (fun a hf => ?_)
          refine S.val hf hs (v := .bool false) rfl rfl rfl (V.pure rfl) (fun a hf => ?_)
          refine S.skip hf rfl rfl rfl (fun a hf => ?_)
          refine S.val hf hs (v := .bool false) rfl rfl rfl (V.pure rfl) (fun a hf => ?_)
          refine S.val hf hs (v := .bool false) rfl rfl rfl (V.pure rfl) (fun a hf => ?_)
          refine R.nil ?_
          refine X.then_ ?_
          refine wp_ret ?_
          exact L.ret hf (run_results1 Try.results14 (ResIs.tmp hf rfl)) ⟨false, rfl, h, hs.nil⟩
      | cons xk2 llk2 =>
        have hltk2 := range_lt hkk2; have hc := range_go hkk2; have hxk2 := range_get hlk2
        obtain ⟨next2, hnext2⟩ : ∃ X : Prop, X = (forIn' (fun k x (s : Unit) next => M_law_HasAll_L2 t near Q k x (next ())) (fun (s : Unit) => M_ref8_SameHoles l2 l fun y6 => cnd y6 (M_drill_CheckJobs t y1 fun y7 => cnd (y7 == 0) (M_awake  fun y8 => Q y8) (Q false)) (Q false)) llk2 (k2 + 1) ()) := ⟨_, rfl⟩
        replace h : M_law_HasAll_L2 t near Q k2 xk2  next2 := by rw [hnext2]; exact h
        unfold M_law_HasAll_L2 at h
        refine wp_seq ?_
        refine R.list ?_
        refine S.val hf hs (v := .bool true) rfl rfl rfl (V.cmp true rfl rfl rfl rfl hc) (fun a hf => ?_)
        refine R.nil ?_
        refine X.then_ ?_
        refine wp_seq ?_
        refine C.yes hf rfl ?_
        refine wp_skip ?_
        refine X.then_ ?_
        refine wp_seq ?_
        refine wp_block ?_
        refine wp_seq ?_
        refine R.list ?_
        refine S.val hf hs (v := elemPtr y1A (k2 * 2)) rfl rfl rfl (V.index rfl rfl rfl Try.runUnderlying49 Try.sizeOf54 (hs.rowsSome 1 rfl hxk2) (Int.natCast_nonneg _) (lt_of_get hxk2) rfl) (fun a hf => ?_)
        obtain ⟨B1, D1, hrB1⟩ := hs.rowAt 1 rfl hxk2
        refine S.val hf hs (v := .agg #[.string (ba xk2.Tool), .slice B1 xk2.Holes.length D1]) rfl rfl rfl (V.loadRows (off := 0) 1 rfl hxk2 hrB1 rfl rfl rfl Try.isAgg54 Try.sizeOf54 rfl rfl) (fun a hf => ?_)
        refine S.alloc hf hs rfl rfl rfl [.string (ba []), .slice none 0 0] rfl Try.zeroValue54 rfl (fun g1 a w hf hs => ?_)
        refine S.storeBox 0 hf hs rfl rfl [.string (ba xk2.Tool), .slice B1 xk2.Holes.length D1] [.string (ba xk2.Tool), .slice B1 xk2.Holes.length D1] rfl rfl rfl rfl rfl Try.sizeOf54 rfl rfl rfl rfl (fun a w hf hs => ?_)
        refine R.nil ?_
        refine X.then_ ?_
        refine wp_seq ?_
        refine R.list ?_
        refine S.val hf hs (v := .slice tA t.length tC) rfl rfl rfl (V.pure rfl) (fun a hf => ?_)
        refine S.val hf hs (v := .int .i64 (t.length : Int)) rfl rfl rfl (V.len rfl rfl Try.runUnderlying48) (fun a hf => ?_)
        refine S.val hf hs (v := .int .i64 0) rfl rfl rfl (V.pure rfl) (fun a hf => ?_)
        refine R.nil ?_
        refine X.then_ ?_
        refine wp_block ?_
        have hlenk3 := hv_t.len64
        refine C.range (fun (ll : List Bit) a w => ∃ (k3 : Nat) , t.drop k3 = ll ∧ k3 + ll.length = t.length ∧ forIn' (fun k x (s : Unit) next => M_law_HasAll_L3 near Q xk2 k x (next ())) (fun (s : Unit) => next2) ll k3 () ∧ FrOk 121 [(72, .int .i64 (k3 : Int)), (0, .slice tA t.length tC), (1, .slice lA l.length lC), (2, .int .i64 near), (7, .slice y1A y1.length y1C), (10, .slice l2A l2.length l2C), (14, .pointer (some ⟨g1, 0, none⟩)), (64, .slice y1A y1.length y1C), (65, .int .i64 (y1.length : Int)), (66, .int .i64 (k2 : Int)), (70, .slice tA t.length tC), (71, .int .i64 (t.length : Int))] a ∧ Sat w0 none_ [hbox g1 54 [.string (ba xk2.Tool), .slice B1 xk2.Holes.length D1], hown 76 l2A l2C l2, hrows 54 76 y1A y1C y1as y1, hown 3 y2A y2C y2] w) t ⟨0, rfl, Nat.zero_add _, h, ((((((((((((hf.nil.cons (hf.get 71 _ rfl)).cons (hf.get 70 _ rfl)).cons (hf.get 66 _ rfl)).cons (hf.get 65 _ rfl)).cons (hf.get 64 _ rfl)).cons (hf.get 14 _ rfl)).cons (hf.get 10 _ rfl)).cons (hf.get 7 _ rfl)).cons (hf.get 2 _ rfl)).cons (hf.get 1 _ rfl)).cons (hf.get 0 _ rfl)).cons (hf.get 72 _ rfl)), hs⟩ ?_
        clear h hf hs
        rintro llk3 a w ⟨k3, hlk3, hkk3, h, hf, hs⟩
        cases llk3 with
        | nil =>
          have hc := range_done hkk3
          replace h : next2 := h
          refine wp_seq ?_
          refine R.list ?_
          refine S.val hf hs (v := .bool false) rfl rfl rfl (V.cmp false rfl rfl rfl rfl hc) (fun a hf => ?_)
          refine R.nil ?_
          refine X.then_ ?_
          refine wp_seq ?_
          refine C.no hf rfl ?_
          refine wp_exit ?_
          refine X.then_exit ?_
          refine X.then_exit ?_
          refine X.blk_exit ?_
          refine X.blk ?_
          refine X.then_ ?_
          refine R.list ?_
          refine S.val hf hs (v := .int .i64 ((k2 + 1 : Nat) : Int)) rfl rfl rfl (V.incr rfl rfl rfl hltk2 hlenk2) (fun a hf => ?_)
          refine S.val hf hs (v := .int .i64 ((k2 + 1 : Nat) : Int)) rfl rfl rfl (V.pure rfl) (fun a hf => ?_)
          refine R.nil ?_
          refine X.then_ ?_
          exact ⟨xk2, llk2, rfl, k2 + 1, range_drop hlk2, range_len hkk2, (by rw [hnext2] at h; exact h), ((((((((hf.nil.cons (hf.get 65 _ rfl)).cons (hf.get 64 _ rfl)).cons (hf.get 10 _ rfl)).cons (hf.get 7 _ rfl)).cons (hf.get 2 _ rfl)).cons (hf.get 1 _ rfl)).cons (hf.get 0 _ rfl)).cons (hf.get 66 _ rfl)), hs.drop⟩
        | cons xk3 llk3 =>
          have hltk3 := range_lt hkk3; have hc := range_go hkk3; have hxk3 := range_get hlk3
          obtain ⟨next3, hnext3⟩ : ∃ X : Prop, X = (forIn' (fun k x (s : Unit) next => M_law_HasAll_L3 near Q xk2 k x (next ())) (fun (s : Unit) => next2) llk3 (k3 + 1) ()) := ⟨_, rfl⟩
          replace h : M_law_HasAll_L3 near Q xk2 k3 xk3  next3 := by rw [hnext3]; exact h
          unfold M_law_HasAll_L3 at h
          refine wp_seq ?_
          refine R.list ?_
          refine S.val hf hs (v := .bool true) rfl rfl rfl (V.cmp true rfl rfl rfl rfl hc) (fun a hf => ?_)
          refine R.nil ?_
          refine X.then_ ?_
          refine wp_seq ?_
          refine C.yes hf rfl ?_
          refine wp_skip ?_
          refine X.then_ ?_
          refine wp_seq ?_
          refine wp_block ?_
          refine wp_seq ?_
          refine R.list ?_
          refine S.val hf hs (v := elemPtr tA (k3 * 4)) rfl rfl rfl (V.index rfl rfl rfl Try.runUnderlying48 Try.sizeOf56 (hv_t.some_ (lt_of_get hxk3)) (Int.natCast_nonneg _) (lt_of_get hxk3) rfl) (fun a hf => ?_)
          refine S.val hf hs (v := .agg #[.string (ba xk3.Name), .int .i64 xk3.Size, .int .i64 xk3.Life, .int .i64 xk3.Stack]) rfl rfl rfl (V.loadEl (off := 0) (Ag.args _ _ _) (hv_t.flat hxk3) rfl rfl rfl Try.isAgg56 Try.sizeOf56 rfl rfl) (fun a hf => ?_)
          refine S.alloc hf hs rfl rfl rfl [.string (ba []), .int .i64 0, .int .i64 0, .int .i64 0] rfl Try.zeroValue56 rfl (fun g2 a w hf hs => ?_)
          refine S.storeBox 0 hf hs rfl rfl [.string (ba xk3.Name), .int .i64 xk3.Size, .int .i64 xk3.Life, .int .i64 xk3.Stack] [.string (ba xk3.Name), .int .i64 xk3.Size, .int .i64 xk3.Life, .int .i64 xk3.Stack] rfl rfl rfl rfl rfl Try.sizeOf56 rfl rfl rfl rfl (fun a w hf hs => ?_)
          refine R.nil ?_
          refine X.then_ ?_
          refine wp_seq ?_
          refine R.list ?_
          refine S.val hf hs (v := .pointer (some ⟨g1, 1, none⟩)) rfl rfl rfl (V.fieldBox rfl rfl Try.runUnderlying54 rfl Try.sizeOf34 rfl rfl) (fun a hf => ?_)
          refine S.val hf hs (v := .slice B1 xk2.Holes.length D1) rfl rfl rfl (V.loadBox 1 rfl rfl rfl Try.isAgg34 Try.sizeOf34 rfl rfl) (fun a hf => ?_)
          refine S.val hf hs (v := .int .i64 (xk2.Holes.length : Int)) rfl rfl rfl (V.len rfl rfl Try.runUnderlying34) (fun a hf => ?_)
          refine S.val hf hs (v := .int .i64 0) rfl rfl rfl (V.pure rfl) (fun a hf => ?_)
          refine R.nil ?_
          refine X.then_ ?_
          refine wp_block ?_
          have hlenk4 := (hs.rowView 3 rfl hxk2 hrB1).len64
          refine C.range (fun (ll : List Hole) a w => ∃ (k4 : Nat) , xk2.Holes.drop k4 = ll ∧ k4 + ll.length = xk2.Holes.length ∧ forIn' (fun k x (s : Unit) next => M_law_HasAll_L4 near Q xk2 xk3 k x (next ())) (fun (s : Unit) => next3) ll k4 () ∧ FrOk 121 [(79, .int .i64 (k4 : Int)), (0, .slice tA t.length tC), (1, .slice lA l.length lC), (2, .int .i64 near), (7, .slice y1A y1.length y1C), (10, .slice l2A l2.length l2C), (14, .pointer (some ⟨g1, 0, none⟩)), (16, .pointer (some ⟨g2, 0, none⟩)), (64, .slice y1A y1.length y1C), (65, .int .i64 (y1.length : Int)), (66, .int .i64 (k2 : Int)), (70, .slice tA t.length tC), (71, .int .i64 (t.length : Int)), (72, .int .i64 (k3 : Int)), (77, .slice B1 xk2.Holes.length D1), (78, .int .i64 (xk2.Holes.length : Int))] a ∧ Sat w0 none_ [hbox g2 56 [.string (ba xk3.Name), .int .i64 xk3.Size, .int .i64 xk3.Life, .int .i64 xk3.Stack], hbox g1 54 [.string (ba xk2.Tool), .slice B1 xk2.Holes.length D1], hown 76 l2A l2C l2, hrows 54 76 y1A y1C y1as y1, hown 3 y2A y2C y2] w) xk2.Holes ⟨0, rfl, Nat.zero_add _, h, ((((((((((((((((hf.nil.cons (hf.get 78 _ rfl)).cons (hf.get 77 _ rfl)).cons (hf.get 72 _ rfl)).cons (hf.get 71 _ rfl)).cons (hf.get 70 _ rfl)).cons (hf.get 66 _ rfl)).cons (hf.get 65 _ rfl)).cons (hf.get 64 _ rfl)).cons (hf.get 16 _ rfl)).cons (hf.get 14 _ rfl)).cons (hf.get 10 _ rfl)).cons (hf.get 7 _ rfl)).cons (hf.get 2 _ rfl)).cons (hf.get 1 _ rfl)).cons (hf.get 0 _ rfl)).cons (hf.get 79 _ rfl)), hs⟩ ?_
          clear h hf hs
          rintro llk4 a w ⟨k4, hlk4, hkk4, h, hf, hs⟩
          cases llk4 with
          | nil =>
            have hc := range_done hkk4
            replace h : next3 := h
            refine wp_seq ?_
            refine R.list ?_
            refine S.val hf hs (v := .bool false) rfl rfl rfl (V.cmp false rfl rfl rfl rfl hc) (fun a hf => ?_)
            refine R.nil ?_
            refine X.then_ ?_
            refine wp_seq ?_
            refine C.no hf rfl ?_
            refine wp_exit ?_
            refine X.then_exit ?_
            refine X.then_exit ?_
            refine X.blk_exit ?_
            refine X.blk ?_
            refine X.then_ ?_
            refine R.list ?_
            refine S.val hf hs (v := .int .i64 ((k3 + 1 : Nat) : Int)) rfl rfl rfl (V.incr rfl rfl rfl hltk3 hlenk3) (fun a hf => ?_)
            refine S.val hf hs (v := .int .i64 ((k3 + 1 : Nat) : Int)) rfl rfl rfl (V.pure rfl) (fun a hf => ?_)
            refine R.nil ?_
            refine X.then_ ?_
            exact ⟨xk3, llk3, rfl, k3 + 1, range_drop hlk3, range_len hkk3, (by rw [hnext3] at h; exact h), ((((((((((((hf.nil.cons (hf.get 71 _ rfl)).cons (hf.get 70 _ rfl)).cons (hf.get 66 _ rfl)).cons (hf.get 65 _ rfl)).cons (hf.get 64 _ rfl)).cons (hf.get 14 _ rfl)).cons (hf.get 10 _ rfl)).cons (hf.get 7 _ rfl)).cons (hf.get 2 _ rfl)).cons (hf.get 1 _ rfl)).cons (hf.get 0 _ rfl)).cons (hf.get 72 _ rfl)), hs.drop⟩
          | cons xk4 llk4 =>
            have hltk4 := range_lt hkk4; have hc := range_go hkk4; have hxk4 := range_get hlk4
            obtain ⟨next4, hnext4⟩ : ∃ X : Prop, X = (forIn' (fun k x (s : Unit) next => M_law_HasAll_L4 near Q xk2 xk3 k x (next ())) (fun (s : Unit) => next3) llk4 (k4 + 1) ()) := ⟨_, rfl⟩
            replace h : M_law_HasAll_L4 near Q xk2 xk3 k4 xk4  next4 := by rw [hnext4]; exact h
            unfold M_law_HasAll_L4 at h
            refine wp_seq ?_
            refine R.list ?_
            refine S.val hf hs (v := .bool true) rfl rfl rfl (V.cmp true rfl rfl rfl rfl hc) (fun a hf => ?_)
            refine R.nil ?_
            refine X.then_ ?_
            refine wp_seq ?_
            refine C.yes hf rfl ?_
            refine wp_skip ?_
            refine X.then_ ?_
            refine wp_seq ?_
            refine wp_block ?_
            refine wp_seq ?_
            refine R.list ?_
            refine S.val hf hs (v := elemPtr B1 (k4 * 5)) rfl rfl rfl (V.index rfl rfl rfl Try.runUnderlying34 Try.sizeOf76 ((hs.rowView 3 rfl hxk2 hrB1).some_ (lt_of_get hxk4)) (Int.natCast_nonneg _) (lt_of_get hxk4) rfl) (fun a hf => ?_)
            refine S.val hf hs (v := .agg #[.int .i64 xk4.At.X, .int .i64 xk4.At.Y, .int .i64 xk4.Size, .int .i64 xk4.Depth, .bool xk4.Plated]) rfl rfl rfl (V.loadRowEl (off := 0) 3 rfl hxk2 hrB1 hxk4 rfl rfl rfl Try.isAgg76 Try.sizeOf76 rfl rfl) (fun a hf => ?_)
            refine S.alloc hf hs rfl rfl rfl [.int .i64 0, .int .i64 0, .int .i64 0, .int .i64 0, .bool false] rfl Try.zeroValue76 rfl (fun g3 a w hf hs => ?_)
            refine S.storeBox 0 hf hs rfl rfl [.int .i64 xk4.At.X, .int .i64 xk4.At.Y, .int .i64 xk4.Size, .int .i64 xk4.Depth, .bool xk4.Plated] [.int .i64 xk4.At.X, .int .i64 xk4.At.Y, .int .i64 xk4.Size, .int .i64 xk4.Depth, .bool xk4.Plated] rfl rfl rfl rfl rfl Try.sizeOf76 rfl rfl rfl rfl (fun a w hf hs => ?_)
            refine R.nil ?_
            refine X.then_ ?_
            refine wp_seq ?_
            refine C.cut (J := fun a w => ∃ (c1 : Bool), M_law_HasAll_k5 Q next4 c1 ∧ FrOk 121 [(0, .slice tA t.length tC), (1, .slice lA l.length lC), (2, .int .i64 near), (7, .slice y1A y1.length y1C), (10, .slice l2A l2.length l2C), (14, .pointer (some ⟨g1, 0, none⟩)), (16, .pointer (some ⟨g2, 0, none⟩)), (64, .slice y1A y1.length y1C), (65, .int .i64 (y1.length : Int)), (66, .int .i64 (k2 : Int)), (70, .slice tA t.length tC), (71, .int .i64 (t.length : Int)), (72, .int .i64 (k3 : Int)), (77, .slice B1 xk2.Holes.length D1), (78, .int .i64 (xk2.Holes.length : Int)), (79, .int .i64 (k4 : Int)), (105, .bool c1)] a ∧ Sat w0 none_ [hbox g3 76 [.int .i64 xk4.At.X, .int .i64 xk4.At.Y, .int .i64 xk4.Size, .int .i64 xk4.Depth, .bool xk4.Plated], hbox g2 56 [.string (ba xk3.Name), .int .i64 xk3.Size, .int .i64 xk3.Life, .int .i64 xk3.Stack], hbox g1 54 [.string (ba xk2.Tool), .slice B1 xk2.Holes.length D1], hown 76 l2A l2C l2, hrows 54 76 y1A y1C y1as y1, hown 3 y2A y2C y2] w) ?_ ?_
            · rintro a w ⟨c1, h, hf, hs⟩
              unfold M_law_HasAll_k5 at h
              refine C.cond hf (b := c1) rfl (fun hc => ?_) (fun hc => ?_)
              · replace h := h.1 hc
                refine wp_seq ?_
                refine R.list ?_
                refine S.val hf hs (v := .bool false) rfl rfl rfl (V.pure rfl) (fun a hf => ?_)
                refine R.nil ?_
                refine X.then_ ?_
                refine wp_ret ?_
                refine X.blk_ret ?_
                refine X.then_ret ?_
                refine X.then_ret ?_
                refine X.blk_ret ?_
                refine X.blk_ret ?_
                refine X.then_ret ?_
                refine X.then_ret ?_
                refine X.blk_ret ?_
                refine X.blk_ret ?_
                refine X.then_ret ?_
                refine X.then_ret ?_
                refine X.blk_ret ?_
                refine X.then_ret ?_
                exact L.ret hf (run_results1 Try.results14 (ResIs.tmp hf rfl)) ⟨false, rfl, h, hs.nil⟩
              · replace h := h.2 hc
                refine wp_skip ?_
                refine X.blk ?_
                refine X.then_ ?_
                refine R.list ?_
                refine S.val hf hs (v := .int .i64 ((k4 + 1 : Nat) : Int)) rfl rfl rfl (V.incr rfl rfl rfl hltk4 hlenk4) (fun a hf => ?_)
                refine S.val hf hs (v := .int .i64 ((k4 + 1 : Nat) : Int)) rfl rfl rfl (V.pure rfl) (fun a hf => ?_)
                refine R.nil ?_
                refine X.then_ ?_
                exact ⟨xk4, llk4, rfl, k4 + 1, range_drop hlk4, range_len hkk4, (by rw [hnext4] at h; exact h), ((((((((((((((((hf.nil.cons (hf.get 78 _ rfl)).cons (hf.get 77 _ rfl)).cons (hf.get 72 _ rfl)).cons (hf.get 71 _ rfl)).cons (hf.get 70 _ rfl)).cons (hf.get 66 _ rfl)).cons (hf.get 65 _ rfl)).cons (hf.get 64 _ rfl)).cons (hf.get 16 _ rfl)).cons (hf.get 14 _ rfl)).cons (hf.get 10 _ rfl)).cons (hf.get 7 _ rfl)).cons (hf.get 2 _ rfl)).cons (hf.get 1 _ rfl)).cons (hf.get 0 _ rfl)).cons (hf.get 79 _ rfl)), hs.drop⟩
            · skip
              refine R.list ?_
              refine S.val hf hs (v := .pointer (some ⟨g2, 0, none⟩)) rfl rfl rfl (V.fieldBox rfl rfl Try.runUnderlying56 rfl Try.sizeOf9 rfl rfl) (fun a hf => ?_)
              refine S.val hf hs (v := .string (ba xk3.Name)) rfl rfl rfl (V.loadBox 1 rfl rfl rfl Try.isAgg9 Try.sizeOf9 rfl rfl) (fun a hf => ?_)
              refine S.val hf hs (v := .pointer (some ⟨g1, 0, none⟩)) rfl rfl rfl (V.fieldBox rfl rfl Try.runUnderlying54 rfl Try.sizeOf9 rfl rfl) (fun a hf => ?_)
              refine S.val hf hs (v := .string (ba xk2.Tool)) rfl rfl rfl (V.loadBox 2 rfl rfl rfl Try.isAgg9 Try.sizeOf9 rfl rfl) (fun a hf => ?_)
              refine S.val hf hs (v := .bool (xk3.Name == xk2.Tool)) rfl rfl rfl (V.strCmp (xk3.Name == xk2.Tool) rfl rfl rfl rfl) (fun a hf => ?_)
              refine S.split hf hs (b := xk3.Name == xk2.Tool) rfl rfl rfl (V.pure rfl) (fun hc a hf => ?_) (fun hc a hf => ?_)
              · replace h := h.1 hc
                refine S.val hf hs (v := .pointer (some ⟨g2, 1, none⟩)) rfl rfl rfl (V.fieldBox rfl rfl Try.runUnderlying56 rfl Try.sizeOf3 rfl rfl) (fun a hf => ?_)
                refine S.val hf hs (v := .int .i64 xk3.Size) rfl rfl rfl (V.loadBox 1 rfl rfl rfl Try.isAgg3 Try.sizeOf3 rfl rfl) (fun a hf => ?_)
                refine S.val hf hs (v := .pointer (some ⟨g3, 2, none⟩)) rfl rfl rfl (V.fieldBox rfl rfl Try.runUnderlying76 rfl Try.sizeOf3 rfl rfl) (fun a hf => ?_)
                refine S.val hf hs (v := .int .i64 xk4.Size) rfl rfl rfl (V.loadBox 0 rfl rfl rfl Try.isAgg3 Try.sizeOf3 rfl rfl) (fun a hf => ?_)
                refine S.val hf hs (v := .int .i64 near) rfl rfl rfl (V.pure rfl) (fun a hf => ?_)
                refine S.val hf hs (v := .int .i64 (w64 (xk4.Size + near))) rfl rfl rfl (V.pure rfl) (fun a hf => ?_)
                refine S.val hf hs (v := .bool (decide (xk3.Size > w64 (xk4.Size + near)))) rfl rfl rfl (V.pure rfl) (fun a hf => ?_)
                refine S.split hf hs (b := decide (xk3.Size > w64 (xk4.Size + near))) rfl rfl rfl (V.pure rfl) (fun hc a hf => ?_) (fun hc a hf => ?_)
                · replace h := h.1 hc
                  refine S.skip hf rfl rfl rfl (fun a hf => ?_)
                  refine S.skip hf rfl rfl rfl (fun a hf => ?_)
                  refine S.skip hf rfl rfl rfl (fun a hf => ?_)
                  refine S.skip hf rfl rfl rfl (fun a hf => ?_)
                  refine S.skip hf rfl rfl rfl (fun a hf => ?_)
                  refine S.skip hf rfl rfl rfl (fun a hf => ?_)
                  refine S.skip hf rfl rfl rfl (fun a hf => ?_)
                  refine S.val hf hs (v := .bool true) rfl rfl rfl (V.pure rfl) (fun a hf => ?_)
                  refine S.val hf hs (v := .bool true) rfl rfl rfl (V.pure rfl) (fun a hf => ?_)
                  refine R.nil ?_
                  refine X.then_ ?_
                  exact ⟨true, h, (((((((((((((((((hf.nil.cons (hf.get 105 _ rfl)).cons (hf.get 79 _ rfl)).cons (hf.get 78 _ rfl)).cons (hf.get 77 _ rfl)).cons (hf.get 72 _ rfl)).cons (hf.get 71 _ rfl)).cons (hf.get 70 _ rfl)).cons (hf.get 66 _ rfl)).cons (hf.get 65 _ rfl)).cons (hf.get 64 _ rfl)).cons (hf.get 16 _ rfl)).cons (hf.get 14 _ rfl)).cons (hf.get 10 _ rfl)).cons (hf.get 7 _ rfl)).cons (hf.get 2 _ rfl)).cons (hf.get 1 _ rfl)).cons (hf.get 0 _ rfl)), hs⟩
                · replace h := h.2 hc
                  refine S.val hf hs (v := .pointer (some ⟨g3, 2, none⟩)) rfl rfl rfl (V.fieldBox rfl rfl Try.runUnderlying76 rfl Try.sizeOf3 rfl rfl) (fun a hf => ?_)
                  refine S.val hf hs (v := .int .i64 xk4.Size) rfl rfl rfl (V.loadBox 0 rfl rfl rfl Try.isAgg3 Try.sizeOf3 rfl rfl) (fun a hf => ?_)
                  refine S.val hf hs (v := .pointer (some ⟨g2, 1, none⟩)) rfl rfl rfl (V.fieldBox rfl rfl Try.runUnderlying56 rfl Try.sizeOf3 rfl rfl) (fun a hf => ?_)
                  refine S.val hf hs (v := .int .i64 xk3.Size) rfl rfl rfl (V.loadBox 1 rfl rfl rfl Try.isAgg3 Try.sizeOf3 rfl rfl) (fun a hf => ?_)
                  refine S.val hf hs (v := .int .i64 near) rfl rfl rfl (V.pure rfl) (fun a hf => ?_)
                  refine S.val hf hs (v := .int .i64 (w64 (xk3.Size + near))) rfl rfl rfl (V.pure rfl) (fun a hf => ?_)
                  refine S.val hf hs (v := .bool (decide (xk4.Size > w64 (xk3.Size + near)))) rfl rfl rfl (V.pure rfl) (fun a hf => ?_)
                  refine S.val hf hs (v := .bool (decide (xk4.Size > w64 (xk3.Size + near)))) rfl rfl rfl (V.pure rfl) (fun a hf => ?_)
                  refine S.val hf hs (v := .bool (decide (xk4.Size > w64 (xk3.Size + near)))) rfl rfl rfl (V.pure rfl) (fun a hf => ?_)
                  refine R.nil ?_
                  refine X.then_ ?_
                  exact ⟨(decide (xk4.Size > w64 (xk3.Size + near))), h, (((((((((((((((((hf.nil.cons (hf.get 105 _ rfl)).cons (hf.get 79 _ rfl)).cons (hf.get 78 _ rfl)).cons (hf.get 77 _ rfl)).cons (hf.get 72 _ rfl)).cons (hf.get 71 _ rfl)).cons (hf.get 70 _ rfl)).cons (hf.get 66 _ rfl)).cons (hf.get 65 _ rfl)).cons (hf.get 64 _ rfl)).cons (hf.get 16 _ rfl)).cons (hf.get 14 _ rfl)).cons (hf.get 10 _ rfl)).cons (hf.get 7 _ rfl)).cons (hf.get 2 _ rfl)).cons (hf.get 1 _ rfl)).cons (hf.get 0 _ rfl)), hs⟩
              · replace h := h.2 hc
                refine S.skip hf rfl rfl rfl (fun a hf => ?_)
                refine S.skip hf rfl rfl rfl (fun a hf => ?_)
                refine S.skip hf rfl rfl rfl (fun a hf => ?_)
                refine S.skip hf rfl rfl rfl (fun a hf => ?_)
                refine S.skip hf rfl rfl rfl (fun a hf => ?_)
                refine S.skip hf rfl rfl rfl (fun a hf => ?_)
                refine S.skip hf rfl rfl rfl (fun a hf => ?_)
                refine S.skip hf rfl rfl rfl (fun a hf => ?_)
                refine S.skip hf rfl rfl rfl (fun a hf => ?_)
                refine S.skip hf rfl rfl rfl (fun a hf => ?_)
                refine S.skip hf rfl rfl rfl (fun a hf => ?_)
                refine S.skip hf rfl rfl rfl (fun a hf => ?_)
                refine S.skip hf rfl rfl rfl (fun a hf => ?_)
                refine S.skip hf rfl rfl rfl (fun a hf => ?_)
                refine S.skip hf rfl rfl rfl (fun a hf => ?_)
                refine S.skip hf rfl rfl rfl (fun a hf => ?_)
                refine S.val hf hs (v := .bool false) rfl rfl rfl (V.pure rfl) (fun a hf => ?_)
                refine R.nil ?_
                refine X.then_ ?_
                exact ⟨false, h, (((((((((((((((((hf.nil.cons (hf.get 105 _ rfl)).cons (hf.get 79 _ rfl)).cons (hf.get 78 _ rfl)).cons (hf.get 77 _ rfl)).cons (hf.get 72 _ rfl)).cons (hf.get 71 _ rfl)).cons (hf.get 70 _ rfl)).cons (hf.get 66 _ rfl)).cons (hf.get 65 _ rfl)).cons (hf.get 64 _ rfl)).cons (hf.get 16 _ rfl)).cons (hf.get 14 _ rfl)).cons (hf.get 10 _ rfl)).cons (hf.get 7 _ rfl)).cons (hf.get 2 _ rfl)).cons (hf.get 1 _ rfl)).cons (hf.get 0 _ rfl)), hs⟩
    | cons xk1 llk1 =>
      have hltk1 := range_lt hkk1; have hc := range_go hkk1; have hxk1 := range_get hlk1
      obtain ⟨next1, hnext1⟩ : ∃ X : List Hole → Prop, X = (fun l2 => forIn' (fun k x (s : List Hole) next => M_law_HasAll_L1 l Q k x s (fun l2 => next l2)) (fun (s : List Hole) => (fun (l2 : List Hole) => forIn' (fun k x (s : Unit) next => M_law_HasAll_L2 t near Q k x (next ())) (fun (s : Unit) => M_ref8_SameHoles l2 l fun y6 => cnd y6 (M_drill_CheckJobs t y1 fun y7 => cnd (y7 == 0) (M_awake  fun y8 => Q y8) (Q false)) (Q false)) y1 0 ()) s) llk1 (k1 + 1) l2) := ⟨_, rfl⟩
      replace h : M_law_HasAll_L1 l Q k1 xk1 l2 next1 := by rw [hnext1]; exact h
      unfold M_law_HasAll_L1 at h
      refine wp_seq ?_
      refine R.list ?_
      refine S.val hf hs (v := .bool true) rfl rfl rfl (V.cmp true rfl rfl rfl rfl hc) (fun a hf => ?_)
      refine R.nil ?_
      refine X.then_ ?_
      refine wp_seq ?_
      refine C.yes hf rfl ?_
      refine wp_skip ?_
      refine X.then_ ?_
      refine wp_seq ?_
      refine wp_block ?_
      refine wp_seq ?_
      refine R.list ?_
      refine S.val hf hs (v := elemPtr y2A (k1 * 1)) rfl rfl rfl (V.index rfl rfl rfl Try.runUnderlying28 Try.sizeOf3 (hs.ownSome 2 rfl (lt_of_get hxk1)) (Int.natCast_nonneg _) (lt_of_get hxk1) rfl) (fun a hf => ?_)
      refine S.val hf hs (v := .int .i64 xk1) rfl rfl rfl (V.loadOwn (off := 0) 2 rfl hxk1 rfl rfl rfl Try.isAgg3 Try.sizeOf3 rfl rfl) (fun a hf => ?_)
      refine S.val hf hs (v := .int .i64 xk1) rfl rfl rfl (V.pure rfl) (fun a hf => ?_)
      refine R.nil ?_
      refine X.then_ ?_
      refine wp_seq ?_
      refine wp_seq ?_
      refine C.cut (J := fun a w => ∃ (c2 : Bool), M_law_HasAll_k6 l Q xk1 l2 next1 c2 ∧ FrOk 121 [(0, .slice tA t.length tC), (1, .slice lA l.length lC), (2, .int .i64 near), (7, .slice y1A y1.length y1C), (10, .slice l2A l2.length l2C), (12, .int .i64 xk1), (42, .slice y2A y2.length y2C), (43, .int .i64 (y2.length : Int)), (44, .int .i64 (k1 : Int)), (55, .bool c2)] a ∧ Sat w0 none_ [hown 76 l2A l2C l2, hrows 54 76 y1A y1C y1as y1, hown 3 y2A y2C y2] w) ?_ ?_
      · rintro a w ⟨c2, h, hf, hs⟩
        unfold M_law_HasAll_k6 at h
        refine C.cond hf (b := c2) rfl (fun hc => ?_) (fun hc => ?_)
        · replace h := h.1 hc
          refine wp_seq ?_
          refine R.list ?_
          refine S.val hf hs (v := .bool false) rfl rfl rfl (V.pure rfl) (fun a hf => ?_)
          refine R.nil ?_
          refine X.then_ ?_
          refine wp_ret ?_
          refine X.then_ret ?_
          refine X.blk_ret ?_
          refine X.then_ret ?_
          refine X.then_ret ?_
          refine X.blk_ret ?_
          refine X.then_ret ?_
          exact L.ret hf (run_results1 Try.results14 (ResIs.tmp hf rfl)) ⟨false, rfl, h, hs.nil⟩
        · replace h := h.2 hc
          refine wp_skip ?_
          refine X.then_ ?_
          refine R.list ?_
          refine S.val hf hs (v := .slice l2A l2.length l2C) rfl rfl rfl (V.pure rfl) (fun a hf => ?_)
          refine S.val hf hs (v := .slice lA l.length lC) rfl rfl rfl (V.pure rfl) (fun a hf => ?_)
          refine S.val hf hs (v := .int .i64 xk1) rfl rfl rfl (V.pure rfl) (fun a hf => ?_)
          obtain ⟨h0x1, x1, hx1, h⟩ := h
          refine S.val hf hs (v := elemPtr lA (xk1.toNat * 5)) rfl rfl rfl (V.index rfl rfl rfl Try.runUnderlying34 Try.sizeOf76 (hv_l.some_ (lt_of_get hx1)) h0x1 (lt_of_get hx1) rfl) (fun a hf => ?_)
          refine S.val hf hs (v := .agg #[.int .i64 x1.At.X, .int .i64 x1.At.Y, .int .i64 x1.Size, .int .i64 x1.Depth, .bool x1.Plated]) rfl rfl rfl (V.loadEl (off := 0) (Ag.args _ _ _) (hv_l.flat hx1) rfl rfl rfl Try.isAgg76 Try.sizeOf76 rfl rfl) (fun a hf => ?_)
          refine S.build1 hf hs rfl rfl rfl (α := Hole) x1 rfl rfl rfl Try.runUnderlying34 Try.sizeOf76 Try.zeroValue76 rfl (by decide) (fun A1 a w hf hs => ?_)
          obtain ⟨hroom, h⟩ := h
          refine S.appendCells 1 hf hs rfl rfl rfl rfl rfl rfl rfl Try.underlying34 info76 rfl hroom ((hs.ownView 0 rfl).some_ (i := 0) (by simp)) (hs.ownView 0 rfl) (fun A2 C1 a w hf hs => ?_)
          replace hs := hs.drop
          refine S.val hf hs (v := .slice A2 (l2 ++ [x1]).length C1) rfl rfl rfl (V.pure rfl) (fun a hf => ?_)
          refine R.nil ?_
          refine X.blk ?_
          refine X.then_ ?_
          refine R.list ?_
          refine S.val hf hs (v := .int .i64 ((k1 + 1 : Nat) : Int)) rfl rfl rfl (V.incr rfl rfl rfl hltk1 hlenk1) (fun a hf => ?_)
          refine S.val hf hs (v := .int .i64 ((k1 + 1 : Nat) : Int)) rfl rfl rfl (V.pure rfl) (fun a hf => ?_)
          refine R.nil ?_
          refine X.then_ ?_
          exact ⟨xk1, llk1, rfl, k1 + 1, (l2 ++ [x1]), A2, C1, range_drop hlk1, range_len hkk1, (by rw [hnext1] at h; exact h), ((((((((hf.nil.cons (hf.get 43 _ rfl)).cons (hf.get 42 _ rfl)).cons (hf.get 10 _ rfl)).cons (hf.get 7 _ rfl)).cons (hf.get 2 _ rfl)).cons (hf.get 1 _ rfl)).cons (hf.get 0 _ rfl)).cons (hf.get 44 _ rfl)), hs⟩
      · skip
        refine R.list ?_
        refine S.val hf hs (v := .int .i64 xk1) rfl rfl rfl (V.pure rfl) (fun a hf => ?_)
        refine S.val hf hs (v := .bool (decide (xk1 < 0))) rfl rfl rfl (V.pure rfl) (fun a hf => ?_)
        refine S.split hf hs (b := decide (xk1 < 0)) rfl rfl rfl (V.pure rfl) (fun hc a hf => ?_) (fun hc a hf => ?_)
        · replace h := h.1 hc
          refine S.skip hf rfl rfl rfl (fun a hf => ?_)
          refine S.skip hf rfl rfl rfl (fun a hf => ?_)
          refine S.skip hf rfl rfl rfl (fun a hf => ?_)
          refine S.skip hf rfl rfl rfl (fun a hf => ?_)
          refine S.val hf hs (v := .bool true) rfl rfl rfl (V.pure rfl) (fun a hf => ?_)
          refine R.nil ?_
          refine X.then_ ?_
          exact ⟨true, h, ((((((((((hf.nil.cons (hf.get 55 _ rfl)).cons (hf.get 44 _ rfl)).cons (hf.get 43 _ rfl)).cons (hf.get 42 _ rfl)).cons (hf.get 12 _ rfl)).cons (hf.get 10 _ rfl)).cons (hf.get 7 _ rfl)).cons (hf.get 2 _ rfl)).cons (hf.get 1 _ rfl)).cons (hf.get 0 _ rfl)), hs⟩
        · replace h := h.2 hc
          refine S.val hf hs (v := .int .i64 xk1) rfl rfl rfl (V.pure rfl) (fun a hf => ?_)
          refine S.val hf hs (v := .slice lA l.length lC) rfl rfl rfl (V.pure rfl) (fun a hf => ?_)
          refine S.val hf hs (v := .int .i64 (l.length : Int)) rfl rfl rfl (V.len rfl rfl Try.runUnderlying34) (fun a hf => ?_)
          refine S.val hf hs (v := .bool (decide (xk1 ≥ (l.length : Int)))) rfl rfl rfl (V.pure rfl) (fun a hf => ?_)
          refine S.val hf hs (v := .bool (decide (xk1 ≥ (l.length : Int)))) rfl rfl rfl (V.pure rfl) (fun a hf => ?_)
          refine R.nil ?_
          refine X.then_ ?_
          exact ⟨(decide (xk1 ≥ (l.length : Int))), h, ((((((((((hf.nil.cons (hf.get 55 _ rfl)).cons (hf.get 44 _ rfl)).cons (hf.get 43 _ rfl)).cons (hf.get 42 _ rfl)).cons (hf.get 12 _ rfl)).cons (hf.get 10 _ rfl)).cons (hf.get 7 _ rfl)).cons (hf.get 2 _ rfl)).cons (hf.get 1 _ rfl)).cons (hf.get 0 _ rfl)), hs⟩

end Go.Proofs.Ytmopdabkfklefaa
