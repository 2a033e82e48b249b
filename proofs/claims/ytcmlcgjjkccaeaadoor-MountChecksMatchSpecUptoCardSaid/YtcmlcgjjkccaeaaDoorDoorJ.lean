/- Chapter 10: how many are needed: the walks. -/
import Derived.Test.YtcmlcgjjkccaeaaDoorDoorD
import Derived.Test.YtcmlcgjjkccaeaaDoorEntry
import Derived.Test.YtcmlcgjjkccaeaaDoorSort
namespace Go.Proofs.YtcmlcgjjkccaeaaDoor
open Go Go.RowKit
set_option linter.unusedVariables false

set_option linter.unusedVariables false
def M_mount_isBoards (n : Int) (Q : Bool → Prop) : Prop :=
  Q (within n 0 1000)
set_option maxHeartbeats 1000000 in
theorem R_mount_isBoards (n : Int) (w0 : World)  (Q : Bool → Prop) (h : M_mount_isBoards n Q) :
    Ret Tryd.prog 54 #[.int .i64 n] w0 fun v w' => ∃ (r0 : Bool), v = .bool r0 ∧ Q r0 ∧ Sat w0 none_ [] w' := by
  refine fn_enter Tryd.func54 rfl Tryd.ntmps54 rfl (fs := [(0, .int .i64 n)]) rfl (fun a hf => ?_)
  have hs := Sat.start w0 none_
  unfold M_mount_isBoards at h
  refine wp_seq ?_
  refine R.list ?_
  refine S.val hf hs (v := .bool false) rfl rfl rfl (V.pure rfl) (fun a hf => ?_)
  refine R.nil ?_
  refine X.then_ ?_
  refine wp_seq ?_
  refine R.list ?_
  refine S.val hf hs (v := .int .i64 n) rfl rfl rfl (V.pure rfl) (fun a hf => ?_)
  refine S.callv hf rfl rfl rfl (call_fn (vs := [.int .i64 n, .int .i64 0, .int .i64 1000]) rfl rfl rfl Tryd.call47) (C_mount_within n 0 1000 _ ) (fun a w hf hs' => ?_)
  replace hs := hs.call hs'; clear hs'
  refine S.val hf hs (v := .bool (within n 0 1000)) rfl rfl rfl (V.pure rfl) (fun a hf => ?_)
  refine R.nil ?_
  refine X.then_ ?_
  refine wp_ret ?_
  exact L.ret hf (run_results1 Tryd.results54 (ResIs.tmp hf rfl)) ⟨(within n 0 1000), rfl, h, hs.nil⟩

def cmpCounts (a b : Count) : Int := cmpStr a.Typ b.Typ
set_option linter.unusedVariables false
def M_counts1 (a_ : Count) (b : Count) (Q : Int → Prop) : Prop :=
  Q (cmpStr a_.Typ b.Typ)
set_option maxHeartbeats 1000000 in
theorem R_counts1 (a_ : Count) (b : Count) (w0 : World)  (Q : Int → Prop) (h : M_counts1 a_ b Q) :
    Ret Tryd.prog 97 #[.agg #[.string (ba a_.Typ), .int .i64 a_.Many], .agg #[.string (ba b.Typ), .int .i64 b.Many]] w0 fun v w' => ∃ (r0 : Int), v = .int .i64 r0 ∧ Q r0 ∧ Sat w0 none_ [] w' := by
  refine fn_enter Tryd.func97 rfl Tryd.ntmps97 rfl (fs := [(0, .agg #[.string (ba a_.Typ), .int .i64 a_.Many]), (1, .agg #[.string (ba b.Typ), .int .i64 b.Many])]) rfl (fun a hf => ?_)
  have hs := Sat.start w0 none_
  unfold M_counts1 at h
  refine wp_seq ?_
  refine R.list ?_
  refine S.box hf hs rfl rfl rfl [.string (ba a_.Typ), .int .i64 a_.Many] rfl rfl rfl (fun g1 a w hf hs => ?_)
  refine S.box hf hs rfl rfl rfl [.string (ba b.Typ), .int .i64 b.Many] rfl rfl rfl (fun g2 a w hf hs => ?_)
  refine S.val hf hs (v := .int .i64 0) rfl rfl rfl (V.pure rfl) (fun a hf => ?_)
  refine R.nil ?_
  refine X.then_ ?_
  refine wp_seq ?_
  refine R.list ?_
  refine S.val hf hs (v := .pointer (some ⟨g1, 0, none⟩)) rfl rfl rfl (V.fieldBox rfl rfl Tryd.runUnderlying76 rfl Tryd.sizeOf9 rfl rfl) (fun a hf => ?_)
  refine S.val hf hs (v := .string (ba a_.Typ)) rfl rfl rfl (V.loadBox 1 rfl rfl rfl Tryd.isAgg9 Tryd.sizeOf9 rfl rfl) (fun a hf => ?_)
  refine S.val hf hs (v := .pointer (some ⟨g2, 0, none⟩)) rfl rfl rfl (V.fieldBox rfl rfl Tryd.runUnderlying76 rfl Tryd.sizeOf9 rfl rfl) (fun a hf => ?_)
  refine S.val hf hs (v := .string (ba b.Typ)) rfl rfl rfl (V.loadBox 0 rfl rfl rfl Tryd.isAgg9 Tryd.sizeOf9 rfl rfl) (fun a hf => ?_)
  refine S.callv hf rfl rfl rfl (call_fn (vs := [.string (ba a_.Typ), .string (ba b.Typ)]) rfl rfl rfl Tryd.call65) (C_strings_Compare a_.Typ b.Typ _ ) (fun a w hf hs' => ?_)
  replace hs := hs.call hs'; clear hs'
  refine S.val hf hs (v := .int .i64 (cmpStr a_.Typ b.Typ)) rfl rfl rfl (V.pure rfl) (fun a hf => ?_)
  refine R.nil ?_
  refine X.then_ ?_
  refine wp_ret ?_
  exact L.ret hf (run_results1 Tryd.results97 (ResIs.tmp hf rfl)) ⟨(cmpStr a_.Typ b.Typ), rfl, h, hs.nil⟩

theorem E_counts1 (a b : Count) : M_counts1 a b (· = cmpCounts a b) := rfl
theorem C_counts1 (a_ : Count) (b : Count) (w0 : World)  : Ret Tryd.prog 97 #[.agg #[.string (ba a_.Typ), .int .i64 a_.Many], .agg #[.string (ba b.Typ), .int .i64 b.Many]] w0 fun v w' => v = .int .i64 (cmpCounts a_ b) ∧ Sat w0 none_ [] w' :=
  (R_counts1 a_ b w0  (· = (cmpCounts a_ b)) (E_counts1 a_ b)).mono fun v w' ⟨r0, hv, hr, hs⟩ => ⟨by subst hr; exact hv, hs⟩

theorem cmpCounts_lt (a b : Count) : cmpCounts a b < 0 ↔ strLt a.Typ b.Typ = true := by
  unfold cmpCounts
  rcases cmpStr_spec a.Typ b.Typ with ⟨h1, h2⟩ | ⟨h1, h2, _⟩ | ⟨h1, _, h2, _⟩
  · rw [h1, h2, strLt_irrefl]; simp
  · rw [h1, h2]; simp
  · rw [h1, h2]; simp
theorem swo_cmpCounts : Sort.SWO (ltOf cmpCounts) := by
  refine ⟨fun x => ?_, fun x y z h1 h2 => ?_, fun x y z h1 h2 => ?_⟩
  · unfold ltOf; refine decide_eq_false (fun h => ?_); rw [cmpCounts_lt, strLt_irrefl] at h; cases h
  · unfold ltOf at *
    have h1 := of_decide_eq_true h1; have h2 := of_decide_eq_true h2
    refine decide_eq_true ?_
    rw [cmpCounts_lt] at *
    exact strLt_trans _ _ _ h1 h2
  · unfold ltOf at *
    have h1 := of_decide_eq_false h1; have h2 := of_decide_eq_false h2
    refine decide_eq_false (fun h => ?_)
    rw [cmpCounts_lt] at *
    rcases strLt_total y.Typ z.Typ with e | e | e
    · exact h1 (by rw [e]; exact h)
    · exact h2 e
    · exact h1 (strLt_trans _ _ _ h e)
/-- slices.SortFunc: whatever order of what was there in which none is ahead of a lesser one -/
def M_sortfunc_cnt (s_ : (List Count)) (Q : (List Count) → Prop) : Prop :=
  must (s_.length < 4611686018427387904) (∀ t : List Count, t.Perm s_ → t.Pairwise (fun a b => ¬ cmpCounts b a < 0) → Q t)
theorem R_sortfunc_cnt (s_ : (List Count)) (w0 : World) (F0 : Nat → Prop) (s_A : Option Addr) (s_C : Nat) (hs0 : Sat w0 F0 [hown 76 s_A s_C s_] w0) (Q : (List Count) → Prop) (h : M_sortfunc_cnt s_ Q) :
    Ret Tryd.prog 96 #[.slice s_A s_.length s_C, .func (.func 97) #[] #[]] w0 fun v w' => ∃ (s_1 : (List Count)) (hl_s_1 : s_1.length = s_.length), v = .tuple #[] ∧ Q s_1 ∧ Sat w0 F0 [hown 76 s_A s_C s_1] w' := by
  obtain ⟨hlen, h⟩ := h
  refine Calls.mono (sortFunc_run (α := Count) (P := Tryd.prog) Tryd.laysSlsf6_96 Tryd.isAgg76 Tryd.sizeOf76 cmpCounts swo_cmpCounts 97 (enters_of Tryd.func97 (by kernel_rfl) rfl) (fun x y w => C_counts1 x y w) hs0 hlen) ?_
  rintro e w' ⟨v, rfl, rfl, ys, hp, hq, hs⟩
  exact ⟨_, rfl, ys, hp.length_eq, rfl, h ys hp hq, hs⟩

set_option linter.unusedVariables false
def M_mount_counts_L1 (many : (List (Str × Int))) (Q : (List Count) → (List (Str × Int)) → Prop) (again1 : List Count → List (Str × Int) → Prop) (l2 : List Count) (m2 : List (Str × Int)) : Prop :=
  nextq m2 (M_sortfunc_cnt l2 fun z1 => Q z1 many) (fun e1 rest1 => cnd (decide (e1.2 > 0)) (must (room (l2 ++ [(⟨e1.1, e1.2⟩ : Count)]).length 24) (again1 (l2 ++ [(⟨e1.1, e1.2⟩ : Count)]) rest1)) (again1 l2 rest1))
def M_mount_counts (many : (List (Str × Int))) (Q : (List Count) → (List (Str × Int)) → Prop) : Prop :=
  lp (fun again (s : List Count × List (Str × Int)) => M_mount_counts_L1 many Q (fun l2 m2 => again (l2, m2)) s.1 s.2) (([] : List Count), many)
set_option maxHeartbeats 1000000 in
theorem R_mount_counts (many : (List (Str × Int))) (w0 : World) (F0 : Nat → Prop) (manyg : Nat) (hs0 : Sat w0 F0 [hmap manyg ek9 ek3 many] w0) (Q : (List Count) → (List (Str × Int)) → Prop) (h : M_mount_counts many Q) :
    Ret Tryd.prog 71 #[.map (some manyg)] w0 fun v w' => ∃ (r0 : (List Count)) (r0A : Option Addr) (r0C : Nat) (many1 : (List (Str × Int))), v = .slice r0A r0.length r0C ∧ Q r0 many1 ∧ Sat w0 F0 [hown 76 r0A r0C r0, hmap manyg ek9 ek3 many1] w' := by
  refine fn_enter Tryd.func71 rfl Tryd.ntmps71 rfl (fs := [(0, .map (some manyg))]) rfl (fun a hf => ?_)
  have hs := hs0
  unfold M_mount_counts at h
  refine wp_seq ?_
  refine R.list ?_
  refine S.val hf hs (v := .slice none 0 0) rfl rfl rfl (V.pure rfl) (fun a hf => ?_)
  refine R.nil ?_
  refine X.then_ ?_
  refine wp_seq ?_
  refine R.list ?_
  refine S.val hf hs (v := .slice none 0 0) rfl rfl rfl (V.pure rfl) (fun a hf => ?_)
  refine R.nil ?_
  refine X.then_ ?_
  refine wp_seq ?_
  refine wp_seq ?_
  refine R.list ?_
  refine S.val hf hs (v := .map (some manyg)) rfl rfl rfl (V.pure rfl) (fun a hf => ?_)
  refine S.range 0 hf hs rfl rfl rfl rfl rfl rfl Tryd.runUnderlying109 (fun it1 a w hf hs => ?_)
  refine R.nil ?_
  refine X.then_ ?_
  refine wp_block ?_
  replace hs := hs.nilOwn (α := Count) 76
  obtain ⟨kk, h⟩ := h
  refine C.loop (fun kk a w => ∃ (l2 : List Count) (l2A : Option Addr) (l2C : Nat) (m2 : List (Str × Int)), iterF (fun again (s : List Count × List (Str × Int)) => M_mount_counts_L1 many Q (fun l2 m2 => again (l2, m2)) s.1 s.2) kk (l2, m2) ∧ FrOk 24 [(3, .slice l2A l2.length l2C), (7, .pointer (some ⟨it1, 0, none⟩))] a ∧ Sat w0 F0 [hown 76 l2A l2C l2, hrange manyg it1 ek9 ek3 many m2] w) kk ⟨([] : List Count), none, 0, many, h, ((hf.nil.cons (hf.get 7 _ rfl)).cons (hf.get 3 _ rfl)), hs⟩ (fun a w ⟨_, _, _, _, h, _, _⟩ => h) ?_
  clear h hf hs
  rintro kk a w ⟨l2, l2A, l2C, m2, h, hf, hs⟩
  obtain ⟨again1, hagain1⟩ : ∃ X : List Count → List (Str × Int) → Prop, X = (fun l2 m2 => iterF (fun again (s : List Count × List (Str × Int)) => M_mount_counts_L1 many Q (fun l2 m2 => again (l2, m2)) s.1 s.2) kk (l2, m2)) := ⟨_, rfl⟩
  replace h : M_mount_counts_L1 many Q again1 l2 m2 := by rw [hagain1]; exact h
  unfold M_mount_counts_L1 at h
  refine wp_seq ?_
  refine R.list ?_
  refine S.next 1 hf hs rfl rfl rfl rfl rfl rfl (fun he a hf => ?_) (fun e1 rest1 he a w hf hs => ?_)
  · replace h := h.1 he
    replace hs := hs.unrange 1 rfl
    refine S.val hf hs (v := .bool false) rfl rfl rfl (V.pure rfl) (fun a hf => ?_)
    refine R.nil ?_
    refine X.then_ ?_
    refine wp_seq ?_
    refine C.no hf rfl ?_
    refine wp_exit ?_
    refine X.then_exit ?_
    refine X.then_exit ?_
    refine X.blk_exit ?_
    refine X.then_ ?_
    refine wp_seq ?_
    refine R.list ?_
    refine S.val hf hs (v := .slice l2A l2.length l2C) rfl rfl rfl (V.pure rfl) (fun a hf => ?_)
    obtain ⟨F1, hsF, hback, hold, hrest⟩ := Sat.callOwns [hown 76 l2A l2C l2] (σ := [hmap manyg ek9 ek3 many]) hs
    refine S.call hf rfl rfl rfl (call_fn (vs := [.slice l2A l2.length l2C, .func (.func 97) #[] #[]]) rfl rfl rfl Tryd.call96) (R_sortfunc_cnt l2 _ _ l2A l2C hsF _ h) (fun v a w' hf hr => ?_)
    obtain ⟨z1, hl_z1, rfl, h2, hs2⟩ := hr
    replace h := h2; replace hs := hback _ _ hs2; clear h2 hs2 hback hold hrest hsF
    replace hf := hf.tell 3 (v := .slice l2A z1.length l2C) ((hf.get 3 (.slice l2A l2.length l2C) rfl).trans (congrArg (fun n => Value.slice l2A n l2C) hl_z1.symm))
    replace hf := hf.tell 21 (v := .slice l2A z1.length l2C) ((hf.get 21 (.slice l2A l2.length l2C) rfl).trans (congrArg (fun n => Value.slice l2A n l2C) hl_z1.symm))
    refine R.nil ?_
    refine X.then_ ?_
    refine wp_seq ?_
    refine R.list ?_
    refine S.val hf hs (v := .slice l2A z1.length l2C) rfl rfl rfl (V.pure rfl) (fun a hf => ?_)
    refine S.val hf hs (v := .slice l2A z1.length l2C) rfl rfl rfl (V.pure rfl) (fun a hf => ?_)
    refine R.nil ?_
    refine X.then_ ?_
    refine wp_ret ?_
    replace hs := hs.front 1 rfl
    replace hs := hs.front 1 rfl
    replace hs := hs.take 2
    exact L.ret hf (run_results1 Tryd.results71 (ResIs.tmp hf rfl)) ⟨z1, l2A, l2C, many, rfl, h, hs⟩
  · replace h := h.2 e1 rest1 he
    refine S.val hf hs (v := .bool true) rfl rfl rfl (V.pure rfl) (fun a hf => ?_)
    refine R.nil ?_
    refine X.then_ ?_
    refine wp_seq ?_
    refine C.yes hf rfl ?_
    refine wp_skip ?_
    refine X.then_ ?_
    refine wp_block ?_
    refine wp_seq ?_
    refine R.list ?_
    refine S.val hf hs (v := .tuple #[.string (ba e1.1), .int .i64 e1.2]) rfl rfl rfl (V.entry 1 rfl rfl rfl rfl) (fun a hf => ?_)
    refine S.val hf hs (v := .string (ba e1.1)) rfl rfl rfl (V.pure rfl) (fun a hf => ?_)
    refine S.val hf hs (v := .int .i64 e1.2) rfl rfl rfl (V.pure rfl) (fun a hf => ?_)
    refine S.val hf hs (v := .string (ba e1.1)) rfl rfl rfl (V.pure rfl) (fun a hf => ?_)
    refine S.val hf hs (v := .int .i64 e1.2) rfl rfl rfl (V.pure rfl) (fun a hf => ?_)
    refine R.nil ?_
    refine X.then_ ?_
    refine wp_seq ?_
    refine R.list ?_
    refine S.val hf hs (v := .int .i64 e1.2) rfl rfl rfl (V.pure rfl) (fun a hf => ?_)
    refine S.val hf hs (v := .bool (decide (e1.2 > 0))) rfl rfl rfl (V.pure rfl) (fun a hf => ?_)
    refine R.nil ?_
    refine X.then_ ?_
    refine C.cond hf (b := decide (e1.2 > 0)) rfl (fun hc => ?_) (fun hc => ?_)
    · replace h := h.1 hc
      refine R.list ?_
      refine S.val hf hs (v := .slice l2A l2.length l2C) rfl rfl rfl (V.pure rfl) (fun a hf => ?_)
      refine S.val hf hs (v := .string (ba e1.1)) rfl rfl rfl (V.pure rfl) (fun a hf => ?_)
      refine S.val hf hs (v := .int .i64 e1.2) rfl rfl rfl (V.pure rfl) (fun a hf => ?_)
      refine S.val hf hs (v := .agg #[.string (ba e1.1), .int .i64 e1.2]) rfl rfl rfl (V.build (places := #[(0, 1), (1, 1)]) rfl Tryd.zeroValue76 Tryd.runUnderlying76 (by intro w; simp [Tryd.sizeOf3, Tryd.sizeOf9]) rfl rfl) (fun a hf => ?_)
      refine S.build1 hf hs rfl rfl rfl (α := Count) (⟨e1.1, e1.2⟩ : Count) rfl rfl rfl Tryd.runUnderlying69 Tryd.sizeOf76 Tryd.zeroValue76 rfl (by decide) (fun A1 a w hf hs => ?_)
      obtain ⟨hroom, h⟩ := h
      refine S.appendCells 1 hf hs rfl rfl rfl rfl rfl rfl rfl Tryd.underlying69 info76 rfl hroom ((hs.ownView 0 rfl).some_ (i := 0) (by simp)) (hs.ownView 0 rfl) (fun A2 C1 a w hf hs => ?_)
      replace hs := hs.drop
      refine S.val hf hs (v := .slice A2 (l2 ++ [(⟨e1.1, e1.2⟩ : Count)]).length C1) rfl rfl rfl (V.pure rfl) (fun a hf => ?_)
      refine R.nil ?_
      refine X.blk ?_
      refine X.then_ ?_
      replace hs := hs.uncur 1 rfl
      exact ⟨(l2 ++ [(⟨e1.1, e1.2⟩ : Count)]), A2, C1, rest1, (by rw [hagain1] at h; exact h), ((hf.nil.cons (hf.get 7 _ rfl)).cons (hf.get 3 _ rfl)), hs⟩
    · replace h := h.2 hc
      refine wp_skip ?_
      refine X.blk ?_
      refine X.then_ ?_
      replace hs := hs.uncur 1 rfl
      exact ⟨l2, l2A, l2C, rest1, (by rw [hagain1] at h; exact h), ((hf.nil.cons (hf.get 7 _ rfl)).cons (hf.get 3 _ rfl)), hs⟩

set_option linter.unusedVariables false
def M_mount_needed_L1 (boards : Int) (k1 : Nat) (xk1 : Place) (m2 : List (Str × Int)) (next1 : List (Str × Int) → Prop) : Prop :=
  next1 (mput m2 xk1.Typ (w64 (((mget m2 xk1.Typ).getD 0) + boards)))
def M_mount_needed (l : (List Place)) (boards : Int) (Q : (List (Str × Int)) → Prop) : Prop :=
  forIn' (fun k x (s : List (Str × Int)) next => M_mount_needed_L1 boards k x s (fun m2 => next m2)) (fun (s : List (Str × Int)) => (fun (m2 : List (Str × Int)) => Q m2) s) l 0 ([] : List (Str × Int))
set_option maxHeartbeats 1000000 in
theorem R_mount_needed (l : (List Place)) (boards : Int) (w0 : World) (lA : Option Addr) (lC : Nat) (hv_l : View w0 (old w0 none_) lA lC l) (Q : (List (Str × Int)) → Prop) (h : M_mount_needed l boards Q) :
    Ret Tryd.prog 72 #[.slice lA l.length lC, .int .i64 boards] w0 fun v w' => ∃ (r0 : (List (Str × Int))) (r0g : Nat), v = .map (some r0g) ∧ Q r0 ∧ Sat w0 none_ [hmap r0g ek9 ek3 r0] w' := by
  refine fn_enter Tryd.func72 rfl Tryd.ntmps72 rfl (fs := [(0, .slice lA l.length lC), (1, .int .i64 boards)]) rfl (fun a hf => ?_)
  have hs := Sat.start w0 none_
  unfold M_mount_needed at h
  refine wp_seq ?_
  refine R.list ?_
  refine S.val hf hs (v := .map none) rfl rfl rfl (V.pure rfl) (fun a hf => ?_)
  refine R.nil ?_
  refine X.then_ ?_
  refine wp_seq ?_
  refine R.list ?_
  refine S.makeMap hf hs rfl rfl rfl ek9 ek3 rfl (fun g1 a w hf hs => ?_)
  refine S.val hf hs (v := .map (some g1)) rfl rfl rfl (V.pure rfl) (fun a hf => ?_)
  refine R.nil ?_
  refine X.then_ ?_
  refine wp_seq ?_
  refine wp_seq ?_
  refine R.list ?_
  refine S.val hf hs (v := .slice lA l.length lC) rfl rfl rfl (V.pure rfl) (fun a hf => ?_)
  refine S.val hf hs (v := .int .i64 (l.length : Int)) rfl rfl rfl (V.len rfl rfl Tryd.runUnderlying23) (fun a hf => ?_)
  refine S.val hf hs (v := .int .i64 0) rfl rfl rfl (V.pure rfl) (fun a hf => ?_)
  refine R.nil ?_
  refine X.then_ ?_
  refine wp_block ?_
  have hlenk1 := hv_l.len64
  refine C.range (fun (ll : List Place) a w => ∃ (k1 : Nat) (m2 : List (Str × Int)), l.drop k1 = ll ∧ k1 + ll.length = l.length ∧ forIn' (fun k x (s : List (Str × Int)) next => M_mount_needed_L1 boards k x s (fun m2 => next m2)) (fun (s : List (Str × Int)) => (fun (m2 : List (Str × Int)) => Q m2) s) ll k1 m2 ∧ FrOk 23 [(11, .int .i64 (k1 : Int)), (1, .int .i64 boards), (5, .map (some g1)), (9, .slice lA l.length lC), (10, .int .i64 (l.length : Int))] a ∧ Sat w0 none_ [hmap g1 ek9 ek3 m2] w) l ⟨0, ([] : List (Str × Int)), rfl, Nat.zero_add _, h, (((((hf.nil.cons (hf.get 10 _ rfl)).cons (hf.get 9 _ rfl)).cons (hf.get 5 _ rfl)).cons (hf.get 1 _ rfl)).cons (hf.get 11 _ rfl)), hs⟩ ?_
  clear h hf hs
  rintro llk1 a w ⟨k1, m2, hlk1, hkk1, h, hf, hs⟩
  cases llk1 with
  | nil =>
    have hc := range_done hkk1
    replace h : (fun (m2 : List (Str × Int)) => Q m2) m2 := h
    refine wp_seq ?_
    refine R.list ?_
    refine S.val hf hs (v := .bool false) rfl rfl rfl (V.cmp false rfl rfl rfl rfl hc) (fun a hf => ?_)
    refine R.nil ?_
    refine X.then_ ?_
    refine wp_seq ?_
    refine C.no hf rfl ?_
    refine wp_exit ?_
    refine X.then_exit ?_
    refine X.then_exit ?_
    refine X.blk_exit ?_
    refine X.then_ ?_
    refine wp_seq ?_
    refine R.list ?_
    refine S.val hf hs (v := .map (some g1)) rfl rfl rfl (V.pure rfl) (fun a hf => ?_)
    refine S.val hf hs (v := .map (some g1)) rfl rfl rfl (V.pure rfl) (fun a hf => ?_)
    refine R.nil ?_
    refine X.then_ ?_
    refine wp_ret ?_
    replace hs := hs.take 1
    exact L.ret hf (run_results1 Tryd.results72 (ResIs.tmp hf rfl)) ⟨m2, g1, rfl, h, hs⟩
  | cons xk1 llk1 =>
    have hltk1 := range_lt hkk1; have hc := range_go hkk1; have hxk1 := range_get hlk1
    obtain ⟨next1, hnext1⟩ : ∃ X : List (Str × Int) → Prop, X = (fun m2 => forIn' (fun k x (s : List (Str × Int)) next => M_mount_needed_L1 boards k x s (fun m2 => next m2)) (fun (s : List (Str × Int)) => (fun (m2 : List (Str × Int)) => Q m2) s) llk1 (k1 + 1) m2) := ⟨_, rfl⟩
    replace h : M_mount_needed_L1 boards k1 xk1 m2 next1 := by rw [hnext1]; exact h
    unfold M_mount_needed_L1 at h
    refine wp_seq ?_
    refine R.list ?_
    refine S.val hf hs (v := .bool true) rfl rfl rfl (V.cmp true rfl rfl rfl rfl hc) (fun a hf => ?_)
    refine R.nil ?_
    refine X.then_ ?_
    refine wp_seq ?_
    refine C.yes hf rfl ?_
    refine wp_skip ?_
    refine X.then_ ?_
    refine wp_seq ?_
    refine wp_block ?_
    refine wp_seq ?_
    refine R.list ?_
    refine S.val hf hs (v := elemPtr lA (k1 * 6)) rfl rfl rfl (V.index rfl rfl rfl Tryd.runUnderlying23 Tryd.sizeOf28 (hv_l.some_ (lt_of_get hxk1)) (Int.natCast_nonneg _) (lt_of_get hxk1) rfl) (fun a hf => ?_)
    refine S.val hf hs (v := .agg #[.string (ba xk1.Part), .string (ba xk1.Typ), .int .i64 xk1.At.X, .int .i64 xk1.At.Y, .int .i64 xk1.Quarters, .bool xk1.Below]) rfl rfl rfl (V.loadEl (off := 0) (Ag.args _ _ _) (hv_l.flat hxk1) rfl rfl rfl Tryd.isAgg28 Tryd.sizeOf28 rfl rfl) (fun a hf => ?_)
    refine S.alloc hf hs rfl rfl rfl [.string (ba []), .string (ba []), .int .i64 0, .int .i64 0, .int .i64 0, .bool false] rfl Tryd.zeroValue28 rfl (fun g2 a w hf hs => ?_)
    refine S.storeBox 0 hf hs rfl rfl [.string (ba xk1.Part), .string (ba xk1.Typ), .int .i64 xk1.At.X, .int .i64 xk1.At.Y, .int .i64 xk1.Quarters, .bool xk1.Below] [.string (ba xk1.Part), .string (ba xk1.Typ), .int .i64 xk1.At.X, .int .i64 xk1.At.Y, .int .i64 xk1.Quarters, .bool xk1.Below] rfl rfl rfl rfl rfl Tryd.sizeOf28 rfl rfl rfl rfl (fun a w hf hs => ?_)
    refine R.nil ?_
    refine X.then_ ?_
    refine R.list ?_
    refine S.val hf hs (v := .map (some g1)) rfl rfl rfl (V.pure rfl) (fun a hf => ?_)
    refine S.val hf hs (v := .pointer (some ⟨g2, 1, none⟩)) rfl rfl rfl (V.fieldBox rfl rfl Tryd.runUnderlying28 rfl Tryd.sizeOf9 rfl rfl) (fun a hf => ?_)
    refine S.val hf hs (v := .string (ba xk1.Typ)) rfl rfl rfl (V.loadBox 0 rfl rfl rfl Tryd.isAgg9 Tryd.sizeOf9 rfl rfl) (fun a hf => ?_)
    refine S.val hf hs (v := .int .i64 ((mget m2 xk1.Typ).getD 0)) rfl rfl rfl (V.lookup 1 rfl (k := xk1.Typ) (u := ((mget m2 xk1.Typ).getD 0)) (z := 0) rfl rfl rfl Tryd.runUnderlying109 key9 Tryd.zeroValue3 rfl rfl) (fun a hf => ?_)
    refine S.val hf hs (v := .int .i64 boards) rfl rfl rfl (V.pure rfl) (fun a hf => ?_)
    refine S.val hf hs (v := .int .i64 (w64 (((mget m2 xk1.Typ).getD 0) + boards))) rfl rfl rfl (V.pure rfl) (fun a hf => ?_)
    refine S.mapUpdate 1 hf hs rfl rfl rfl xk1.Typ (w64 (((mget m2 xk1.Typ).getD 0) + boards)) rfl rfl rfl rfl Tryd.runUnderlying109 key9 (fun a w hf hs => ?_)
    refine R.nil ?_
    refine X.blk ?_
    refine X.then_ ?_
    refine R.list ?_
    refine S.val hf hs (v := .int .i64 ((k1 + 1 : Nat) : Int)) rfl rfl rfl (V.incr rfl rfl rfl hltk1 hlenk1) (fun a hf => ?_)
    refine S.val hf hs (v := .int .i64 ((k1 + 1 : Nat) : Int)) rfl rfl rfl (V.pure rfl) (fun a hf => ?_)
    refine R.nil ?_
    refine X.then_ ?_
    exact ⟨xk1, llk1, rfl, k1 + 1, (mput m2 xk1.Typ (w64 (((mget m2 xk1.Typ).getD 0) + boards))), range_drop hlk1, range_len hkk1, (by rw [hnext1] at h; exact h), (((((hf.nil.cons (hf.get 10 _ rfl)).cons (hf.get 9 _ rfl)).cons (hf.get 5 _ rfl)).cons (hf.get 1 _ rfl)).cons (hf.get 11 _ rfl)), hs.drop⟩

set_option linter.unusedVariables false
def M_mount_Needed (b : (List Body)) (l : (List Place)) (boards : Int) (Q : (List Count) → Int → Prop) : Prop :=
  M_mount_CheckPlaces b l fun y1 => cnd (y1 != 0) (Q ([] : List Count) y1) (M_mount_isBoards boards fun y2 => cnd (!y2) (Q ([] : List Count) 1) (M_mount_needed l boards fun y3 => M_mount_counts y3 fun y4 z1 => Q y4 0))
set_option maxHeartbeats 1000000 in
theorem R_mount_Needed (b : (List Body)) (l : (List Place)) (boards : Int) (w0 : World) (bA : Option Addr) (bC : Nat) (hv_b : View w0 (old w0 none_) bA bC b) (lA : Option Addr) (lC : Nat) (hv_l : View w0 (old w0 none_) lA lC l) (Q : (List Count) → Int → Prop) (h : M_mount_Needed b l boards Q) :
    Ret Tryd.prog 31 #[.slice bA b.length bC, .slice lA l.length lC, .int .i64 boards] w0 fun v w' => ∃ (r0 : (List Count)) (r0A : Option Addr) (r0C : Nat) (r1 : Int), v = .tuple #[.slice r0A r0.length r0C, .int .i64 r1] ∧ Q r0 r1 ∧ Sat w0 none_ [hown 76 r0A r0C r0] w' := by
  refine fn_enter Tryd.func31 rfl Tryd.ntmps31 rfl (fs := [(0, .slice bA b.length bC), (1, .slice lA l.length lC), (2, .int .i64 boards)]) rfl (fun a hf => ?_)
  have hs := Sat.start w0 none_
  unfold M_mount_Needed at h
  refine wp_seq ?_
  refine R.list ?_
  refine S.val hf hs (v := .slice none 0 0) rfl rfl rfl (V.pure rfl) (fun a hf => ?_)
  refine S.val hf hs (v := .int .i64 0) rfl rfl rfl (V.pure rfl) (fun a hf => ?_)
  refine R.nil ?_
  refine X.then_ ?_
  refine wp_seq ?_
  refine wp_seq ?_
  refine R.list ?_
  refine S.val hf hs (v := .slice bA b.length bC) rfl rfl rfl (V.pure rfl) (fun a hf => ?_)
  refine S.val hf hs (v := .slice lA l.length lC) rfl rfl rfl (V.pure rfl) (fun a hf => ?_)
  refine S.call hf rfl rfl rfl (call_fn (vs := [.slice bA b.length bC, .slice lA l.length lC]) rfl rfl rfl Tryd.call35) (R_mount_CheckPlaces b l _ bA bC ((Ag.args _ _ _).view hv_b hs) lA lC ((Ag.args _ _ _).view hv_l hs) _ h) (fun v a w' hf hr => ?_)
  obtain ⟨y1, rfl, h2, hs2⟩ := hr
  replace h := h2; replace hs := hs.call hs2; clear h2 hs2
  refine S.val hf hs (v := .int .i64 y1) rfl rfl rfl (V.pure rfl) (fun a hf => ?_)
  refine R.nil ?_
  refine X.then_ ?_
  refine wp_seq ?_
  refine R.list ?_
  refine S.val hf hs (v := .int .i64 y1) rfl rfl rfl (V.pure rfl) (fun a hf => ?_)
  refine S.val hf hs (v := .bool (y1 != 0)) rfl rfl rfl (V.pure rfl) (fun a hf => ?_)
  refine R.nil ?_
  refine X.then_ ?_
  refine C.cond hf (b := y1 != 0) rfl (fun hc => ?_) (fun hc => ?_)
  · replace h := h.1 hc
    refine wp_seq ?_
    refine R.list ?_
    refine S.val hf hs (v := .int .i64 y1) rfl rfl rfl (V.pure rfl) (fun a hf => ?_)
    refine S.val hf hs (v := .slice none 0 0) rfl rfl rfl (V.pure rfl) (fun a hf => ?_)
    refine S.val hf hs (v := .int .i64 y1) rfl rfl rfl (V.pure rfl) (fun a hf => ?_)
    refine R.nil ?_
    refine X.then_ ?_
    refine wp_ret ?_
    refine X.then_ret ?_
    replace hs := hs.nilOwn (α := Count) 76
    replace hs := hs.take 1
    exact L.ret hf (run_results2 Tryd.results31 (ResIs.tmp hf rfl) (ResIs.tmp hf rfl)) ⟨([] : List Count), none, 0, y1, rfl, h, hs⟩
  · replace h := h.2 hc
    refine wp_skip ?_
    refine X.then_ ?_
    refine wp_seq ?_
    refine wp_seq ?_
    refine R.list ?_
    refine S.val hf hs (v := .int .i64 boards) rfl rfl rfl (V.pure rfl) (fun a hf => ?_)
    refine S.call hf rfl rfl rfl (call_fn (vs := [.int .i64 boards]) rfl rfl rfl Tryd.call54) (R_mount_isBoards boards _  _ h) (fun v a w' hf hr => ?_)
    obtain ⟨y2, rfl, h2, hs2⟩ := hr
    replace h := h2; replace hs := hs.call hs2; clear h2 hs2
    refine S.val hf hs (v := .bool (!y2)) rfl rfl rfl (V.pure rfl) (fun a hf => ?_)
    refine R.nil ?_
    refine X.then_ ?_
    refine C.cond hf (b := !y2) rfl (fun hc => ?_) (fun hc => ?_)
    · replace h := h.1 hc
      refine wp_seq ?_
      refine R.list ?_
      refine S.val hf hs (v := .slice none 0 0) rfl rfl rfl (V.pure rfl) (fun a hf => ?_)
      refine S.val hf hs (v := .int .i64 1) rfl rfl rfl (V.pure rfl) (fun a hf => ?_)
      refine R.nil ?_
      refine X.then_ ?_
      refine wp_ret ?_
      refine X.then_ret ?_
      replace hs := hs.nilOwn (α := Count) 76
      replace hs := hs.take 1
      exact L.ret hf (run_results2 Tryd.results31 (ResIs.tmp hf rfl) (ResIs.tmp hf rfl)) ⟨([] : List Count), none, 0, 1, rfl, h, hs⟩
    · replace h := h.2 hc
      refine wp_skip ?_
      refine X.then_ ?_
      refine wp_seq ?_
      refine R.list ?_
      refine S.val hf hs (v := .slice lA l.length lC) rfl rfl rfl (V.pure rfl) (fun a hf => ?_)
      refine S.val hf hs (v := .int .i64 boards) rfl rfl rfl (V.pure rfl) (fun a hf => ?_)
      refine S.call hf rfl rfl rfl (call_fn (vs := [.slice lA l.length lC, .int .i64 boards]) rfl rfl rfl Tryd.call72) (R_mount_needed l boards _ lA lC ((Ag.args _ _ _).view hv_l hs) _ h) (fun v a w' hf hr => ?_)
      obtain ⟨y3, y3g, rfl, h2, hs2⟩ := hr
      replace h := h2; replace hs := hs.call hs2; clear h2 hs2
      obtain ⟨F1, hsF, hback, hold, hrest⟩ := Sat.callOwns [hmap y3g ek9 ek3 y3] (σ := []) hs
      refine S.call hf rfl rfl rfl (call_fn (vs := [.map (some y3g)]) rfl rfl rfl Tryd.call71) (R_mount_counts y3 _ _ y3g hsF _ h) (fun v a w' hf hr => ?_)
      obtain ⟨y4, y4A, y4C, z1, rfl, h2, hs2⟩ := hr
      replace h := h2; replace hs := hback _ _ hs2; clear h2 hs2 hback hold hrest hsF
      refine S.val hf hs (v := .slice y4A y4.length y4C) rfl rfl rfl (V.pure rfl) (fun a hf => ?_)
      refine S.val hf hs (v := .int .i64 0) rfl rfl rfl (V.pure rfl) (fun a hf => ?_)
      refine R.nil ?_
      refine X.then_ ?_
      refine wp_ret ?_
      replace hs := hs.take 1
      exact L.ret hf (run_results2 Tryd.results31 (ResIs.tmp hf rfl) (ResIs.tmp hf rfl)) ⟨y4, y4A, y4C, 0, rfl, h, hs⟩

set_option linter.unusedVariables false
def M_ref10_needed_L2 (boards : Int) (xk1 : Body) (k2 : Nat) (xk2 : Place) (n2 : Int) (next2 : Int → Prop) : Prop :=
  cnd (xk2.Typ == xk1.Typ) (next2 (w64 (n2 + boards))) (next2 n2)
def M_ref10_needed_L1 (l : (List Place)) (boards : Int) (k1 : Nat) (xk1 : Body) (l2 : List Count) (next1 : List Count → Prop) : Prop :=
  forIn' (fun k x (s : Int) next => M_ref10_needed_L2 boards xk1 k x s (fun n2 => next n2)) (fun (s : Int) => (fun (n2 : Int) => cnd (decide (n2 > 0)) (must (room (l2 ++ [(⟨xk1.Typ, n2⟩ : Count)]).length 24) (next1 (l2 ++ [(⟨xk1.Typ, n2⟩ : Count)]))) (next1 l2)) s) l 0 0
def M_ref10_needed (b : (List Body)) (l : (List Place)) (boards : Int) (Q : (List Count) → Prop) : Prop :=
  forIn' (fun k x (s : List Count) next => M_ref10_needed_L1 l boards k x s (fun l2 => next l2)) (fun (s : List Count) => (fun (l2 : List Count) => Q l2) s) b 0 ([] : List Count)
set_option maxHeartbeats 1000000 in
theorem R_ref10_needed (b : (List Body)) (l : (List Place)) (boards : Int) (w0 : World) (bA : Option Addr) (bC : Nat) (hv_b : View w0 (old w0 none_) bA bC b) (lA : Option Addr) (lC : Nat) (hv_l : View w0 (old w0 none_) lA lC l) (Q : (List Count) → Prop) (h : M_ref10_needed b l boards Q) :
    Ret Tryd.prog 73 #[.slice bA b.length bC, .slice lA l.length lC, .int .i64 boards] w0 fun v w' => ∃ (r0 : (List Count)) (r0A : Option Addr) (r0C : Nat), v = .slice r0A r0.length r0C ∧ Q r0 ∧ Sat w0 none_ [hown 76 r0A r0C r0] w' := by
  refine fn_enter Tryd.func73 rfl Tryd.ntmps73 rfl (fs := [(0, .slice bA b.length bC), (1, .slice lA l.length lC), (2, .int .i64 boards)]) rfl (fun a hf => ?_)
  have hs := Sat.start w0 none_
  unfold M_ref10_needed at h
  refine wp_seq ?_
  refine R.list ?_
  refine S.val hf hs (v := .slice none 0 0) rfl rfl rfl (V.pure rfl) (fun a hf => ?_)
  refine R.nil ?_
  refine X.then_ ?_
  refine wp_seq ?_
  refine R.list ?_
  refine S.val hf hs (v := .slice none 0 0) rfl rfl rfl (V.pure rfl) (fun a hf => ?_)
  refine R.nil ?_
  refine X.then_ ?_
  refine wp_seq ?_
  refine wp_seq ?_
  refine R.list ?_
  refine S.val hf hs (v := .slice bA b.length bC) rfl rfl rfl (V.pure rfl) (fun a hf => ?_)
  refine S.val hf hs (v := .int .i64 (b.length : Int)) rfl rfl rfl (V.len rfl rfl Tryd.runUnderlying22) (fun a hf => ?_)
  refine S.val hf hs (v := .int .i64 0) rfl rfl rfl (V.pure rfl) (fun a hf => ?_)
  refine R.nil ?_
  refine X.then_ ?_
  refine wp_block ?_
  replace hs := hs.nilOwn (α := Count) 76
  have hlenk1 := hv_b.len64
  refine C.range (fun (ll : List Body) a w => ∃ (k1 : Nat) (l2 : List Count) (l2A : Option Addr) (l2C : Nat), b.drop k1 = ll ∧ k1 + ll.length = b.length ∧ forIn' (fun k x (s : List Count) next => M_ref10_needed_L1 l boards k x s (fun l2 => next l2)) (fun (s : List Count) => (fun (l2 : List Count) => Q l2) s) ll k1 l2 ∧ FrOk 45 [(15, .int .i64 (k1 : Int)), (1, .slice lA l.length lC), (2, .int .i64 boards), (7, .slice l2A l2.length l2C), (13, .slice bA b.length bC), (14, .int .i64 (b.length : Int))] a ∧ Sat w0 none_ [hown 76 l2A l2C l2] w) b ⟨0, ([] : List Count), none, 0, rfl, Nat.zero_add _, h, ((((((hf.nil.cons (hf.get 14 _ rfl)).cons (hf.get 13 _ rfl)).cons (hf.get 7 _ rfl)).cons (hf.get 2 _ rfl)).cons (hf.get 1 _ rfl)).cons (hf.get 15 _ rfl)), hs⟩ ?_
  clear h hf hs
  rintro llk1 a w ⟨k1, l2, l2A, l2C, hlk1, hkk1, h, hf, hs⟩
  cases llk1 with
  | nil =>
    have hc := range_done hkk1
    replace h : (fun (l2 : List Count) => Q l2) l2 := h
    refine wp_seq ?_
    refine R.list ?_
    refine S.val hf hs (v := .bool false) rfl rfl rfl (V.cmp false rfl rfl rfl rfl hc) (fun a hf => ?_)
    refine R.nil ?_
    refine X.then_ ?_
    refine wp_seq ?_
    refine C.no hf rfl ?_
    refine wp_exit ?_
    refine X.then_exit ?_
    refine X.then_exit ?_
    refine X.blk_exit ?_
    refine X.then_ ?_
    refine wp_seq ?_
    refine R.list ?_
    refine S.val hf hs (v := .slice l2A l2.length l2C) rfl rfl rfl (V.pure rfl) (fun a hf => ?_)
    refine S.val hf hs (v := .slice l2A l2.length l2C) rfl rfl rfl (V.pure rfl) (fun a hf => ?_)
    refine R.nil ?_
    refine X.then_ ?_
    refine wp_ret ?_
    replace hs := hs.take 1
    exact L.ret hf (run_results1 Tryd.results73 (ResIs.tmp hf rfl)) ⟨l2, l2A, l2C, rfl, h, hs⟩
  | cons xk1 llk1 =>
    have hltk1 := range_lt hkk1; have hc := range_go hkk1; have hxk1 := range_get hlk1
    obtain ⟨next1, hnext1⟩ : ∃ X : List Count → Prop, X = (fun l2 => forIn' (fun k x (s : List Count) next => M_ref10_needed_L1 l boards k x s (fun l2 => next l2)) (fun (s : List Count) => (fun (l2 : List Count) => Q l2) s) llk1 (k1 + 1) l2) := ⟨_, rfl⟩
    replace h : M_ref10_needed_L1 l boards k1 xk1 l2 next1 := by rw [hnext1]; exact h
    unfold M_ref10_needed_L1 at h
    refine wp_seq ?_
    refine R.list ?_
    refine S.val hf hs (v := .bool true) rfl rfl rfl (V.cmp true rfl rfl rfl rfl hc) (fun a hf => ?_)
    refine R.nil ?_
    refine X.then_ ?_
    refine wp_seq ?_
    refine C.yes hf rfl ?_
    refine wp_skip ?_
    refine X.then_ ?_
    refine wp_seq ?_
    refine wp_block ?_
    refine wp_seq ?_
    refine R.list ?_
    refine S.val hf hs (v := elemPtr bA (k1 * 5)) rfl rfl rfl (V.index rfl rfl rfl Tryd.runUnderlying22 Tryd.sizeOf95 (hv_b.some_ (lt_of_get hxk1)) (Int.natCast_nonneg _) (lt_of_get hxk1) rfl) (fun a hf => ?_)
    refine S.val hf hs (v := .agg #[.string (ba xk1.Typ), .int .i64 xk1.W, .int .i64 xk1.H, .int .i64 xk1.Tall, .string (ba xk1.Nozzle)]) rfl rfl rfl (V.loadEl (off := 0) (Ag.args _ _ _) (hv_b.flat hxk1) rfl rfl rfl Tryd.isAgg95 Tryd.sizeOf95 rfl rfl) (fun a hf => ?_)
    refine S.alloc hf hs rfl rfl rfl [.string (ba []), .int .i64 0, .int .i64 0, .int .i64 0, .string (ba [])] rfl Tryd.zeroValue95 rfl (fun g1 a w hf hs => ?_)
    refine S.storeBox 0 hf hs rfl rfl [.string (ba xk1.Typ), .int .i64 xk1.W, .int .i64 xk1.H, .int .i64 xk1.Tall, .string (ba xk1.Nozzle)] [.string (ba xk1.Typ), .int .i64 xk1.W, .int .i64 xk1.H, .int .i64 xk1.Tall, .string (ba xk1.Nozzle)] rfl rfl rfl rfl rfl Tryd.sizeOf95 rfl rfl rfl rfl (fun a w hf hs => ?_)
    refine R.nil ?_
    refine X.then_ ?_
    refine wp_seq ?_
    refine R.list ?_
    refine S.val hf hs (v := .int .i64 0) rfl rfl rfl (V.pure rfl) (fun a hf => ?_)
    refine R.nil ?_
    refine X.then_ ?_
    refine wp_seq ?_
    refine wp_seq ?_
    refine R.list ?_
    refine S.val hf hs (v := .slice lA l.length lC) rfl rfl rfl (V.pure rfl) (fun a hf => ?_)
    refine S.val hf hs (v := .int .i64 (l.length : Int)) rfl rfl rfl (V.len rfl rfl Tryd.runUnderlying23) (fun a hf => ?_)
    refine S.val hf hs (v := .int .i64 0) rfl rfl rfl (V.pure rfl) (fun a hf => ?_)
    refine R.nil ?_
    refine X.then_ ?_
    refine wp_block ?_
    have hlenk2 := hv_l.len64
    refine C.range (fun (ll : List Place) a w => ∃ (k2 : Nat) (n2 : Int), l.drop k2 = ll ∧ k2 + ll.length = l.length ∧ forIn' (fun k x (s : Int) next => M_ref10_needed_L2 boards xk1 k x s (fun n2 => next n2)) (fun (s : Int) => (fun (n2 : Int) => cnd (decide (n2 > 0)) (must (room (l2 ++ [(⟨xk1.Typ, n2⟩ : Count)]).length 24) (next1 (l2 ++ [(⟨xk1.Typ, n2⟩ : Count)]))) (next1 l2)) s) ll k2 n2 ∧ FrOk 45 [(21, .int .i64 (k2 : Int)), (1, .slice lA l.length lC), (2, .int .i64 boards), (7, .slice l2A l2.length l2C), (9, .pointer (some ⟨g1, 0, none⟩)), (10, .int .i64 n2), (13, .slice bA b.length bC), (14, .int .i64 (b.length : Int)), (15, .int .i64 (k1 : Int)), (19, .slice lA l.length lC), (20, .int .i64 (l.length : Int))] a ∧ Sat w0 none_ [hbox g1 95 [.string (ba xk1.Typ), .int .i64 xk1.W, .int .i64 xk1.H, .int .i64 xk1.Tall, .string (ba xk1.Nozzle)], hown 76 l2A l2C l2] w) l ⟨0, 0, rfl, Nat.zero_add _, h, (((((((((((hf.nil.cons (hf.get 20 _ rfl)).cons (hf.get 19 _ rfl)).cons (hf.get 15 _ rfl)).cons (hf.get 14 _ rfl)).cons (hf.get 13 _ rfl)).cons (hf.get 10 _ rfl)).cons (hf.get 9 _ rfl)).cons (hf.get 7 _ rfl)).cons (hf.get 2 _ rfl)).cons (hf.get 1 _ rfl)).cons (hf.get 21 _ rfl)), hs⟩ ?_
    clear h hf hs
    rintro llk2 a w ⟨k2, n2, hlk2, hkk2, h, hf, hs⟩
    cases llk2 with
    | nil =>
      have hc := range_done hkk2
      replace h : (fun (n2 : Int) => cnd (decide (n2 > 0)) (must (room (l2 ++ [(⟨xk1.Typ, n2⟩ : Count)]).length 24) (next1 (l2 ++ [(⟨xk1.Typ, n2⟩ : Count)]))) (next1 l2)) n2 := h
      refine wp_seq ?_
      refine R.list ?_
      refine S.val hf hs (v := .bool false) rfl rfl rfl (V.cmp false rfl rfl rfl rfl hc) (fun a hf => ?_)
      refine R.nil ?_
      refine X.then_ ?_
      refine wp_seq ?_
      refine C.no hf rfl ?_
      refine wp_exit ?_
      refine X.then_exit ?_
      refine X.then_exit ?_
      refine X.blk_exit ?_
      refine X.then_ ?_
      refine wp_seq ?_
      refine R.list ?_
      refine S.val hf hs (v := .int .i64 n2) rfl rfl rfl (V.pure rfl) (fun a hf => ?_)
      refine S.val hf hs (v := .bool (decide (n2 > 0))) rfl rfl rfl (V.pure rfl) (fun a hf => ?_)
      refine R.nil ?_
      refine X.then_ ?_
      refine C.cond hf (b := decide (n2 > 0)) rfl (fun hc => ?_) (fun hc => ?_)
      · replace h := h.1 hc
        refine R.list ?_
        refine S.val hf hs (v := .slice l2A l2.length l2C) rfl rfl rfl (V.pure rfl) (fun a hf => ?_)
        refine S.val hf hs (v := .pointer (some ⟨g1, 0, none⟩)) rfl rfl rfl (V.fieldBox rfl rfl Tryd.runUnderlying95 rfl Tryd.sizeOf9 rfl rfl) (fun a hf => ?_)
        refine S.val hf hs (v := .string (ba xk1.Typ)) rfl rfl rfl (V.loadBox 0 rfl rfl rfl Tryd.isAgg9 Tryd.sizeOf9 rfl rfl) (fun a hf => ?_)
        refine S.val hf hs (v := .int .i64 n2) rfl rfl rfl (V.pure rfl) (fun a hf => ?_)
        refine S.val hf hs (v := .agg #[.string (ba xk1.Typ), .int .i64 n2]) rfl rfl rfl (V.build (places := #[(0, 1), (1, 1)]) rfl Tryd.zeroValue76 Tryd.runUnderlying76 (by intro w; simp [Tryd.sizeOf3, Tryd.sizeOf9]) rfl rfl) (fun a hf => ?_)
        refine S.build1 hf hs rfl rfl rfl (α := Count) (⟨xk1.Typ, n2⟩ : Count) rfl rfl rfl Tryd.runUnderlying69 Tryd.sizeOf76 Tryd.zeroValue76 rfl (by decide) (fun A1 a w hf hs => ?_)
        obtain ⟨hroom, h⟩ := h
        refine S.appendCells 2 hf hs rfl rfl rfl rfl rfl rfl rfl Tryd.underlying69 info76 rfl hroom ((hs.ownView 0 rfl).some_ (i := 0) (by simp)) (hs.ownView 0 rfl) (fun A2 C1 a w hf hs => ?_)
        replace hs := hs.drop
        refine S.val hf hs (v := .slice A2 (l2 ++ [(⟨xk1.Typ, n2⟩ : Count)]).length C1) rfl rfl rfl (V.pure rfl) (fun a hf => ?_)
        refine R.nil ?_
        refine X.blk ?_
        refine X.then_ ?_
        refine R.list ?_
        refine S.val hf hs (v := .int .i64 ((k1 + 1 : Nat) : Int)) rfl rfl rfl (V.incr rfl rfl rfl hltk1 hlenk1) (fun a hf => ?_)
        refine S.val hf hs (v := .int .i64 ((k1 + 1 : Nat) : Int)) rfl rfl rfl (V.pure rfl) (fun a hf => ?_)
        refine R.nil ?_
        refine X.then_ ?_
        exact ⟨xk1, llk1, rfl, k1 + 1, (l2 ++ [(⟨xk1.Typ, n2⟩ : Count)]), A2, C1, range_drop hlk1, range_len hkk1, (by rw [hnext1] at h; exact h), ((((((hf.nil.cons (hf.get 14 _ rfl)).cons (hf.get 13 _ rfl)).cons (hf.get 7 _ rfl)).cons (hf.get 2 _ rfl)).cons (hf.get 1 _ rfl)).cons (hf.get 15 _ rfl)), hs.drop⟩
      · replace h := h.2 hc
        refine wp_skip ?_
        refine X.blk ?_
        refine X.then_ ?_
        refine R.list ?_
        refine S.val hf hs (v := .int .i64 ((k1 + 1 : Nat) : Int)) rfl rfl rfl (V.incr rfl rfl rfl hltk1 hlenk1) (fun a hf => ?_)
        refine S.val hf hs (v := .int .i64 ((k1 + 1 : Nat) : Int)) rfl rfl rfl (V.pure rfl) (fun a hf => ?_)
        refine R.nil ?_
        refine X.then_ ?_
        exact ⟨xk1, llk1, rfl, k1 + 1, l2, l2A, l2C, range_drop hlk1, range_len hkk1, (by rw [hnext1] at h; exact h), ((((((hf.nil.cons (hf.get 14 _ rfl)).cons (hf.get 13 _ rfl)).cons (hf.get 7 _ rfl)).cons (hf.get 2 _ rfl)).cons (hf.get 1 _ rfl)).cons (hf.get 15 _ rfl)), hs.drop⟩
    | cons xk2 llk2 =>
      have hltk2 := range_lt hkk2; have hc := range_go hkk2; have hxk2 := range_get hlk2
      obtain ⟨next2, hnext2⟩ : ∃ X : Int → Prop, X = (fun n2 => forIn' (fun k x (s : Int) next => M_ref10_needed_L2 boards xk1 k x s (fun n2 => next n2)) (fun (s : Int) => (fun (n2 : Int) => cnd (decide (n2 > 0)) (must (room (l2 ++ [(⟨xk1.Typ, n2⟩ : Count)]).length 24) (next1 (l2 ++ [(⟨xk1.Typ, n2⟩ : Count)]))) (next1 l2)) s) llk2 (k2 + 1) n2) := ⟨_, rfl⟩
      replace h : M_ref10_needed_L2 boards xk1 k2 xk2 n2 next2 := by rw [hnext2]; exact h
      unfold M_ref10_needed_L2 at h
      refine wp_seq ?_
      refine R.list ?_
      refine S.val hf hs (v := .bool true) rfl rfl rfl (V.cmp true rfl rfl rfl rfl hc) (fun a hf => ?_)
      refine R.nil ?_
      refine X.then_ ?_
      refine wp_seq ?_
      refine C.yes hf rfl ?_
      refine wp_skip ?_
      refine X.then_ ?_
      refine wp_seq ?_
      refine wp_block ?_
      refine wp_seq ?_
      refine R.list ?_
      refine S.val hf hs (v := elemPtr lA (k2 * 6)) rfl rfl rfl (V.index rfl rfl rfl Tryd.runUnderlying23 Tryd.sizeOf28 (hv_l.some_ (lt_of_get hxk2)) (Int.natCast_nonneg _) (lt_of_get hxk2) rfl) (fun a hf => ?_)
      refine S.val hf hs (v := .agg #[.string (ba xk2.Part), .string (ba xk2.Typ), .int .i64 xk2.At.X, .int .i64 xk2.At.Y, .int .i64 xk2.Quarters, .bool xk2.Below]) rfl rfl rfl (V.loadEl (off := 0) (Ag.args _ _ _) (hv_l.flat hxk2) rfl rfl rfl Tryd.isAgg28 Tryd.sizeOf28 rfl rfl) (fun a hf => ?_)
      refine S.alloc hf hs rfl rfl rfl [.string (ba []), .string (ba []), .int .i64 0, .int .i64 0, .int .i64 0, .bool false] rfl Tryd.zeroValue28 rfl (fun g2 a w hf hs => ?_)
      refine S.storeBox 0 hf hs rfl rfl [.string (ba xk2.Part), .string (ba xk2.Typ), .int .i64 xk2.At.X, .int .i64 xk2.At.Y, .int .i64 xk2.Quarters, .bool xk2.Below] [.string (ba xk2.Part), .string (ba xk2.Typ), .int .i64 xk2.At.X, .int .i64 xk2.At.Y, .int .i64 xk2.Quarters, .bool xk2.Below] rfl rfl rfl rfl rfl Tryd.sizeOf28 rfl rfl rfl rfl (fun a w hf hs => ?_)
      refine R.nil ?_
      refine X.then_ ?_
      refine wp_seq ?_
      refine R.list ?_
      refine S.val hf hs (v := .pointer (some ⟨g2, 1, none⟩)) rfl rfl rfl (V.fieldBox rfl rfl Tryd.runUnderlying28 rfl Tryd.sizeOf9 rfl rfl) (fun a hf => ?_)
      refine S.val hf hs (v := .string (ba xk2.Typ)) rfl rfl rfl (V.loadBox 0 rfl rfl rfl Tryd.isAgg9 Tryd.sizeOf9 rfl rfl) (fun a hf => ?_)
      refine S.val hf hs (v := .pointer (some ⟨g1, 0, none⟩)) rfl rfl rfl (V.fieldBox rfl rfl Tryd.runUnderlying95 rfl Tryd.sizeOf9 rfl rfl) (fun a hf => ?_)
      refine S.val hf hs (v := .string (ba xk1.Typ)) rfl rfl rfl (V.loadBox 1 rfl rfl rfl Tryd.isAgg9 Tryd.sizeOf9 rfl rfl) (fun a hf => ?_)
      refine S.val hf hs (v := .bool (xk2.Typ == xk1.Typ)) rfl rfl rfl (V.strCmp (xk2.Typ == xk1.Typ) rfl rfl rfl rfl) (fun a hf => ?_)
      refine R.nil ?_
      refine X.then_ ?_
      refine C.cond hf (b := xk2.Typ == xk1.Typ) rfl (fun hc => ?_) (fun hc => ?_)
      · replace h := h.1 hc
        refine R.list ?_
        refine S.val hf hs (v := .int .i64 n2) rfl rfl rfl (V.pure rfl) (fun a hf => ?_)
        refine S.val hf hs (v := .int .i64 boards) rfl rfl rfl (V.pure rfl) (fun a hf => ?_)
        refine S.val hf hs (v := .int .i64 (w64 (n2 + boards))) rfl rfl rfl (V.pure rfl) (fun a hf => ?_)
        refine S.val hf hs (v := .int .i64 (w64 (n2 + boards))) rfl rfl rfl (V.pure rfl) (fun a hf => ?_)
        refine R.nil ?_
        refine X.blk ?_
        refine X.then_ ?_
        refine R.list ?_
        refine S.val hf hs (v := .int .i64 ((k2 + 1 : Nat) : Int)) rfl rfl rfl (V.incr rfl rfl rfl hltk2 hlenk2) (fun a hf => ?_)
        refine S.val hf hs (v := .int .i64 ((k2 + 1 : Nat) : Int)) rfl rfl rfl (V.pure rfl) (fun a hf => ?_)
        refine R.nil ?_
        refine X.then_ ?_
        exact ⟨xk2, llk2, rfl, k2 + 1, (w64 (n2 + boards)), range_drop hlk2, range_len hkk2, (by rw [hnext2] at h; exact h), (((((((((((hf.nil.cons (hf.get 20 _ rfl)).cons (hf.get 19 _ rfl)).cons (hf.get 15 _ rfl)).cons (hf.get 14 _ rfl)).cons (hf.get 13 _ rfl)).cons (hf.get 10 _ rfl)).cons (hf.get 9 _ rfl)).cons (hf.get 7 _ rfl)).cons (hf.get 2 _ rfl)).cons (hf.get 1 _ rfl)).cons (hf.get 21 _ rfl)), hs.drop⟩
      · replace h := h.2 hc
        refine wp_skip ?_
        refine X.blk ?_
        refine X.then_ ?_
        refine R.list ?_
        refine S.val hf hs (v := .int .i64 ((k2 + 1 : Nat) : Int)) rfl rfl rfl (V.incr rfl rfl rfl hltk2 hlenk2) (fun a hf => ?_)
        refine S.val hf hs (v := .int .i64 ((k2 + 1 : Nat) : Int)) rfl rfl rfl (V.pure rfl) (fun a hf => ?_)
        refine R.nil ?_
        refine X.then_ ?_
        exact ⟨xk2, llk2, rfl, k2 + 1, n2, range_drop hlk2, range_len hkk2, (by rw [hnext2] at h; exact h), (((((((((((hf.nil.cons (hf.get 20 _ rfl)).cons (hf.get 19 _ rfl)).cons (hf.get 15 _ rfl)).cons (hf.get 14 _ rfl)).cons (hf.get 13 _ rfl)).cons (hf.get 10 _ rfl)).cons (hf.get 9 _ rfl)).cons (hf.get 7 _ rfl)).cons (hf.get 2 _ rfl)).cons (hf.get 1 _ rfl)).cons (hf.get 21 _ rfl)), hs.drop⟩

set_option linter.unusedVariables false
def M_ref10_Needed (b : (List Body)) (l : (List Place)) (boards : Int) (Q : (List Count) → Int → Prop) : Prop :=
  M_ref10_CheckPlaces b l fun y1 => cnd (y1 != 0) (Q ([] : List Count) y1) (cnd (!(within boards 0 1000)) (Q ([] : List Count) 1) (M_ref10_needed b l boards fun y2 => Q y2 0))
set_option maxHeartbeats 1000000 in
theorem R_ref10_Needed (b : (List Body)) (l : (List Place)) (boards : Int) (w0 : World) (bA : Option Addr) (bC : Nat) (hv_b : View w0 (old w0 none_) bA bC b) (lA : Option Addr) (lC : Nat) (hv_l : View w0 (old w0 none_) lA lC l) (Q : (List Count) → Int → Prop) (h : M_ref10_Needed b l boards Q) :
    Ret Tryd.prog 32 #[.slice bA b.length bC, .slice lA l.length lC, .int .i64 boards] w0 fun v w' => ∃ (r0 : (List Count)) (r0A : Option Addr) (r0C : Nat) (r1 : Int), v = .tuple #[.slice r0A r0.length r0C, .int .i64 r1] ∧ Q r0 r1 ∧ Sat w0 none_ [hown 76 r0A r0C r0] w' := by
  refine fn_enter Tryd.func32 rfl Tryd.ntmps32 rfl (fs := [(0, .slice bA b.length bC), (1, .slice lA l.length lC), (2, .int .i64 boards)]) rfl (fun a hf => ?_)
  have hs := Sat.start w0 none_
  unfold M_ref10_Needed at h
  refine wp_seq ?_
  refine R.list ?_
  refine S.val hf hs (v := .slice none 0 0) rfl rfl rfl (V.pure rfl) (fun a hf => ?_)
  refine S.val hf hs (v := .int .i64 0) rfl rfl rfl (V.pure rfl) (fun a hf => ?_)
  refine R.nil ?_
  refine X.then_ ?_
  refine wp_seq ?_
  refine wp_seq ?_
  refine R.list ?_
  refine S.val hf hs (v := .slice bA b.length bC) rfl rfl rfl (V.pure rfl) (fun a hf => ?_)
  refine S.val hf hs (v := .slice lA l.length lC) rfl rfl rfl (V.pure rfl) (fun a hf => ?_)
  refine S.call hf rfl rfl rfl (call_fn (vs := [.slice bA b.length bC, .slice lA l.length lC]) rfl rfl rfl Tryd.call36) (R_ref10_CheckPlaces b l _ bA bC ((Ag.args _ _ _).view hv_b hs) lA lC ((Ag.args _ _ _).view hv_l hs) _ h) (fun v a w' hf hr => ?_)
  obtain ⟨y1, rfl, h2, hs2⟩ := hr
  replace h := h2; replace hs := hs.call hs2; clear h2 hs2
  refine S.val hf hs (v := .int .i64 y1) rfl rfl rfl (V.pure rfl) (fun a hf => ?_)
  refine R.nil ?_
  refine X.then_ ?_
  refine wp_seq ?_
  refine R.list ?_
  refine S.val hf hs (v := .int .i64 y1) rfl rfl rfl (V.pure rfl) (fun a hf => ?_)
  refine S.val hf hs (v := .bool (y1 != 0)) rfl rfl rfl (V.pure rfl) (fun a hf => ?_)
  refine R.nil ?_
  refine X.then_ ?_
  refine C.cond hf (b := y1 != 0) rfl (fun hc => ?_) (fun hc => ?_)
  · replace h := h.1 hc
    refine wp_seq ?_
    refine R.list ?_
    refine S.val hf hs (v := .int .i64 y1) rfl rfl rfl (V.pure rfl) (fun a hf => ?_)
    refine S.val hf hs (v := .slice none 0 0) rfl rfl rfl (V.pure rfl) (fun a hf => ?_)
    refine S.val hf hs (v := .int .i64 y1) rfl rfl rfl (V.pure rfl) (fun a hf => ?_)
    refine R.nil ?_
    refine X.then_ ?_
    refine wp_ret ?_
    refine X.then_ret ?_
    replace hs := hs.nilOwn (α := Count) 76
    replace hs := hs.take 1
    exact L.ret hf (run_results2 Tryd.results32 (ResIs.tmp hf rfl) (ResIs.tmp hf rfl)) ⟨([] : List Count), none, 0, y1, rfl, h, hs⟩
  · replace h := h.2 hc
    refine wp_skip ?_
    refine X.then_ ?_
    refine wp_seq ?_
    refine wp_seq ?_
    refine R.list ?_
    refine S.val hf hs (v := .int .i64 boards) rfl rfl rfl (V.pure rfl) (fun a hf => ?_)
    refine S.callv hf rfl rfl rfl (call_fn (vs := [.int .i64 boards, .int .i64 0, .int .i64 1000]) rfl rfl rfl Tryd.call51) (C_ref10_within boards 0 1000 _ ) (fun a w hf hs' => ?_)
    replace hs := hs.call hs'; clear hs'
    refine S.val hf hs (v := .bool (!(within boards 0 1000))) rfl rfl rfl (V.pure rfl) (fun a hf => ?_)
    refine R.nil ?_
    refine X.then_ ?_
    refine C.cond hf (b := !(within boards 0 1000)) rfl (fun hc => ?_) (fun hc => ?_)
    · replace h := h.1 hc
      refine wp_seq ?_
      refine R.list ?_
      refine S.val hf hs (v := .slice none 0 0) rfl rfl rfl (V.pure rfl) (fun a hf => ?_)
      refine S.val hf hs (v := .int .i64 1) rfl rfl rfl (V.pure rfl) (fun a hf => ?_)
      refine R.nil ?_
      refine X.then_ ?_
      refine wp_ret ?_
      refine X.then_ret ?_
      replace hs := hs.nilOwn (α := Count) 76
      replace hs := hs.take 1
      exact L.ret hf (run_results2 Tryd.results32 (ResIs.tmp hf rfl) (ResIs.tmp hf rfl)) ⟨([] : List Count), none, 0, 1, rfl, h, hs⟩
    · replace h := h.2 hc
      refine wp_skip ?_
      refine X.then_ ?_
      refine wp_seq ?_
      refine R.list ?_
      refine S.val hf hs (v := .slice bA b.length bC) rfl rfl rfl (V.pure rfl) (fun a hf => ?_)
      refine S.val hf hs (v := .slice lA l.length lC) rfl rfl rfl (V.pure rfl) (fun a hf => ?_)
      refine S.val hf hs (v := .int .i64 boards) rfl rfl rfl (V.pure rfl) (fun a hf => ?_)
      refine S.call hf rfl rfl rfl (call_fn (vs := [.slice bA b.length bC, .slice lA l.length lC, .int .i64 boards]) rfl rfl rfl Tryd.call73) (R_ref10_needed b l boards _ bA bC ((Ag.args _ _ _).view hv_b hs) lA lC ((Ag.args _ _ _).view hv_l hs) _ h) (fun v a w' hf hr => ?_)
      obtain ⟨y2, y2A, y2C, rfl, h2, hs2⟩ := hr
      replace h := h2; replace hs := hs.call hs2; clear h2 hs2
      refine S.val hf hs (v := .slice y2A y2.length y2C) rfl rfl rfl (V.pure rfl) (fun a hf => ?_)
      refine S.val hf hs (v := .int .i64 0) rfl rfl rfl (V.pure rfl) (fun a hf => ?_)
      refine R.nil ?_
      refine X.then_ ?_
      refine wp_ret ?_
      replace hs := hs.take 1
      exact L.ret hf (run_results2 Tryd.results32 (ResIs.tmp hf rfl) (ResIs.tmp hf rfl)) ⟨y2, y2A, y2C, 0, rfl, h, hs⟩

set_option linter.unusedVariables false
def M_equal_cnt_L1 (s2 : (List Count)) (Q : Bool → Prop) (k1 : Nat) (xk1 : Count)  (next1 : Prop) : Prop :=
  idx s2 (k1 : Int) fun x1 => cnd (!(decide (xk1 = x1))) (Q false) (next1)
def M_equal_cnt (s1 : (List Count)) (s2 : (List Count)) (Q : Bool → Prop) : Prop :=
  cnd ((s1.length : Int) != (s2.length : Int)) (Q false) (forIn' (fun k x (s : Unit) next => M_equal_cnt_L1 s2 Q k x (next ())) (fun (s : Unit) => Q true) s1 0 ())
set_option maxHeartbeats 1000000 in
theorem R_equal_cnt (s1 : (List Count)) (s2 : (List Count)) (w0 : World) (s1A : Option Addr) (s1C : Nat) (hv_s1 : View w0 (old w0 none_) s1A s1C s1) (s2A : Option Addr) (s2C : Nat) (hv_s2 : View w0 (old w0 none_) s2A s2C s2) (Q : Bool → Prop) (h : M_equal_cnt s1 s2 Q) :
    Ret Tryd.prog 37 #[.slice s1A s1.length s1C, .slice s2A s2.length s2C] w0 fun v w' => ∃ (r0 : Bool), v = .bool r0 ∧ Q r0 ∧ Sat w0 none_ [] w' := by
  refine fn_enter Tryd.func37 rfl Tryd.ntmps37 rfl (fs := [(0, .slice s1A s1.length s1C), (1, .slice s2A s2.length s2C)]) rfl (fun a hf => ?_)
  have hs := Sat.start w0 none_
  unfold M_equal_cnt at h
  refine wp_seq ?_
  refine R.list ?_
  refine S.val hf hs (v := .bool false) rfl rfl rfl (V.pure rfl) (fun a hf => ?_)
  refine R.nil ?_
  refine X.then_ ?_
  refine wp_seq ?_
  refine wp_seq ?_
  refine R.list ?_
  refine S.val hf hs (v := .slice s1A s1.length s1C) rfl rfl rfl (V.pure rfl) (fun a hf => ?_)
  refine S.val hf hs (v := .int .i64 (s1.length : Int)) rfl rfl rfl (V.len rfl rfl Tryd.runUnderlying69) (fun a hf => ?_)
  refine S.val hf hs (v := .slice s2A s2.length s2C) rfl rfl rfl (V.pure rfl) (fun a hf => ?_)
  refine S.val hf hs (v := .int .i64 (s2.length : Int)) rfl rfl rfl (V.len rfl rfl Tryd.runUnderlying69) (fun a hf => ?_)
  refine S.val hf hs (v := .bool ((s1.length : Int) != (s2.length : Int))) rfl rfl rfl (V.pure rfl) (fun a hf => ?_)
  refine R.nil ?_
  refine X.then_ ?_
  refine C.cond hf (b := (s1.length : Int) != (s2.length : Int)) rfl (fun hc => ?_) (fun hc => ?_)
  · replace h := h.1 hc
    refine wp_seq ?_
    refine R.list ?_
    refine S.val hf hs (v := .bool false) rfl rfl rfl (V.pure rfl) (fun a hf => ?_)
    refine R.nil ?_
    refine X.then_ ?_
    refine wp_ret ?_
    refine X.then_ret ?_
    exact L.ret hf (run_results1 Tryd.results37 (ResIs.tmp hf rfl)) ⟨false, rfl, h, hs.nil⟩
  · replace h := h.2 hc
    refine wp_skip ?_
    refine X.then_ ?_
    refine wp_seq ?_
    refine wp_seq ?_
    refine R.list ?_
    refine S.val hf hs (v := .slice s1A s1.length s1C) rfl rfl rfl (V.pure rfl) (fun a hf => ?_)
    refine S.val hf hs (v := .int .i64 (s1.length : Int)) rfl rfl rfl (V.len rfl rfl Tryd.runUnderlying69) (fun a hf => ?_)
    refine S.val hf hs (v := .int .i64 0) rfl rfl rfl (V.pure rfl) (fun a hf => ?_)
    refine R.nil ?_
    refine X.then_ ?_
    refine wp_block ?_
    have hlenk1 := hv_s1.len64
    refine C.range (fun (ll : List Count) a w => ∃ (k1 : Nat) , s1.drop k1 = ll ∧ k1 + ll.length = s1.length ∧ forIn' (fun k x (s : Unit) next => M_equal_cnt_L1 s2 Q k x (next ())) (fun (s : Unit) => Q true) ll k1 () ∧ FrOk 26 [(13, .int .i64 (k1 : Int)), (0, .slice s1A s1.length s1C), (1, .slice s2A s2.length s2C), (12, .int .i64 (s1.length : Int))] a ∧ Sat w0 none_ [] w) s1 ⟨0, rfl, Nat.zero_add _, h, ((((hf.nil.cons (hf.get 12 _ rfl)).cons (hf.get 1 _ rfl)).cons (hf.get 0 _ rfl)).cons (hf.get 13 _ rfl)), hs⟩ ?_
    clear h hf hs
    rintro llk1 a w ⟨k1, hlk1, hkk1, h, hf, hs⟩
    cases llk1 with
    | nil =>
      have hc := range_done hkk1
      replace h : Q true := h
      refine wp_seq ?_
      refine R.list ?_
      refine S.val hf hs (v := .bool false) rfl rfl rfl (V.cmp false rfl rfl rfl rfl hc) (fun a hf => ?_)
      refine R.nil ?_
      refine X.then_ ?_
      refine wp_seq ?_
      refine C.no hf rfl ?_
      refine wp_exit ?_
      refine X.then_exit ?_
      refine X.then_exit ?_
      refine X.blk_exit ?_
      refine X.then_ ?_
      refine wp_seq ?_
      refine R.list ?_
      refine S.val hf hs (v := .bool true) rfl rfl rfl (V.pure rfl) (fun a hf => ?_)
      refine R.nil ?_
      refine X.then_ ?_
      refine wp_ret ?_
      exact L.ret hf (run_results1 Tryd.results37 (ResIs.tmp hf rfl)) ⟨true, rfl, h, hs.nil⟩
    | cons xk1 llk1 =>
      have hltk1 := range_lt hkk1; have hc := range_go hkk1; have hxk1 := range_get hlk1
      obtain ⟨next1, hnext1⟩ : ∃ X : Prop, X = (forIn' (fun k x (s : Unit) next => M_equal_cnt_L1 s2 Q k x (next ())) (fun (s : Unit) => Q true) llk1 (k1 + 1) ()) := ⟨_, rfl⟩
      replace h : M_equal_cnt_L1 s2 Q k1 xk1  next1 := by rw [hnext1]; exact h
      unfold M_equal_cnt_L1 at h
      refine wp_seq ?_
      refine R.list ?_
      refine S.val hf hs (v := .bool true) rfl rfl rfl (V.cmp true rfl rfl rfl rfl hc) (fun a hf => ?_)
      refine R.nil ?_
      refine X.then_ ?_
      refine wp_seq ?_
      refine C.yes hf rfl ?_
      refine wp_skip ?_
      refine X.then_ ?_
      refine wp_seq ?_
      refine wp_block ?_
      refine wp_seq ?_
      refine R.list ?_
      refine S.val hf hs (v := .int .i64 (k1 : Int)) rfl rfl rfl (V.pure rfl) (fun a hf => ?_)
      refine S.val hf hs (v := .int .i64 (k1 : Int)) rfl rfl rfl (V.pure rfl) (fun a hf => ?_)
      refine R.nil ?_
      refine X.then_ ?_
      refine wp_seq ?_
      refine R.draw mo (by kernel_rfl) hs ?_
      refine D.val hf (v := .slice s1A s1.length s1C) rfl rfl rfl (V.pure rfl) (fun a hf => ?_)
      refine D.val hf (v := .int .i64 (k1 : Int)) rfl rfl rfl (V.pure rfl) (fun a hf => ?_)
      refine D.val hf (v := elemPtr s1A (k1 * 2)) rfl rfl rfl (V.index rfl rfl rfl Tryd.runUnderlying69 Tryd.sizeOf76 (hv_s1.some_ (lt_of_get hxk1)) (Int.natCast_nonneg _) (lt_of_get hxk1) rfl) (fun a hf => ?_)
      refine D.val hf (v := .agg #[.string (ba xk1.Typ), .int .i64 xk1.Many]) rfl rfl rfl (V.loadEl (off := 0) (Ag.args _ _ _) (hv_s1.flat hxk1) rfl rfl rfl Tryd.isAgg76 Tryd.sizeOf76 rfl rfl) (fun a hf => ?_)
      refine D.val hf (v := .slice s2A s2.length s2C) rfl rfl rfl (V.pure rfl) (fun a hf => ?_)
      refine D.val hf (v := .int .i64 (k1 : Int)) rfl rfl rfl (V.pure rfl) (fun a hf => ?_)
      obtain ⟨h0x1, x1, hx1, h⟩ := h
      refine D.val hf (v := elemPtr s2A (k1 * 2)) rfl rfl rfl (V.index rfl rfl rfl Tryd.runUnderlying69 Tryd.sizeOf76 (hv_s2.some_ (lt_of_get hx1)) (Int.natCast_nonneg _) (lt_of_get hx1) rfl) (fun a hf => ?_)
      refine D.val hf (v := .agg #[.string (ba x1.Typ), .int .i64 x1.Many]) rfl rfl rfl (V.loadEl (off := 0) (Ag.args _ _ _) (hv_s2.flat hx1) rfl rfl rfl Tryd.isAgg76 Tryd.sizeOf76 rfl rfl) (fun a hf => ?_)
      refine D.val hf (v := .bool (!(decide (xk1 = x1)))) rfl rfl rfl (V.aggneq rfl rfl rfl (by kernel_rfl) (fun w => eqS76 xk1 x1 w)) (fun a hf => ?_)
      refine D.done (fun w hs => ?_)
      refine X.then_ ?_
      refine C.cond hf (b := !(decide (xk1 = x1))) rfl (fun hc => ?_) (fun hc => ?_)
      · replace h := h.1 hc
        refine wp_seq ?_
        refine R.list ?_
        refine S.val hf hs (v := .bool false) rfl rfl rfl (V.pure rfl) (fun a hf => ?_)
        refine R.nil ?_
        refine X.then_ ?_
        refine wp_ret ?_
        refine X.blk_ret ?_
        refine X.then_ret ?_
        refine X.then_ret ?_
        refine X.blk_ret ?_
        refine X.then_ret ?_
        exact L.ret hf (run_results1 Tryd.results37 (ResIs.tmp hf rfl)) ⟨false, rfl, h, hs.nil⟩
      · replace h := h.2 hc
        refine wp_skip ?_
        refine X.blk ?_
        refine X.then_ ?_
        refine R.list ?_
        refine S.val hf hs (v := .int .i64 ((k1 + 1 : Nat) : Int)) rfl rfl rfl (V.incr rfl rfl rfl hltk1 hlenk1) (fun a hf => ?_)
        refine S.val hf hs (v := .int .i64 ((k1 + 1 : Nat) : Int)) rfl rfl rfl (V.pure rfl) (fun a hf => ?_)
        refine R.nil ?_
        refine X.then_ ?_
        exact ⟨xk1, llk1, rfl, k1 + 1, range_drop hlk1, range_len hkk1, (by rw [hnext1] at h; exact h), ((((hf.nil.cons (hf.get 12 _ rfl)).cons (hf.get 1 _ rfl)).cons (hf.get 0 _ rfl)).cons (hf.get 13 _ rfl)), hs⟩

set_option linter.unusedVariables false
def M_law_Checks (b : (List Body)) (l : (List Place)) (boards : Int) (Q : Bool → Prop) : Prop :=
  M_mount_Needed b l boards fun y1 y2 => M_ref10_Needed b l boards fun y3 y4 => M_mount_CheckBodies b fun y5 => M_ref10_CheckBodies b fun y6 => cnd (y5 == y6) (M_mount_CheckPlaces b l fun y7 => M_ref10_CheckPlaces b l fun y8 => cnd (y7 == y8) (cnd (y2 == y4) (M_equal_cnt y1 y3 fun y9 => cnd y9 (M_awake  fun y10 => Q y10) (Q false)) (Q false)) (Q false)) (Q false)
set_option maxHeartbeats 1000000 in
theorem R_law_Checks (b : (List Body)) (l : (List Place)) (boards : Int) (w0 : World) (bA : Option Addr) (bC : Nat) (hv_b : View w0 (old w0 none_) bA bC b) (lA : Option Addr) (lC : Nat) (hv_l : View w0 (old w0 none_) lA lC l) (Q : Bool → Prop) (h : M_law_Checks b l boards Q) :
    Ret Tryd.prog 8 #[.slice bA b.length bC, .slice lA l.length lC, .int .i64 boards] w0 fun v w' => ∃ (r0 : Bool), v = .bool r0 ∧ Q r0 ∧ Sat w0 none_ [] w' := by
  refine fn_enter Tryd.func8 rfl Tryd.ntmps8 rfl (fs := [(0, .slice bA b.length bC), (1, .slice lA l.length lC), (2, .int .i64 boards)]) rfl (fun a hf => ?_)
  have hs := Sat.start w0 none_
  unfold M_law_Checks at h
  refine wp_seq ?_
  refine R.list ?_
  refine S.val hf hs (v := .bool false) rfl rfl rfl (V.pure rfl) (fun a hf => ?_)
  refine R.nil ?_
  refine X.then_ ?_
  refine wp_seq ?_
  refine R.list ?_
  refine S.val hf hs (v := .slice bA b.length bC) rfl rfl rfl (V.pure rfl) (fun a hf => ?_)
  refine S.val hf hs (v := .slice lA l.length lC) rfl rfl rfl (V.pure rfl) (fun a hf => ?_)
  refine S.val hf hs (v := .int .i64 boards) rfl rfl rfl (V.pure rfl) (fun a hf => ?_)
  refine S.call hf rfl rfl rfl (call_fn (vs := [.slice bA b.length bC, .slice lA l.length lC, .int .i64 boards]) rfl rfl rfl Tryd.call31) (R_mount_Needed b l boards _ bA bC ((Ag.args _ _ _).view hv_b hs) lA lC ((Ag.args _ _ _).view hv_l hs) _ h) (fun v a w' hf hr => ?_)
  obtain ⟨y1, y1A, y1C, y2, rfl, h2, hs2⟩ := hr
  replace h := h2; replace hs := hs.call hs2; clear h2 hs2
  refine S.val hf hs (v := .tuple #[.slice y1A y1.length y1C, .int .i64 y2]) rfl rfl rfl (V.pure rfl) (fun a hf => ?_)
  refine S.val hf hs (v := .slice y1A y1.length y1C) rfl rfl rfl (V.pure rfl) (fun a hf => ?_)
  refine S.val hf hs (v := .int .i64 y2) rfl rfl rfl (V.pure rfl) (fun a hf => ?_)
  refine S.val hf hs (v := .slice y1A y1.length y1C) rfl rfl rfl (V.pure rfl) (fun a hf => ?_)
  refine S.val hf hs (v := .int .i64 y2) rfl rfl rfl (V.pure rfl) (fun a hf => ?_)
  refine R.nil ?_
  refine X.then_ ?_
  refine wp_seq ?_
  refine R.list ?_
  refine S.val hf hs (v := .slice bA b.length bC) rfl rfl rfl (V.pure rfl) (fun a hf => ?_)
  refine S.val hf hs (v := .slice lA l.length lC) rfl rfl rfl (V.pure rfl) (fun a hf => ?_)
  refine S.val hf hs (v := .int .i64 boards) rfl rfl rfl (V.pure rfl) (fun a hf => ?_)
  refine S.call hf rfl rfl rfl (call_fn (vs := [.slice bA b.length bC, .slice lA l.length lC, .int .i64 boards]) rfl rfl rfl Tryd.call32) (R_ref10_Needed b l boards _ bA bC ((Ag.args _ _ _).view hv_b hs) lA lC ((Ag.args _ _ _).view hv_l hs) _ h) (fun v a w' hf hr => ?_)
  obtain ⟨y3, y3A, y3C, y4, rfl, h2, hs2⟩ := hr
  replace h := h2; replace hs := hs.call hs2; clear h2 hs2
  refine S.val hf hs (v := .tuple #[.slice y3A y3.length y3C, .int .i64 y4]) rfl rfl rfl (V.pure rfl) (fun a hf => ?_)
  refine S.val hf hs (v := .slice y3A y3.length y3C) rfl rfl rfl (V.pure rfl) (fun a hf => ?_)
  refine S.val hf hs (v := .int .i64 y4) rfl rfl rfl (V.pure rfl) (fun a hf => ?_)
  refine S.val hf hs (v := .slice y3A y3.length y3C) rfl rfl rfl (V.pure rfl) (fun a hf => ?_)
  refine S.val hf hs (v := .int .i64 y4) rfl rfl rfl (V.pure rfl) (fun a hf => ?_)
  refine R.nil ?_
  refine X.then_ ?_
  refine wp_seq ?_
  refine R.list ?_
  refine S.val hf hs (v := .slice bA b.length bC) rfl rfl rfl (V.pure rfl) (fun a hf => ?_)
  refine S.call hf rfl rfl rfl (call_fn (vs := [.slice bA b.length bC]) rfl rfl rfl Tryd.call33) (R_mount_CheckBodies b _ bA bC ((Ag.args _ _ _).view hv_b hs) _ h) (fun v a w' hf hr => ?_)
  obtain ⟨y5, rfl, h2, hs2⟩ := hr
  replace h := h2; replace hs := hs.call hs2; clear h2 hs2
  refine S.val hf hs (v := .slice bA b.length bC) rfl rfl rfl (V.pure rfl) (fun a hf => ?_)
  refine S.call hf rfl rfl rfl (call_fn (vs := [.slice bA b.length bC]) rfl rfl rfl Tryd.call34) (R_ref10_CheckBodies b _ bA bC ((Ag.args _ _ _).view hv_b hs) _ h) (fun v a w' hf hr => ?_)
  obtain ⟨y6, rfl, h2, hs2⟩ := hr
  replace h := h2; replace hs := hs.call hs2; clear h2 hs2
  refine S.val hf hs (v := .bool (y5 == y6)) rfl rfl rfl (V.pure rfl) (fun a hf => ?_)
  refine S.split hf hs (b := y5 == y6) rfl rfl rfl (V.pure rfl) (fun hc a hf => ?_) (fun hc a hf => ?_)
  · replace h := h.1 hc
    refine S.val hf hs (v := .slice bA b.length bC) rfl rfl rfl (V.pure rfl) (fun a hf => ?_)
    refine S.val hf hs (v := .slice lA l.length lC) rfl rfl rfl (V.pure rfl) (fun a hf => ?_)
    refine S.call hf rfl rfl rfl (call_fn (vs := [.slice bA b.length bC, .slice lA l.length lC]) rfl rfl rfl Tryd.call35) (R_mount_CheckPlaces b l _ bA bC ((Ag.args _ _ _).view hv_b hs) lA lC ((Ag.args _ _ _).view hv_l hs) _ h) (fun v a w' hf hr => ?_)
    obtain ⟨y7, rfl, h2, hs2⟩ := hr
    replace h := h2; replace hs := hs.call hs2; clear h2 hs2
    refine S.val hf hs (v := .slice bA b.length bC) rfl rfl rfl (V.pure rfl) (fun a hf => ?_)
    refine S.val hf hs (v := .slice lA l.length lC) rfl rfl rfl (V.pure rfl) (fun a hf => ?_)
    refine S.call hf rfl rfl rfl (call_fn (vs := [.slice bA b.length bC, .slice lA l.length lC]) rfl rfl rfl Tryd.call36) (R_ref10_CheckPlaces b l _ bA bC ((Ag.args _ _ _).view hv_b hs) lA lC ((Ag.args _ _ _).view hv_l hs) _ h) (fun v a w' hf hr => ?_)
    obtain ⟨y8, rfl, h2, hs2⟩ := hr
    replace h := h2; replace hs := hs.call hs2; clear h2 hs2
    refine S.val hf hs (v := .bool (y7 == y8)) rfl rfl rfl (V.pure rfl) (fun a hf => ?_)
    refine S.val hf hs (v := .bool (y7 == y8)) rfl rfl rfl (V.pure rfl) (fun a hf => ?_)
    refine S.split hf hs (b := y7 == y8) rfl rfl rfl (V.pure rfl) (fun hc a hf => ?_) (fun hc a hf => ?_)
    · replace h := h.1 hc
      refine S.val hf hs (v := .int .i64 y2) rfl rfl rfl (V.pure rfl) (fun a hf => ?_)
      refine S.val hf hs (v := .int .i64 y4) rfl rfl rfl (V.pure rfl) (fun a hf => ?_)
      refine S.val hf hs (v := .bool (y2 == y4)) rfl rfl rfl (V.pure rfl) (fun a hf => ?_)
      refine S.val hf hs (v := .bool (y2 == y4)) rfl rfl rfl (V.pure rfl) (fun a hf => ?_)
      refine S.split hf hs (b := y2 == y4) rfl rfl rfl (V.pure rfl) (fun hc a hf => ?_) (fun hc a hf => ?_)
      · replace h := h.1 hc
        refine S.val hf hs (v := .slice y1A y1.length y1C) rfl rfl rfl (V.pure rfl) (fun a hf => ?_)
        refine S.val hf hs (v := .slice y3A y3.length y3C) rfl rfl rfl (V.pure rfl) (fun a hf => ?_)
        refine S.call hf rfl rfl rfl (call_fn (vs := [.slice y1A y1.length y1C, .slice y3A y3.length y3C]) rfl rfl rfl Tryd.call37) (R_equal_cnt y1 y3 _ y1A y1C (hs.ownView 1 rfl) y3A y3C (hs.ownView 0 rfl) _ h) (fun v a w' hf hr => ?_)
        obtain ⟨y9, rfl, h2, hs2⟩ := hr
        replace h := h2; replace hs := hs.call hs2; clear h2 hs2
        refine S.val hf hs (v := .bool y9) rfl rfl rfl (V.pure rfl) (fun a hf => ?_)
        refine S.split hf hs (b := y9) rfl rfl rfl (V.pure rfl) (fun hc a hf => ?_) (fun hc a hf => ?_)
        · replace h := h.1 hc
          refine S.call hf rfl rfl rfl (call_fn (vs := []) rfl rfl rfl Tryd.call13) (R_awake  _  _ h) (fun v a w' hf hr => ?_)
          obtain ⟨y10, rfl, h2, hs2⟩ := hr
          replace h := h2; replace hs := hs.call hs2; clear h2 hs2
          refine S.val hf hs (v := .bool y10) rfl rfl rfl (V.pure rfl) (fun a hf => ?_)
          refine S.val hf hs (v := .bool y10) rfl rfl rfl (V.pure rfl) (fun a hf => ?_)
          refine R.nil ?_
          refine X.then_ ?_
          refine wp_ret ?_
          exact L.ret hf (run_results1 Tryd.results8 (ResIs.tmp hf rfl)) ⟨y10, rfl, h, hs.nil⟩
        · replace h := h.2 hc
          refine S.skip hf rfl rfl rfl (fun a hf => ?_)
          refine S.val hf hs (v := .bool false) rfl rfl rfl (V.pure rfl) (fun a hf => ?_)
          refine S.val hf hs (v := .bool false) rfl rfl rfl (V.pure rfl) (fun a hf => ?_)
          refine R.nil ?_
          refine X.then_ ?_
          refine wp_ret ?_
          exact L.ret hf (run_results1 Tryd.results8 (ResIs.tmp hf rfl)) ⟨false, rfl, h, hs.nil⟩
      · replace h := h.2 hc
        refine S.skip hf rfl rfl rfl (fun a hf => ?_)
        refine S.skip hf rfl rfl rfl (fun a hf => ?_)
        refine S.skip hf rfl rfl rfl (fun a hf => ?_)
        refine S.val hf hs (v := .bool false) rfl rfl rfl (V.pure rfl) (fun a hf => ?_)
        refine S.val hf hs (v := .bool false) rfl rfl rfl (V.pure rfl) (fun a hf => ?_)
        refine S.skip hf rfl rfl rfl (fun a hf => ?_)
        refine S.val hf hs (v := .bool false) rfl rfl rfl (V.pure rfl) (fun a hf => ?_)
        refine S.val hf hs (v := .bool false) rfl rfl rfl (V.pure rfl) (fun a hf => ?_)
        refine R.nil ?_
        refine X.then_ ?_
        refine wp_ret ?_
        exact L.ret hf (run_results1 Tryd.results8 (ResIs.tmp hf rfl)) ⟨false, rfl, h, hs.nil⟩
    · replace h := h.2 hc
      refine S.skip hf rfl rfl rfl (fun a hf => ?_)
      refine S.skip hf rfl rfl rfl (fun a hf => ?_)
      refine S.skip hf rfl rfl rfl (fun a hf => ?_)
      refine S.val hf hs (v := .bool false) rfl rfl rfl (V.pure rfl) (fun a hf => ?_)
      refine S.val hf hs (v := .bool false) rfl rfl rfl (V.pure rfl) (fun a hf => ?_)
      refine S.skip hf rfl rfl rfl (fun a hf => ?_)
      refine S.skip hf rfl rfl rfl (fun a hf => ?_)
      refine S.skip hf rfl rfl rfl (fun a hf => ?_)
      refine S.val hf hs (v := .bool false) rfl rfl rfl (V.pure rfl) (fun a hf => ?_)
      refine S.val hf hs (v := .bool false) rfl rfl rfl (V.pure rfl) (fun a hf => ?_)
      refine S.skip hf rfl rfl rfl (fun a hf => ?_)
      refine S.val hf hs (v := .bool false) rfl rfl rfl (V.pure rfl) (fun a hf => ?_)
      refine S.val hf hs (v := .bool false) rfl rfl rfl (V.pure rfl) (fun a hf => ?_)
      refine R.nil ?_
      refine X.then_ ?_
      refine wp_ret ?_
      exact L.ret hf (run_results1 Tryd.results8 (ResIs.tmp hf rfl)) ⟨false, rfl, h, hs.nil⟩
  · replace h := h.2 hc
    refine S.skip hf rfl rfl rfl (fun a hf => ?_)
    refine S.skip hf rfl rfl rfl (fun a hf => ?_)
    refine S.skip hf rfl rfl rfl (fun a hf => ?_)
    refine S.skip hf rfl rfl rfl (fun a hf => ?_)
    refine S.skip hf rfl rfl rfl (fun a hf => ?_)
    refine S.skip hf rfl rfl rfl (fun a hf => ?_)
    refine S.skip hf rfl rfl rfl (fun a hf => ?_)
    refine S.val hf hs (v := .bool false) rfl rfl rfl (V.pure rfl) (fun a hf => ?_)
    refine S.val hf hs (v := .bool false) rfl rfl rfl (V.pure rfl) (fun a hf => ?_)
    refine S.skip hf rfl rfl rfl (fun a hf => ?_)
    refine S.skip hf rfl rfl rfl (fun a hf => ?_)
    refine S.skip hf rfl rfl rfl (fun a hf => ?_)
    refine S.val hf hs (v := .bool false) rfl rfl rfl (V.pure rfl) (fun a hf => ?_)
    refine S.val hf hs (v := .bool false) rfl rfl rfl (V.pure rfl) (fun a hf => ?_)
    refine S.skip hf rfl rfl rfl (fun a hf => ?_)
    refine S.skip hf rfl rfl rfl (fun a hf => ?_)
    refine S.skip hf rfl rfl rfl (fun a hf => ?_)
    refine S.val hf hs (v := .bool false) rfl rfl rfl (V.pure rfl) (fun a hf => ?_)
    refine S.val hf hs (v := .bool false) rfl rfl rfl (V.pure rfl) (fun a hf => ?_)
    refine S.skip hf rfl rfl rfl (fun a hf => ?_)
    refine S.val hf hs (v := .bool false) rfl rfl rfl (V.pure rfl) (fun a hf => ?_)
    refine S.val hf hs (v := .bool false) rfl rfl rfl (V.pure rfl) (fun a hf => ?_)
    refine R.nil ?_
    refine X.then_ ?_
    refine wp_ret ?_
    exact L.ret hf (run_results1 Tryd.results8 (ResIs.tmp hf rfl)) ⟨false, rfl, h, hs.nil⟩

end Go.Proofs.YtcmlcgjjkccaeaaDoor
