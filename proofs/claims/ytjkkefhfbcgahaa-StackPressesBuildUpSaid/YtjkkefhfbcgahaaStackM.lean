/- Chapter 4: the reference's spans: the walks. -/
import Derived.Test.YtjkkefhfbcgahaaStackJ
import Derived.Test.YtjkkefhfbcgahaaCut
namespace Go.Proofs.Ytjkkefhfbcgahaa
open Go Go.RowKit
set_option linter.unusedVariables false

/-- slices.Delete, at least one is deleted -/
def M_delete_thr (s_ : (List Through)) (i j : Int) (Q : (List Through) → Prop) : Prop :=
  must (0 ≤ i ∧ i < j ∧ j ≤ (s_.length : Int)) (Q (s_.take i.toNat ++ s_.drop j.toNat))
set_option maxHeartbeats 1000000 in
theorem R_delete_thr (s_ : (List Through)) (i j : Int) (w0 : World) (F0 : Nat → Prop) (s_A : Option Addr) (s_C : Nat) (hs0 : Sat w0 F0 [hown 59 s_A s_C s_] w0) (Q : (List Through) → Prop) (h : M_delete_thr s_ i j Q) :
    Ret Try.prog 91 #[.slice s_A s_.length s_C, .int .i64 i, .int .i64 j] w0 fun v w' => ∃ (r0 : (List Through)) (r0A : Option Addr) (r0C : Nat), v = .slice r0A r0.length r0C ∧ Q r0 ∧ Sat w0 F0 [hown 59 r0A r0C r0] w' := by
  obtain ⟨⟨h0, h1, h2⟩, hq⟩ := h
  obtain ⟨k, rfl⟩ : ∃ k : Nat, i = (k : Int) := ⟨i.toNat, by omega⟩
  obtain ⟨l, rfl⟩ : ∃ l : Nat, j = (l : Int) := ⟨j.toNat, by omega⟩
  rw [Int.toNat_natCast, Int.toNat_natCast] at hq
  have hkl : k < l := by omega
  have hln : l ≤ s_.length := by omega
  refine fn_enter Try.func91 rfl Try.ntmps91 rfl (fs := [(0, .slice s_A s_.length s_C), (1, .int .i64 (k : Int)), (2, .int .i64 (l : Int))]) rfl (fun a hf => ?_)
  have hs := hs0
  have hcap := (hs.ownView 0 rfl).cap
  refine wp_seq ?_
  refine R.list ?_
  refine S.val hf hs (v := .slice none 0 0) rfl rfl rfl (V.pure rfl) (fun a hf => ?_)
  refine R.nil ?_
  refine X.then_ ?_
  refine wp_seq ?_
  refine R.list ?_
  refine S.val hf hs (v := .slice s_A s_.length s_C) rfl rfl rfl (V.pure rfl) (fun a hf => ?_)
  refine S.val hf hs (v := .int .i64 (k : Int)) rfl rfl rfl (V.pure rfl) (fun a hf => ?_)
  refine S.val hf hs (v := .int .i64 (l : Int)) rfl rfl rfl (V.pure rfl) (fun a hf => ?_)
  refine S.val hf hs (v := .slice s_A s_.length s_C) rfl rfl rfl (V.pure rfl) (fun a hf => ?_)
  refine S.val hf hs (v := .int .i64 (s_.length : Int)) rfl rfl rfl (V.len rfl rfl Try.runUnderlying52) (fun a hf => ?_)
  refine S.val hf hs (v := .slice (if s_.length = k then s_A else s_A.map (·.add (k * 2))) (l - k) (s_.length - k)) rfl rfl rfl (V.slice3 rfl rfl rfl rfl rfl Try.runUnderlying52 Try.sizeOf59 (by omega) hln hcap) (fun a hf => ?_)
  refine R.nil ?_
  refine X.then_ ?_
  refine wp_seq ?_
  refine wp_seq ?_
  refine R.list ?_
  refine S.val hf hs (v := .int .i64 (k : Int)) rfl rfl rfl (V.pure rfl) (fun a hf => ?_)
  refine S.val hf hs (v := .int .i64 (l : Int)) rfl rfl rfl (V.pure rfl) (fun a hf => ?_)
  refine S.val hf hs (v := .bool ((k : Int) == (l : Int))) rfl rfl rfl (V.pure rfl) (fun a hf => ?_)
  refine R.nil ?_
  refine X.then_ ?_
  refine C.cond hf (b := ((k : Int) == (l : Int))) rfl (fun hc => ?_) (fun hc => ?_)
  · exfalso; simp at hc; omega
  refine wp_skip ?_
  refine X.then_ ?_
  refine wp_seq ?_
  refine R.list ?_
  refine S.val hf hs (v := .slice s_A s_.length s_C) rfl rfl rfl (V.pure rfl) (fun a hf => ?_)
  refine S.val hf hs (v := .int .i64 (s_.length : Int)) rfl rfl rfl (V.len rfl rfl Try.runUnderlying52) (fun a hf => ?_)
  refine S.val hf hs (v := .int .i64 (s_.length : Int)) rfl rfl rfl (V.pure rfl) (fun a hf => ?_)
  refine R.nil ?_
  refine X.then_ ?_
  refine wp_seq ?_
  refine H.start (S := Sat w0 F0 []) mo ?_
  replace hs := hs.drew
  have hv0 := (hs.ownView 0 rfl).sub (lo := (l : Int)) (hi := (s_.length : Int)) ⟨by omega, by omega, Int.le_refl _⟩
  have e9 : seg s_ (l : Int) (s_.length : Int) = s_.drop l := by unfold seg; simp
  rw [e9, Int.toNat_natCast] at hv0
  obtain ⟨g1, cs1, hsA, hCl, hCm, hcl, hct, hs⟩ := hs.toRaw 0 rfl (by omega)
  subst hsA
  refine H.val hf (hs.mask [false]) (v := .slice (some ⟨g1, 0, none⟩) s_.length s_C) (i := 0) rfl rfl rfl rfl (by kernel_rfl) (by kernel_rfl) (by kernel_rfl) (V.pure rfl) (fun a hf => ?_)
  refine H.val hf (hs.mask [false]) (v := .int .i64 (k : Int)) (i := 1) rfl rfl rfl rfl (by kernel_rfl) (by kernel_rfl) (by kernel_rfl) (V.pure rfl) (fun a hf => ?_)
  refine H.val hf (hs.mask [false]) (v := .slice (some ⟨g1, 0, none⟩) k s_C) (i := 2) rfl rfl rfl rfl (by kernel_rfl) (by kernel_rfl) (by kernel_rfl) (V.sliceCap rfl rfl rfl Try.runUnderlying52 Try.sizeOf59 (by omega)) (fun a hf => ?_)
  refine H.val hf (hs.mask [false]) (v := .slice (some ⟨g1, 0, none⟩) s_.length s_C) (i := 3) rfl rfl rfl rfl (by kernel_rfl) (by kernel_rfl) (by kernel_rfl) (V.pure rfl) (fun a hf => ?_)
  refine H.val hf (hs.mask [false]) (v := .int .i64 (l : Int)) (i := 4) rfl rfl rfl rfl (by kernel_rfl) (by kernel_rfl) (by kernel_rfl) (V.pure rfl) (fun a hf => ?_)
  have hp1 : 0 ≤ (l : Int) ∧ (l : Int) ≤ (s_.length : Int) ∧ (s_.length : Int) ≤ (s_.length : Int) := ⟨Int.natCast_nonneg _, by omega, Int.le_refl _⟩
  refine H.val hf (hs.mask [false]) (v := .slice (segA (some ⟨g1, 0, none⟩) s_C l 2) (s_.drop l).length (s_C - l)) (i := 5) rfl rfl rfl rfl (by kernel_rfl) (by kernel_rfl) (by kernel_rfl) (V.slice (L := (l : Int)) (H := (s_.length : Int)) rfl rfl rfl rfl Try.runUnderlying52 Try.sizeOf59 rfl rfl hp1 hCl (by rw [List.length_drop]; omega)) (fun a hf => ?_)
  refine H.one (i := 6) rfl (by kernel_rfl) ?_
  have hdl : (s_.drop l).length = s_.length - l := List.length_drop
  have hm1 : (k + (s_.drop l).length) * 2 ≤ s_C * 2 := Nat.mul_le_mul_right _ (by omega)
  have hfz : Flat.sz Through = 2 := rfl
  have hcl' : cs1.length = s_C * 2 := hcl
  refine S.appendRaw 0 hf hs rfl rfl rfl rfl rfl (s_.drop l) rfl rfl Try.underlying52 info59 (by unfold segA; split <;> rfl) hv0 (by omega) (by rw [hcl', hfz, ← Nat.add_mul]; exact hm1) (fun a w hf hs => ?_)
  refine R.nil ?_
  refine X.then_ ?_
  refine ⟨hs.mask [false], ?_⟩
  refine H.val hf (hs.mask [false]) (v := .slice (some ⟨g1, 0, none⟩) (k + (s_.drop l).length) s_C) (i := 7) rfl rfl rfl rfl (by kernel_rfl) (by kernel_rfl) (by kernel_rfl) (V.pure rfl) (fun a hf => ?_)
  refine H.done (by kernel_rfl) ?_
  refine X.then_ ?_
  generalize hD : (cs1.take (k * Flat.sz Through) ++ (s_.drop l).flatMap Flat.enc ++ cs1.drop (k * Flat.sz Through + (s_.drop l).length * Flat.sz Through)) = D at hs
  have hDl : D.length = s_C * 2 := by rw [← hD, ← hcl']; simp only [List.length_append, List.length_take, List.length_drop, length_flatMap_enc, hfz] at hm1 hcl' ⊢; omega
  refine wp_seq ?_
  refine R.list ?_
  refine S.val hf hs (v := .slice (some ⟨g1, 0, none⟩) (k + (s_.drop l).length) s_C) rfl rfl rfl (V.pure rfl) (fun a hf => ?_)
  refine S.val hf hs (v := .slice (some ⟨g1, 0, none⟩) (k + (s_.drop l).length) s_C) rfl rfl rfl (V.pure rfl) (fun a hf => ?_)
  refine S.val hf hs (v := .int .i64 ((k + (s_.drop l).length : Nat) : Int)) rfl rfl rfl (V.len rfl rfl Try.runUnderlying52) (fun a hf => ?_)
  refine S.val hf hs (v := .int .i64 (s_.length : Int)) rfl rfl rfl (V.pure rfl) (fun a hf => ?_)
  refine S.val hf hs (v := .slice (some ⟨g1, 0 + (k + (s_.drop l).length) * 2, none⟩) (s_.length - (k + (s_.drop l).length)) (s_C - (k + (s_.drop l).length))) rfl rfl rfl (V.sliceUpto rfl rfl rfl rfl Try.runUnderlying52 Try.sizeOf59 (by omega) hCl (by omega)) (fun a hf => ?_)
  have hfit : 0 + (k + (s_.drop l).length) * 2 + (s_.length - (k + (s_.drop l).length)) * 2 ≤ D.length := by rw [hDl, Nat.zero_add, ← Nat.add_mul]; exact Nat.mul_le_mul_right _ (by omega)
  refine S.clearRaw 0 hf hs rfl rfl rfl rfl rfl Try.underlying52 info59 rfl (by decide) (by decide) (by omega) hfit (fun a w zs hf hzl hs => ?_)
  refine R.nil ?_
  refine X.then_ ?_
  refine wp_seq ?_
  refine R.list ?_
  refine S.val hf hs (v := .slice (some ⟨g1, 0, none⟩) (k + (s_.drop l).length) s_C) rfl rfl rfl (V.pure rfl) (fun a hf => ?_)
  refine S.val hf hs (v := .slice (some ⟨g1, 0, none⟩) (k + (s_.drop l).length) s_C) rfl rfl rfl (V.pure rfl) (fun a hf => ?_)
  refine R.nil ?_
  refine X.then_ ?_
  refine wp_ret ?_
  have hcc := cut_cells (zs := zs) (o1 := 0 + (k + (s_.drop l).length) * 2) hkl hln (by rw [hcl]; exact Nat.mul_le_mul_right _ hCl) hct hD.symm (by rw [Nat.zero_add, hfz])
  rw [hzl] at hcc
  have hlen : (s_.take k ++ s_.drop l).length = k + (s_.drop l).length := by rw [List.length_append, List.length_take]; omega
  have hs2 := hs.ofRaw 0 rfl (C := s_C) (s_.take k ++ s_.drop l) (by rw [hfz, ← hDl]; simp only [List.length_append, List.length_take, List.length_drop, hzl] at hfit ⊢; omega) (by rw [hlen]; omega) hCm hcc
  exact L.ret hf (run_results1 Try.results91 (ResIs.tmp hf rfl)) ⟨s_.take k ++ s_.drop l, some ⟨g1, 0, none⟩, s_C, by rw [hlen], hq, hs2⟩

set_option linter.unusedVariables false
def M_Slim1 (n : Int) (Q : Bool → Prop) : Prop :=
  Q (!(within n 1 2000))
set_option maxHeartbeats 1000000 in
theorem R_Slim1 (n : Int) (w0 : World)  (Q : Bool → Prop) (h : M_Slim1 n Q) :
    Ret Try.prog 90 #[.int .i64 n] w0 fun v w' => ∃ (r0 : Bool), v = .bool r0 ∧ Q r0 ∧ Sat w0 none_ [] w' := by
  refine fn_enter Try.func90 rfl Try.ntmps90 rfl (fs := [(0, .int .i64 n)]) rfl (fun a hf => ?_)
  have hs := Sat.start w0 none_
  unfold M_Slim1 at h
  refine wp_seq ?_
  refine R.list ?_
  refine S.val hf hs (v := .bool false) rfl rfl rfl (V.pure rfl) (fun a hf => ?_)
  refine R.nil ?_
  refine X.then_ ?_
  refine wp_seq ?_
  refine R.list ?_
  refine S.val hf hs (v := .int .i64 n) rfl rfl rfl (V.pure rfl) (fun a hf => ?_)
  refine S.callv hf rfl rfl rfl (call_fn (vs := [.int .i64 n, .int .i64 1, .int .i64 2000]) rfl rfl rfl Try.call57) (C_stack_within n 1 2000 _ ) (fun a w hf hs' => ?_)
  replace hs := hs.call hs'; clear hs'
  refine S.val hf hs (v := .bool (!(within n 1 2000))) rfl rfl rfl (V.pure rfl) (fun a hf => ?_)
  refine S.val hf hs (v := .bool (!(within n 1 2000))) rfl rfl rfl (V.pure rfl) (fun a hf => ?_)
  refine R.nil ?_
  refine X.then_ ?_
  refine wp_ret ?_
  exact L.ret hf (run_results1 Try.results90 (ResIs.tmp hf rfl)) ⟨(!(within n 1 2000)), rfl, h, hs.nil⟩

set_option linter.unusedVariables false
def M_indexfunc_int_L1 (Q : Int → Prop) (k1 : Nat) (xk1 : Int)  (next1 : Prop) : Prop :=
  M_Slim1 xk1 fun y1 => cnd y1 (Q (k1 : Int)) (next1)
def M_indexfunc_int (s_ : (List Int)) (Q : Int → Prop) : Prop :=
  forIn' (fun k x (s : Unit) next => M_indexfunc_int_L1 Q k x (next ())) (fun (s : Unit) => Q (-1)) s_ 0 ()
set_option maxHeartbeats 1000000 in
theorem R_indexfunc_int (s_ : (List Int)) (w0 : World) (s_A : Option Addr) (s_C : Nat) (hv_s_ : View w0 (old w0 none_) s_A s_C s_) (Q : Int → Prop) (h : M_indexfunc_int s_ Q) :
    Ret Try.prog 108 #[.slice s_A s_.length s_C, .func (.func 90) #[] #[]] w0 fun v w' => ∃ (r0 : Int), v = .int .i64 r0 ∧ Q r0 ∧ Sat w0 none_ [] w' := by
  refine fn_enter Try.func108 rfl Try.ntmps108 rfl (fs := [(0, .slice s_A s_.length s_C), (1, .func (.func 90) #[] #[])]) rfl (fun a hf => ?_)
  have hs := Sat.start w0 none_
  unfold M_indexfunc_int at h
  refine wp_seq ?_
  refine R.list ?_
  refine S.val hf hs (v := .int .i64 0) rfl rfl rfl (V.pure rfl) (fun a hf => ?_)
  refine R.nil ?_
  refine X.then_ ?_
  refine wp_seq ?_
  refine wp_seq ?_
  refine R.list ?_
  refine S.val hf hs (v := .slice s_A s_.length s_C) rfl rfl rfl (V.pure rfl) (fun a hf => ?_)
  refine S.val hf hs (v := .int .i64 (s_.length : Int)) rfl rfl rfl (V.len rfl rfl Try.runUnderlying43) (fun a hf => ?_)
  refine S.val hf hs (v := .int .i64 0) rfl rfl rfl (V.pure rfl) (fun a hf => ?_)
  refine R.nil ?_
  refine X.then_ ?_
  refine wp_block ?_
  have hlenk1 := hv_s_.len64
  refine C.range (fun (ll : List Int) a w => ∃ (k1 : Nat) , s_.drop k1 = ll ∧ k1 + ll.length = s_.length ∧ forIn' (fun k x (s : Unit) next => M_indexfunc_int_L1 Q k x (next ())) (fun (s : Unit) => Q (-1)) ll k1 () ∧ FrOk 19 [(8, .int .i64 (k1 : Int)), (0, .slice s_A s_.length s_C), (1, .func (.func 90) #[] #[]), (7, .int .i64 (s_.length : Int))] a ∧ Sat w0 none_ [] w) s_ ⟨0, rfl, Nat.zero_add _, h, ((((hf.nil.cons (hf.get 7 _ rfl)).cons (hf.get 1 _ rfl)).cons (hf.get 0 _ rfl)).cons (hf.get 8 _ rfl)), hs⟩ ?_
  clear h hf hs
  rintro llk1 a w ⟨k1, hlk1, hkk1, h, hf, hs⟩
  cases llk1 with
  | nil =>
    have hc := range_done hkk1
    replace h : Q (-1) := h
    refine wp_seq ?_
    refine R.list ?_
    refine S.val hf hs (v := .bool false) rfl rfl rfl (V.cmp false rfl rfl rfl rfl hc) (fun a hf => ?_)
    refine R.nil ?_
    refine X.then_ ?_
    refine wp_seq ?_
    refine C.no hf rfl ?_
    refine wp_exit ?_
    refine X.then_exit ?_
    refine X.then_exit ?_
    refine X.blk_exit ?_
    refine X.then_ ?_
    refine wp_seq ?_
    refine R.list ?_
    refine S.val hf hs (v := .int .i64 (-1)) rfl rfl rfl (V.pure rfl) (fun a hf => ?_)
    refine R.nil ?_
    refine X.then_ ?_
    refine wp_ret ?_
    exact L.ret hf (run_results1 Try.results108 (ResIs.tmp hf rfl)) ⟨(-1), rfl, h, hs.nil⟩
  | cons xk1 llk1 =>
    have hltk1 := range_lt hkk1; have hc := range_go hkk1; have hxk1 := range_get hlk1
    obtain ⟨next1, hnext1⟩ : ∃ X : Prop, X = (forIn' (fun k x (s : Unit) next => M_indexfunc_int_L1 Q k x (next ())) (fun (s : Unit) => Q (-1)) llk1 (k1 + 1) ()) := ⟨_, rfl⟩
    replace h : M_indexfunc_int_L1 Q k1 xk1  next1 := by rw [hnext1]; exact h
    unfold M_indexfunc_int_L1 at h
    refine wp_seq ?_
    refine R.list ?_
    refine S.val hf hs (v := .bool true) rfl rfl rfl (V.cmp true rfl rfl rfl rfl hc) (fun a hf => ?_)
    refine R.nil ?_
    refine X.then_ ?_
    refine wp_seq ?_
    refine C.yes hf rfl ?_
    refine wp_skip ?_
    refine X.then_ ?_
    refine wp_seq ?_
    refine wp_block ?_
    refine wp_seq ?_
    refine R.list ?_
    refine S.val hf hs (v := .int .i64 (k1 : Int)) rfl rfl rfl (V.pure rfl) (fun a hf => ?_)
    refine S.val hf hs (v := .int .i64 (k1 : Int)) rfl rfl rfl (V.pure rfl) (fun a hf => ?_)
    refine R.nil ?_
    refine X.then_ ?_
    refine wp_seq ?_
    refine R.list ?_
    refine S.val hf hs (v := .func (.func 90) #[] #[]) rfl rfl rfl (V.pure rfl) (fun a hf => ?_)
    refine S.val hf hs (v := .slice s_A s_.length s_C) rfl rfl rfl (V.pure rfl) (fun a hf => ?_)
    refine S.val hf hs (v := .int .i64 (k1 : Int)) rfl rfl rfl (V.pure rfl) (fun a hf => ?_)
    refine S.val hf hs (v := elemPtr s_A (k1 * 1)) rfl rfl rfl (V.index rfl rfl rfl Try.runUnderlying43 Try.sizeOf3 (hv_s_.some_ (lt_of_get hxk1)) (Int.natCast_nonneg _) (lt_of_get hxk1) rfl) (fun a hf => ?_)
    refine S.val hf hs (v := .int .i64 xk1) rfl rfl rfl (V.loadEl (off := 0) (Ag.args _ _ _) (hv_s_.flat hxk1) rfl rfl rfl Try.isAgg3 Try.sizeOf3 rfl rfl) (fun a hf => ?_)
    refine S.call hf rfl rfl rfl (call_fn (vs := [.int .i64 xk1]) rfl rfl rfl Try.call90) (R_Slim1 xk1 _  _ h) (fun v a w' hf hr => ?_)
    obtain ⟨y1, rfl, h2, hs2⟩ := hr
    replace h := h2; replace hs := hs.call hs2; clear h2 hs2
    refine R.nil ?_
    refine X.then_ ?_
    refine C.cond hf (b := y1) rfl (fun hc => ?_) (fun hc => ?_)
    · replace h := h.1 hc
      refine wp_seq ?_
      refine R.list ?_
      refine S.val hf hs (v := .int .i64 (k1 : Int)) rfl rfl rfl (V.pure rfl) (fun a hf => ?_)
      refine S.val hf hs (v := .int .i64 (k1 : Int)) rfl rfl rfl (V.pure rfl) (fun a hf => ?_)
      refine R.nil ?_
      refine X.then_ ?_
      refine wp_ret ?_
      refine X.blk_ret ?_
      refine X.then_ret ?_
      refine X.then_ret ?_
      refine X.blk_ret ?_
      refine X.then_ret ?_
      exact L.ret hf (run_results1 Try.results108 (ResIs.tmp hf rfl)) ⟨(k1 : Int), rfl, h, hs.nil⟩
    · replace h := h.2 hc
      refine wp_skip ?_
      refine X.blk ?_
      refine X.then_ ?_
      refine R.list ?_
      refine S.val hf hs (v := .int .i64 ((k1 + 1 : Nat) : Int)) rfl rfl rfl (V.incr rfl rfl rfl hltk1 hlenk1) (fun a hf => ?_)
      refine S.val hf hs (v := .int .i64 ((k1 + 1 : Nat) : Int)) rfl rfl rfl (V.pure rfl) (fun a hf => ?_)
      refine R.nil ?_
      refine X.then_ ?_
      exact ⟨xk1, llk1, rfl, k1 + 1, range_drop hlk1, range_len hkk1, (by rw [hnext1] at h; exact h), ((((hf.nil.cons (hf.get 7 _ rfl)).cons (hf.get 1 _ rfl)).cons (hf.get 0 _ rfl)).cons (hf.get 8 _ rfl)), hs⟩

set_option linter.unusedVariables false
def M_containsfunc_int (s_ : (List Int)) (Q : Bool → Prop) : Prop :=
  M_indexfunc_int s_ fun y1 => Q (decide (y1 ≥ 0))
set_option maxHeartbeats 1000000 in
theorem R_containsfunc_int (s_ : (List Int)) (w0 : World) (s_A : Option Addr) (s_C : Nat) (hv_s_ : View w0 (old w0 none_) s_A s_C s_) (Q : Bool → Prop) (h : M_containsfunc_int s_ Q) :
    Ret Try.prog 89 #[.slice s_A s_.length s_C, .func (.func 90) #[] #[]] w0 fun v w' => ∃ (r0 : Bool), v = .bool r0 ∧ Q r0 ∧ Sat w0 none_ [] w' := by
  refine fn_enter Try.func89 rfl Try.ntmps89 rfl (fs := [(0, .slice s_A s_.length s_C), (1, .func (.func 90) #[] #[])]) rfl (fun a hf => ?_)
  have hs := Sat.start w0 none_
  unfold M_containsfunc_int at h
  refine wp_seq ?_
  refine R.list ?_
  refine S.val hf hs (v := .bool false) rfl rfl rfl (V.pure rfl) (fun a hf => ?_)
  refine R.nil ?_
  refine X.then_ ?_
  refine wp_seq ?_
  refine R.list ?_
  refine S.val hf hs (v := .slice s_A s_.length s_C) rfl rfl rfl (V.pure rfl) (fun a hf => ?_)
  refine S.val hf hs (v := .func (.func 90) #[] #[]) rfl rfl rfl (V.pure rfl) (fun a hf => ?_)
  refine S.call hf rfl rfl rfl (call_fn (vs := [.slice s_A s_.length s_C, .func (.func 90) #[] #[]]) rfl rfl rfl Try.call108) (R_indexfunc_int s_ _ s_A s_C ((Ag.args _ _ _).view hv_s_ hs) _ h) (fun v a w' hf hr => ?_)
  obtain ⟨y1, rfl, h2, hs2⟩ := hr
  replace h := h2; replace hs := hs.call hs2; clear h2 hs2
  refine S.val hf hs (v := .bool (decide (y1 ≥ 0))) rfl rfl rfl (V.pure rfl) (fun a hf => ?_)
  refine S.val hf hs (v := .bool (decide (y1 ≥ 0))) rfl rfl rfl (V.pure rfl) (fun a hf => ?_)
  refine R.nil ?_
  refine X.then_ ?_
  refine wp_ret ?_
  exact L.ret hf (run_results1 Try.results89 (ResIs.tmp hf rfl)) ⟨(decide (y1 ≥ 0)), rfl, h, hs.nil⟩

set_option linter.unusedVariables false
def M_stack_Slim_L1 (m : (List Material)) (s_ : (List Layer)) (sizes : (List Int)) (most : Int) (y2 : (List Int)) (k2 : Nat) (xk2 : Through) (l2 : List Int) (next1 : List Int → Prop) : Prop :=
  idx y2 (w64 (xk2.From - 1)) fun x1 => idx y2 (w64 (xk2.To - 1)) fun x2 => must (0 ≤ x1 ∧ x1 ≤ w64 (x2 + 1) ∧ w64 (x2 + 1) ≤ (s_.length : Int)) (M_stack_thick m (seg s_ x1 (w64 (x2 + 1))) fun y3 => idx sizes (k2 : Int) fun x3 => cnd (decide (w64 (10 * y3) > w64 (most * x3))) (must (room (l2 ++ [(k2 : Int)]).length 8) (next1 (l2 ++ [(k2 : Int)]))) (next1 l2))
def M_stack_Slim_k1 (m : (List Material)) (s_ : (List Layer)) (l : (List Through)) (sizes : (List Int)) (most : Int) (Q : (List Int) → Int → Prop) (c1 : Bool) : Prop :=
  cnd c1 (Q ([] : List Int) 1) (M_stack_coppers m s_ fun y2 => forIn' (fun k x (s : List Int) next => M_stack_Slim_L1 m s_ sizes most y2 k x s (fun l2 => next l2)) (fun (s : List Int) => (fun (l2 : List Int) => Q l2 0) s) l 0 ([] : List Int))
def M_stack_Slim (m : (List Material)) (s_ : (List Layer)) (l : (List Through)) (sizes : (List Int)) (most : Int) (Q : (List Int) → Int → Prop) : Prop :=
  M_stack_CheckSpans m s_ l fun y1 => cnd (y1 != 0) (Q ([] : List Int) y1) (cnd ((sizes.length : Int) != (l.length : Int)) (Q ([] : List Int) 3) (M_containsfunc_int sizes fun y4 => cnd y4 (M_stack_Slim_k1 m s_ l sizes most Q true) (M_stack_Slim_k1 m s_ l sizes most Q (!(within most 1 1000)))))
set_option maxHeartbeats 1000000 in
theorem R_stack_Slim (m : (List Material)) (s_ : (List Layer)) (l : (List Through)) (sizes : (List Int)) (most : Int) (w0 : World) (mA : Option Addr) (mC : Nat) (hv_m : View w0 (old w0 none_) mA mC m) (s_A : Option Addr) (s_C : Nat) (hv_s_ : View w0 (old w0 none_) s_A s_C s_) (lA : Option Addr) (lC : Nat) (hv_l : View w0 (old w0 none_) lA lC l) (sizesA : Option Addr) (sizesC : Nat) (hv_sizes : View w0 (old w0 none_) sizesA sizesC sizes) (Q : (List Int) → Int → Prop) (h : M_stack_Slim m s_ l sizes most Q) :
    Ret Try.prog 50 #[.slice mA m.length mC, .slice s_A s_.length s_C, .slice lA l.length lC, .slice sizesA sizes.length sizesC, .int .i64 most] w0 fun v w' => ∃ (r0 : (List Int)) (r0A : Option Addr) (r0C : Nat) (r1 : Int), v = .tuple #[.slice r0A r0.length r0C, .int .i64 r1] ∧ Q r0 r1 ∧ Sat w0 none_ [hown 3 r0A r0C r0] w' := by
  refine fn_enter Try.func50 rfl Try.ntmps50 rfl (fs := [(0, .slice mA m.length mC), (1, .slice s_A s_.length s_C), (2, .slice lA l.length lC), (3, .slice sizesA sizes.length sizesC), (4, .int .i64 most)]) rfl (fun a hf => ?_)
  have hs := Sat.start w0 none_
  unfold M_stack_Slim at h
  refine wp_seq ?_
  refine R.list ?_
  refine S.val hf hs (v := .slice none 0 0) rfl rfl rfl (V.pure rfl) (fun a hf => ?_)
  refine S.val hf hs (v := .int .i64 0) rfl rfl rfl (V.pure rfl) (fun a hf => ?_)
  refine R.nil ?_
  refine X.then_ ?_
  refine wp_seq ?_
  refine wp_seq ?_
  refine R.list ?_
  refine S.val hf hs (v := .slice mA m.length mC) rfl rfl rfl (V.pure rfl) (fun a hf => ?_)
  refine S.val hf hs (v := .slice s_A s_.length s_C) rfl rfl rfl (V.pure rfl) (fun a hf => ?_)
  refine S.val hf hs (v := .slice lA l.length lC) rfl rfl rfl (V.pure rfl) (fun a hf => ?_)
  refine S.call hf rfl rfl rfl (call_fn (vs := [.slice mA m.length mC, .slice s_A s_.length s_C, .slice lA l.length lC]) rfl rfl rfl Try.call44) (R_stack_CheckSpans m s_ l _ mA mC ((Ag.args _ _ _).view hv_m hs) s_A s_C ((Ag.args _ _ _).view hv_s_ hs) lA lC ((Ag.args _ _ _).view hv_l hs) _ h) (fun v a w' hf hr => ?_)
  obtain ⟨y1, rfl, h2, hs2⟩ := hr
  replace h := h2; replace hs := hs.call hs2; clear h2 hs2
  refine S.val hf hs (v := .int .i64 y1) rfl rfl rfl (V.pure rfl) (fun a hf => ?_)
  refine R.nil ?_
  refine X.then_ ?_
  refine wp_seq ?_
  refine R.list ?_
  refine S.val hf hs (v := .int .i64 y1) rfl rfl rfl (V.pure rfl) (fun a hf => ?_)
  refine S.val hf hs (v := .bool (y1 != 0)) rfl rfl rfl (V.pure rfl) (fun a hf => ?_)
  refine R.nil ?_
  refine X.then_ ?_
  refine C.cond hf (b := y1 != 0) rfl (fun hc => ?_) (fun hc => ?_)
  · replace h := h.1 hc
    refine wp_seq ?_
    refine R.list ?_
    refine S.val hf hs (v := .int .i64 y1) rfl rfl rfl (V.pure rfl) (fun a hf => ?_)
    refine S.val hf hs (v := .slice none 0 0) rfl rfl rfl (V.pure rfl) (fun a hf => ?_)
    refine S.val hf hs (v := .int .i64 y1) rfl rfl rfl (V.pure rfl) (fun a hf => ?_)
    refine R.nil ?_
    refine X.then_ ?_
    refine wp_ret ?_
    refine X.then_ret ?_
    replace hs := hs.nilOwn (α := Int) 3
    replace hs := hs.take 1
    exact L.ret hf (run_results2 Try.results50 (ResIs.tmp hf rfl) (ResIs.tmp hf rfl)) ⟨([] : List Int), none, 0, y1, rfl, h, hs⟩
  · replace h := h.2 hc
    refine wp_skip ?_
    refine X.then_ ?_
    refine wp_seq ?_
    refine wp_seq ?_
    refine R.list ?_
    refine S.val hf hs (v := .slice sizesA sizes.length sizesC) rfl rfl rfl (V.pure rfl) (fun a hf => ?_)
    refine S.val hf hs (v := .int .i64 (sizes.length : Int)) rfl rfl rfl (V.len rfl rfl Try.runUnderlying43) (fun a hf => ?_)
    refine S.val hf hs (v := .slice lA l.length lC) rfl rfl rfl (V.pure rfl) (fun a hf => ?_)
    refine S.val hf hs (v := .int .i64 (l.length : Int)) rfl rfl rfl (V.len rfl rfl Try.runUnderlying52) (fun a hf => ?_)
    refine S.val hf hs (v := .bool ((sizes.length : Int) != (l.length : Int))) rfl rfl rfl (V.pure rfl) (fun a hf => ?_)
    refine R.nil ?_
    refine X.then_ ?_
    refine C.cond hf (b := (sizes.length : Int) != (l.length : Int)) rfl (fun hc => ?_) (fun hc => ?_)
    · replace h := h.1 hc
      refine wp_seq ?_
      refine R.list ?_
      refine S.val hf hs (v := .slice none 0 0) rfl rfl rfl (V.pure rfl) (fun a hf => ?_)
      refine S.val hf hs (v := .int .i64 3) rfl rfl rfl (V.pure rfl) (fun a hf => ?_)
      refine R.nil ?_
      refine X.then_ ?_
      refine wp_ret ?_
      refine X.then_ret ?_
      replace hs := hs.nilOwn (α := Int) 3
      replace hs := hs.take 1
      exact L.ret hf (run_results2 Try.results50 (ResIs.tmp hf rfl) (ResIs.tmp hf rfl)) ⟨([] : List Int), none, 0, 3, rfl, h, hs⟩
    · replace h := h.2 hc
      refine wp_skip ?_
      refine X.then_ ?_
      refine wp_seq ?_
      refine wp_seq ?_
      refine C.cut (J := fun a w => ∃ (c1 : Bool), M_stack_Slim_k1 m s_ l sizes most Q c1 ∧ FrOk 79 [(0, .slice mA m.length mC), (1, .slice s_A s_.length s_C), (2, .slice lA l.length lC), (3, .slice sizesA sizes.length sizesC), (4, .int .i64 most), (36, .bool c1)] a ∧ Sat w0 none_ [] w) ?_ ?_
      · rintro a w ⟨c1, h, hf, hs⟩
        unfold M_stack_Slim_k1 at h
        refine C.cond hf (b := c1) rfl (fun hc => ?_) (fun hc => ?_)
        · replace h := h.1 hc
          refine wp_seq ?_
          refine R.list ?_
          refine S.val hf hs (v := .slice none 0 0) rfl rfl rfl (V.pure rfl) (fun a hf => ?_)
          refine S.val hf hs (v := .int .i64 1) rfl rfl rfl (V.pure rfl) (fun a hf => ?_)
          refine R.nil ?_
          refine X.then_ ?_
          refine wp_ret ?_
          refine X.then_ret ?_
          replace hs := hs.nilOwn (α := Int) 3
          replace hs := hs.take 1
          exact L.ret hf (run_results2 Try.results50 (ResIs.tmp hf rfl) (ResIs.tmp hf rfl)) ⟨([] : List Int), none, 0, 1, rfl, h, hs⟩
        · replace h := h.2 hc
          refine wp_skip ?_
          refine X.then_ ?_
          refine wp_seq ?_
          refine R.list ?_
          refine S.val hf hs (v := .slice mA m.length mC) rfl rfl rfl (V.pure rfl) (fun a hf => ?_)
          refine S.val hf hs (v := .slice s_A s_.length s_C) rfl rfl rfl (V.pure rfl) (fun a hf => ?_)
          refine S.call hf rfl rfl rfl (call_fn (vs := [.slice mA m.length mC, .slice s_A s_.length s_C]) rfl rfl rfl Try.call61) (R_stack_coppers m s_ _ mA mC ((Ag.args _ _ _).view hv_m hs) s_A s_C ((Ag.args _ _ _).view hv_s_ hs) _ h) (fun v a w' hf hr => ?_)
          obtain ⟨y2, y2A, y2C, rfl, h2, hs2⟩ := hr
          replace h := h2; replace hs := hs.call hs2; clear h2 hs2
          refine S.val hf hs (v := .slice y2A y2.length y2C) rfl rfl rfl (V.pure rfl) (fun a hf => ?_)
          refine R.nil ?_
          refine X.then_ ?_
          refine wp_seq ?_
          refine R.list ?_
          refine S.val hf hs (v := .slice none 0 0) rfl rfl rfl (V.pure rfl) (fun a hf => ?_)
          refine R.nil ?_
          refine X.then_ ?_
          refine wp_seq ?_
          refine wp_seq ?_
          refine R.list ?_
          refine S.val hf hs (v := .slice lA l.length lC) rfl rfl rfl (V.pure rfl) (fun a hf => ?_)
          refine S.val hf hs (v := .int .i64 (l.length : Int)) rfl rfl rfl (V.len rfl rfl Try.runUnderlying52) (fun a hf => ?_)
          refine S.val hf hs (v := .int .i64 0) rfl rfl rfl (V.pure rfl) (fun a hf => ?_)
          refine R.nil ?_
          refine X.then_ ?_
          refine wp_block ?_
          replace hs := hs.nilOwn (α := Int) 3
          have hlenk2 := hv_l.len64
          refine C.range (fun (ll : List Through) a w => ∃ (k2 : Nat) (l2 : List Int) (l2A : Option Addr) (l2C : Nat), l.drop k2 = ll ∧ k2 + ll.length = l.length ∧ forIn' (fun k x (s : List Int) next => M_stack_Slim_L1 m s_ sizes most y2 k x s (fun l2 => next l2)) (fun (s : List Int) => (fun (l2 : List Int) => Q l2 0) s) ll k2 l2 ∧ FrOk 79 [(42, .int .i64 (k2 : Int)), (0, .slice mA m.length mC), (1, .slice s_A s_.length s_C), (3, .slice sizesA sizes.length sizesC), (4, .int .i64 most), (13, .slice y2A y2.length y2C), (14, .slice l2A l2.length l2C), (40, .slice lA l.length lC), (41, .int .i64 (l.length : Int))] a ∧ Sat w0 none_ [hown 3 l2A l2C l2, hown 3 y2A y2C y2] w) l ⟨0, ([] : List Int), none, 0, rfl, Nat.zero_add _, h, (((((((((hf.nil.cons (hf.get 41 _ rfl)).cons (hf.get 40 _ rfl)).cons (hf.get 14 _ rfl)).cons (hf.get 13 _ rfl)).cons (hf.get 4 _ rfl)).cons (hf.get 3 _ rfl)).cons (hf.get 1 _ rfl)).cons (hf.get 0 _ rfl)).cons (hf.get 42 _ rfl)), hs⟩ ?_
          clear h hf hs
          rintro llk2 a w ⟨k2, l2, l2A, l2C, hlk2, hkk2, h, hf, hs⟩
          cases llk2 with
          | nil =>
            have hc := range_done hkk2
            replace h : (fun (l2 : List Int) => Q l2 0) l2 := h
            refine wp_seq ?_
            refine R.list ?_
            refine S.val hf hs (v := .bool false) rfl rfl rfl (V.cmp false rfl rfl rfl rfl hc) (fun a hf => ?_)
            refine R.nil ?_
            refine X.then_ ?_
            refine wp_seq ?_
            refine C.no hf rfl ?_
            refine wp_exit ?_
            refine X.then_exit ?_
            refine X.then_exit ?_
            refine X.blk_exit ?_
            refine X.then_ ?_
            refine wp_seq ?_
            refine R.list ?_
            refine S.val hf hs (v := .slice l2A l2.length l2C) rfl rfl rfl (V.pure rfl) (fun a hf => ?_)
            refine S.val hf hs (v := .slice l2A l2.length l2C) rfl rfl rfl (V.pure rfl) (fun a hf => ?_)
            refine S.val hf hs (v := .int .i64 0) rfl rfl rfl (V.pure rfl) (fun a hf => ?_)
            refine R.nil ?_
            refine X.then_ ?_
            refine wp_ret ?_
            replace hs := hs.take 1
            exact L.ret hf (run_results2 Try.results50 (ResIs.tmp hf rfl) (ResIs.tmp hf rfl)) ⟨l2, l2A, l2C, 0, rfl, h, hs⟩
          | cons xk2 llk2 =>
            have hltk2 := range_lt hkk2; have hc := range_go hkk2; have hxk2 := range_get hlk2
            obtain ⟨next1, hnext1⟩ : ∃ X : List Int → Prop, X = (fun l2 => forIn' (fun k x (s : List Int) next => M_stack_Slim_L1 m s_ sizes most y2 k x s (fun l2 => next l2)) (fun (s : List Int) => (fun (l2 : List Int) => Q l2 0) s) llk2 (k2 + 1) l2) := ⟨_, rfl⟩
            replace h : M_stack_Slim_L1 m s_ sizes most y2 k2 xk2 l2 next1 := by rw [hnext1]; exact h
            unfold M_stack_Slim_L1 at h
            refine wp_seq ?_
            refine R.list ?_
            refine S.val hf hs (v := .bool true) rfl rfl rfl (V.cmp true rfl rfl rfl rfl hc) (fun a hf => ?_)
            refine R.nil ?_
            refine X.then_ ?_
            refine wp_seq ?_
            refine C.yes hf rfl ?_
            refine wp_skip ?_
            refine X.then_ ?_
            refine wp_seq ?_
            refine wp_block ?_
            refine wp_seq ?_
            refine R.list ?_
            refine S.val hf hs (v := .int .i64 (k2 : Int)) rfl rfl rfl (V.pure rfl) (fun a hf => ?_)
            refine S.val hf hs (v := elemPtr lA (k2 * 2)) rfl rfl rfl (V.index rfl rfl rfl Try.runUnderlying52 Try.sizeOf59 (hv_l.some_ (lt_of_get hxk2)) (Int.natCast_nonneg _) (lt_of_get hxk2) rfl) (fun a hf => ?_)
            refine S.val hf hs (v := .agg #[.int .i64 xk2.From, .int .i64 xk2.To]) rfl rfl rfl (V.loadEl (off := 0) (Ag.args _ _ _) (hv_l.flat hxk2) rfl rfl rfl Try.isAgg59 Try.sizeOf59 rfl rfl) (fun a hf => ?_)
            refine S.alloc hf hs rfl rfl rfl [.int .i64 0, .int .i64 0] rfl Try.zeroValue59 rfl (fun g1 a w hf hs => ?_)
            refine S.val hf hs (v := .int .i64 (k2 : Int)) rfl rfl rfl (V.pure rfl) (fun a hf => ?_)
            refine S.storeBox 0 hf hs rfl rfl [.int .i64 xk2.From, .int .i64 xk2.To] [.int .i64 xk2.From, .int .i64 xk2.To] rfl rfl rfl rfl rfl Try.sizeOf59 rfl rfl rfl rfl (fun a w hf hs => ?_)
            refine R.nil ?_
            refine X.then_ ?_
            refine wp_seq ?_
            refine H.start (S := Sat w0 none_ [hbox g1 59 [.int .i64 xk2.From, .int .i64 xk2.To], hown 3 l2A l2C l2, hown 3 y2A y2C y2]) mo ?_
            replace hs := hs.drew
            refine H.val hf hs (v := .slice mA m.length mC) (i := 0) rfl rfl rfl rfl (by kernel_rfl) (by kernel_rfl) (by kernel_rfl) (V.pure rfl) (fun a hf => ?_)
            refine H.val hf hs (v := .slice s_A s_.length s_C) (i := 1) rfl rfl rfl rfl (by kernel_rfl) (by kernel_rfl) (by kernel_rfl) (V.pure rfl) (fun a hf => ?_)
            refine H.val hf hs (v := .slice y2A y2.length y2C) (i := 2) rfl rfl rfl rfl (by kernel_rfl) (by kernel_rfl) (by kernel_rfl) (V.pure rfl) (fun a hf => ?_)
            refine H.val hf hs (v := .pointer (some ⟨g1, 0, none⟩)) (i := 3) rfl rfl rfl rfl (by kernel_rfl) (by kernel_rfl) (by kernel_rfl) (V.fieldBox rfl rfl Try.runUnderlying59 rfl Try.sizeOf3 rfl rfl) (fun a hf => ?_)
            refine H.val hf hs (v := .int .i64 xk2.From) (i := 4) rfl rfl rfl rfl (by kernel_rfl) (by kernel_rfl) (by kernel_rfl) (V.loadBox 0 rfl rfl rfl Try.isAgg3 Try.sizeOf3 rfl rfl) (fun a hf => ?_)
            refine H.val hf hs (v := .int .i64 (w64 (xk2.From - 1))) (i := 5) rfl rfl rfl rfl (by kernel_rfl) (by kernel_rfl) (by kernel_rfl) (V.pure rfl) (fun a hf => ?_)
            obtain ⟨h0x1, x1, hx1, h⟩ := h
            refine H.val hf hs (v := elemPtr y2A ((w64 (xk2.From - 1)).toNat * 1)) (i := 6) rfl rfl rfl rfl (by kernel_rfl) (by kernel_rfl) (by kernel_rfl) (V.index rfl rfl rfl Try.runUnderlying43 Try.sizeOf3 (hs.ownSome 2 rfl (lt_of_get hx1)) h0x1 (lt_of_get hx1) rfl) (fun a hf => ?_)
            refine H.val hf hs (v := .int .i64 x1) (i := 7) rfl rfl rfl rfl (by kernel_rfl) (by kernel_rfl) (by kernel_rfl) (V.loadOwn (off := 0) 2 rfl hx1 rfl rfl rfl Try.isAgg3 Try.sizeOf3 rfl rfl) (fun a hf => ?_)
            refine H.val hf hs (v := .slice y2A y2.length y2C) (i := 8) rfl rfl rfl rfl (by kernel_rfl) (by kernel_rfl) (by kernel_rfl) (V.pure rfl) (fun a hf => ?_)
            refine H.val hf hs (v := .pointer (some ⟨g1, 1, none⟩)) (i := 9) rfl rfl rfl rfl (by kernel_rfl) (by kernel_rfl) (by kernel_rfl) (V.fieldBox rfl rfl Try.runUnderlying59 rfl Try.sizeOf3 rfl rfl) (fun a hf => ?_)
            refine H.val hf hs (v := .int .i64 xk2.To) (i := 10) rfl rfl rfl rfl (by kernel_rfl) (by kernel_rfl) (by kernel_rfl) (V.loadBox 0 rfl rfl rfl Try.isAgg3 Try.sizeOf3 rfl rfl) (fun a hf => ?_)
            refine H.val hf hs (v := .int .i64 (w64 (xk2.To - 1))) (i := 11) rfl rfl rfl rfl (by kernel_rfl) (by kernel_rfl) (by kernel_rfl) (V.pure rfl) (fun a hf => ?_)
            obtain ⟨h0x2, x2, hx2, h⟩ := h
            refine H.val hf hs (v := elemPtr y2A ((w64 (xk2.To - 1)).toNat * 1)) (i := 12) rfl rfl rfl rfl (by kernel_rfl) (by kernel_rfl) (by kernel_rfl) (V.index rfl rfl rfl Try.runUnderlying43 Try.sizeOf3 (hs.ownSome 2 rfl (lt_of_get hx2)) h0x2 (lt_of_get hx2) rfl) (fun a hf => ?_)
            refine H.val hf hs (v := .int .i64 x2) (i := 13) rfl rfl rfl rfl (by kernel_rfl) (by kernel_rfl) (by kernel_rfl) (V.loadOwn (off := 0) 2 rfl hx2 rfl rfl rfl Try.isAgg3 Try.sizeOf3 rfl rfl) (fun a hf => ?_)
            refine H.val hf hs (v := .int .i64 (w64 (x2 + 1))) (i := 14) rfl rfl rfl rfl (by kernel_rfl) (by kernel_rfl) (by kernel_rfl) (V.pure rfl) (fun a hf => ?_)
            obtain ⟨hp1, h⟩ := h
            refine H.val hf hs (v := .slice (segA s_A s_C (x1 : Int).toNat 2) (seg s_ x1 (w64 (x2 + 1))).length (s_C - (x1 : Int).toNat)) (i := 15) rfl rfl rfl rfl (by kernel_rfl) (by kernel_rfl) (by kernel_rfl) (V.slice rfl rfl rfl rfl Try.runUnderlying23 Try.sizeOf35 rfl rfl hp1 hv_s_.cap (seg_length (by have := hp1.2.2; omega))) (fun a hf => ?_)
            refine H.one (i := 16) rfl (by kernel_rfl) ?_
            refine S.call hf rfl rfl rfl (call_fn (vs := [.slice mA m.length mC, .slice (segA s_A s_C (x1 : Int).toNat 2) (seg s_ x1 (w64 (x2 + 1))).length (s_C - (x1 : Int).toNat)]) rfl rfl rfl Try.call54) (R_stack_thick m (seg s_ x1 (w64 (x2 + 1))) _ mA mC ((Ag.args _ _ _).view hv_m hs) (segA s_A s_C (x1 : Int).toNat 2) (s_C - (x1 : Int).toNat) ((Ag.args _ _ _).view (View.sub hv_s_ hp1) hs) _ h) (fun v a w' hf hr => ?_)
            obtain ⟨y3, rfl, h2, hs2⟩ := hr
            replace h := h2; replace hs := hs.call hs2; clear h2 hs2
            refine R.nil ?_
            refine X.then_ ?_
            refine ⟨hs, ?_⟩
            refine H.val hf hs (v := .int .i64 y3) (i := 17) rfl rfl rfl rfl (by kernel_rfl) (by kernel_rfl) (by kernel_rfl) (V.pure rfl) (fun a hf => ?_)
            refine H.done (by kernel_rfl) ?_
            refine X.then_ ?_
            refine wp_seq ?_
            refine R.list ?_
            refine S.val hf hs (v := .int .i64 y3) rfl rfl rfl (V.pure rfl) (fun a hf => ?_)
            refine S.val hf hs (v := .int .i64 (w64 (10 * y3))) rfl rfl rfl (V.pure rfl) (fun a hf => ?_)
            refine S.val hf hs (v := .int .i64 most) rfl rfl rfl (V.pure rfl) (fun a hf => ?_)
            refine S.val hf hs (v := .slice sizesA sizes.length sizesC) rfl rfl rfl (V.pure rfl) (fun a hf => ?_)
            refine S.val hf hs (v := .int .i64 (k2 : Int)) rfl rfl rfl (V.pure rfl) (fun a hf => ?_)
            obtain ⟨h0x3, x3, hx3, h⟩ := h
            refine S.val hf hs (v := elemPtr sizesA (k2 * 1)) rfl rfl rfl (V.index rfl rfl rfl Try.runUnderlying43 Try.sizeOf3 (hv_sizes.some_ (lt_of_get hx3)) (Int.natCast_nonneg _) (lt_of_get hx3) rfl) (fun a hf => ?_)
            refine S.val hf hs (v := .int .i64 x3) rfl rfl rfl (V.loadEl (off := 0) (Ag.args _ _ _) (hv_sizes.flat hx3) rfl rfl rfl Try.isAgg3 Try.sizeOf3 rfl rfl) (fun a hf => ?_)
            refine S.val hf hs (v := .int .i64 (w64 (most * x3))) rfl rfl rfl (V.pure rfl) (fun a hf => ?_)
            refine S.val hf hs (v := .bool (decide (w64 (10 * y3) > w64 (most * x3)))) rfl rfl rfl (V.pure rfl) (fun a hf => ?_)
            refine R.nil ?_
            refine X.then_ ?_
            refine C.cond hf (b := decide (w64 (10 * y3) > w64 (most * x3))) rfl (fun hc => ?_) (fun hc => ?_)
            · replace h := h.1 hc
              refine R.list ?_
              refine S.val hf hs (v := .slice l2A l2.length l2C) rfl rfl rfl (V.pure rfl) (fun a hf => ?_)
              refine S.val hf hs (v := .int .i64 (k2 : Int)) rfl rfl rfl (V.pure rfl) (fun a hf => ?_)
              refine S.build1 hf hs rfl rfl rfl (α := Int) (k2 : Int) rfl rfl rfl Try.runUnderlying43 Try.sizeOf3 Try.zeroValue3 rfl (by decide) (fun A1 a w hf hs => ?_)
              obtain ⟨hroom, h⟩ := h
              refine S.appendCells 2 hf hs rfl rfl rfl rfl rfl rfl rfl Try.underlying43 info3 rfl hroom ((hs.ownView 0 rfl).some_ (i := 0) (by simp)) (hs.ownView 0 rfl) (fun A2 C1 a w hf hs => ?_)
              replace hs := hs.drop
              refine S.val hf hs (v := .slice A2 (l2 ++ [(k2 : Int)]).length C1) rfl rfl rfl (V.pure rfl) (fun a hf => ?_)
              refine R.nil ?_
              refine X.blk ?_
              refine X.then_ ?_
              refine R.list ?_
              refine S.val hf hs (v := .int .i64 ((k2 + 1 : Nat) : Int)) rfl rfl rfl (V.incr rfl rfl rfl hltk2 hlenk2) (fun a hf => ?_)
              refine S.val hf hs (v := .int .i64 ((k2 + 1 : Nat) : Int)) rfl rfl rfl (V.pure rfl) (fun a hf => ?_)
              refine R.nil ?_
              refine X.then_ ?_
              exact ⟨xk2, llk2, rfl, k2 + 1, (l2 ++ [(k2 : Int)]), A2, C1, range_drop hlk2, range_len hkk2, (by rw [hnext1] at h; exact h), (((((((((hf.nil.cons (hf.get 41 _ rfl)).cons (hf.get 40 _ rfl)).cons (hf.get 14 _ rfl)).cons (hf.get 13 _ rfl)).cons (hf.get 4 _ rfl)).cons (hf.get 3 _ rfl)).cons (hf.get 1 _ rfl)).cons (hf.get 0 _ rfl)).cons (hf.get 42 _ rfl)), hs.drop⟩
            · replace h := h.2 hc
              refine wp_skip ?_
              refine X.blk ?_
              refine X.then_ ?_
              refine R.list ?_
              refine S.val hf hs (v := .int .i64 ((k2 + 1 : Nat) : Int)) rfl rfl rfl (V.incr rfl rfl rfl hltk2 hlenk2) (fun a hf => ?_)
              refine S.val hf hs (v := .int .i64 ((k2 + 1 : Nat) : Int)) rfl rfl rfl (V.pure rfl) (fun a hf => ?_)
              refine R.nil ?_
              refine X.then_ ?_
              exact ⟨xk2, llk2, rfl, k2 + 1, l2, l2A, l2C, range_drop hlk2, range_len hkk2, (by rw [hnext1] at h; exact h), (((((((((hf.nil.cons (hf.get 41 _ rfl)).cons (hf.get 40 _ rfl)).cons (hf.get 14 _ rfl)).cons (hf.get 13 _ rfl)).cons (hf.get 4 _ rfl)).cons (hf.get 3 _ rfl)).cons (hf.get 1 _ rfl)).cons (hf.get 0 _ rfl)).cons (hf.get 42 _ rfl)), hs.drop⟩
      · skip
        refine R.list ?_
        refine S.val hf hs (v := .slice sizesA sizes.length sizesC) rfl rfl rfl (V.pure rfl) (fun a hf => ?_)
        refine S.call hf rfl rfl rfl (call_fn (vs := [.slice sizesA sizes.length sizesC, .func (.func 90) #[] #[]]) rfl rfl rfl Try.call89) (R_containsfunc_int sizes _ sizesA sizesC ((Ag.args _ _ _).view hv_sizes hs) _ h) (fun v a w' hf hr => ?_)
        obtain ⟨y4, rfl, h2, hs2⟩ := hr
        replace h := h2; replace hs := hs.call hs2; clear h2 hs2
        refine S.split hf hs (b := y4) rfl rfl rfl (V.pure rfl) (fun hc a hf => ?_) (fun hc a hf => ?_)
        · replace h := h.1 hc
          refine S.skip hf rfl rfl rfl (fun a hf => ?_)
          refine S.skip hf rfl rfl rfl (fun a hf => ?_)
          refine S.skip hf rfl rfl rfl (fun a hf => ?_)
          refine S.val hf hs (v := .bool true) rfl rfl rfl (V.pure rfl) (fun a hf => ?_)
          refine R.nil ?_
          refine X.then_ ?_
          exact ⟨true, h, ((((((hf.nil.cons (hf.get 36 _ rfl)).cons (hf.get 4 _ rfl)).cons (hf.get 3 _ rfl)).cons (hf.get 2 _ rfl)).cons (hf.get 1 _ rfl)).cons (hf.get 0 _ rfl)), hs⟩
        · replace h := h.2 hc
          refine S.val hf hs (v := .int .i64 most) rfl rfl rfl (V.pure rfl) (fun a hf => ?_)
          refine S.callv hf rfl rfl rfl (call_fn (vs := [.int .i64 most, .int .i64 1, .int .i64 1000]) rfl rfl rfl Try.call57) (C_stack_within most 1 1000 _ ) (fun a w hf hs' => ?_)
          replace hs := hs.call hs'; clear hs'
          refine S.val hf hs (v := .bool (!(within most 1 1000))) rfl rfl rfl (V.pure rfl) (fun a hf => ?_)
          refine S.val hf hs (v := .bool (!(within most 1 1000))) rfl rfl rfl (V.pure rfl) (fun a hf => ?_)
          refine R.nil ?_
          refine X.then_ ?_
          exact ⟨(!(within most 1 1000)), h, ((((((hf.nil.cons (hf.get 36 _ rfl)).cons (hf.get 4 _ rfl)).cons (hf.get 3 _ rfl)).cons (hf.get 2 _ rfl)).cons (hf.get 1 _ rfl)).cons (hf.get 0 _ rfl)), hs⟩

set_option linter.unusedVariables false
def M_ref4_inside (a_ : Through) (b : Through) (Q : Bool → Prop) : Prop :=
  cnd (decide (b.From ≤ a_.From)) (Q (decide (a_.To ≤ b.To))) (Q false)
set_option maxHeartbeats 1000000 in
theorem R_ref4_inside (a_ : Through) (b : Through) (w0 : World)  (Q : Bool → Prop) (h : M_ref4_inside a_ b Q) :
    Ret Try.prog 86 #[.agg #[.int .i64 a_.From, .int .i64 a_.To], .agg #[.int .i64 b.From, .int .i64 b.To]] w0 fun v w' => ∃ (r0 : Bool), v = .bool r0 ∧ Q r0 ∧ Sat w0 none_ [] w' := by
  refine fn_enter Try.func86 rfl Try.ntmps86 rfl (fs := [(0, .agg #[.int .i64 a_.From, .int .i64 a_.To]), (1, .agg #[.int .i64 b.From, .int .i64 b.To])]) rfl (fun a hf => ?_)
  have hs := Sat.start w0 none_
  unfold M_ref4_inside at h
  refine wp_seq ?_
  refine R.list ?_
  refine S.box hf hs rfl rfl rfl [.int .i64 a_.From, .int .i64 a_.To] rfl rfl rfl (fun g1 a w hf hs => ?_)
  refine S.box hf hs rfl rfl rfl [.int .i64 b.From, .int .i64 b.To] rfl rfl rfl (fun g2 a w hf hs => ?_)
  refine S.val hf hs (v := .bool false) rfl rfl rfl (V.pure rfl) (fun a hf => ?_)
  refine R.nil ?_
  refine X.then_ ?_
  refine wp_seq ?_
  refine R.list ?_
  refine S.val hf hs (v := .pointer (some ⟨g2, 0, none⟩)) rfl rfl rfl (V.fieldBox rfl rfl Try.runUnderlying59 rfl Try.sizeOf3 rfl rfl) (fun a hf => ?_)
  refine S.val hf hs (v := .int .i64 b.From) rfl rfl rfl (V.loadBox 0 rfl rfl rfl Try.isAgg3 Try.sizeOf3 rfl rfl) (fun a hf => ?_)
  refine S.val hf hs (v := .pointer (some ⟨g1, 0, none⟩)) rfl rfl rfl (V.fieldBox rfl rfl Try.runUnderlying59 rfl Try.sizeOf3 rfl rfl) (fun a hf => ?_)
  refine S.val hf hs (v := .int .i64 a_.From) rfl rfl rfl (V.loadBox 1 rfl rfl rfl Try.isAgg3 Try.sizeOf3 rfl rfl) (fun a hf => ?_)
  refine S.val hf hs (v := .bool (decide (b.From ≤ a_.From))) rfl rfl rfl (V.pure rfl) (fun a hf => ?_)
  refine S.split hf hs (b := decide (b.From ≤ a_.From)) rfl rfl rfl (V.pure rfl) (fun hc a hf => ?_) (fun hc a hf => ?_)
  · replace h := h.1 hc
    refine S.val hf hs (v := .pointer (some ⟨g1, 1, none⟩)) rfl rfl rfl (V.fieldBox rfl rfl Try.runUnderlying59 rfl Try.sizeOf3 rfl rfl) (fun a hf => ?_)
    refine S.val hf hs (v := .int .i64 a_.To) rfl rfl rfl (V.loadBox 1 rfl rfl rfl Try.isAgg3 Try.sizeOf3 rfl rfl) (fun a hf => ?_)
    refine S.val hf hs (v := .pointer (some ⟨g2, 1, none⟩)) rfl rfl rfl (V.fieldBox rfl rfl Try.runUnderlying59 rfl Try.sizeOf3 rfl rfl) (fun a hf => ?_)
    refine S.val hf hs (v := .int .i64 b.To) rfl rfl rfl (V.loadBox 0 rfl rfl rfl Try.isAgg3 Try.sizeOf3 rfl rfl) (fun a hf => ?_)
    refine S.val hf hs (v := .bool (decide (a_.To ≤ b.To))) rfl rfl rfl (V.pure rfl) (fun a hf => ?_)
    refine S.val hf hs (v := .bool (decide (a_.To ≤ b.To))) rfl rfl rfl (V.pure rfl) (fun a hf => ?_)
    refine S.val hf hs (v := .bool (decide (a_.To ≤ b.To))) rfl rfl rfl (V.pure rfl) (fun a hf => ?_)
    refine R.nil ?_
    refine X.then_ ?_
    refine wp_ret ?_
    exact L.ret hf (run_results1 Try.results86 (ResIs.tmp hf rfl)) ⟨(decide (a_.To ≤ b.To)), rfl, h, hs.nil⟩
  · replace h := h.2 hc
    refine S.skip hf rfl rfl rfl (fun a hf => ?_)
    refine S.skip hf rfl rfl rfl (fun a hf => ?_)
    refine S.skip hf rfl rfl rfl (fun a hf => ?_)
    refine S.skip hf rfl rfl rfl (fun a hf => ?_)
    refine S.skip hf rfl rfl rfl (fun a hf => ?_)
    refine S.val hf hs (v := .bool false) rfl rfl rfl (V.pure rfl) (fun a hf => ?_)
    refine S.val hf hs (v := .bool false) rfl rfl rfl (V.pure rfl) (fun a hf => ?_)
    refine R.nil ?_
    refine X.then_ ?_
    refine wp_ret ?_
    exact L.ret hf (run_results1 Try.results86 (ResIs.tmp hf rfl)) ⟨false, rfl, h, hs.nil⟩

set_option linter.unusedVariables false
def M_ref4_earlier (a_ : Through) (b : Through) (Q : Bool → Prop) : Prop :=
  cnd ((w64 (a_.To - a_.From)) != (w64 (b.To - b.From))) (Q (decide (w64 (a_.To - a_.From) < w64 (b.To - b.From)))) (Q (decide (a_.From < b.From)))
set_option maxHeartbeats 1000000 in
theorem R_ref4_earlier (a_ : Through) (b : Through) (w0 : World)  (Q : Bool → Prop) (h : M_ref4_earlier a_ b Q) :
    Ret Try.prog 106 #[.agg #[.int .i64 a_.From, .int .i64 a_.To], .agg #[.int .i64 b.From, .int .i64 b.To]] w0 fun v w' => ∃ (r0 : Bool), v = .bool r0 ∧ Q r0 ∧ Sat w0 none_ [] w' := by
  refine fn_enter Try.func106 rfl Try.ntmps106 rfl (fs := [(0, .agg #[.int .i64 a_.From, .int .i64 a_.To]), (1, .agg #[.int .i64 b.From, .int .i64 b.To])]) rfl (fun a hf => ?_)
  have hs := Sat.start w0 none_
  unfold M_ref4_earlier at h
  refine wp_seq ?_
  refine R.list ?_
  refine S.box hf hs rfl rfl rfl [.int .i64 a_.From, .int .i64 a_.To] rfl rfl rfl (fun g1 a w hf hs => ?_)
  refine S.box hf hs rfl rfl rfl [.int .i64 b.From, .int .i64 b.To] rfl rfl rfl (fun g2 a w hf hs => ?_)
  refine S.val hf hs (v := .bool false) rfl rfl rfl (V.pure rfl) (fun a hf => ?_)
  refine R.nil ?_
  refine X.then_ ?_
  refine wp_seq ?_
  refine wp_seq ?_
  refine R.list ?_
  refine S.val hf hs (v := .pointer (some ⟨g1, 1, none⟩)) rfl rfl rfl (V.fieldBox rfl rfl Try.runUnderlying59 rfl Try.sizeOf3 rfl rfl) (fun a hf => ?_)
  refine S.val hf hs (v := .int .i64 a_.To) rfl rfl rfl (V.loadBox 1 rfl rfl rfl Try.isAgg3 Try.sizeOf3 rfl rfl) (fun a hf => ?_)
  refine S.val hf hs (v := .pointer (some ⟨g1, 0, none⟩)) rfl rfl rfl (V.fieldBox rfl rfl Try.runUnderlying59 rfl Try.sizeOf3 rfl rfl) (fun a hf => ?_)
  refine S.val hf hs (v := .int .i64 a_.From) rfl rfl rfl (V.loadBox 1 rfl rfl rfl Try.isAgg3 Try.sizeOf3 rfl rfl) (fun a hf => ?_)
  refine S.val hf hs (v := .int .i64 (w64 (a_.To - a_.From))) rfl rfl rfl (V.pure rfl) (fun a hf => ?_)
  refine S.val hf hs (v := .pointer (some ⟨g2, 1, none⟩)) rfl rfl rfl (V.fieldBox rfl rfl Try.runUnderlying59 rfl Try.sizeOf3 rfl rfl) (fun a hf => ?_)
  refine S.val hf hs (v := .int .i64 b.To) rfl rfl rfl (V.loadBox 0 rfl rfl rfl Try.isAgg3 Try.sizeOf3 rfl rfl) (fun a hf => ?_)
  refine S.val hf hs (v := .pointer (some ⟨g2, 0, none⟩)) rfl rfl rfl (V.fieldBox rfl rfl Try.runUnderlying59 rfl Try.sizeOf3 rfl rfl) (fun a hf => ?_)
  refine S.val hf hs (v := .int .i64 b.From) rfl rfl rfl (V.loadBox 0 rfl rfl rfl Try.isAgg3 Try.sizeOf3 rfl rfl) (fun a hf => ?_)
  refine S.val hf hs (v := .int .i64 (w64 (b.To - b.From))) rfl rfl rfl (V.pure rfl) (fun a hf => ?_)
  refine S.val hf hs (v := .bool ((w64 (a_.To - a_.From)) != (w64 (b.To - b.From)))) rfl rfl rfl (V.pure rfl) (fun a hf => ?_)
  refine R.nil ?_
  refine X.then_ ?_
  refine C.cond hf (b := (w64 (a_.To - a_.From)) != (w64 (b.To - b.From))) rfl (fun hc => ?_) (fun hc => ?_)
  · replace h := h.1 hc
    refine wp_seq ?_
    refine R.list ?_
    refine S.val hf hs (v := .pointer (some ⟨g1, 1, none⟩)) rfl rfl rfl (V.fieldBox rfl rfl Try.runUnderlying59 rfl Try.sizeOf3 rfl rfl) (fun a hf => ?_)
    refine S.val hf hs (v := .int .i64 a_.To) rfl rfl rfl (V.loadBox 1 rfl rfl rfl Try.isAgg3 Try.sizeOf3 rfl rfl) (fun a hf => ?_)
    refine S.val hf hs (v := .pointer (some ⟨g1, 0, none⟩)) rfl rfl rfl (V.fieldBox rfl rfl Try.runUnderlying59 rfl Try.sizeOf3 rfl rfl) (fun a hf => ?_)
    refine S.val hf hs (v := .int .i64 a_.From) rfl rfl rfl (V.loadBox 1 rfl rfl rfl Try.isAgg3 Try.sizeOf3 rfl rfl) (fun a hf => ?_)
    refine S.val hf hs (v := .int .i64 (w64 (a_.To - a_.From))) rfl rfl rfl (V.pure rfl) (fun a hf => ?_)
    refine S.val hf hs (v := .pointer (some ⟨g2, 1, none⟩)) rfl rfl rfl (V.fieldBox rfl rfl Try.runUnderlying59 rfl Try.sizeOf3 rfl rfl) (fun a hf => ?_)
    refine S.val hf hs (v := .int .i64 b.To) rfl rfl rfl (V.loadBox 0 rfl rfl rfl Try.isAgg3 Try.sizeOf3 rfl rfl) (fun a hf => ?_)
    refine S.val hf hs (v := .pointer (some ⟨g2, 0, none⟩)) rfl rfl rfl (V.fieldBox rfl rfl Try.runUnderlying59 rfl Try.sizeOf3 rfl rfl) (fun a hf => ?_)
    refine S.val hf hs (v := .int .i64 b.From) rfl rfl rfl (V.loadBox 0 rfl rfl rfl Try.isAgg3 Try.sizeOf3 rfl rfl) (fun a hf => ?_)
    refine S.val hf hs (v := .int .i64 (w64 (b.To - b.From))) rfl rfl rfl (V.pure rfl) (fun a hf => ?_)
    refine S.val hf hs (v := .bool (decide (w64 (a_.To - a_.From) < w64 (b.To - b.From)))) rfl rfl rfl (V.pure rfl) (fun a hf => ?_)
    refine S.val hf hs (v := .bool (decide (w64 (a_.To - a_.From) < w64 (b.To - b.From)))) rfl rfl rfl (V.pure rfl) (fun a hf => ?_)
    refine R.nil ?_
    refine X.then_ ?_
    refine wp_ret ?_
    refine X.then_ret ?_
    exact L.ret hf (run_results1 Try.results106 (ResIs.tmp hf rfl)) ⟨(decide (w64 (a_.To - a_.From) < w64 (b.To - b.From))), rfl, h, hs.nil⟩
  · replace h := h.2 hc
    refine wp_skip ?_
    refine X.then_ ?_
    refine wp_seq ?_
    refine R.list ?_
    refine S.val hf hs (v := .pointer (some ⟨g1, 0, none⟩)) rfl rfl rfl (V.fieldBox rfl rfl Try.runUnderlying59 rfl Try.sizeOf3 rfl rfl) (fun a hf => ?_)
    refine S.val hf hs (v := .int .i64 a_.From) rfl rfl rfl (V.loadBox 1 rfl rfl rfl Try.isAgg3 Try.sizeOf3 rfl rfl) (fun a hf => ?_)
    refine S.val hf hs (v := .pointer (some ⟨g2, 0, none⟩)) rfl rfl rfl (V.fieldBox rfl rfl Try.runUnderlying59 rfl Try.sizeOf3 rfl rfl) (fun a hf => ?_)
    refine S.val hf hs (v := .int .i64 b.From) rfl rfl rfl (V.loadBox 0 rfl rfl rfl Try.isAgg3 Try.sizeOf3 rfl rfl) (fun a hf => ?_)
    refine S.val hf hs (v := .bool (decide (a_.From < b.From))) rfl rfl rfl (V.pure rfl) (fun a hf => ?_)
    refine S.val hf hs (v := .bool (decide (a_.From < b.From))) rfl rfl rfl (V.pure rfl) (fun a hf => ?_)
    refine R.nil ?_
    refine X.then_ ?_
    refine wp_ret ?_
    exact L.ret hf (run_results1 Try.results106 (ResIs.tmp hf rfl)) ⟨(decide (a_.From < b.From)), rfl, h, hs.nil⟩

/-- slices.Insert, at least one is put in -/
def M_insert_sub (s_ : (List R4Sub)) (i : Int) (v_ : (List R4Sub)) (Q : (List R4Sub) → (List R4Sub) → Prop) : Prop :=
  must (0 ≤ i ∧ i ≤ (s_.length : Int) ∧ v_ ≠ [] ∧ room (s_.length + v_.length) 24) (Q (s_.take i.toNat ++ v_ ++ s_.drop i.toNat) v_)
set_option maxHeartbeats 1000000 in
theorem R_insert_sub (s_ : (List R4Sub)) (i : Int) (v_ : (List R4Sub)) (w0 : World) (F0 : Nat → Prop) (s_A : Option Addr) (s_C : Nat) (v_A : Option Addr) (v_C : Nat) (hs0 : Sat w0 F0 [hown 113 s_A s_C s_, hown 113 v_A v_C v_] w0) (Q : (List R4Sub) → (List R4Sub) → Prop) (h : M_insert_sub s_ i v_ Q) :
    Ret Try.prog 107 #[.slice s_A s_.length s_C, .int .i64 i, .slice v_A v_.length v_C] w0 fun v w' => ∃ (r0 : (List R4Sub)) (r0A : Option Addr) (r0C : Nat) (v_1 : (List R4Sub)) (hl_v_1 : v_1.length = v_.length), v = .slice r0A r0.length r0C ∧ Q r0 v_1 ∧ Sat w0 F0 [hown 113 r0A r0C r0, hown 113 v_A v_C v_1] w' := by
  obtain ⟨⟨h0, h1, hvne, hroom⟩, hq⟩ := h
  obtain ⟨k, rfl⟩ : ∃ k : Nat, i = (k : Int) := ⟨i.toNat, by omega⟩
  have hkn : k ≤ s_.length := by omega
  rw [Int.toNat_natCast] at hq
  have hm0 : 0 < v_.length := List.length_pos_iff.2 hvne
  have hszE : ∀ w, (Go.sizeOf 113).run Try.prog w = .ok (Flat.sz R4Sub) w := Try.sizeOf113
  have hbig : s_.length + v_.length ≤ 9223372036854775807 := hroom.1
  refine fn_enter Try.func107 rfl Try.ntmps107 rfl (fs := [(0, .slice s_A s_.length s_C), (1, .int .i64 (k : Int)), (2, .slice v_A v_.length v_C)]) rfl (fun a hf => ?_)
  have hs := hs0
  refine wp_seq ?_
  refine R.list ?_
  refine S.val hf hs (v := .slice none 0 0) rfl rfl rfl (V.pure rfl) (fun a hf => ?_)
  refine R.nil ?_
  refine X.then_ ?_
  refine wp_seq ?_
  refine R.list ?_
  refine S.val hf hs (v := .slice s_A s_.length s_C) rfl rfl rfl (V.pure rfl) (fun a hf => ?_)
  refine S.val hf hs (v := .int .i64 (k : Int)) rfl rfl rfl (V.pure rfl) (fun a hf => ?_)
  have hp1 : 0 ≤ (k : Int) ∧ (k : Int) ≤ (s_.length : Int) ∧ (s_.length : Int) ≤ (s_.length : Int) := ⟨Int.natCast_nonneg _, by omega, Int.le_refl _⟩
  refine S.val hf hs (v := .slice (segA s_A s_C (k : Int).toNat 3) (s_.length - k) (s_C - (k : Int).toNat)) rfl rfl rfl (V.slice (L := (k : Int)) (H := (s_.length : Int)) rfl rfl rfl rfl Try.runUnderlying110 Try.sizeOf113 rfl rfl hp1 (hs.ownView 0 rfl).cap (by simp)) (fun a hf => ?_)
  refine R.nil ?_
  refine X.then_ ?_
  refine wp_seq ?_
  refine R.list ?_
  refine S.val hf hs (v := .slice v_A v_.length v_C) rfl rfl rfl (V.pure rfl) (fun a hf => ?_)
  refine S.val hf hs (v := .int .i64 (v_.length : Int)) rfl rfl rfl (V.len rfl rfl Try.runUnderlying110) (fun a hf => ?_)
  refine S.val hf hs (v := .int .i64 (v_.length : Int)) rfl rfl rfl (V.pure rfl) (fun a hf => ?_)
  refine R.nil ?_
  refine X.then_ ?_
  refine wp_seq ?_
  refine wp_seq ?_
  refine R.list ?_
  refine S.val hf hs (v := .int .i64 (v_.length : Int)) rfl rfl rfl (V.pure rfl) (fun a hf => ?_)
  refine S.val hf hs (v := .bool ((v_.length : Int) == 0)) rfl rfl rfl (V.pure rfl) (fun a hf => ?_)
  refine R.nil ?_
  refine X.then_ ?_
  refine C.cond hf (b := ((v_.length : Int) == 0)) rfl (fun hc => ?_) (fun hc => ?_)
  · exfalso; simp at hc; exact hvne hc
  refine wp_skip ?_
  refine X.then_ ?_
  refine wp_seq ?_
  refine R.list ?_
  refine S.val hf hs (v := .slice s_A s_.length s_C) rfl rfl rfl (V.pure rfl) (fun a hf => ?_)
  refine S.val hf hs (v := .int .i64 (s_.length : Int)) rfl rfl rfl (V.len rfl rfl Try.runUnderlying110) (fun a hf => ?_)
  refine S.val hf hs (v := .int .i64 (s_.length : Int)) rfl rfl rfl (V.pure rfl) (fun a hf => ?_)
  refine R.nil ?_
  refine X.then_ ?_
  refine wp_seq ?_
  refine wp_seq ?_
  refine R.list ?_
  refine S.val hf hs (v := .int .i64 (k : Int)) rfl rfl rfl (V.pure rfl) (fun a hf => ?_)
  refine S.val hf hs (v := .int .i64 (s_.length : Int)) rfl rfl rfl (V.pure rfl) (fun a hf => ?_)
  refine S.val hf hs (v := .bool ((k : Int) == (s_.length : Int))) rfl rfl rfl (V.pure rfl) (fun a hf => ?_)
  refine R.nil ?_
  refine X.then_ ?_
  refine C.cond hf (b := ((k : Int) == (s_.length : Int))) rfl (fun hi => ?_) (fun hi => ?_)
  · have hkn' : k = s_.length := by simp at hi; omega
    refine wp_seq ?_
    refine R.list ?_
    refine S.val hf hs (v := .slice s_A s_.length s_C) rfl rfl rfl (V.pure rfl) (fun a hf => ?_)
    refine S.val hf hs (v := .slice v_A v_.length v_C) rfl rfl rfl (V.pure rfl) (fun a hf => ?_)
    refine S.appendAny 0 hf hs rfl rfl rfl rfl rfl rfl rfl Try.underlying110 info113 rfl (by rw [List.length_append]; exact hroom) (hs.ownView 1 rfl) (fun A1 C1 a w hf hs => ?_)
    refine S.val hf hs (v := .slice A1 (s_ ++ v_).length C1) rfl rfl rfl (V.pure rfl) (fun a hf => ?_)
    refine R.nil ?_
    refine X.then_ ?_
    refine wp_ret ?_
    refine X.then_ret ?_
    have hq' : Q (s_ ++ v_) v_ := by subst hkn'; simpa using hq
    exact L.ret hf (run_results1 Try.results107 (ResIs.tmp hf rfl)) ⟨s_ ++ v_, A1, C1, v_, rfl, rfl, hq', hs⟩
  refine wp_skip ?_
  refine X.then_ ?_
  have hlt : k < s_.length := by simp at hi; omega
  obtain ⟨g1, cs1, hsA, hCl, hCm, hcl, hct, hsr⟩ := hs.toRaw 0 rfl (Nat.lt_of_le_of_lt (Nat.zero_le _) hlt)
  subst hsA
  refine wp_seq ?_
  refine wp_seq ?_
  refine R.list ?_
  refine S.val hf hs (v := .int .i64 (s_.length : Int)) rfl rfl rfl (V.pure rfl) (fun a hf => ?_)
  refine S.val hf hs (v := .int .i64 (v_.length : Int)) rfl rfl rfl (V.pure rfl) (fun a hf => ?_)
  refine S.val hf hs (v := .int .i64 ((s_.length + v_.length : Nat) : Int)) rfl rfl rfl (V.addNat rfl rfl rfl rfl hbig) (fun a hf => ?_)
  refine S.val hf hs (v := .slice (some ⟨g1, 0, none⟩) s_.length s_C) rfl rfl rfl (V.pure rfl) (fun a hf => ?_)
  refine S.val hf hs (v := .int .i64 (s_C : Int)) rfl rfl rfl (V.cap rfl rfl Try.runUnderlying110) (fun a hf => ?_)
  refine S.val hf hs (v := .bool (decide (((s_.length + v_.length : Nat) : Int) > (s_C : Int)))) rfl rfl rfl (V.pure rfl) (fun a hf => ?_)
  refine R.nil ?_
  refine X.then_ ?_
  refine C.cond hf (b := decide (((s_.length + v_.length : Nat) : Int) > (s_C : Int))) rfl (fun hc2 => ?_) (fun hc2 => ?_)
  · have hgr : s_C < s_.length + v_.length := by simp at hc2; omega
    have hkc : k + (s_.length + v_.length - k) = s_.length + v_.length := by omega
    refine wp_seq ?_
    refine R.list ?_
    refine S.val hf hs (v := .slice (some ⟨g1, 0, none⟩) s_.length s_C) rfl rfl rfl (V.pure rfl) (fun a hf => ?_)
    refine S.val hf hs (v := .int .i64 (k : Int)) rfl rfl rfl (V.pure rfl) (fun a hf => ?_)
    refine S.val hf hs (v := .slice (some ⟨g1, 0, none⟩) k s_C) rfl rfl rfl (V.sliceCap rfl rfl rfl Try.runUnderlying110 Try.sizeOf113 (by omega)) (fun a hf => ?_)
    refine S.val hf hs (v := .int .i64 (s_.length : Int)) rfl rfl rfl (V.pure rfl) (fun a hf => ?_)
    refine S.val hf hs (v := .int .i64 (v_.length : Int)) rfl rfl rfl (V.pure rfl) (fun a hf => ?_)
    refine S.val hf hs (v := .int .i64 ((s_.length + v_.length : Nat) : Int)) rfl rfl rfl (V.addNat rfl rfl rfl rfl hbig) (fun a hf => ?_)
    refine S.val hf hs (v := .int .i64 (k : Int)) rfl rfl rfl (V.pure rfl) (fun a hf => ?_)
    refine S.val hf hs (v := .int .i64 (((s_.length + v_.length - k) : Nat) : Int)) rfl rfl rfl (V.subNat rfl rfl rfl hkc hbig) (fun a hf => ?_)
    refine S.growRaw 0 (α := R4Sub) hf hs rfl rfl rfl rfl rfl hkn rfl rfl Try.underlying110 Try.underlying3 info113 rfl (by omega) (by omega) (by rw [hkc]; exact hroom) (fun g cs C' a w hf i1 i2 i3 i4 hs => ?_)
    rw [hkc] at hf i2
    refine S.val hf hs (v := .slice (some ⟨g, 0, none⟩) (s_.length + v_.length) C') rfl rfl rfl (V.pure rfl) (fun a hf => ?_)
    refine R.nil ?_
    refine X.then_ ?_
    refine wp_seq ?_
    refine R.list ?_
    refine S.val hf hs (v := .slice (some ⟨g, 0, none⟩) (s_.length + v_.length) C') rfl rfl rfl (V.pure rfl) (fun a hf => ?_)
    refine S.val hf hs (v := .int .i64 (k : Int)) rfl rfl rfl (V.pure rfl) (fun a hf => ?_)
    refine S.val hf hs (v := .slice (some ⟨g, 0 + k * 3, none⟩) (s_.length + v_.length - k) (C' - k)) rfl rfl rfl (V.sliceFrom rfl rfl rfl Try.runUnderlying110 Try.sizeOf113 (by omega) i2 (by omega)) (fun a hf => ?_)
    refine S.val hf hs (v := .slice v_A v_.length v_C) rfl rfl rfl (V.pure rfl) (fun a hf => ?_)
    have hfit1 : 0 + k * 3 + v_.length * Flat.sz R4Sub ≤ cs.length := by rw [i1]; show 0 + k * Flat.sz R4Sub + _ ≤ _; rw [Nat.zero_add, ← Nat.add_mul]; exact Nat.mul_le_mul_right _ (by omega)
    refine S.copyRaw 0 hf hs rfl rfl rfl rfl rfl rfl rfl Try.underlying110 hszE v_ (hs.ownSome 2 rfl hm0) (hs.ownView 2 rfl) (by omega) hfit1 (fun a w hf hs => ?_)
    refine R.nil ?_
    refine X.then_ ?_
    refine wp_seq ?_
    refine H.start (S := Sat w0 F0 [hown 113 (some ⟨g1, 0, none⟩) s_C s_, hown 113 v_A v_C v_]) mo ?_
    replace hs := hs.drew
    refine H.val hf (hs.mask [false, true, true]) (v := .slice (some ⟨g, 0, none⟩) (s_.length + v_.length) C') (i := 0) rfl rfl rfl rfl (by kernel_rfl) (by kernel_rfl) (by kernel_rfl) (V.pure rfl) (fun a hf => ?_)
    refine H.val hf (hs.mask [false, true, true]) (v := .int .i64 (k : Int)) (i := 1) rfl rfl rfl rfl (by kernel_rfl) (by kernel_rfl) (by kernel_rfl) (V.pure rfl) (fun a hf => ?_)
    refine H.val hf (hs.mask [false, true, true]) (v := .int .i64 (v_.length : Int)) (i := 2) rfl rfl rfl rfl (by kernel_rfl) (by kernel_rfl) (by kernel_rfl) (V.pure rfl) (fun a hf => ?_)
    refine H.val hf (hs.mask [false, true, true]) (v := .int .i64 ((k + v_.length : Nat) : Int)) (i := 3) rfl rfl rfl rfl (by kernel_rfl) (by kernel_rfl) (by kernel_rfl) (V.addNat rfl rfl rfl rfl (by omega)) (fun a hf => ?_)
    refine H.val hf (hs.mask [false, true, true]) (v := .slice (some ⟨g, 0 + (k + v_.length) * 3, none⟩) (s_.length + v_.length - (k + v_.length)) (C' - (k + v_.length))) (i := 4) rfl rfl rfl rfl (by kernel_rfl) (by kernel_rfl) (by kernel_rfl) (V.sliceFrom rfl rfl rfl Try.runUnderlying110 Try.sizeOf113 (by omega) i2 (by omega)) (fun a hf => ?_)
    refine H.val hf (hs.mask [false, true, true]) (v := .slice (some ⟨g1, 0, none⟩) s_.length s_C) (i := 5) rfl rfl rfl rfl (by kernel_rfl) (by kernel_rfl) (by kernel_rfl) (V.pure rfl) (fun a hf => ?_)
    refine H.val hf (hs.mask [false, true, true]) (v := .int .i64 (k : Int)) (i := 6) rfl rfl rfl rfl (by kernel_rfl) (by kernel_rfl) (by kernel_rfl) (V.pure rfl) (fun a hf => ?_)
    refine H.val hf (hs.mask [false, true, true]) (v := .slice (some ⟨g1, 0 + k * 3, none⟩) (s_.length - k) (s_C - k)) (i := 7) rfl rfl rfl rfl (by kernel_rfl) (by kernel_rfl) (by kernel_rfl) (V.sliceFrom rfl rfl rfl Try.runUnderlying110 Try.sizeOf113 (by omega) hCl (by omega)) (fun a hf => ?_)
    refine H.one (i := 8) rfl (by kernel_rfl) ?_
    have hlc1 : (cs.take (0 + k * 3) ++ v_.flatMap Flat.enc ++ cs.drop (0 + k * 3 + v_.length * Flat.sz R4Sub)).length = C' * Flat.sz R4Sub := by rw [← i1]; simp only [List.length_append, List.length_take, List.length_drop, length_flatMap_enc]; omega
    have hfit2 : 0 + (k + v_.length) * 3 + (s_.drop k).length * Flat.sz R4Sub ≤ (cs.take (0 + k * 3) ++ v_.flatMap Flat.enc ++ cs.drop (0 + k * 3 + v_.length * Flat.sz R4Sub)).length := by rw [hlc1]; show 0 + (k + v_.length) * Flat.sz R4Sub + _ ≤ _; rw [Nat.zero_add, ← Nat.add_mul, List.length_drop]; exact Nat.mul_le_mul_right _ (by omega)
    refine S.copyRaw 0 hf hs rfl rfl rfl rfl rfl rfl rfl Try.underlying110 hszE (s_.drop k) rfl (View.from_ (hs.ownView 1 rfl) hkn) (by rw [List.length_drop]; omega) hfit2 (fun a w hf hs => ?_)
    refine R.nil ?_
    refine X.then_ ?_
    refine ⟨(hs.mask [false, true, true]), ?_⟩
    refine H.done (by kernel_rfl) ?_
    refine X.then_ ?_
    refine wp_seq ?_
    refine R.list ?_
    refine S.val hf hs (v := .slice (some ⟨g, 0, none⟩) (s_.length + v_.length) C') rfl rfl rfl (V.pure rfl) (fun a hf => ?_)
    refine S.val hf hs (v := .slice (some ⟨g, 0, none⟩) (s_.length + v_.length) C') rfl rfl rfl (V.pure rfl) (fun a hf => ?_)
    refine R.nil ?_
    refine X.then_ ?_
    refine wp_ret ?_
    refine X.then_ret ?_
    have hs2 := hs.ofRaw 0 rfl (C := C') (s_.take k ++ v_ ++ s_.drop k) (by rw [← hlc1, List.length_append, List.length_append, List.length_take, List.length_drop, length_flatMap_enc]; omega) (by simp only [List.length_append, List.length_take, List.length_drop]; omega) i3 (insert_cells hkn hfit1 hfit2 i4)
    have hlen : (s_.take k ++ v_ ++ s_.drop k).length = s_.length + v_.length := by simp only [List.length_append, List.length_take, List.length_drop]; omega
    exact L.ret hf (run_results1 Try.results107 (ResIs.tmp hf rfl)) ⟨s_.take k ++ v_ ++ s_.drop k, some ⟨g, 0, none⟩, C', v_, rfl, by rw [hlen], hq, hs2.mask [true, false, true]⟩
  refine wp_skip ?_
  refine X.then_ ?_
  have hrm : s_.length + v_.length ≤ s_C := by simp at hc2; omega
  refine wp_seq ?_
  refine R.list ?_
  refine S.val hf hs (v := .slice (some ⟨g1, 0, none⟩) s_.length s_C) rfl rfl rfl (V.pure rfl) (fun a hf => ?_)
  refine S.val hf hs (v := .int .i64 (s_.length : Int)) rfl rfl rfl (V.pure rfl) (fun a hf => ?_)
  refine S.val hf hs (v := .int .i64 (v_.length : Int)) rfl rfl rfl (V.pure rfl) (fun a hf => ?_)
  refine S.val hf hs (v := .int .i64 ((s_.length + v_.length : Nat) : Int)) rfl rfl rfl (V.addNat rfl rfl rfl rfl hbig) (fun a hf => ?_)
  refine S.val hf hs (v := .slice (some ⟨g1, 0, none⟩) (s_.length + v_.length) s_C) rfl rfl rfl (V.sliceCap rfl rfl rfl Try.runUnderlying110 Try.sizeOf113 hrm) (fun a hf => ?_)
  refine S.val hf hs (v := .slice (some ⟨g1, 0, none⟩) (s_.length + v_.length) s_C) rfl rfl rfl (V.pure rfl) (fun a hf => ?_)
  refine R.nil ?_
  refine X.then_ ?_
  replace hs := hs.toRaw 0 rfl (Nat.lt_of_le_of_lt (Nat.zero_le _) hlt)
  clear hcl hct hsr
  obtain ⟨g2, cs, hsA, _, _, i1, i4, hs⟩ := hs
  injection hsA with hsA; injection hsA with hsA; subst hsA
  refine wp_seq ?_
  refine wp_seq ?_
  refine R.list ?_
  refine S.val hf hs (v := .slice v_A v_.length v_C) rfl rfl rfl (V.pure rfl) (fun a hf => ?_)
  refine S.val hf hs (v := .slice (some ⟨g1, 0, none⟩) (s_.length + v_.length) s_C) rfl rfl rfl (V.pure rfl) (fun a hf => ?_)
  refine S.val hf hs (v := .int .i64 (k : Int)) rfl rfl rfl (V.pure rfl) (fun a hf => ?_)
  refine S.val hf hs (v := .int .i64 (v_.length : Int)) rfl rfl rfl (V.pure rfl) (fun a hf => ?_)
  refine S.val hf hs (v := .int .i64 ((k + v_.length : Nat) : Int)) rfl rfl rfl (V.addNat rfl rfl rfl rfl (by omega)) (fun a hf => ?_)
  refine S.val hf hs (v := .slice (some ⟨g1, 0 + (k + v_.length) * 3, none⟩) (s_.length + v_.length - (k + v_.length)) (s_C - (k + v_.length))) rfl rfl rfl (V.sliceFrom rfl rfl rfl Try.runUnderlying110 Try.sizeOf113 (by omega) hrm (by omega)) (fun a hf => ?_)
  have hcs0 : 0 < cs.length := by rw [i1]; exact Nat.mul_pos (by omega) Flat.pos
  refine S.val hf hs (v := .bool false) rfl rfl rfl (V.externS Try.func117 (by kernel_rfl) (by kernel_rfl) (by kernel_rfl) (by kernel_rfl) rfl rfl rfl (fun w hs => overlaps_no (B := 4) hs Try.underlying110 hszE hm0 hcs0)) (fun a hf => ?_)
  refine S.val hf hs (v := .bool true) rfl rfl rfl (V.pure rfl) (fun a hf => ?_)
  refine R.nil ?_
  refine X.then_ ?_
  refine C.yes hf rfl ?_
  refine wp_seq ?_
  refine H.start (S := Sat w0 F0 [hown 113 v_A v_C v_]) mo ?_
  replace hs := hs.drew
  refine H.val hf (hs.mask [false, true]) (v := .slice (some ⟨g1, 0, none⟩) (s_.length + v_.length) s_C) (i := 0) rfl rfl rfl rfl (by kernel_rfl) (by kernel_rfl) (by kernel_rfl) (V.pure rfl) (fun a hf => ?_)
  refine H.val hf (hs.mask [false, true]) (v := .int .i64 (k : Int)) (i := 1) rfl rfl rfl rfl (by kernel_rfl) (by kernel_rfl) (by kernel_rfl) (V.pure rfl) (fun a hf => ?_)
  refine H.val hf (hs.mask [false, true]) (v := .int .i64 (v_.length : Int)) (i := 2) rfl rfl rfl rfl (by kernel_rfl) (by kernel_rfl) (by kernel_rfl) (V.pure rfl) (fun a hf => ?_)
  refine H.val hf (hs.mask [false, true]) (v := .int .i64 ((k + v_.length : Nat) : Int)) (i := 3) rfl rfl rfl rfl (by kernel_rfl) (by kernel_rfl) (by kernel_rfl) (V.addNat rfl rfl rfl rfl (by omega)) (fun a hf => ?_)
  refine H.val hf (hs.mask [false, true]) (v := .slice (some ⟨g1, 0 + (k + v_.length) * 3, none⟩) (s_.length + v_.length - (k + v_.length)) (s_C - (k + v_.length))) (i := 4) rfl rfl rfl rfl (by kernel_rfl) (by kernel_rfl) (by kernel_rfl) (V.sliceFrom rfl rfl rfl Try.runUnderlying110 Try.sizeOf113 (by omega) hrm (by omega)) (fun a hf => ?_)
  refine H.val hf (hs.mask [false, true]) (v := .slice (some ⟨g1, 0, none⟩) (s_.length + v_.length) s_C) (i := 5) rfl rfl rfl rfl (by kernel_rfl) (by kernel_rfl) (by kernel_rfl) (V.pure rfl) (fun a hf => ?_)
  refine H.val hf (hs.mask [false, true]) (v := .int .i64 (k : Int)) (i := 6) rfl rfl rfl rfl (by kernel_rfl) (by kernel_rfl) (by kernel_rfl) (V.pure rfl) (fun a hf => ?_)
  refine H.val hf (hs.mask [false, true]) (v := .slice (some ⟨g1, 0 + k * 3, none⟩) (s_.length + v_.length - k) (s_C - k)) (i := 7) rfl rfl rfl rfl (by kernel_rfl) (by kernel_rfl) (by kernel_rfl) (V.sliceFrom rfl rfl rfl Try.runUnderlying110 Try.sizeOf113 (by omega) hrm (by omega)) (fun a hf => ?_)
  refine H.one (i := 8) rfl (by kernel_rfl) ?_
  have hfit1 : 0 + (k + v_.length) * 3 + (s_.drop k).length * Flat.sz R4Sub ≤ cs.length := by rw [i1]; show 0 + (k + v_.length) * Flat.sz R4Sub + _ ≤ _; rw [Nat.zero_add, ← Nat.add_mul, List.length_drop]; exact Nat.mul_le_mul_right _ (by omega)
  refine S.copyRaw 0 hf hs rfl rfl rfl rfl rfl rfl rfl Try.underlying110 hszE (s_.drop k) rfl (hs.rawView 0 rfl (0 + k * 3) (s_C - k) (s_.drop k) (shift_src hkn i4) (by rw [List.length_drop]; omega) (by omega)) (by rw [List.length_drop]; omega) hfit1 (fun a w hf hs => ?_)
  refine R.nil ?_
  refine X.then_ ?_
  refine ⟨(hs.mask [false, true]), ?_⟩
  refine H.done (by kernel_rfl) ?_
  refine X.then_ ?_
  have hlc1 : (cs.take (0 + (k + v_.length) * 3) ++ (s_.drop k).flatMap Flat.enc ++ cs.drop (0 + (k + v_.length) * 3 + (s_.drop k).length * Flat.sz R4Sub)).length = s_C * Flat.sz R4Sub := by rw [← i1]; simp only [List.length_append, List.length_take, List.length_drop, length_flatMap_enc] at hfit1 ⊢; omega
  refine wp_seq ?_
  refine R.list ?_
  refine S.val hf hs (v := .slice (some ⟨g1, 0, none⟩) (s_.length + v_.length) s_C) rfl rfl rfl (V.pure rfl) (fun a hf => ?_)
  refine S.val hf hs (v := .int .i64 (k : Int)) rfl rfl rfl (V.pure rfl) (fun a hf => ?_)
  refine S.val hf hs (v := .slice (some ⟨g1, 0 + k * 3, none⟩) (s_.length + v_.length - k) (s_C - k)) rfl rfl rfl (V.sliceFrom rfl rfl rfl Try.runUnderlying110 Try.sizeOf113 (by omega) hrm (by omega)) (fun a hf => ?_)
  refine S.val hf hs (v := .slice v_A v_.length v_C) rfl rfl rfl (V.pure rfl) (fun a hf => ?_)
  have hfit2 : 0 + k * 3 + v_.length * Flat.sz R4Sub ≤ (cs.take (0 + (k + v_.length) * 3) ++ (s_.drop k).flatMap Flat.enc ++ cs.drop (0 + (k + v_.length) * 3 + (s_.drop k).length * Flat.sz R4Sub)).length := by rw [hlc1]; show 0 + k * Flat.sz R4Sub + _ ≤ _; rw [Nat.zero_add, ← Nat.add_mul]; exact Nat.mul_le_mul_right _ (by omega)
  refine S.copyRaw 0 hf hs rfl rfl rfl rfl rfl rfl rfl Try.underlying110 hszE v_ (hs.ownSome 1 rfl hm0) (hs.ownView 1 rfl) (by omega) hfit2 (fun a w hf hs => ?_)
  refine R.nil ?_
  refine X.then_ ?_
  refine wp_seq ?_
  refine R.list ?_
  refine S.val hf hs (v := .slice (some ⟨g1, 0, none⟩) (s_.length + v_.length) s_C) rfl rfl rfl (V.pure rfl) (fun a hf => ?_)
  refine S.val hf hs (v := .slice (some ⟨g1, 0, none⟩) (s_.length + v_.length) s_C) rfl rfl rfl (V.pure rfl) (fun a hf => ?_)
  refine R.nil ?_
  refine X.then_ ?_
  refine wp_ret ?_
  refine X.then_ret ?_
  have hs2 := hs.ofRaw 0 rfl (C := s_C) (s_.take k ++ v_ ++ s_.drop k) (by have h9 := hfit2; rw [← hlc1]; generalize (cs.take (0 + (k + v_.length) * 3) ++ (s_.drop k).flatMap Flat.enc ++ cs.drop (0 + (k + v_.length) * 3 + (s_.drop k).length * Flat.sz R4Sub)) = D at h9 ⊢; rw [List.length_append, List.length_append, List.length_take, List.length_drop, length_flatMap_enc]; omega) (by simp only [List.length_append, List.length_take, List.length_drop]; omega) hCm (shift_cells hkn hfit1 hfit2 i4)
  have hlen : (s_.take k ++ v_ ++ s_.drop k).length = s_.length + v_.length := by simp only [List.length_append, List.length_take, List.length_drop]; omega
  exact L.ret hf (run_results1 Try.results107 (ResIs.tmp hf rfl)) ⟨s_.take k ++ v_ ++ s_.drop k, some ⟨g1, 0, none⟩, s_C, v_, rfl, by rw [hlen], hq, hs2⟩

set_option linter.unusedVariables false
def M_ref4_subs_k2 (l2 : List R4Sub) (n2 : Int) (again1 : List R4Sub → Int → Prop) (c1 : Bool) : Prop :=
  cnd c1 (must (room (l2 ++ [(⟨(⟨n2, w64 (n2 + 1)⟩ : Through), true⟩ : R4Sub)]).length 24) (again1 (l2 ++ [(⟨(⟨n2, w64 (n2 + 1)⟩ : Through), true⟩ : R4Sub)]) (w64 (n2 + 1)))) (again1 l2 (w64 (n2 + 1)))
def M_ref4_subs_k6 (xk3 : Through) (l4 : List R4Sub) (next2 : List R4Sub → Prop) (n4 : Int) (again4 : Int → Prop) (c4 : Bool) : Prop :=
  cnd c4 (again4 (w64 (n4 - 1))) (M_insert_sub l4 n4 [(⟨xk3, false⟩ : R4Sub)] fun y4 z1 => next2 y4)
def M_ref4_subs_L4 (l2 : List R4Sub) (xk3 : Through) (l4 : List R4Sub) (next2 : List R4Sub → Prop) (again4 : Int → Prop) (n4 : Int) : Prop :=
  cnd (decide (n4 > (l2.length : Int))) (idx l4 (w64 (n4 - 1)) fun x4 => M_ref4_earlier xk3 x4.Through fun y5 => M_ref4_subs_k6 xk3 l4 next2 n4 again4 y5) (M_ref4_subs_k6 xk3 l4 next2 n4 again4 false)
def M_ref4_subs_L3 (xk3 : Through) (k4 : Nat) (xk4 : R4Sub) (c3 : Bool) (next3 : Bool → Prop) : Prop :=
  cnd c3 (next3 true) (next3 (decide (xk4.Through = xk3)))
def M_ref4_subs_L2 (l2 : List R4Sub) (k3 : Nat) (xk3 : Through) (l4 : List R4Sub) (next2 : List R4Sub → Prop) : Prop :=
  forIn' (fun k x (s : Bool) next => M_ref4_subs_L3 xk3 k x s (fun c3 => next c3)) (fun (s : Bool) => (fun (c3 : Bool) => cnd c3 (next2 l4) (lp (fun again (s : Int) => M_ref4_subs_L4 l2 xk3 l4 next2 (fun n4 => again n4) s) (l4.length : Int))) s) l4 0 false
def M_ref4_subs_L1 (m : (List Material)) (s_ : (List Layer)) (l : (List Through)) (Q : (List R4Sub) → Prop) (y1 : (List Int)) (again1 : List R4Sub → Int → Prop) (l2 : List R4Sub) (n2 : Int) : Prop :=
  cnd (decide (n2 < (y1.length : Int))) (idx y1 n2 fun x1 => idx y1 (w64 (n2 - 1)) fun x2 => cnd ((w64 (x1 - x2)) == 2) (idx s_ (w64 (x1 - 1)) fun x3 => M_ref4_materialOf m x3.Material fun y2 => M_ref4_subs_k2 l2 n2 again1 (y2.Kind == 2)) (M_ref4_subs_k2 l2 n2 again1 false)) (M_clone_thr l fun y3 => must (room (y3 ++ [(⟨1, (y1.length : Int)⟩ : Through)]).length 16) (forIn' (fun k x (s : List R4Sub) next => M_ref4_subs_L2 l2 k x s (fun l4 => next l4)) (fun (s : List R4Sub) => (fun (l4 : List R4Sub) => Q l4) s) (y3 ++ [(⟨1, (y1.length : Int)⟩ : Through)]) 0 l2))
def M_ref4_subs (m : (List Material)) (s_ : (List Layer)) (l : (List Through)) (Q : (List R4Sub) → Prop) : Prop :=
  M_ref4_coppers m s_ fun y1 => lp (fun again (s : List R4Sub × Int) => M_ref4_subs_L1 m s_ l Q y1 (fun l2 n2 => again (l2, n2)) s.1 s.2) (([] : List R4Sub), 1)
set_option maxHeartbeats 1000000 in
theorem R_ref4_subs (m : (List Material)) (s_ : (List Layer)) (l : (List Through)) (w0 : World) (mA : Option Addr) (mC : Nat) (hv_m : View w0 (old w0 none_) mA mC m) (s_A : Option Addr) (s_C : Nat) (hv_s_ : View w0 (old w0 none_) s_A s_C s_) (lA : Option Addr) (lC : Nat) (hv_l : View w0 (old w0 none_) lA lC l) (Q : (List R4Sub) → Prop) (h : M_ref4_subs m s_ l Q) :
    Ret Try.prog 85 #[.slice mA m.length mC, .slice s_A s_.length s_C, .slice lA l.length lC] w0 fun v w' => ∃ (r0 : (List R4Sub)) (r0A : Option Addr) (r0C : Nat), v = .slice r0A r0.length r0C ∧ Q r0 ∧ Sat w0 none_ [hown 113 r0A r0C r0] w' := by
  refine fn_enter Try.func85 rfl Try.ntmps85 rfl (fs := [(0, .slice mA m.length mC), (1, .slice s_A s_.length s_C), (2, .slice lA l.length lC)]) rfl (fun a hf => ?_)
  have hs := Sat.start w0 none_
  unfold M_ref4_subs at h
  refine wp_seq ?_
  refine R.list ?_
  refine S.val hf hs (v := .slice none 0 0) rfl rfl rfl (V.pure rfl) (fun a hf => ?_)
  refine R.nil ?_
  refine X.then_ ?_
  refine wp_seq ?_
  refine R.list ?_
  refine S.val hf hs (v := .slice none 0 0) rfl rfl rfl (V.pure rfl) (fun a hf => ?_)
  refine R.nil ?_
  refine X.then_ ?_
  refine wp_seq ?_
  refine R.list ?_
  refine S.val hf hs (v := .slice mA m.length mC) rfl rfl rfl (V.pure rfl) (fun a hf => ?_)
  refine S.val hf hs (v := .slice s_A s_.length s_C) rfl rfl rfl (V.pure rfl) (fun a hf => ?_)
  refine S.call hf rfl rfl rfl (call_fn (vs := [.slice mA m.length mC, .slice s_A s_.length s_C]) rfl rfl rfl Try.call64) (R_ref4_coppers m s_ _ mA mC ((Ag.args _ _ _).view hv_m hs) s_A s_C ((Ag.args _ _ _).view hv_s_ hs) _ h) (fun v a w' hf hr => ?_)
  obtain ⟨y1, y1A, y1C, rfl, h2, hs2⟩ := hr
  replace h := h2; replace hs := hs.call hs2; clear h2 hs2
  refine S.val hf hs (v := .slice y1A y1.length y1C) rfl rfl rfl (V.pure rfl) (fun a hf => ?_)
  refine R.nil ?_
  refine X.then_ ?_
  refine wp_seq ?_
  refine wp_seq ?_
  refine R.list ?_
  refine S.val hf hs (v := .int .i64 1) rfl rfl rfl (V.pure rfl) (fun a hf => ?_)
  refine R.nil ?_
  refine X.then_ ?_
  refine wp_block ?_
  replace hs := hs.nilOwn (α := R4Sub) 113
  obtain ⟨kk, h⟩ := h
  refine C.loop (fun kk a w => ∃ (l2 : List R4Sub) (l2A : Option Addr) (l2C : Nat) (n2 : Int), iterF (fun again (s : List R4Sub × Int) => M_ref4_subs_L1 m s_ l Q y1 (fun l2 n2 => again (l2, n2)) s.1 s.2) kk (l2, n2) ∧ FrOk 114 [(0, .slice mA m.length mC), (1, .slice s_A s_.length s_C), (2, .slice lA l.length lC), (7, .slice l2A l2.length l2C), (8, .slice y1A y1.length y1C), (9, .int .i64 n2)] a ∧ Sat w0 none_ [hown 113 l2A l2C l2, hown 3 y1A y1C y1] w) kk ⟨([] : List R4Sub), none, 0, 1, h, ((((((hf.nil.cons (hf.get 9 _ rfl)).cons (hf.get 8 _ rfl)).cons (hf.get 7 _ rfl)).cons (hf.get 2 _ rfl)).cons (hf.get 1 _ rfl)).cons (hf.get 0 _ rfl)), hs⟩ (fun a w ⟨_, _, _, _, h, _, _⟩ => h) ?_
  clear h hf hs
  rintro kk a w ⟨l2, l2A, l2C, n2, h, hf, hs⟩
  obtain ⟨again1, hagain1⟩ : ∃ X : List R4Sub → Int → Prop, X = (fun l2 n2 => iterF (fun again (s : List R4Sub × Int) => M_ref4_subs_L1 m s_ l Q y1 (fun l2 n2 => again (l2, n2)) s.1 s.2) kk (l2, n2)) := ⟨_, rfl⟩
  replace h : M_ref4_subs_L1 m s_ l Q y1 again1 l2 n2 := by rw [hagain1]; exact h
  unfold M_ref4_subs_L1 at h
  refine wp_seq ?_
  refine wp_seq ?_
  refine R.list ?_
  refine S.val hf hs (v := .int .i64 n2) rfl rfl rfl (V.pure rfl) (fun a hf => ?_)
  refine S.val hf hs (v := .slice y1A y1.length y1C) rfl rfl rfl (V.pure rfl) (fun a hf => ?_)
  refine S.val hf hs (v := .int .i64 (y1.length : Int)) rfl rfl rfl (V.len rfl rfl Try.runUnderlying43) (fun a hf => ?_)
  refine S.val hf hs (v := .bool (decide (n2 < (y1.length : Int)))) rfl rfl rfl (V.pure rfl) (fun a hf => ?_)
  refine R.nil ?_
  refine X.then_ ?_
  refine C.cond hf (b := decide (n2 < (y1.length : Int))) rfl (fun hc => ?_) (fun hc => ?_)
  · replace h := h.1 hc
    refine wp_skip ?_
    refine X.then_ ?_
    refine wp_seq ?_
    refine wp_block ?_
    refine wp_seq ?_
    refine C.cut (J := fun a w => ∃ (c1 : Bool), M_ref4_subs_k2 l2 n2 again1 c1 ∧ FrOk 114 [(0, .slice mA m.length mC), (1, .slice s_A s_.length s_C), (2, .slice lA l.length lC), (7, .slice l2A l2.length l2C), (8, .slice y1A y1.length y1C), (9, .int .i64 n2), (51, .bool c1)] a ∧ Sat w0 none_ [hown 113 l2A l2C l2, hown 3 y1A y1C y1] w) ?_ ?_
    · rintro a w ⟨c1, h, hf, hs⟩
      unfold M_ref4_subs_k2 at h
      refine C.cond hf (b := c1) rfl (fun hc => ?_) (fun hc => ?_)
      · replace h := h.1 hc
        refine R.list ?_
        refine S.val hf hs (v := .slice l2A l2.length l2C) rfl rfl rfl (V.pure rfl) (fun a hf => ?_)
        refine S.val hf hs (v := .int .i64 n2) rfl rfl rfl (V.pure rfl) (fun a hf => ?_)
        refine S.val hf hs (v := .int .i64 n2) rfl rfl rfl (V.pure rfl) (fun a hf => ?_)
        refine S.val hf hs (v := .int .i64 (w64 (n2 + 1))) rfl rfl rfl (V.pure rfl) (fun a hf => ?_)
        refine S.val hf hs (v := .agg #[.int .i64 n2, .int .i64 (w64 (n2 + 1))]) rfl rfl rfl (V.build (places := #[(0, 1), (1, 1)]) rfl Try.zeroValue59 Try.runUnderlying59 (by intro w; simp [Try.sizeOf3]) rfl rfl) (fun a hf => ?_)
        refine S.val hf hs (v := .agg #[.int .i64 n2, .int .i64 (w64 (n2 + 1)), .bool true]) rfl rfl rfl (V.build (places := #[(0, 2), (2, 1)]) rfl Try.zeroValue113 Try.runUnderlying113 (by intro w; simp [Try.sizeOf4, Try.sizeOf59]) rfl rfl) (fun a hf => ?_)
        refine S.build1 hf hs rfl rfl rfl (α := R4Sub) (⟨(⟨n2, w64 (n2 + 1)⟩ : Through), true⟩ : R4Sub) rfl rfl rfl Try.runUnderlying110 Try.sizeOf113 Try.zeroValue113 rfl (by decide) (fun A1 a w hf hs => ?_)
        obtain ⟨hroom, h⟩ := h
        refine S.appendCells 1 hf hs rfl rfl rfl rfl rfl rfl rfl Try.underlying110 info113 rfl hroom ((hs.ownView 0 rfl).some_ (i := 0) (by simp)) (hs.ownView 0 rfl) (fun A2 C1 a w hf hs => ?_)
        replace hs := hs.drop
        refine S.val hf hs (v := .slice A2 (l2 ++ [(⟨(⟨n2, w64 (n2 + 1)⟩ : Through), true⟩ : R4Sub)]).length C1) rfl rfl rfl (V.pure rfl) (fun a hf => ?_)
        refine R.nil ?_
        refine X.blk ?_
        refine X.then_ ?_
        refine R.list ?_
        refine S.val hf hs (v := .int .i64 n2) rfl rfl rfl (V.pure rfl) (fun a hf => ?_)
        refine S.val hf hs (v := .int .i64 (w64 (n2 + 1))) rfl rfl rfl (V.pure rfl) (fun a hf => ?_)
        refine S.val hf hs (v := .int .i64 (w64 (n2 + 1))) rfl rfl rfl (V.pure rfl) (fun a hf => ?_)
        refine R.nil ?_
        refine X.then_ ?_
        exact ⟨(l2 ++ [(⟨(⟨n2, w64 (n2 + 1)⟩ : Through), true⟩ : R4Sub)]), A2, C1, (w64 (n2 + 1)), (by rw [hagain1] at h; exact h), ((((((hf.nil.cons (hf.get 9 _ rfl)).cons (hf.get 8 _ rfl)).cons (hf.get 7 _ rfl)).cons (hf.get 2 _ rfl)).cons (hf.get 1 _ rfl)).cons (hf.get 0 _ rfl)), hs⟩
      · replace h := h.2 hc
        refine wp_skip ?_
        refine X.blk ?_
        refine X.then_ ?_
        refine R.list ?_
        refine S.val hf hs (v := .int .i64 n2) rfl rfl rfl (V.pure rfl) (fun a hf => ?_)
        refine S.val hf hs (v := .int .i64 (w64 (n2 + 1))) rfl rfl rfl (V.pure rfl) (fun a hf => ?_)
        refine S.val hf hs (v := .int .i64 (w64 (n2 + 1))) rfl rfl rfl (V.pure rfl) (fun a hf => ?_)
        refine R.nil ?_
        refine X.then_ ?_
        exact ⟨l2, l2A, l2C, (w64 (n2 + 1)), (by rw [hagain1] at h; exact h), ((((((hf.nil.cons (hf.get 9 _ rfl)).cons (hf.get 8 _ rfl)).cons (hf.get 7 _ rfl)).cons (hf.get 2 _ rfl)).cons (hf.get 1 _ rfl)).cons (hf.get 0 _ rfl)), hs⟩
    · skip
      refine H.start (S := Sat w0 none_ [hown 113 l2A l2C l2, hown 3 y1A y1C y1]) mo ?_
      replace hs := hs.drew
      refine H.val hf hs (v := .slice y1A y1.length y1C) (i := 0) rfl rfl rfl rfl (by kernel_rfl) (by kernel_rfl) (by kernel_rfl) (V.pure rfl) (fun a hf => ?_)
      refine H.val hf hs (v := .int .i64 n2) (i := 1) rfl rfl rfl rfl (by kernel_rfl) (by kernel_rfl) (by kernel_rfl) (V.pure rfl) (fun a hf => ?_)
      obtain ⟨h0x1, x1, hx1, h⟩ := h
      refine H.val hf hs (v := elemPtr y1A (n2.toNat * 1)) (i := 2) rfl rfl rfl rfl (by kernel_rfl) (by kernel_rfl) (by kernel_rfl) (V.index rfl rfl rfl Try.runUnderlying43 Try.sizeOf3 (hs.ownSome 1 rfl (lt_of_get hx1)) h0x1 (lt_of_get hx1) rfl) (fun a hf => ?_)
      refine H.val hf hs (v := .int .i64 x1) (i := 3) rfl rfl rfl rfl (by kernel_rfl) (by kernel_rfl) (by kernel_rfl) (V.loadOwn (off := 0) 1 rfl hx1 rfl rfl rfl Try.isAgg3 Try.sizeOf3 rfl rfl) (fun a hf => ?_)
      refine H.val hf hs (v := .slice y1A y1.length y1C) (i := 4) rfl rfl rfl rfl (by kernel_rfl) (by kernel_rfl) (by kernel_rfl) (V.pure rfl) (fun a hf => ?_)
      refine H.val hf hs (v := .int .i64 n2) (i := 5) rfl rfl rfl rfl (by kernel_rfl) (by kernel_rfl) (by kernel_rfl) (V.pure rfl) (fun a hf => ?_)
      refine H.val hf hs (v := .int .i64 (w64 (n2 - 1))) (i := 6) rfl rfl rfl rfl (by kernel_rfl) (by kernel_rfl) (by kernel_rfl) (V.pure rfl) (fun a hf => ?_)
      obtain ⟨h0x2, x2, hx2, h⟩ := h
      refine H.val hf hs (v := elemPtr y1A ((w64 (n2 - 1)).toNat * 1)) (i := 7) rfl rfl rfl rfl (by kernel_rfl) (by kernel_rfl) (by kernel_rfl) (V.index rfl rfl rfl Try.runUnderlying43 Try.sizeOf3 (hs.ownSome 1 rfl (lt_of_get hx2)) h0x2 (lt_of_get hx2) rfl) (fun a hf => ?_)
      refine H.val hf hs (v := .int .i64 x2) (i := 8) rfl rfl rfl rfl (by kernel_rfl) (by kernel_rfl) (by kernel_rfl) (V.loadOwn (off := 0) 1 rfl hx2 rfl rfl rfl Try.isAgg3 Try.sizeOf3 rfl rfl) (fun a hf => ?_)
      refine H.val hf hs (v := .int .i64 (w64 (x1 - x2))) (i := 9) rfl rfl rfl rfl (by kernel_rfl) (by kernel_rfl) (by kernel_rfl) (V.pure rfl) (fun a hf => ?_)
      refine H.val hf hs (v := .bool ((w64 (x1 - x2)) == 2)) (i := 10) rfl rfl rfl rfl (by kernel_rfl) (by kernel_rfl) (by kernel_rfl) (V.pure rfl) (fun a hf => ?_)
      refine H.split hf hs (b := (w64 (x1 - x2)) == 2) (i := 11) rfl rfl rfl rfl (by kernel_rfl) (by kernel_rfl) (by kernel_rfl) (V.pure rfl) (fun hc a hf => ?_) (fun hc a hf => ?_)
      · replace h := h.1 hc
        refine H.val hf hs (v := .slice mA m.length mC) (i := 12) rfl rfl rfl rfl (by kernel_rfl) (by kernel_rfl) (by kernel_rfl) (V.pure rfl) (fun a hf => ?_)
        refine H.val hf hs (v := .slice s_A s_.length s_C) (i := 13) rfl rfl rfl rfl (by kernel_rfl) (by kernel_rfl) (by kernel_rfl) (V.pure rfl) (fun a hf => ?_)
        refine H.val hf hs (v := .slice y1A y1.length y1C) (i := 14) rfl rfl rfl rfl (by kernel_rfl) (by kernel_rfl) (by kernel_rfl) (V.pure rfl) (fun a hf => ?_)
        refine H.val hf hs (v := .int .i64 n2) (i := 15) rfl rfl rfl rfl (by kernel_rfl) (by kernel_rfl) (by kernel_rfl) (V.pure rfl) (fun a hf => ?_)
        refine H.val hf hs (v := elemPtr y1A (n2.toNat * 1)) (i := 16) rfl rfl rfl rfl (by kernel_rfl) (by kernel_rfl) (by kernel_rfl) (V.index rfl rfl rfl Try.runUnderlying43 Try.sizeOf3 (hs.ownSome 1 rfl (lt_of_get hx1)) h0x1 (lt_of_get hx1) rfl) (fun a hf => ?_)
        refine H.val hf hs (v := .int .i64 x1) (i := 17) rfl rfl rfl rfl (by kernel_rfl) (by kernel_rfl) (by kernel_rfl) (V.loadOwn (off := 0) 1 rfl hx1 rfl rfl rfl Try.isAgg3 Try.sizeOf3 rfl rfl) (fun a hf => ?_)
        refine H.val hf hs (v := .int .i64 (w64 (x1 - 1))) (i := 18) rfl rfl rfl rfl (by kernel_rfl) (by kernel_rfl) (by kernel_rfl) (V.pure rfl) (fun a hf => ?_)
        obtain ⟨h0x3, x3, hx3, h⟩ := h
        refine H.val hf hs (v := elemPtr s_A ((w64 (x1 - 1)).toNat * 2)) (i := 19) rfl rfl rfl rfl (by kernel_rfl) (by kernel_rfl) (by kernel_rfl) (V.index rfl rfl rfl Try.runUnderlying23 Try.sizeOf35 (hv_s_.some_ (lt_of_get hx3)) h0x3 (lt_of_get hx3) rfl) (fun a hf => ?_)
        refine H.val hf hs (v := elemPtr s_A ((w64 (x1 - 1)).toNat * 2 + 1)) (i := 20) rfl rfl rfl rfl (by kernel_rfl) (by kernel_rfl) (by kernel_rfl) (V.fieldEl rfl rfl (hv_s_.some_ (lt_of_get hx3)) Try.runUnderlying35 rfl Try.sizeOf9 rfl rfl) (fun a hf => ?_)
        refine H.val hf hs (v := .string (ba x3.Material)) (i := 21) rfl rfl rfl rfl (by kernel_rfl) (by kernel_rfl) (by kernel_rfl) (V.loadEl (off := 1) (Ag.args _ _ _) (hv_s_.flat hx3) rfl rfl rfl Try.isAgg9 Try.sizeOf9 rfl rfl) (fun a hf => ?_)
        refine H.one (i := 22) rfl (by kernel_rfl) ?_
        refine S.call hf rfl rfl rfl (call_fn (vs := [.slice mA m.length mC, .string (ba x3.Material)]) rfl rfl rfl Try.call70) (R_ref4_materialOf m x3.Material _ mA mC ((Ag.args _ _ _).view hv_m hs) _ h) (fun v a w' hf hr => ?_)
        obtain ⟨y2, rfl, h2, hs2⟩ := hr
        replace h := h2; replace hs := hs.call hs2; clear h2 hs2
        refine R.nil ?_
        refine X.then_ ?_
        refine ⟨hs, ?_⟩
        refine H.val hf hs (v := .int .i64 y2.Kind) (i := 23) rfl rfl rfl rfl (by kernel_rfl) (by kernel_rfl) (by kernel_rfl) (V.field rfl rfl Try.runUnderlying37 rfl (fun w => part_leaf Try.isAgg3 rfl)) (fun a hf => ?_)
        refine H.val hf hs (v := .bool (y2.Kind == 2)) (i := 24) rfl rfl rfl rfl (by kernel_rfl) (by kernel_rfl) (by kernel_rfl) (V.pure rfl) (fun a hf => ?_)
        refine H.val hf hs (v := .bool (y2.Kind == 2)) (i := 25) rfl rfl rfl rfl (by kernel_rfl) (by kernel_rfl) (by kernel_rfl) (V.pure rfl) (fun a hf => ?_)
        refine H.done (by kernel_rfl) ?_
        refine X.then_ ?_
        exact ⟨(y2.Kind == 2), h, (((((((hf.nil.cons (hf.get 51 _ rfl)).cons (hf.get 9 _ rfl)).cons (hf.get 8 _ rfl)).cons (hf.get 7 _ rfl)).cons (hf.get 2 _ rfl)).cons (hf.get 1 _ rfl)).cons (hf.get 0 _ rfl)), hs⟩
      · replace h := h.2 hc
        refine H.skip hf hs (i := 12) rfl rfl rfl rfl (by kernel_rfl) (by kernel_rfl) (by kernel_rfl) (fun a hf => ?_)
        refine H.skip hf hs (i := 13) rfl rfl rfl rfl (by kernel_rfl) (by kernel_rfl) (by kernel_rfl) (fun a hf => ?_)
        refine H.skip hf hs (i := 14) rfl rfl rfl rfl (by kernel_rfl) (by kernel_rfl) (by kernel_rfl) (fun a hf => ?_)
        refine H.skip hf hs (i := 15) rfl rfl rfl rfl (by kernel_rfl) (by kernel_rfl) (by kernel_rfl) (fun a hf => ?_)
        refine H.skip hf hs (i := 16) rfl rfl rfl rfl (by kernel_rfl) (by kernel_rfl) (by kernel_rfl) (fun a hf => ?_)
        refine H.skip hf hs (i := 17) rfl rfl rfl rfl (by kernel_rfl) (by kernel_rfl) (by kernel_rfl) (fun a hf => ?_)
        refine H.skip hf hs (i := 18) rfl rfl rfl rfl (by kernel_rfl) (by kernel_rfl) (by kernel_rfl) (fun a hf => ?_)
        refine H.skip hf hs (i := 19) rfl rfl rfl rfl (by kernel_rfl) (by kernel_rfl) (by kernel_rfl) (fun a hf => ?_)
        refine H.skip hf hs (i := 20) rfl rfl rfl rfl (by kernel_rfl) (by kernel_rfl) (by kernel_rfl) (fun a hf => ?_)
        refine H.skip hf hs (i := 21) rfl rfl rfl rfl (by kernel_rfl) (by kernel_rfl) (by kernel_rfl) (fun a hf => ?_)
        refine H.one (i := 22) rfl (by kernel_rfl) ?_
        refine S.skip hf rfl rfl rfl (fun a hf => ?_)
        refine R.nil ?_
        refine X.then_ ?_
        refine ⟨hs, ?_⟩
        refine H.skip hf hs (i := 23) rfl rfl rfl rfl (by kernel_rfl) (by kernel_rfl) (by kernel_rfl) (fun a hf => ?_)
        refine H.skip hf hs (i := 24) rfl rfl rfl rfl (by kernel_rfl) (by kernel_rfl) (by kernel_rfl) (fun a hf => ?_)
        refine H.val hf hs (v := .bool false) (i := 25) rfl rfl rfl rfl (by kernel_rfl) (by kernel_rfl) (by kernel_rfl) (V.pure rfl) (fun a hf => ?_)
        refine H.done (by kernel_rfl) ?_
        refine X.then_ ?_
        exact ⟨false, h, (((((((hf.nil.cons (hf.get 51 _ rfl)).cons (hf.get 9 _ rfl)).cons (hf.get 8 _ rfl)).cons (hf.get 7 _ rfl)).cons (hf.get 2 _ rfl)).cons (hf.get 1 _ rfl)).cons (hf.get 0 _ rfl)), hs⟩
  · replace h := h.2 hc
    refine wp_exit ?_
    refine X.then_exit ?_
    refine X.then_exit ?_
    refine X.blk_exit ?_
    refine X.then_ ?_
    refine wp_seq ?_
    refine R.list ?_
    refine S.val hf hs (v := .slice l2A l2.length l2C) rfl rfl rfl (V.pure rfl) (fun a hf => ?_)
    refine S.val hf hs (v := .int .i64 (l2.length : Int)) rfl rfl rfl (V.len rfl rfl Try.runUnderlying110) (fun a hf => ?_)
    refine S.val hf hs (v := .int .i64 (l2.length : Int)) rfl rfl rfl (V.pure rfl) (fun a hf => ?_)
    refine R.nil ?_
    refine X.then_ ?_
    refine wp_seq ?_
    refine wp_seq ?_
    refine R.list ?_
    refine S.val hf hs (v := .slice lA l.length lC) rfl rfl rfl (V.pure rfl) (fun a hf => ?_)
    refine S.call hf rfl rfl rfl (call_fn (vs := [.slice lA l.length lC]) rfl rfl rfl Try.call80) (R_clone_thr l _ lA lC ((Ag.args _ _ _).view hv_l hs) _ h) (fun v a w' hf hr => ?_)
    obtain ⟨y3, y3A, y3C, rfl, h2, hs2⟩ := hr
    replace h := h2; replace hs := hs.call hs2; clear h2 hs2
    refine S.val hf hs (v := .slice y1A y1.length y1C) rfl rfl rfl (V.pure rfl) (fun a hf => ?_)
    refine S.val hf hs (v := .int .i64 (y1.length : Int)) rfl rfl rfl (V.len rfl rfl Try.runUnderlying43) (fun a hf => ?_)
    refine S.val hf hs (v := .agg #[.int .i64 1, .int .i64 (y1.length : Int)]) rfl rfl rfl (V.build (places := #[(0, 1), (1, 1)]) rfl Try.zeroValue59 Try.runUnderlying59 (by intro w; simp [Try.sizeOf3]) rfl rfl) (fun a hf => ?_)
    refine S.build1 hf hs rfl rfl rfl (α := Through) (⟨1, (y1.length : Int)⟩ : Through) rfl rfl rfl Try.runUnderlying52 Try.sizeOf59 Try.zeroValue59 rfl (by decide) (fun A3 a w hf hs => ?_)
    obtain ⟨hroom, h⟩ := h
    refine S.appendCells 1 hf hs rfl rfl rfl rfl rfl rfl rfl Try.underlying52 info59 rfl hroom ((hs.ownView 0 rfl).some_ (i := 0) (by simp)) (hs.ownView 0 rfl) (fun A4 C2 a w hf hs => ?_)
    replace hs := hs.drop
    refine S.val hf hs (v := .int .i64 ((y3 ++ [(⟨1, (y1.length : Int)⟩ : Through)]).length : Int)) rfl rfl rfl (V.len rfl rfl Try.runUnderlying52) (fun a hf => ?_)
    refine S.val hf hs (v := .int .i64 0) rfl rfl rfl (V.pure rfl) (fun a hf => ?_)
    refine R.nil ?_
    refine X.then_ ?_
    refine wp_block ?_
    replace hs := hs.front 1 rfl
    replace hs := hs.take 2
    have hlenk3 := (hs.ownView 1 rfl).len64
    refine C.range (fun (ll : List Through) a w => ∃ (k3 : Nat) (l4 : List R4Sub) (l4A : Option Addr) (l4C : Nat), (y3 ++ [(⟨1, (y1.length : Int)⟩ : Through)]).drop k3 = ll ∧ k3 + ll.length = (y3 ++ [(⟨1, (y1.length : Int)⟩ : Through)]).length ∧ forIn' (fun k x (s : List R4Sub) next => M_ref4_subs_L2 l2 k x s (fun l4 => next l4)) (fun (s : List R4Sub) => (fun (l4 : List R4Sub) => Q l4) s) ll k3 l4 ∧ FrOk 114 [(70, .int .i64 (k3 : Int)), (7, .slice l4A l4.length l4C), (10, .int .i64 (l2.length : Int)), (68, .slice A4 (y3 ++ [(⟨1, (y1.length : Int)⟩ : Through)]).length C2), (69, .int .i64 ((y3 ++ [(⟨1, (y1.length : Int)⟩ : Through)]).length : Int))] a ∧ Sat w0 none_ [hown 113 l4A l4C l4, hown 59 A4 C2 (y3 ++ [(⟨1, (y1.length : Int)⟩ : Through)])] w) (y3 ++ [(⟨1, (y1.length : Int)⟩ : Through)]) ⟨0, l2, l2A, l2C, rfl, Nat.zero_add _, h, (((((hf.nil.cons (hf.get 69 _ rfl)).cons (hf.get 68 _ rfl)).cons (hf.get 10 _ rfl)).cons (hf.get 7 _ rfl)).cons (hf.get 70 _ rfl)), hs⟩ ?_
    clear h hf hs
    rintro llk3 a w ⟨k3, l4, l4A, l4C, hlk3, hkk3, h, hf, hs⟩
    cases llk3 with
    | nil =>
      have hc := range_done hkk3
      replace h : (fun (l4 : List R4Sub) => Q l4) l4 := h
      refine wp_seq ?_
      refine R.list ?_
      refine S.val hf hs (v := .bool false) rfl rfl rfl (V.cmp false rfl rfl rfl rfl hc) (fun a hf => ?_)
      refine R.nil ?_
      refine X.then_ ?_
      refine wp_seq ?_
      refine C.no hf rfl ?_
      refine wp_exit ?_
      refine X.then_exit ?_
      refine X.then_exit ?_
      refine X.blk_exit ?_
      refine X.then_ ?_
      refine wp_seq ?_
      refine R.list ?_
      refine S.val hf hs (v := .slice l4A l4.length l4C) rfl rfl rfl (V.pure rfl) (fun a hf => ?_)
      refine S.val hf hs (v := .slice l4A l4.length l4C) rfl rfl rfl (V.pure rfl) (fun a hf => ?_)
      refine R.nil ?_
      refine X.then_ ?_
      refine wp_ret ?_
      replace hs := hs.take 1
      exact L.ret hf (run_results1 Try.results85 (ResIs.tmp hf rfl)) ⟨l4, l4A, l4C, rfl, h, hs⟩
    | cons xk3 llk3 =>
      have hltk3 := range_lt hkk3; have hc := range_go hkk3; have hxk3 := range_get hlk3
      obtain ⟨next2, hnext2⟩ : ∃ X : List R4Sub → Prop, X = (fun l4 => forIn' (fun k x (s : List R4Sub) next => M_ref4_subs_L2 l2 k x s (fun l4 => next l4)) (fun (s : List R4Sub) => (fun (l4 : List R4Sub) => Q l4) s) llk3 (k3 + 1) l4) := ⟨_, rfl⟩
      replace h : M_ref4_subs_L2 l2 k3 xk3 l4 next2 := by rw [hnext2]; exact h
      unfold M_ref4_subs_L2 at h
      refine wp_seq ?_
      refine R.list ?_
      refine S.val hf hs (v := .bool true) rfl rfl rfl (V.cmp true rfl rfl rfl rfl hc) (fun a hf => ?_)
      refine R.nil ?_
      refine X.then_ ?_
      refine wp_seq ?_
      refine C.yes hf rfl ?_
      refine wp_skip ?_
      refine X.then_ ?_
      refine wp_seq ?_
      refine wp_block ?_
      refine wp_seq ?_
      refine R.list ?_
      refine S.val hf hs (v := elemPtr A4 (k3 * 2)) rfl rfl rfl (V.index rfl rfl rfl Try.runUnderlying52 Try.sizeOf59 (hs.ownSome 1 rfl (lt_of_get hxk3)) (Int.natCast_nonneg _) (lt_of_get hxk3) rfl) (fun a hf => ?_)
      refine S.val hf hs (v := .agg #[.int .i64 xk3.From, .int .i64 xk3.To]) rfl rfl rfl (V.loadOwn (off := 0) 1 rfl hxk3 rfl rfl rfl Try.isAgg59 Try.sizeOf59 rfl rfl) (fun a hf => ?_)
      refine S.alloc hf hs rfl rfl rfl [.int .i64 0, .int .i64 0] rfl Try.zeroValue59 rfl (fun g1 a w hf hs => ?_)
      refine S.storeBox 0 hf hs rfl rfl [.int .i64 xk3.From, .int .i64 xk3.To] [.int .i64 xk3.From, .int .i64 xk3.To] rfl rfl rfl rfl rfl Try.sizeOf59 rfl rfl rfl rfl (fun a w hf hs => ?_)
      refine R.nil ?_
      refine X.then_ ?_
      refine wp_seq ?_
      refine R.list ?_
      refine S.val hf hs (v := .bool false) rfl rfl rfl (V.pure rfl) (fun a hf => ?_)
      refine R.nil ?_
      refine X.then_ ?_
      refine wp_seq ?_
      refine wp_seq ?_
      refine R.list ?_
      refine S.val hf hs (v := .slice l4A l4.length l4C) rfl rfl rfl (V.pure rfl) (fun a hf => ?_)
      refine S.val hf hs (v := .int .i64 (l4.length : Int)) rfl rfl rfl (V.len rfl rfl Try.runUnderlying110) (fun a hf => ?_)
      refine S.val hf hs (v := .int .i64 0) rfl rfl rfl (V.pure rfl) (fun a hf => ?_)
      refine R.nil ?_
      refine X.then_ ?_
      refine wp_block ?_
      have hlenk4 := (hs.ownView 1 rfl).len64
      refine C.range (fun (ll : List R4Sub) a w => ∃ (k4 : Nat) (c3 : Bool), l4.drop k4 = ll ∧ k4 + ll.length = l4.length ∧ forIn' (fun k x (s : Bool) next => M_ref4_subs_L3 xk3 k x s (fun c3 => next c3)) (fun (s : Bool) => (fun (c3 : Bool) => cnd c3 (next2 l4) (lp (fun again (s : Int) => M_ref4_subs_L4 l2 xk3 l4 next2 (fun n4 => again n4) s) (l4.length : Int))) s) ll k4 c3 ∧ FrOk 114 [(76, .int .i64 (k4 : Int)), (7, .slice l4A l4.length l4C), (10, .int .i64 (l2.length : Int)), (12, .pointer (some ⟨g1, 0, none⟩)), (13, .bool c3), (68, .slice A4 (y3 ++ [(⟨1, (y1.length : Int)⟩ : Through)]).length C2), (69, .int .i64 ((y3 ++ [(⟨1, (y1.length : Int)⟩ : Through)]).length : Int)), (70, .int .i64 (k3 : Int)), (74, .slice l4A l4.length l4C), (75, .int .i64 (l4.length : Int))] a ∧ Sat w0 none_ [hbox g1 59 [.int .i64 xk3.From, .int .i64 xk3.To], hown 113 l4A l4C l4, hown 59 A4 C2 (y3 ++ [(⟨1, (y1.length : Int)⟩ : Through)])] w) l4 ⟨0, false, rfl, Nat.zero_add _, h, ((((((((((hf.nil.cons (hf.get 75 _ rfl)).cons (hf.get 74 _ rfl)).cons (hf.get 70 _ rfl)).cons (hf.get 69 _ rfl)).cons (hf.get 68 _ rfl)).cons (hf.get 13 _ rfl)).cons (hf.get 12 _ rfl)).cons (hf.get 10 _ rfl)).cons (hf.get 7 _ rfl)).cons (hf.get 76 _ rfl)), hs⟩ ?_
      clear h hf hs
      rintro llk4 a w ⟨k4, c3, hlk4, hkk4, h, hf, hs⟩
      cases llk4 with
      | nil =>
        have hc := range_done hkk4
        replace h : (fun (c3 : Bool) => cnd c3 (next2 l4) (lp (fun again (s : Int) => M_ref4_subs_L4 l2 xk3 l4 next2 (fun n4 => again n4) s) (l4.length : Int))) c3 := h
        refine wp_seq ?_
        refine R.list ?_
        refine S.val hf hs (v := .bool false) rfl rfl rfl (V.cmp false rfl rfl rfl rfl hc) (fun a hf => ?_)
        refine R.nil ?_
        refine X.then_ ?_
        refine wp_seq ?_
        refine C.no hf rfl ?_
        refine wp_exit ?_
        refine X.then_exit ?_
        refine X.then_exit ?_
        refine X.blk_exit ?_
        refine X.then_ ?_
        refine wp_seq ?_
        refine wp_seq ?_
        refine R.list ?_
        refine S.val hf hs (v := .bool c3) rfl rfl rfl (V.pure rfl) (fun a hf => ?_)
        refine R.nil ?_
        refine X.then_ ?_
        refine C.cond hf (b := c3) rfl (fun hc => ?_) (fun hc => ?_)
        · replace h := h.1 hc
          refine wp_exit ?_
          refine X.then_exit ?_
          refine X.blk_exit ?_
          refine X.then_ ?_
          refine R.list ?_
          refine S.val hf hs (v := .int .i64 ((k3 + 1 : Nat) : Int)) rfl rfl rfl (V.incr rfl rfl rfl hltk3 hlenk3) (fun a hf => ?_)
          refine S.val hf hs (v := .int .i64 ((k3 + 1 : Nat) : Int)) rfl rfl rfl (V.pure rfl) (fun a hf => ?_)
          refine R.nil ?_
          refine X.then_ ?_
          replace hs := hs.front 2 rfl
          replace hs := hs.front 2 rfl
          replace hs := hs.take 2
          exact ⟨xk3, llk3, rfl, k3 + 1, l4, l4A, l4C, range_drop hlk3, range_len hkk3, (by rw [hnext2] at h; exact h), (((((hf.nil.cons (hf.get 69 _ rfl)).cons (hf.get 68 _ rfl)).cons (hf.get 10 _ rfl)).cons (hf.get 7 _ rfl)).cons (hf.get 70 _ rfl)), hs⟩
        · replace h := h.2 hc
          refine wp_skip ?_
          refine X.then_ ?_
          refine wp_seq ?_
          refine R.list ?_
          refine S.val hf hs (v := .slice l4A l4.length l4C) rfl rfl rfl (V.pure rfl) (fun a hf => ?_)
          refine S.val hf hs (v := .int .i64 (l4.length : Int)) rfl rfl rfl (V.len rfl rfl Try.runUnderlying110) (fun a hf => ?_)
          refine S.val hf hs (v := .int .i64 (l4.length : Int)) rfl rfl rfl (V.pure rfl) (fun a hf => ?_)
          refine R.nil ?_
          refine X.then_ ?_
          refine wp_seq ?_
          refine wp_block ?_
          obtain ⟨kk, h⟩ := h
          refine C.loop (fun kk a w => ∃ (n4 : Int), iterF (fun again (s : Int) => M_ref4_subs_L4 l2 xk3 l4 next2 (fun n4 => again n4) s) kk n4 ∧ FrOk 114 [(7, .slice l4A l4.length l4C), (10, .int .i64 (l2.length : Int)), (12, .pointer (some ⟨g1, 0, none⟩)), (16, .int .i64 n4), (68, .slice A4 (y3 ++ [(⟨1, (y1.length : Int)⟩ : Through)]).length C2), (69, .int .i64 ((y3 ++ [(⟨1, (y1.length : Int)⟩ : Through)]).length : Int)), (70, .int .i64 (k3 : Int))] a ∧ Sat w0 none_ [hbox g1 59 [.int .i64 xk3.From, .int .i64 xk3.To], hown 113 l4A l4C l4, hown 59 A4 C2 (y3 ++ [(⟨1, (y1.length : Int)⟩ : Through)])] w) kk ⟨(l4.length : Int), h, (((((((hf.nil.cons (hf.get 70 _ rfl)).cons (hf.get 69 _ rfl)).cons (hf.get 68 _ rfl)).cons (hf.get 16 _ rfl)).cons (hf.get 12 _ rfl)).cons (hf.get 10 _ rfl)).cons (hf.get 7 _ rfl)), hs⟩ (fun a w ⟨_, h, _, _⟩ => h) ?_
          clear h hf hs
          rintro kk a w ⟨n4, h, hf, hs⟩
          obtain ⟨again4, hagain4⟩ : ∃ X : Int → Prop, X = (fun n4 => iterF (fun again (s : Int) => M_ref4_subs_L4 l2 xk3 l4 next2 (fun n4 => again n4) s) kk n4) := ⟨_, rfl⟩
          replace h : M_ref4_subs_L4 l2 xk3 l4 next2 again4 n4 := by rw [hagain4]; exact h
          unfold M_ref4_subs_L4 at h
          refine wp_seq ?_
          refine wp_seq ?_
          refine C.cut (J := fun a w => ∃ (c4 : Bool), M_ref4_subs_k6 xk3 l4 next2 n4 again4 c4 ∧ FrOk 114 [(7, .slice l4A l4.length l4C), (10, .int .i64 (l2.length : Int)), (12, .pointer (some ⟨g1, 0, none⟩)), (16, .int .i64 n4), (68, .slice A4 (y3 ++ [(⟨1, (y1.length : Int)⟩ : Through)]).length C2), (69, .int .i64 ((y3 ++ [(⟨1, (y1.length : Int)⟩ : Through)]).length : Int)), (70, .int .i64 (k3 : Int)), (103, .bool c4)] a ∧ Sat w0 none_ [hbox g1 59 [.int .i64 xk3.From, .int .i64 xk3.To], hown 113 l4A l4C l4, hown 59 A4 C2 (y3 ++ [(⟨1, (y1.length : Int)⟩ : Through)])] w) ?_ ?_
          · rintro a w ⟨c4, h, hf, hs⟩
            unfold M_ref4_subs_k6 at h
            refine C.cond hf (b := c4) rfl (fun hc => ?_) (fun hc => ?_)
            · replace h := h.1 hc
              refine wp_skip ?_
              refine X.then_ ?_
              refine wp_block ?_
              refine R.list ?_
              refine S.val hf hs (v := .int .i64 n4) rfl rfl rfl (V.pure rfl) (fun a hf => ?_)
              refine S.val hf hs (v := .int .i64 (w64 (n4 - 1))) rfl rfl rfl (V.pure rfl) (fun a hf => ?_)
              refine S.val hf hs (v := .int .i64 (w64 (n4 - 1))) rfl rfl rfl (V.pure rfl) (fun a hf => ?_)
              refine R.nil ?_
              refine X.blk ?_
              refine X.then_ ?_
              exact ⟨(w64 (n4 - 1)), (by rw [hagain4] at h; exact h), (((((((hf.nil.cons (hf.get 70 _ rfl)).cons (hf.get 69 _ rfl)).cons (hf.get 68 _ rfl)).cons (hf.get 16 _ rfl)).cons (hf.get 12 _ rfl)).cons (hf.get 10 _ rfl)).cons (hf.get 7 _ rfl)), hs⟩
            · replace h := h.2 hc
              refine wp_exit ?_
              refine X.then_exit ?_
              refine X.then_exit ?_
              refine X.blk_exit ?_
              refine X.then_ ?_
              refine R.list ?_
              refine S.val hf hs (v := .slice l4A l4.length l4C) rfl rfl rfl (V.pure rfl) (fun a hf => ?_)
              refine S.val hf hs (v := .int .i64 n4) rfl rfl rfl (V.pure rfl) (fun a hf => ?_)
              refine S.val hf hs (v := .agg #[.int .i64 xk3.From, .int .i64 xk3.To]) rfl rfl rfl (V.loadBox 0 rfl rfl rfl Try.isAgg59 Try.sizeOf59 rfl rfl) (fun a hf => ?_)
              refine S.val hf hs (v := .agg #[.int .i64 xk3.From, .int .i64 xk3.To, .bool false]) rfl rfl rfl (V.build (places := #[(0, 2), (2, 1)]) rfl Try.zeroValue113 Try.runUnderlying113 (by intro w; simp [Try.sizeOf4, Try.sizeOf59]) rfl rfl) (fun a hf => ?_)
              refine S.build1 hf hs rfl rfl rfl (α := R4Sub) (⟨xk3, false⟩ : R4Sub) rfl rfl rfl Try.runUnderlying110 Try.sizeOf113 Try.zeroValue113 rfl (by decide) (fun A5 a w hf hs => ?_)
              replace hs := hs.front 2 rfl
              obtain ⟨F1, hsF, hback, hold, hrest⟩ := Sat.callOwns [hown 113 l4A l4C l4, hown 113 A5 1 [(⟨xk3, false⟩ : R4Sub)]] (σ := [hbox g1 59 [.int .i64 xk3.From, .int .i64 xk3.To], hown 59 A4 C2 (y3 ++ [(⟨1, (y1.length : Int)⟩ : Through)])]) hs
              refine S.call hf rfl rfl rfl (call_fn (vs := [.slice l4A l4.length l4C, .int .i64 n4, .slice A5 [(⟨xk3, false⟩ : R4Sub)].length 1]) rfl rfl rfl Try.call107) (R_insert_sub l4 n4 [(⟨xk3, false⟩ : R4Sub)] _ _ l4A l4C A5 1 hsF _ h) (fun v a w' hf hr => ?_)
              obtain ⟨y4, y4A, y4C, z1, hl_z1, rfl, h2, hs2⟩ := hr
              replace h := h2; replace hs := hback _ _ hs2; clear h2 hs2 hback hold hrest hsF
              replace hf := hf.tell 110 (v := .slice A5 z1.length 1) ((hf.get 110 (.slice A5 [(⟨xk3, false⟩ : R4Sub)].length 1) rfl).trans (congrArg (fun n => Value.slice A5 n 1) hl_z1.symm))
              refine S.val hf hs (v := .slice y4A y4.length y4C) rfl rfl rfl (V.pure rfl) (fun a hf => ?_)
              refine R.nil ?_
              refine X.blk ?_
              refine X.then_ ?_
              refine R.list ?_
              refine S.val hf hs (v := .int .i64 ((k3 + 1 : Nat) : Int)) rfl rfl rfl (V.incr rfl rfl rfl hltk3 hlenk3) (fun a hf => ?_)
              refine S.val hf hs (v := .int .i64 ((k3 + 1 : Nat) : Int)) rfl rfl rfl (V.pure rfl) (fun a hf => ?_)
              refine R.nil ?_
              refine X.then_ ?_
              replace hs := hs.front 3 rfl
              replace hs := hs.front 1 rfl
              replace hs := hs.take 2
              exact ⟨xk3, llk3, rfl, k3 + 1, y4, y4A, y4C, range_drop hlk3, range_len hkk3, (by rw [hnext2] at h; exact h), (((((hf.nil.cons (hf.get 69 _ rfl)).cons (hf.get 68 _ rfl)).cons (hf.get 10 _ rfl)).cons (hf.get 7 _ rfl)).cons (hf.get 70 _ rfl)), hs⟩
          · skip
            refine H.start (S := Sat w0 none_ [hbox g1 59 [.int .i64 xk3.From, .int .i64 xk3.To], hown 113 l4A l4C l4, hown 59 A4 C2 (y3 ++ [(⟨1, (y1.length : Int)⟩ : Through)])]) mo ?_
            replace hs := hs.drew
            refine H.val hf hs (v := .int .i64 n4) (i := 0) rfl rfl rfl rfl (by kernel_rfl) (by kernel_rfl) (by kernel_rfl) (V.pure rfl) (fun a hf => ?_)
            refine H.val hf hs (v := .int .i64 (l2.length : Int)) (i := 1) rfl rfl rfl rfl (by kernel_rfl) (by kernel_rfl) (by kernel_rfl) (V.pure rfl) (fun a hf => ?_)
            refine H.val hf hs (v := .bool (decide (n4 > (l2.length : Int)))) (i := 2) rfl rfl rfl rfl (by kernel_rfl) (by kernel_rfl) (by kernel_rfl) (V.pure rfl) (fun a hf => ?_)
            refine H.split hf hs (b := decide (n4 > (l2.length : Int))) (i := 3) rfl rfl rfl rfl (by kernel_rfl) (by kernel_rfl) (by kernel_rfl) (V.pure rfl) (fun hc a hf => ?_) (fun hc a hf => ?_)
            · replace h := h.1 hc
              refine H.val hf hs (v := .agg #[.int .i64 xk3.From, .int .i64 xk3.To]) (i := 4) rfl rfl rfl rfl (by kernel_rfl) (by kernel_rfl) (by kernel_rfl) (V.loadBox 0 rfl rfl rfl Try.isAgg59 Try.sizeOf59 rfl rfl) (fun a hf => ?_)
              refine H.val hf hs (v := .slice l4A l4.length l4C) (i := 5) rfl rfl rfl rfl (by kernel_rfl) (by kernel_rfl) (by kernel_rfl) (V.pure rfl) (fun a hf => ?_)
              refine H.val hf hs (v := .int .i64 n4) (i := 6) rfl rfl rfl rfl (by kernel_rfl) (by kernel_rfl) (by kernel_rfl) (V.pure rfl) (fun a hf => ?_)
              refine H.val hf hs (v := .int .i64 (w64 (n4 - 1))) (i := 7) rfl rfl rfl rfl (by kernel_rfl) (by kernel_rfl) (by kernel_rfl) (V.pure rfl) (fun a hf => ?_)
              obtain ⟨h0x4, x4, hx4, h⟩ := h
              refine H.val hf hs (v := elemPtr l4A ((w64 (n4 - 1)).toNat * 3)) (i := 8) rfl rfl rfl rfl (by kernel_rfl) (by kernel_rfl) (by kernel_rfl) (V.index rfl rfl rfl Try.runUnderlying110 Try.sizeOf113 (hs.ownSome 1 rfl (lt_of_get hx4)) h0x4 (lt_of_get hx4) rfl) (fun a hf => ?_)
              refine H.val hf hs (v := elemPtr l4A ((w64 (n4 - 1)).toNat * 3)) (i := 9) rfl rfl rfl rfl (by kernel_rfl) (by kernel_rfl) (by kernel_rfl) (V.fieldEl rfl rfl (hs.ownSome 1 rfl (lt_of_get hx4)) Try.runUnderlying113 rfl Try.sizeOf59 rfl rfl) (fun a hf => ?_)
              refine H.val hf hs (v := .agg #[.int .i64 x4.Through.From, .int .i64 x4.Through.To]) (i := 10) rfl rfl rfl rfl (by kernel_rfl) (by kernel_rfl) (by kernel_rfl) (V.loadOwn (off := 0) 1 rfl hx4 rfl rfl rfl Try.isAgg59 Try.sizeOf59 rfl rfl) (fun a hf => ?_)
              refine H.one (i := 11) rfl (by kernel_rfl) ?_
              refine S.call hf rfl rfl rfl (call_fn (vs := [.agg #[.int .i64 xk3.From, .int .i64 xk3.To], .agg #[.int .i64 x4.Through.From, .int .i64 x4.Through.To]]) rfl rfl rfl Try.call106) (R_ref4_earlier xk3 x4.Through _  _ h) (fun v a w' hf hr => ?_)
              obtain ⟨y5, rfl, h2, hs2⟩ := hr
              replace h := h2; replace hs := hs.call hs2; clear h2 hs2
              refine R.nil ?_
              refine X.then_ ?_
              refine ⟨hs, ?_⟩
              refine H.val hf hs (v := .bool y5) (i := 12) rfl rfl rfl rfl (by kernel_rfl) (by kernel_rfl) (by kernel_rfl) (V.pure rfl) (fun a hf => ?_)
              refine H.done (by kernel_rfl) ?_
              refine X.then_ ?_
              exact ⟨y5, h, ((((((((hf.nil.cons (hf.get 103 _ rfl)).cons (hf.get 70 _ rfl)).cons (hf.get 69 _ rfl)).cons (hf.get 68 _ rfl)).cons (hf.get 16 _ rfl)).cons (hf.get 12 _ rfl)).cons (hf.get 10 _ rfl)).cons (hf.get 7 _ rfl)), hs⟩
            · replace h := h.2 hc
              refine H.skip hf hs (i := 4) rfl rfl rfl rfl (by kernel_rfl) (by kernel_rfl) (by kernel_rfl) (fun a hf => ?_)
              refine H.skip hf hs (i := 5) rfl rfl rfl rfl (by kernel_rfl) (by kernel_rfl) (by kernel_rfl) (fun a hf => ?_)
              refine H.skip hf hs (i := 6) rfl rfl rfl rfl (by kernel_rfl) (by kernel_rfl) (by kernel_rfl) (fun a hf => ?_)
              refine H.skip hf hs (i := 7) rfl rfl rfl rfl (by kernel_rfl) (by kernel_rfl) (by kernel_rfl) (fun a hf => ?_)
              refine H.skip hf hs (i := 8) rfl rfl rfl rfl (by kernel_rfl) (by kernel_rfl) (by kernel_rfl) (fun a hf => ?_)
              refine H.skip hf hs (i := 9) rfl rfl rfl rfl (by kernel_rfl) (by kernel_rfl) (by kernel_rfl) (fun a hf => ?_)
              refine H.skip hf hs (i := 10) rfl rfl rfl rfl (by kernel_rfl) (by kernel_rfl) (by kernel_rfl) (fun a hf => ?_)
              refine H.one (i := 11) rfl (by kernel_rfl) ?_
              refine S.skip hf rfl rfl rfl (fun a hf => ?_)
              refine R.nil ?_
              refine X.then_ ?_
              refine ⟨hs, ?_⟩
              refine H.val hf hs (v := .bool false) (i := 12) rfl rfl rfl rfl (by kernel_rfl) (by kernel_rfl) (by kernel_rfl) (V.pure rfl) (fun a hf => ?_)
              refine H.done (by kernel_rfl) ?_
              refine X.then_ ?_
              exact ⟨false, h, ((((((((hf.nil.cons (hf.get 103 _ rfl)).cons (hf.get 70 _ rfl)).cons (hf.get 69 _ rfl)).cons (hf.get 68 _ rfl)).cons (hf.get 16 _ rfl)).cons (hf.get 12 _ rfl)).cons (hf.get 10 _ rfl)).cons (hf.get 7 _ rfl)), hs⟩
      | cons xk4 llk4 =>
        have hltk4 := range_lt hkk4; have hc := range_go hkk4; have hxk4 := range_get hlk4
        obtain ⟨next3, hnext3⟩ : ∃ X : Bool → Prop, X = (fun c3 => forIn' (fun k x (s : Bool) next => M_ref4_subs_L3 xk3 k x s (fun c3 => next c3)) (fun (s : Bool) => (fun (c3 : Bool) => cnd c3 (next2 l4) (lp (fun again (s : Int) => M_ref4_subs_L4 l2 xk3 l4 next2 (fun n4 => again n4) s) (l4.length : Int))) s) llk4 (k4 + 1) c3) := ⟨_, rfl⟩
        replace h : M_ref4_subs_L3 xk3 k4 xk4 c3 next3 := by rw [hnext3]; exact h
        unfold M_ref4_subs_L3 at h
        refine wp_seq ?_
        refine R.list ?_
        refine S.val hf hs (v := .bool true) rfl rfl rfl (V.cmp true rfl rfl rfl rfl hc) (fun a hf => ?_)
        refine R.nil ?_
        refine X.then_ ?_
        refine wp_seq ?_
        refine C.yes hf rfl ?_
        refine wp_skip ?_
        refine X.then_ ?_
        refine wp_seq ?_
        refine wp_block ?_
        refine wp_seq ?_
        refine R.list ?_
        refine S.val hf hs (v := elemPtr l4A (k4 * 3)) rfl rfl rfl (V.index rfl rfl rfl Try.runUnderlying110 Try.sizeOf113 (hs.ownSome 1 rfl (lt_of_get hxk4)) (Int.natCast_nonneg _) (lt_of_get hxk4) rfl) (fun a hf => ?_)
        refine S.val hf hs (v := .agg #[.int .i64 xk4.Through.From, .int .i64 xk4.Through.To, .bool xk4.core]) rfl rfl rfl (V.loadOwn (off := 0) 1 rfl hxk4 rfl rfl rfl Try.isAgg113 Try.sizeOf113 rfl rfl) (fun a hf => ?_)
        refine S.alloc hf hs rfl rfl rfl [.int .i64 0, .int .i64 0, .bool false] rfl Try.zeroValue113 rfl (fun g2 a w hf hs => ?_)
        refine S.storeBox 0 hf hs rfl rfl [.int .i64 xk4.Through.From, .int .i64 xk4.Through.To, .bool xk4.core] [.int .i64 xk4.Through.From, .int .i64 xk4.Through.To, .bool xk4.core] rfl rfl rfl rfl rfl Try.sizeOf113 rfl rfl rfl rfl (fun a w hf hs => ?_)
        refine R.nil ?_
        refine X.then_ ?_
        refine R.list ?_
        refine S.val hf hs (v := .bool c3) rfl rfl rfl (V.pure rfl) (fun a hf => ?_)
        refine S.split hf hs (b := c3) rfl rfl rfl (V.pure rfl) (fun hc a hf => ?_) (fun hc a hf => ?_)
        · replace h := h.1 hc
          refine S.skip hf rfl rfl rfl (fun a hf => ?_)
          refine S.skip hf rfl rfl rfl (fun a hf => ?_)
          refine S.skip hf rfl rfl rfl (fun a hf => ?_)
          refine S.skip hf rfl rfl rfl (fun a hf => ?_)
          refine S.val hf hs (v := .bool true) rfl rfl rfl (V.pure rfl) (fun a hf => ?_)
          refine S.val hf hs (v := .bool true) rfl rfl rfl (V.pure rfl) (fun a hf => ?_)
          refine R.nil ?_
          refine X.blk ?_
          refine X.then_ ?_
          refine R.list ?_
          refine S.val hf hs (v := .int .i64 ((k4 + 1 : Nat) : Int)) rfl rfl rfl (V.incr rfl rfl rfl hltk4 hlenk4) (fun a hf => ?_)
          refine S.val hf hs (v := .int .i64 ((k4 + 1 : Nat) : Int)) rfl rfl rfl (V.pure rfl) (fun a hf => ?_)
          refine R.nil ?_
          refine X.then_ ?_
          exact ⟨xk4, llk4, rfl, k4 + 1, true, range_drop hlk4, range_len hkk4, (by rw [hnext3] at h; exact h), ((((((((((hf.nil.cons (hf.get 75 _ rfl)).cons (hf.get 74 _ rfl)).cons (hf.get 70 _ rfl)).cons (hf.get 69 _ rfl)).cons (hf.get 68 _ rfl)).cons (hf.get 13 _ rfl)).cons (hf.get 12 _ rfl)).cons (hf.get 10 _ rfl)).cons (hf.get 7 _ rfl)).cons (hf.get 76 _ rfl)), hs.drop⟩
        · replace h := h.2 hc
          refine S.val hf hs (v := .pointer (some ⟨g2, 0, none⟩)) rfl rfl rfl (V.fieldBox rfl rfl Try.runUnderlying113 rfl Try.sizeOf59 rfl rfl) (fun a hf => ?_)
          refine S.val hf hs (v := .agg #[.int .i64 xk4.Through.From, .int .i64 xk4.Through.To]) rfl rfl rfl (V.loadBox 0 rfl rfl rfl Try.isAgg59 Try.sizeOf59 rfl rfl) (fun a hf => ?_)
          refine S.val hf hs (v := .agg #[.int .i64 xk3.From, .int .i64 xk3.To]) rfl rfl rfl (V.loadBox 1 rfl rfl rfl Try.isAgg59 Try.sizeOf59 rfl rfl) (fun a hf => ?_)
          refine S.val hf hs (v := .bool (decide (xk4.Through = xk3))) rfl rfl rfl (V.aggeql rfl rfl rfl (by kernel_rfl) (fun w => eqS59 xk4.Through xk3 w)) (fun a hf => ?_)
          refine S.val hf hs (v := .bool (decide (xk4.Through = xk3))) rfl rfl rfl (V.pure rfl) (fun a hf => ?_)
          refine S.val hf hs (v := .bool (decide (xk4.Through = xk3))) rfl rfl rfl (V.pure rfl) (fun a hf => ?_)
          refine R.nil ?_
          refine X.blk ?_
          refine X.then_ ?_
          refine R.list ?_
          refine S.val hf hs (v := .int .i64 ((k4 + 1 : Nat) : Int)) rfl rfl rfl (V.incr rfl rfl rfl hltk4 hlenk4) (fun a hf => ?_)
          refine S.val hf hs (v := .int .i64 ((k4 + 1 : Nat) : Int)) rfl rfl rfl (V.pure rfl) (fun a hf => ?_)
          refine R.nil ?_
          refine X.then_ ?_
          exact ⟨xk4, llk4, rfl, k4 + 1, (decide (xk4.Through = xk3)), range_drop hlk4, range_len hkk4, (by rw [hnext3] at h; exact h), ((((((((((hf.nil.cons (hf.get 75 _ rfl)).cons (hf.get 74 _ rfl)).cons (hf.get 70 _ rfl)).cons (hf.get 69 _ rfl)).cons (hf.get 68 _ rfl)).cons (hf.get 13 _ rfl)).cons (hf.get 12 _ rfl)).cons (hf.get 10 _ rfl)).cons (hf.get 7 _ rfl)).cons (hf.get 76 _ rfl)), hs.drop⟩

set_option linter.unusedVariables false
def M_ref4_held_L2 (a_ : R4Sub) (n2 : Int) (k2 : Nat) (xk2 : R4Sub) (c2 : Bool) (next2 : Bool → Prop) : Prop :=
  cnd c2 (next2 true) (cnd (!(decide (xk2.Through = a_.Through))) (M_ref4_inside xk2.Through a_.Through fun y1 => cnd y1 (next2 (within n2 xk2.Through.From xk2.Through.To)) (next2 false)) (next2 false))
def M_ref4_held_L1 (all : (List R4Sub)) (a_ : R4Sub) (Q : Bool → Prop) (again1 : Int → Prop) (n2 : Int) : Prop :=
  cnd (decide (n2 < a_.Through.To)) (forIn' (fun k x (s : Bool) next => M_ref4_held_L2 a_ n2 k x s (fun c2 => next c2)) (fun (s : Bool) => (fun (c2 : Bool) => cnd (!c2) (Q false) (again1 (w64 (n2 + 1)))) s) all 0 false) (Q true)
def M_ref4_held (all : (List R4Sub)) (a_ : R4Sub) (Q : Bool → Prop) : Prop :=
  lp (fun again (s : Int) => M_ref4_held_L1 all a_ Q (fun n2 => again n2) s) (w64 (a_.Through.From + 1))
set_option maxHeartbeats 1000000 in
theorem R_ref4_held (all : (List R4Sub)) (a_ : R4Sub) (w0 : World) (allA : Option Addr) (allC : Nat) (hv_all : View w0 (old w0 none_) allA allC all) (Q : Bool → Prop) (h : M_ref4_held all a_ Q) :
    Ret Try.prog 87 #[.slice allA all.length allC, .agg #[.int .i64 a_.Through.From, .int .i64 a_.Through.To, .bool a_.core]] w0 fun v w' => ∃ (r0 : Bool), v = .bool r0 ∧ Q r0 ∧ Sat w0 none_ [] w' := by
  refine fn_enter Try.func87 rfl Try.ntmps87 rfl (fs := [(0, .slice allA all.length allC), (1, .agg #[.int .i64 a_.Through.From, .int .i64 a_.Through.To, .bool a_.core])]) rfl (fun a hf => ?_)
  have hs := Sat.start w0 none_
  unfold M_ref4_held at h
  refine wp_seq ?_
  refine R.list ?_
  refine S.box hf hs rfl rfl rfl [.int .i64 a_.Through.From, .int .i64 a_.Through.To, .bool a_.core] rfl rfl rfl (fun g1 a w hf hs => ?_)
  refine S.val hf hs (v := .bool false) rfl rfl rfl (V.pure rfl) (fun a hf => ?_)
  refine R.nil ?_
  refine X.then_ ?_
  refine wp_seq ?_
  refine wp_seq ?_
  refine R.list ?_
  refine S.val hf hs (v := .pointer (some ⟨g1, 0, none⟩)) rfl rfl rfl (V.fieldBox rfl rfl Try.runUnderlying113 rfl Try.sizeOf59 rfl rfl) (fun a hf => ?_)
  refine S.val hf hs (v := .pointer (some ⟨g1, 0, none⟩)) rfl rfl rfl (V.fieldBox rfl rfl Try.runUnderlying59 rfl Try.sizeOf3 rfl rfl) (fun a hf => ?_)
  refine S.val hf hs (v := .int .i64 a_.Through.From) rfl rfl rfl (V.loadBox 0 rfl rfl rfl Try.isAgg3 Try.sizeOf3 rfl rfl) (fun a hf => ?_)
  refine S.val hf hs (v := .int .i64 (w64 (a_.Through.From + 1))) rfl rfl rfl (V.pure rfl) (fun a hf => ?_)
  refine S.val hf hs (v := .int .i64 (w64 (a_.Through.From + 1))) rfl rfl rfl (V.pure rfl) (fun a hf => ?_)
  refine R.nil ?_
  refine X.then_ ?_
  refine wp_block ?_
  obtain ⟨kk, h⟩ := h
  refine C.loop (fun kk a w => ∃ (n2 : Int), iterF (fun again (s : Int) => M_ref4_held_L1 all a_ Q (fun n2 => again n2) s) kk n2 ∧ FrOk 54 [(0, .slice allA all.length allC), (3, .pointer (some ⟨g1, 0, none⟩)), (5, .int .i64 n2)] a ∧ Sat w0 none_ [hbox g1 113 [.int .i64 a_.Through.From, .int .i64 a_.Through.To, .bool a_.core]] w) kk ⟨(w64 (a_.Through.From + 1)), h, (((hf.nil.cons (hf.get 5 _ rfl)).cons (hf.get 3 _ rfl)).cons (hf.get 0 _ rfl)), hs⟩ (fun a w ⟨_, h, _, _⟩ => h) ?_
  clear h hf hs
  rintro kk a w ⟨n2, h, hf, hs⟩
  obtain ⟨again1, hagain1⟩ : ∃ X : Int → Prop, X = (fun n2 => iterF (fun again (s : Int) => M_ref4_held_L1 all a_ Q (fun n2 => again n2) s) kk n2) := ⟨_, rfl⟩
  replace h : M_ref4_held_L1 all a_ Q again1 n2 := by rw [hagain1]; exact h
  unfold M_ref4_held_L1 at h
  refine wp_seq ?_
  refine wp_seq ?_
  refine R.list ?_
  refine S.val hf hs (v := .int .i64 n2) rfl rfl rfl (V.pure rfl) (fun a hf => ?_)
  refine S.val hf hs (v := .pointer (some ⟨g1, 0, none⟩)) rfl rfl rfl (V.fieldBox rfl rfl Try.runUnderlying113 rfl Try.sizeOf59 rfl rfl) (fun a hf => ?_)
  refine S.val hf hs (v := .pointer (some ⟨g1, 1, none⟩)) rfl rfl rfl (V.fieldBox rfl rfl Try.runUnderlying59 rfl Try.sizeOf3 rfl rfl) (fun a hf => ?_)
  refine S.val hf hs (v := .int .i64 a_.Through.To) rfl rfl rfl (V.loadBox 0 rfl rfl rfl Try.isAgg3 Try.sizeOf3 rfl rfl) (fun a hf => ?_)
  refine S.val hf hs (v := .bool (decide (n2 < a_.Through.To))) rfl rfl rfl (V.pure rfl) (fun a hf => ?_)
  refine R.nil ?_
  refine X.then_ ?_
  refine C.cond hf (b := decide (n2 < a_.Through.To)) rfl (fun hc => ?_) (fun hc => ?_)
  · replace h := h.1 hc
    refine wp_skip ?_
    refine X.then_ ?_
    refine wp_seq ?_
    refine wp_block ?_
    refine wp_seq ?_
    refine R.list ?_
    refine S.val hf hs (v := .bool false) rfl rfl rfl (V.pure rfl) (fun a hf => ?_)
    refine R.nil ?_
    refine X.then_ ?_
    refine wp_seq ?_
    refine wp_seq ?_
    refine R.list ?_
    refine S.val hf hs (v := .slice allA all.length allC) rfl rfl rfl (V.pure rfl) (fun a hf => ?_)
    refine S.val hf hs (v := .int .i64 (all.length : Int)) rfl rfl rfl (V.len rfl rfl Try.runUnderlying110) (fun a hf => ?_)
    refine S.val hf hs (v := .int .i64 0) rfl rfl rfl (V.pure rfl) (fun a hf => ?_)
    refine R.nil ?_
    refine X.then_ ?_
    refine wp_block ?_
    have hlenk2 := hv_all.len64
    refine C.range (fun (ll : List R4Sub) a w => ∃ (k2 : Nat) (c2 : Bool), all.drop k2 = ll ∧ k2 + ll.length = all.length ∧ forIn' (fun k x (s : Bool) next => M_ref4_held_L2 a_ n2 k x s (fun c2 => next c2)) (fun (s : Bool) => (fun (c2 : Bool) => cnd (!c2) (Q false) (again1 (w64 (n2 + 1)))) s) ll k2 c2 ∧ FrOk 54 [(22, .int .i64 (k2 : Int)), (0, .slice allA all.length allC), (3, .pointer (some ⟨g1, 0, none⟩)), (5, .int .i64 n2), (6, .bool c2), (20, .slice allA all.length allC), (21, .int .i64 (all.length : Int))] a ∧ Sat w0 none_ [hbox g1 113 [.int .i64 a_.Through.From, .int .i64 a_.Through.To, .bool a_.core]] w) all ⟨0, false, rfl, Nat.zero_add _, h, (((((((hf.nil.cons (hf.get 21 _ rfl)).cons (hf.get 20 _ rfl)).cons (hf.get 6 _ rfl)).cons (hf.get 5 _ rfl)).cons (hf.get 3 _ rfl)).cons (hf.get 0 _ rfl)).cons (hf.get 22 _ rfl)), hs⟩ ?_
    clear h hf hs
    rintro llk2 a w ⟨k2, c2, hlk2, hkk2, h, hf, hs⟩
    cases llk2 with
    | nil =>
      have hc := range_done hkk2
      replace h : (fun (c2 : Bool) => cnd (!c2) (Q false) (again1 (w64 (n2 + 1)))) c2 := h
      refine wp_seq ?_
      refine R.list ?_
      refine S.val hf hs (v := .bool false) rfl rfl rfl (V.cmp false rfl rfl rfl rfl hc) (fun a hf => ?_)
      refine R.nil ?_
      refine X.then_ ?_
      refine wp_seq ?_
      refine C.no hf rfl ?_
      refine wp_exit ?_
      refine X.then_exit ?_
      refine X.then_exit ?_
      refine X.blk_exit ?_
      refine X.then_ ?_
      refine wp_seq ?_
      refine R.list ?_
      refine S.val hf hs (v := .bool c2) rfl rfl rfl (V.pure rfl) (fun a hf => ?_)
      refine S.val hf hs (v := .bool (!c2)) rfl rfl rfl (V.pure rfl) (fun a hf => ?_)
      refine R.nil ?_
      refine X.then_ ?_
      refine C.cond hf (b := !c2) rfl (fun hc => ?_) (fun hc => ?_)
      · replace h := h.1 hc
        refine wp_seq ?_
        refine R.list ?_
        refine S.val hf hs (v := .bool false) rfl rfl rfl (V.pure rfl) (fun a hf => ?_)
        refine R.nil ?_
        refine X.then_ ?_
        refine wp_ret ?_
        refine X.blk_ret ?_
        refine X.then_ret ?_
        refine X.then_ret ?_
        refine X.blk_ret ?_
        refine X.then_ret ?_
        exact L.ret hf (run_results1 Try.results87 (ResIs.tmp hf rfl)) ⟨false, rfl, h, hs.nil⟩
      · replace h := h.2 hc
        refine wp_skip ?_
        refine X.blk ?_
        refine X.then_ ?_
        refine R.list ?_
        refine S.val hf hs (v := .int .i64 n2) rfl rfl rfl (V.pure rfl) (fun a hf => ?_)
        refine S.val hf hs (v := .int .i64 (w64 (n2 + 1))) rfl rfl rfl (V.pure rfl) (fun a hf => ?_)
        refine S.val hf hs (v := .int .i64 (w64 (n2 + 1))) rfl rfl rfl (V.pure rfl) (fun a hf => ?_)
        refine R.nil ?_
        refine X.then_ ?_
        exact ⟨(w64 (n2 + 1)), (by rw [hagain1] at h; exact h), (((hf.nil.cons (hf.get 5 _ rfl)).cons (hf.get 3 _ rfl)).cons (hf.get 0 _ rfl)), hs⟩
    | cons xk2 llk2 =>
      have hltk2 := range_lt hkk2; have hc := range_go hkk2; have hxk2 := range_get hlk2
      obtain ⟨next2, hnext2⟩ : ∃ X : Bool → Prop, X = (fun c2 => forIn' (fun k x (s : Bool) next => M_ref4_held_L2 a_ n2 k x s (fun c2 => next c2)) (fun (s : Bool) => (fun (c2 : Bool) => cnd (!c2) (Q false) (again1 (w64 (n2 + 1)))) s) llk2 (k2 + 1) c2) := ⟨_, rfl⟩
      replace h : M_ref4_held_L2 a_ n2 k2 xk2 c2 next2 := by rw [hnext2]; exact h
      unfold M_ref4_held_L2 at h
      refine wp_seq ?_
      refine R.list ?_
      refine S.val hf hs (v := .bool true) rfl rfl rfl (V.cmp true rfl rfl rfl rfl hc) (fun a hf => ?_)
      refine R.nil ?_
      refine X.then_ ?_
      refine wp_seq ?_
      refine C.yes hf rfl ?_
      refine wp_skip ?_
      refine X.then_ ?_
      refine wp_seq ?_
      refine wp_block ?_
      refine wp_seq ?_
      refine R.list ?_
      refine S.val hf hs (v := elemPtr allA (k2 * 3)) rfl rfl rfl (V.index rfl rfl rfl Try.runUnderlying110 Try.sizeOf113 (hv_all.some_ (lt_of_get hxk2)) (Int.natCast_nonneg _) (lt_of_get hxk2) rfl) (fun a hf => ?_)
      refine S.val hf hs (v := .agg #[.int .i64 xk2.Through.From, .int .i64 xk2.Through.To, .bool xk2.core]) rfl rfl rfl (V.loadEl (off := 0) (Ag.args _ _ _) (hv_all.flat hxk2) rfl rfl rfl Try.isAgg113 Try.sizeOf113 rfl rfl) (fun a hf => ?_)
      refine S.alloc hf hs rfl rfl rfl [.int .i64 0, .int .i64 0, .bool false] rfl Try.zeroValue113 rfl (fun g2 a w hf hs => ?_)
      refine S.storeBox 0 hf hs rfl rfl [.int .i64 xk2.Through.From, .int .i64 xk2.Through.To, .bool xk2.core] [.int .i64 xk2.Through.From, .int .i64 xk2.Through.To, .bool xk2.core] rfl rfl rfl rfl rfl Try.sizeOf113 rfl rfl rfl rfl (fun a w hf hs => ?_)
      refine R.nil ?_
      refine X.then_ ?_
      refine R.list ?_
      refine S.val hf hs (v := .bool c2) rfl rfl rfl (V.pure rfl) (fun a hf => ?_)
      refine S.split hf hs (b := c2) rfl rfl rfl (V.pure rfl) (fun hc a hf => ?_) (fun hc a hf => ?_)
      · replace h := h.1 hc
        refine S.skip hf rfl rfl rfl (fun a hf => ?_)
        refine S.skip hf rfl rfl rfl (fun a hf => ?_)
        refine S.skip hf rfl rfl rfl (fun a hf => ?_)
        refine S.skip hf rfl rfl rfl (fun a hf => ?_)
        refine S.skip hf rfl rfl rfl (fun a hf => ?_)
        refine S.skip hf rfl rfl rfl (fun a hf => ?_)
        refine S.skip hf rfl rfl rfl (fun a hf => ?_)
        refine S.skip hf rfl rfl rfl (fun a hf => ?_)
        refine S.skip hf rfl rfl rfl (fun a hf => ?_)
        refine S.skip hf rfl rfl rfl (fun a hf => ?_)
        refine S.skip hf rfl rfl rfl (fun a hf => ?_)
        refine S.skip hf rfl rfl rfl (fun a hf => ?_)
        refine S.skip hf rfl rfl rfl (fun a hf => ?_)
        refine S.skip hf rfl rfl rfl (fun a hf => ?_)
        refine S.skip hf rfl rfl rfl (fun a hf => ?_)
        refine S.skip hf rfl rfl rfl (fun a hf => ?_)
        refine S.skip hf rfl rfl rfl (fun a hf => ?_)
        refine S.skip hf rfl rfl rfl (fun a hf => ?_)
        refine S.skip hf rfl rfl rfl (fun a hf => ?_)
        refine S.skip hf rfl rfl rfl (fun a hf => ?_)
        refine S.skip hf rfl rfl rfl (fun a hf => ?_)
        refine S.skip hf rfl rfl rfl (fun a hf => ?_)
        refine S.val hf hs (v := .bool true) rfl rfl rfl (V.pure rfl) (fun a hf => ?_)
        refine S.val hf hs (v := .bool true) rfl rfl rfl (V.pure rfl) (fun a hf => ?_)
        refine R.nil ?_
        refine X.blk ?_
        refine X.then_ ?_
        refine R.list ?_
        refine S.val hf hs (v := .int .i64 ((k2 + 1 : Nat) : Int)) rfl rfl rfl (V.incr rfl rfl rfl hltk2 hlenk2) (fun a hf => ?_)
        refine S.val hf hs (v := .int .i64 ((k2 + 1 : Nat) : Int)) rfl rfl rfl (V.pure rfl) (fun a hf => ?_)
        refine R.nil ?_
        refine X.then_ ?_
        exact ⟨xk2, llk2, rfl, k2 + 1, true, range_drop hlk2, range_len hkk2, (by rw [hnext2] at h; exact h), (((((((hf.nil.cons (hf.get 21 _ rfl)).cons (hf.get 20 _ rfl)).cons (hf.get 6 _ rfl)).cons (hf.get 5 _ rfl)).cons (hf.get 3 _ rfl)).cons (hf.get 0 _ rfl)).cons (hf.get 22 _ rfl)), hs.drop⟩
      · replace h := h.2 hc
        refine S.val hf hs (v := .pointer (some ⟨g2, 0, none⟩)) rfl rfl rfl (V.fieldBox rfl rfl Try.runUnderlying113 rfl Try.sizeOf59 rfl rfl) (fun a hf => ?_)
        refine S.val hf hs (v := .agg #[.int .i64 xk2.Through.From, .int .i64 xk2.Through.To]) rfl rfl rfl (V.loadBox 0 rfl rfl rfl Try.isAgg59 Try.sizeOf59 rfl rfl) (fun a hf => ?_)
        refine S.val hf hs (v := .pointer (some ⟨g1, 0, none⟩)) rfl rfl rfl (V.fieldBox rfl rfl Try.runUnderlying113 rfl Try.sizeOf59 rfl rfl) (fun a hf => ?_)
        refine S.val hf hs (v := .agg #[.int .i64 a_.Through.From, .int .i64 a_.Through.To]) rfl rfl rfl (V.loadBox 1 rfl rfl rfl Try.isAgg59 Try.sizeOf59 rfl rfl) (fun a hf => ?_)
        refine S.val hf hs (v := .bool (!(decide (xk2.Through = a_.Through)))) rfl rfl rfl (V.aggneq rfl rfl rfl (by kernel_rfl) (fun w => eqS59 xk2.Through a_.Through w)) (fun a hf => ?_)
        refine S.split hf hs (b := !(decide (xk2.Through = a_.Through))) rfl rfl rfl (V.pure rfl) (fun hc a hf => ?_) (fun hc a hf => ?_)
        · replace h := h.1 hc
          refine S.val hf hs (v := .pointer (some ⟨g2, 0, none⟩)) rfl rfl rfl (V.fieldBox rfl rfl Try.runUnderlying113 rfl Try.sizeOf59 rfl rfl) (fun a hf => ?_)
          refine S.val hf hs (v := .agg #[.int .i64 xk2.Through.From, .int .i64 xk2.Through.To]) rfl rfl rfl (V.loadBox 0 rfl rfl rfl Try.isAgg59 Try.sizeOf59 rfl rfl) (fun a hf => ?_)
          refine S.val hf hs (v := .pointer (some ⟨g1, 0, none⟩)) rfl rfl rfl (V.fieldBox rfl rfl Try.runUnderlying113 rfl Try.sizeOf59 rfl rfl) (fun a hf => ?_)
          refine S.val hf hs (v := .agg #[.int .i64 a_.Through.From, .int .i64 a_.Through.To]) rfl rfl rfl (V.loadBox 1 rfl rfl rfl Try.isAgg59 Try.sizeOf59 rfl rfl) (fun a hf => ?_)
          refine S.call hf rfl rfl rfl (call_fn (vs := [.agg #[.int .i64 xk2.Through.From, .int .i64 xk2.Through.To], .agg #[.int .i64 a_.Through.From, .int .i64 a_.Through.To]]) rfl rfl rfl Try.call86) (R_ref4_inside xk2.Through a_.Through _  _ h) (fun v a w' hf hr => ?_)
          obtain ⟨y1, rfl, h2, hs2⟩ := hr
          replace h := h2; replace hs := hs.call hs2; clear h2 hs2
          refine S.val hf hs (v := .bool y1) rfl rfl rfl (V.pure rfl) (fun a hf => ?_)
          refine S.split hf hs (b := y1) rfl rfl rfl (V.pure rfl) (fun hc a hf => ?_) (fun hc a hf => ?_)
          · replace h := h.1 hc
            refine S.val hf hs (v := .int .i64 n2) rfl rfl rfl (V.pure rfl) (fun a hf => ?_)
            refine S.val hf hs (v := .pointer (some ⟨g2, 0, none⟩)) rfl rfl rfl (V.fieldBox rfl rfl Try.runUnderlying113 rfl Try.sizeOf59 rfl rfl) (fun a hf => ?_)
            refine S.val hf hs (v := .pointer (some ⟨g2, 0, none⟩)) rfl rfl rfl (V.fieldBox rfl rfl Try.runUnderlying59 rfl Try.sizeOf3 rfl rfl) (fun a hf => ?_)
            refine S.val hf hs (v := .int .i64 xk2.Through.From) rfl rfl rfl (V.loadBox 0 rfl rfl rfl Try.isAgg3 Try.sizeOf3 rfl rfl) (fun a hf => ?_)
            refine S.val hf hs (v := .pointer (some ⟨g2, 0, none⟩)) rfl rfl rfl (V.fieldBox rfl rfl Try.runUnderlying113 rfl Try.sizeOf59 rfl rfl) (fun a hf => ?_)
            refine S.val hf hs (v := .pointer (some ⟨g2, 1, none⟩)) rfl rfl rfl (V.fieldBox rfl rfl Try.runUnderlying59 rfl Try.sizeOf3 rfl rfl) (fun a hf => ?_)
            refine S.val hf hs (v := .int .i64 xk2.Through.To) rfl rfl rfl (V.loadBox 0 rfl rfl rfl Try.isAgg3 Try.sizeOf3 rfl rfl) (fun a hf => ?_)
            refine S.callv hf rfl rfl rfl (call_fn (vs := [.int .i64 n2, .int .i64 xk2.Through.From, .int .i64 xk2.Through.To]) rfl rfl rfl Try.call59) (C_ref4_within n2 xk2.Through.From xk2.Through.To _ ) (fun a w hf hs' => ?_)
            replace hs := hs.call hs'; clear hs'
            refine S.val hf hs (v := .bool (within n2 xk2.Through.From xk2.Through.To)) rfl rfl rfl (V.pure rfl) (fun a hf => ?_)
            refine S.val hf hs (v := .bool (within n2 xk2.Through.From xk2.Through.To)) rfl rfl rfl (V.pure rfl) (fun a hf => ?_)
            refine S.val hf hs (v := .bool (within n2 xk2.Through.From xk2.Through.To)) rfl rfl rfl (V.pure rfl) (fun a hf => ?_)
            refine R.nil ?_
            refine X.blk ?_
            refine X.then_ ?_
            refine R.list ?_
            refine S.val hf hs (v := .int .i64 ((k2 + 1 : Nat) : Int)) rfl rfl rfl (V.incr rfl rfl rfl hltk2 hlenk2) (fun a hf => ?_)
            refine S.val hf hs (v := .int .i64 ((k2 + 1 : Nat) : Int)) rfl rfl rfl (V.pure rfl) (fun a hf => ?_)
            refine R.nil ?_
            refine X.then_ ?_
            exact ⟨xk2, llk2, rfl, k2 + 1, (within n2 xk2.Through.From xk2.Through.To), range_drop hlk2, range_len hkk2, (by rw [hnext2] at h; exact h), (((((((hf.nil.cons (hf.get 21 _ rfl)).cons (hf.get 20 _ rfl)).cons (hf.get 6 _ rfl)).cons (hf.get 5 _ rfl)).cons (hf.get 3 _ rfl)).cons (hf.get 0 _ rfl)).cons (hf.get 22 _ rfl)), hs.drop⟩
          · replace h := h.2 hc
            refine S.skip hf rfl rfl rfl (fun a hf => ?_)
            refine S.skip hf rfl rfl rfl (fun a hf => ?_)
            refine S.skip hf rfl rfl rfl (fun a hf => ?_)
            refine S.skip hf rfl rfl rfl (fun a hf => ?_)
            refine S.skip hf rfl rfl rfl (fun a hf => ?_)
            refine S.skip hf rfl rfl rfl (fun a hf => ?_)
            refine S.skip hf rfl rfl rfl (fun a hf => ?_)
            refine S.skip hf rfl rfl rfl (fun a hf => ?_)
            refine S.val hf hs (v := .bool false) rfl rfl rfl (V.pure rfl) (fun a hf => ?_)
            refine S.val hf hs (v := .bool false) rfl rfl rfl (V.pure rfl) (fun a hf => ?_)
            refine S.val hf hs (v := .bool false) rfl rfl rfl (V.pure rfl) (fun a hf => ?_)
            refine R.nil ?_
            refine X.blk ?_
            refine X.then_ ?_
            refine R.list ?_
            refine S.val hf hs (v := .int .i64 ((k2 + 1 : Nat) : Int)) rfl rfl rfl (V.incr rfl rfl rfl hltk2 hlenk2) (fun a hf => ?_)
            refine S.val hf hs (v := .int .i64 ((k2 + 1 : Nat) : Int)) rfl rfl rfl (V.pure rfl) (fun a hf => ?_)
            refine R.nil ?_
            refine X.then_ ?_
            exact ⟨xk2, llk2, rfl, k2 + 1, false, range_drop hlk2, range_len hkk2, (by rw [hnext2] at h; exact h), (((((((hf.nil.cons (hf.get 21 _ rfl)).cons (hf.get 20 _ rfl)).cons (hf.get 6 _ rfl)).cons (hf.get 5 _ rfl)).cons (hf.get 3 _ rfl)).cons (hf.get 0 _ rfl)).cons (hf.get 22 _ rfl)), hs.drop⟩
        · replace h := h.2 hc
          refine S.skip hf rfl rfl rfl (fun a hf => ?_)
          refine S.skip hf rfl rfl rfl (fun a hf => ?_)
          refine S.skip hf rfl rfl rfl (fun a hf => ?_)
          refine S.skip hf rfl rfl rfl (fun a hf => ?_)
          refine S.skip hf rfl rfl rfl (fun a hf => ?_)
          refine S.val hf hs (v := .bool false) rfl rfl rfl (V.pure rfl) (fun a hf => ?_)
          refine S.val hf hs (v := .bool false) rfl rfl rfl (V.pure rfl) (fun a hf => ?_)
          refine S.skip hf rfl rfl rfl (fun a hf => ?_)
          refine S.skip hf rfl rfl rfl (fun a hf => ?_)
          refine S.skip hf rfl rfl rfl (fun a hf => ?_)
          refine S.skip hf rfl rfl rfl (fun a hf => ?_)
          refine S.skip hf rfl rfl rfl (fun a hf => ?_)
          refine S.skip hf rfl rfl rfl (fun a hf => ?_)
          refine S.skip hf rfl rfl rfl (fun a hf => ?_)
          refine S.skip hf rfl rfl rfl (fun a hf => ?_)
          refine S.val hf hs (v := .bool false) rfl rfl rfl (V.pure rfl) (fun a hf => ?_)
          refine S.val hf hs (v := .bool false) rfl rfl rfl (V.pure rfl) (fun a hf => ?_)
          refine S.val hf hs (v := .bool false) rfl rfl rfl (V.pure rfl) (fun a hf => ?_)
          refine R.nil ?_
          refine X.blk ?_
          refine X.then_ ?_
          refine R.list ?_
          refine S.val hf hs (v := .int .i64 ((k2 + 1 : Nat) : Int)) rfl rfl rfl (V.incr rfl rfl rfl hltk2 hlenk2) (fun a hf => ?_)
          refine S.val hf hs (v := .int .i64 ((k2 + 1 : Nat) : Int)) rfl rfl rfl (V.pure rfl) (fun a hf => ?_)
          refine R.nil ?_
          refine X.then_ ?_
          exact ⟨xk2, llk2, rfl, k2 + 1, false, range_drop hlk2, range_len hkk2, (by rw [hnext2] at h; exact h), (((((((hf.nil.cons (hf.get 21 _ rfl)).cons (hf.get 20 _ rfl)).cons (hf.get 6 _ rfl)).cons (hf.get 5 _ rfl)).cons (hf.get 3 _ rfl)).cons (hf.get 0 _ rfl)).cons (hf.get 22 _ rfl)), hs.drop⟩
  · replace h := h.2 hc
    refine wp_exit ?_
    refine X.then_exit ?_
    refine X.then_exit ?_
    refine X.blk_exit ?_
    refine X.then_ ?_
    refine wp_seq ?_
    refine R.list ?_
    refine S.val hf hs (v := .bool true) rfl rfl rfl (V.pure rfl) (fun a hf => ?_)
    refine R.nil ?_
    refine X.then_ ?_
    refine wp_ret ?_
    exact L.ret hf (run_results1 Try.results87 (ResIs.tmp hf rfl)) ⟨true, rfl, h, hs.nil⟩

set_option linter.unusedVariables false
def M_ref4_CheckSpans_k4 (Q : Int → Prop) (next3 : Prop) (c1 : Bool) : Prop :=
  cnd c1 (Q 11) (next3)
def M_ref4_CheckSpans_L3 (Q : Int → Prop) (y2 : (List R4Sub)) (k3 : Nat) (xk3 : R4Sub)  (next3 : Prop) : Prop :=
  cnd (!xk3.core) (M_ref4_held y2 xk3 fun y3 => M_ref4_CheckSpans_k4 Q next3 (!y3)) (M_ref4_CheckSpans_k4 Q next3 false)
def M_ref4_CheckSpans_k6 (Q : Int → Prop) (next4 : Prop) (c2 : Bool) : Prop :=
  cnd c2 (Q 12) (next4)
def M_ref4_CheckSpans_L4 (Q : Int → Prop) (xk2 : R4Sub) (k5 : Nat) (xk5 : R4Sub)  (next4 : Prop) : Prop :=
  cnd (decide (max xk2.Through.From xk5.Through.From ≤ min xk2.Through.To xk5.Through.To)) (M_ref4_inside xk2.Through xk5.Through fun y4 => cnd (!y4) (M_ref4_inside xk5.Through xk2.Through fun y5 => M_ref4_CheckSpans_k6 Q next4 (!y5)) (M_ref4_CheckSpans_k6 Q next4 false)) (M_ref4_CheckSpans_k6 Q next4 false)
def M_ref4_CheckSpans_L2 (Q : Int → Prop) (y2 : (List R4Sub)) (k2 : Nat) (xk2 : R4Sub)  (next2 : Prop) : Prop :=
  must (0 ≤ (k2 : Int) ∧ (k2 : Int) ≤ (y2.length : Int)) (forIn' (fun k x (s : Unit) next => M_ref4_CheckSpans_L4 Q xk2 k x (next ())) (fun (s : Unit) => next2) (y2.take (k2 : Int).toNat) 0 ())
def M_ref4_CheckSpans_k8 (Q : Int → Prop) (next1 : Prop) (c4 : Bool) : Prop :=
  cnd c4 (Q 8) (next1)
def M_ref4_CheckSpans_k7 (l : (List Through)) (Q : Int → Prop) (k1 : Nat) (xk1 : Through) (next1 : Prop) (c3 : Bool) : Prop :=
  cnd c3 (Q 1) (cnd (decide ((k1 : Int) > 0)) (idx l (w64 ((k1 : Int) - 1)) fun x1 => cnd (decide (xk1.From < x1.From)) (M_ref4_CheckSpans_k8 Q next1 true) (cnd (xk1.From == x1.From) (M_ref4_CheckSpans_k8 Q next1 (decide (xk1.To ≤ x1.To))) (M_ref4_CheckSpans_k8 Q next1 false))) (M_ref4_CheckSpans_k8 Q next1 false))
def M_ref4_CheckSpans_L1 (m : (List Material)) (s_ : (List Layer)) (l : (List Through)) (Q : Int → Prop) (k1 : Nat) (xk1 : Through)  (next1 : Prop) : Prop :=
  cnd (decide (xk1.From < 1)) (M_ref4_CheckSpans_k7 l Q k1 xk1 next1 true) (M_ref4_coppers m s_ fun y6 => cnd (decide (xk1.To > (y6.length : Int))) (M_ref4_CheckSpans_k7 l Q k1 xk1 next1 true) (M_ref4_CheckSpans_k7 l Q k1 xk1 next1 (decide (xk1.To ≤ xk1.From))))
def M_ref4_CheckSpans (m : (List Material)) (s_ : (List Layer)) (l : (List Through)) (Q : Int → Prop) : Prop :=
  M_ref4_CheckStack m s_ fun y1 => cnd (y1 != 0) (Q y1) (cnd (decide ((l.length : Int) > 200)) (Q 2) (forIn' (fun k x (s : Unit) next => M_ref4_CheckSpans_L1 m s_ l Q k x (next ())) (fun (s : Unit) => M_ref4_subs m s_ l fun y2 => forIn' (fun k x (s : Unit) next => M_ref4_CheckSpans_L2 Q y2 k x (next ())) (fun (s : Unit) => forIn' (fun k x (s : Unit) next => M_ref4_CheckSpans_L3 Q y2 k x (next ())) (fun (s : Unit) => Q 0) y2 0 ()) y2 0 ()) l 0 ()))
set_option maxHeartbeats 1000000 in
theorem R_ref4_CheckSpans (m : (List Material)) (s_ : (List Layer)) (l : (List Through)) (w0 : World) (mA : Option Addr) (mC : Nat) (hv_m : View w0 (old w0 none_) mA mC m) (s_A : Option Addr) (s_C : Nat) (hv_s_ : View w0 (old w0 none_) s_A s_C s_) (lA : Option Addr) (lC : Nat) (hv_l : View w0 (old w0 none_) lA lC l) (Q : Int → Prop) (h : M_ref4_CheckSpans m s_ l Q) :
    Ret Try.prog 46 #[.slice mA m.length mC, .slice s_A s_.length s_C, .slice lA l.length lC] w0 fun v w' => ∃ (r0 : Int), v = .int .i64 r0 ∧ Q r0 ∧ Sat w0 none_ [] w' := by
  refine fn_enter Try.func46 rfl Try.ntmps46 rfl (fs := [(0, .slice mA m.length mC), (1, .slice s_A s_.length s_C), (2, .slice lA l.length lC)]) rfl (fun a hf => ?_)
  have hs := Sat.start w0 none_
  unfold M_ref4_CheckSpans at h
  refine wp_seq ?_
  refine R.list ?_
  refine S.val hf hs (v := .int .i64 0) rfl rfl rfl (V.pure rfl) (fun a hf => ?_)
  refine R.nil ?_
  refine X.then_ ?_
  refine wp_seq ?_
  refine wp_seq ?_
  refine R.list ?_
  refine S.val hf hs (v := .slice mA m.length mC) rfl rfl rfl (V.pure rfl) (fun a hf => ?_)
  refine S.val hf hs (v := .slice s_A s_.length s_C) rfl rfl rfl (V.pure rfl) (fun a hf => ?_)
  refine S.call hf rfl rfl rfl (call_fn (vs := [.slice mA m.length mC, .slice s_A s_.length s_C]) rfl rfl rfl Try.call19) (R_ref4_CheckStack m s_ _ mA mC ((Ag.args _ _ _).view hv_m hs) s_A s_C ((Ag.args _ _ _).view hv_s_ hs) _ h) (fun v a w' hf hr => ?_)
  obtain ⟨y1, rfl, h2, hs2⟩ := hr
  replace h := h2; replace hs := hs.call hs2; clear h2 hs2
  refine S.val hf hs (v := .int .i64 y1) rfl rfl rfl (V.pure rfl) (fun a hf => ?_)
  refine R.nil ?_
  refine X.then_ ?_
  refine wp_seq ?_
  refine R.list ?_
  refine S.val hf hs (v := .int .i64 y1) rfl rfl rfl (V.pure rfl) (fun a hf => ?_)
  refine S.val hf hs (v := .bool (y1 != 0)) rfl rfl rfl (V.pure rfl) (fun a hf => ?_)
  refine R.nil ?_
  refine X.then_ ?_
  refine C.cond hf (b := y1 != 0) rfl (fun hc => ?_) (fun hc => ?_)
  · replace h := h.1 hc
    refine wp_seq ?_
    refine R.list ?_
    refine S.val hf hs (v := .int .i64 y1) rfl rfl rfl (V.pure rfl) (fun a hf => ?_)
    refine S.val hf hs (v := .int .i64 y1) rfl rfl rfl (V.pure rfl) (fun a hf => ?_)
    refine R.nil ?_
    refine X.then_ ?_
    refine wp_ret ?_
    refine X.then_ret ?_
    exact L.ret hf (run_results1 Try.results46 (ResIs.tmp hf rfl)) ⟨y1, rfl, h, hs.nil⟩
  · replace h := h.2 hc
    refine wp_skip ?_
    refine X.then_ ?_
    refine wp_seq ?_
    refine wp_seq ?_
    refine R.list ?_
    refine S.val hf hs (v := .slice lA l.length lC) rfl rfl rfl (V.pure rfl) (fun a hf => ?_)
    refine S.val hf hs (v := .int .i64 (l.length : Int)) rfl rfl rfl (V.len rfl rfl Try.runUnderlying52) (fun a hf => ?_)
    refine S.val hf hs (v := .bool (decide ((l.length : Int) > 200))) rfl rfl rfl (V.pure rfl) (fun a hf => ?_)
    refine R.nil ?_
    refine X.then_ ?_
    refine C.cond hf (b := decide ((l.length : Int) > 200)) rfl (fun hc => ?_) (fun hc => ?_)
    · replace h := h.1 hc
      refine wp_seq ?_
      refine R.list ?_
      refine S.val hf hs (v := .int .i64 2) rfl rfl rfl (V.pure rfl) (fun a hf => ?_)
      refine R.nil ?_
      refine X.then_ ?_
      refine wp_ret ?_
      refine X.then_ret ?_
      exact L.ret hf (run_results1 Try.results46 (ResIs.tmp hf rfl)) ⟨2, rfl, h, hs.nil⟩
    · replace h := h.2 hc
      refine wp_skip ?_
      refine X.then_ ?_
      refine wp_seq ?_
      refine wp_seq ?_
      refine R.list ?_
      refine S.val hf hs (v := .slice lA l.length lC) rfl rfl rfl (V.pure rfl) (fun a hf => ?_)
      refine S.val hf hs (v := .int .i64 (l.length : Int)) rfl rfl rfl (V.len rfl rfl Try.runUnderlying52) (fun a hf => ?_)
      refine S.val hf hs (v := .int .i64 0) rfl rfl rfl (V.pure rfl) (fun a hf => ?_)
      refine R.nil ?_
      refine X.then_ ?_
      refine wp_block ?_
      have hlenk1 := hv_l.len64
      refine C.range (fun (ll : List Through) a w => ∃ (k1 : Nat) , l.drop k1 = ll ∧ k1 + ll.length = l.length ∧ forIn' (fun k x (s : Unit) next => M_ref4_CheckSpans_L1 m s_ l Q k x (next ())) (fun (s : Unit) => M_ref4_subs m s_ l fun y2 => forIn' (fun k x (s : Unit) next => M_ref4_CheckSpans_L2 Q y2 k x (next ())) (fun (s : Unit) => forIn' (fun k x (s : Unit) next => M_ref4_CheckSpans_L3 Q y2 k x (next ())) (fun (s : Unit) => Q 0) y2 0 ()) y2 0 ()) ll k1 () ∧ FrOk 156 [(28, .int .i64 (k1 : Int)), (0, .slice mA m.length mC), (1, .slice s_A s_.length s_C), (2, .slice lA l.length lC), (26, .slice lA l.length lC), (27, .int .i64 (l.length : Int))] a ∧ Sat w0 none_ [] w) l ⟨0, rfl, Nat.zero_add _, h, ((((((hf.nil.cons (hf.get 27 _ rfl)).cons (hf.get 26 _ rfl)).cons (hf.get 2 _ rfl)).cons (hf.get 1 _ rfl)).cons (hf.get 0 _ rfl)).cons (hf.get 28 _ rfl)), hs⟩ ?_
      clear h hf hs
      rintro llk1 a w ⟨k1, hlk1, hkk1, h, hf, hs⟩
      cases llk1 with
      | nil =>
        have hc := range_done hkk1
        replace h : M_ref4_subs m s_ l fun y2 => forIn' (fun k x (s : Unit) next => M_ref4_CheckSpans_L2 Q y2 k x (next ())) (fun (s : Unit) => forIn' (fun k x (s : Unit) next => M_ref4_CheckSpans_L3 Q y2 k x (next ())) (fun (s : Unit) => Q 0) y2 0 ()) y2 0 () := h
        refine wp_seq ?_
        refine R.list ?_
        refine S.val hf hs (v := .bool false) rfl rfl rfl (V.cmp false rfl rfl rfl rfl hc) (fun a hf => ?_)
        refine R.nil ?_
        refine X.then_ ?_
        refine wp_seq ?_
        refine C.no hf rfl ?_
        refine wp_exit ?_
        refine X.then_exit ?_
        refine X.then_exit ?_
        refine X.blk_exit ?_
        refine X.then_ ?_
        refine wp_seq ?_
        refine R.list ?_
        refine S.val hf hs (v := .slice mA m.length mC) rfl rfl rfl (V.pure rfl) (fun a hf => ?_)
        refine S.val hf hs (v := .slice s_A s_.length s_C) rfl rfl rfl (V.pure rfl) (fun a hf => ?_)
        refine S.val hf hs (v := .slice lA l.length lC) rfl rfl rfl (V.pure rfl) (fun a hf => ?_)
        refine S.call hf rfl rfl rfl (call_fn (vs := [.slice mA m.length mC, .slice s_A s_.length s_C, .slice lA l.length lC]) rfl rfl rfl Try.call85) (R_ref4_subs m s_ l _ mA mC ((Ag.args _ _ _).view hv_m hs) s_A s_C ((Ag.args _ _ _).view hv_s_ hs) lA lC ((Ag.args _ _ _).view hv_l hs) _ h) (fun v a w' hf hr => ?_)
        obtain ⟨y2, y2A, y2C, rfl, h2, hs2⟩ := hr
        replace h := h2; replace hs := hs.call hs2; clear h2 hs2
        refine S.val hf hs (v := .slice y2A y2.length y2C) rfl rfl rfl (V.pure rfl) (fun a hf => ?_)
        refine R.nil ?_
        refine X.then_ ?_
        refine wp_seq ?_
        refine wp_seq ?_
        refine R.list ?_
        refine S.val hf hs (v := .slice y2A y2.length y2C) rfl rfl rfl (V.pure rfl) (fun a hf => ?_)
        refine S.val hf hs (v := .int .i64 (y2.length : Int)) rfl rfl rfl (V.len rfl rfl Try.runUnderlying110) (fun a hf => ?_)
        refine S.val hf hs (v := .int .i64 0) rfl rfl rfl (V.pure rfl) (fun a hf => ?_)
        refine R.nil ?_
        refine X.then_ ?_
        refine wp_block ?_
        have hlenk2 := (hs.ownView 0 rfl).len64
        refine C.range (fun (ll : List R4Sub) a w => ∃ (k2 : Nat) , y2.drop k2 = ll ∧ k2 + ll.length = y2.length ∧ forIn' (fun k x (s : Unit) next => M_ref4_CheckSpans_L2 Q y2 k x (next ())) (fun (s : Unit) => forIn' (fun k x (s : Unit) next => M_ref4_CheckSpans_L3 Q y2 k x (next ())) (fun (s : Unit) => Q 0) y2 0 ()) ll k2 () ∧ FrOk 156 [(94, .int .i64 (k2 : Int)), (10, .slice y2A y2.length y2C), (92, .slice y2A y2.length y2C), (93, .int .i64 (y2.length : Int))] a ∧ Sat w0 none_ [hown 113 y2A y2C y2] w) y2 ⟨0, rfl, Nat.zero_add _, h, ((((hf.nil.cons (hf.get 93 _ rfl)).cons (hf.get 92 _ rfl)).cons (hf.get 10 _ rfl)).cons (hf.get 94 _ rfl)), hs⟩ ?_
        clear h hf hs
        rintro llk2 a w ⟨k2, hlk2, hkk2, h, hf, hs⟩
        cases llk2 with
        | nil =>
          have hc := range_done hkk2
          replace h : forIn' (fun k x (s : Unit) next => M_ref4_CheckSpans_L3 Q y2 k x (next ())) (fun (s : Unit) => Q 0) y2 0 () := h
          refine wp_seq ?_
          refine R.list ?_
          refine S.val hf hs (v := .bool false) rfl rfl rfl (V.cmp false rfl rfl rfl rfl hc) (fun a hf => ?_)
          refine R.nil ?_
          refine X.then_ ?_
          refine wp_seq ?_
          refine C.no hf rfl ?_
          refine wp_exit ?_
          refine X.then_exit ?_
          refine X.then_exit ?_
          refine X.blk_exit ?_
          refine X.then_ ?_
          refine wp_seq ?_
          refine wp_seq ?_
          refine R.list ?_
          refine S.val hf hs (v := .slice y2A y2.length y2C) rfl rfl rfl (V.pure rfl) (fun a hf => ?_)
          refine S.val hf hs (v := .int .i64 (y2.length : Int)) rfl rfl rfl (V.len rfl rfl Try.runUnderlying110) (fun a hf => ?_)
          refine S.val hf hs (v := .int .i64 0) rfl rfl rfl (V.pure rfl) (fun a hf => ?_)
          refine R.nil ?_
          refine X.then_ ?_
          refine wp_block ?_
          have hlenk3 := (hs.ownView 0 rfl).len64
          refine C.range (fun (ll : List R4Sub) a w => ∃ (k3 : Nat) , y2.drop k3 = ll ∧ k3 + ll.length = y2.length ∧ forIn' (fun k x (s : Unit) next => M_ref4_CheckSpans_L3 Q y2 k x (next ())) (fun (s : Unit) => Q 0) ll k3 () ∧ FrOk 156 [(142, .int .i64 (k3 : Int)), (10, .slice y2A y2.length y2C), (140, .slice y2A y2.length y2C), (141, .int .i64 (y2.length : Int))] a ∧ Sat w0 none_ [hown 113 y2A y2C y2] w) y2 ⟨0, rfl, Nat.zero_add _, h, ((((hf.nil.cons (hf.get 141 _ rfl)).cons (hf.get 140 _ rfl)).cons (hf.get 10 _ rfl)).cons (hf.get 142 _ rfl)), hs⟩ ?_
          clear h hf hs
          rintro llk3 a w ⟨k3, hlk3, hkk3, h, hf, hs⟩
          cases llk3 with
          | nil =>
            have hc := range_done hkk3
            replace h : Q 0 := h
            refine wp_seq ?_
            refine R.list ?_
            refine S.val hf hs (v := .bool false) rfl rfl rfl (V.cmp false rfl rfl rfl rfl hc) (fun a hf => ?_)
            refine R.nil ?_
            refine X.then_ ?_
            refine wp_seq ?_
            refine C.no hf rfl ?_
            refine wp_exit ?_
            refine X.then_exit ?_
            refine X.then_exit ?_
            refine X.blk_exit ?_
            refine X.then_ ?_
            refine wp_seq ?_
            refine R.list ?_
            refine S.val hf hs (v := .int .i64 0) rfl rfl rfl (V.pure rfl) (fun a hf => ?_)
            refine R.nil ?_
            refine X.then_ ?_
            refine wp_ret ?_
            exact L.ret hf (run_results1 Try.results46 (ResIs.tmp hf rfl)) ⟨0, rfl, h, hs.nil⟩
          | cons xk3 llk3 =>
            have hltk3 := range_lt hkk3; have hc := range_go hkk3; have hxk3 := range_get hlk3
            obtain ⟨next3, hnext3⟩ : ∃ X : Prop, X = (forIn' (fun k x (s : Unit) next => M_ref4_CheckSpans_L3 Q y2 k x (next ())) (fun (s : Unit) => Q 0) llk3 (k3 + 1) ()) := ⟨_, rfl⟩
            replace h : M_ref4_CheckSpans_L3 Q y2 k3 xk3  next3 := by rw [hnext3]; exact h
            unfold M_ref4_CheckSpans_L3 at h
            refine wp_seq ?_
            refine R.list ?_
            refine S.val hf hs (v := .bool true) rfl rfl rfl (V.cmp true rfl rfl rfl rfl hc) (fun a hf => ?_)
            refine R.nil ?_
            refine X.then_ ?_
            refine wp_seq ?_
            refine C.yes hf rfl ?_
            refine wp_skip ?_
            refine X.then_ ?_
            refine wp_seq ?_
            refine wp_block ?_
            refine wp_seq ?_
            refine R.list ?_
            refine S.val hf hs (v := elemPtr y2A (k3 * 3)) rfl rfl rfl (V.index rfl rfl rfl Try.runUnderlying110 Try.sizeOf113 (hs.ownSome 0 rfl (lt_of_get hxk3)) (Int.natCast_nonneg _) (lt_of_get hxk3) rfl) (fun a hf => ?_)
            refine S.val hf hs (v := .agg #[.int .i64 xk3.Through.From, .int .i64 xk3.Through.To, .bool xk3.core]) rfl rfl rfl (V.loadOwn (off := 0) 0 rfl hxk3 rfl rfl rfl Try.isAgg113 Try.sizeOf113 rfl rfl) (fun a hf => ?_)
            refine S.alloc hf hs rfl rfl rfl [.int .i64 0, .int .i64 0, .bool false] rfl Try.zeroValue113 rfl (fun g1 a w hf hs => ?_)
            refine S.storeBox 0 hf hs rfl rfl [.int .i64 xk3.Through.From, .int .i64 xk3.Through.To, .bool xk3.core] [.int .i64 xk3.Through.From, .int .i64 xk3.Through.To, .bool xk3.core] rfl rfl rfl rfl rfl Try.sizeOf113 rfl rfl rfl rfl (fun a w hf hs => ?_)
            refine R.nil ?_
            refine X.then_ ?_
            refine wp_seq ?_
            refine C.cut (J := fun a w => ∃ (c1 : Bool), M_ref4_CheckSpans_k4 Q next3 c1 ∧ FrOk 156 [(10, .slice y2A y2.length y2C), (140, .slice y2A y2.length y2C), (141, .int .i64 (y2.length : Int)), (142, .int .i64 (k3 : Int)), (154, .bool c1)] a ∧ Sat w0 none_ [hbox g1 113 [.int .i64 xk3.Through.From, .int .i64 xk3.Through.To, .bool xk3.core], hown 113 y2A y2C y2] w) ?_ ?_
            · rintro a w ⟨c1, h, hf, hs⟩
              unfold M_ref4_CheckSpans_k4 at h
              refine C.cond hf (b := c1) rfl (fun hc => ?_) (fun hc => ?_)
              · replace h := h.1 hc
                refine wp_seq ?_
                refine R.list ?_
                refine S.val hf hs (v := .int .i64 11) rfl rfl rfl (V.pure rfl) (fun a hf => ?_)
                refine R.nil ?_
                refine X.then_ ?_
                refine wp_ret ?_
                refine X.blk_ret ?_
                refine X.then_ret ?_
                refine X.then_ret ?_
                refine X.blk_ret ?_
                refine X.then_ret ?_
                exact L.ret hf (run_results1 Try.results46 (ResIs.tmp hf rfl)) ⟨11, rfl, h, hs.nil⟩
              · replace h := h.2 hc
                refine wp_skip ?_
                refine X.blk ?_
                refine X.then_ ?_
                refine R.list ?_
                refine S.val hf hs (v := .int .i64 ((k3 + 1 : Nat) : Int)) rfl rfl rfl (V.incr rfl rfl rfl hltk3 hlenk3) (fun a hf => ?_)
                refine S.val hf hs (v := .int .i64 ((k3 + 1 : Nat) : Int)) rfl rfl rfl (V.pure rfl) (fun a hf => ?_)
                refine R.nil ?_
                refine X.then_ ?_
                exact ⟨xk3, llk3, rfl, k3 + 1, range_drop hlk3, range_len hkk3, (by rw [hnext3] at h; exact h), ((((hf.nil.cons (hf.get 141 _ rfl)).cons (hf.get 140 _ rfl)).cons (hf.get 10 _ rfl)).cons (hf.get 142 _ rfl)), hs.drop⟩
            · skip
              refine R.list ?_
              refine S.val hf hs (v := .pointer (some ⟨g1, 2, none⟩)) rfl rfl rfl (V.fieldBox rfl rfl Try.runUnderlying113 rfl Try.sizeOf4 rfl rfl) (fun a hf => ?_)
              refine S.val hf hs (v := .bool xk3.core) rfl rfl rfl (V.loadBox 0 rfl rfl rfl Try.isAgg4 Try.sizeOf4 rfl rfl) (fun a hf => ?_)
              refine S.val hf hs (v := .bool (!xk3.core)) rfl rfl rfl (V.pure rfl) (fun a hf => ?_)
              refine S.split hf hs (b := !xk3.core) rfl rfl rfl (V.pure rfl) (fun hc a hf => ?_) (fun hc a hf => ?_)
              · replace h := h.1 hc
                refine S.val hf hs (v := .slice y2A y2.length y2C) rfl rfl rfl (V.pure rfl) (fun a hf => ?_)
                refine S.val hf hs (v := .agg #[.int .i64 xk3.Through.From, .int .i64 xk3.Through.To, .bool xk3.core]) rfl rfl rfl (V.loadBox 0 rfl rfl rfl Try.isAgg113 Try.sizeOf113 rfl rfl) (fun a hf => ?_)
                refine S.call hf rfl rfl rfl (call_fn (vs := [.slice y2A y2.length y2C, .agg #[.int .i64 xk3.Through.From, .int .i64 xk3.Through.To, .bool xk3.core]]) rfl rfl rfl Try.call87) (R_ref4_held y2 xk3 _ y2A y2C (hs.ownView 1 rfl) _ h) (fun v a w' hf hr => ?_)
                obtain ⟨y3, rfl, h2, hs2⟩ := hr
                replace h := h2; replace hs := hs.call hs2; clear h2 hs2
                refine S.val hf hs (v := .bool (!y3)) rfl rfl rfl (V.pure rfl) (fun a hf => ?_)
                refine S.val hf hs (v := .bool (!y3)) rfl rfl rfl (V.pure rfl) (fun a hf => ?_)
                refine R.nil ?_
                refine X.then_ ?_
                exact ⟨(!y3), h, (((((hf.nil.cons (hf.get 154 _ rfl)).cons (hf.get 142 _ rfl)).cons (hf.get 141 _ rfl)).cons (hf.get 140 _ rfl)).cons (hf.get 10 _ rfl)), hs⟩
              · replace h := h.2 hc
                refine S.skip hf rfl rfl rfl (fun a hf => ?_)
                refine S.skip hf rfl rfl rfl (fun a hf => ?_)
                refine S.skip hf rfl rfl rfl (fun a hf => ?_)
                refine S.skip hf rfl rfl rfl (fun a hf => ?_)
                refine S.val hf hs (v := .bool false) rfl rfl rfl (V.pure rfl) (fun a hf => ?_)
                refine R.nil ?_
                refine X.then_ ?_
                exact ⟨false, h, (((((hf.nil.cons (hf.get 154 _ rfl)).cons (hf.get 142 _ rfl)).cons (hf.get 141 _ rfl)).cons (hf.get 140 _ rfl)).cons (hf.get 10 _ rfl)), hs⟩
        | cons xk2 llk2 =>
          have hltk2 := range_lt hkk2; have hc := range_go hkk2; have hxk2 := range_get hlk2
          obtain ⟨next2, hnext2⟩ : ∃ X : Prop, X = (forIn' (fun k x (s : Unit) next => M_ref4_CheckSpans_L2 Q y2 k x (next ())) (fun (s : Unit) => forIn' (fun k x (s : Unit) next => M_ref4_CheckSpans_L3 Q y2 k x (next ())) (fun (s : Unit) => Q 0) y2 0 ()) llk2 (k2 + 1) ()) := ⟨_, rfl⟩
          replace h : M_ref4_CheckSpans_L2 Q y2 k2 xk2  next2 := by rw [hnext2]; exact h
          unfold M_ref4_CheckSpans_L2 at h
          refine wp_seq ?_
          refine R.list ?_
          refine S.val hf hs (v := .bool true) rfl rfl rfl (V.cmp true rfl rfl rfl rfl hc) (fun a hf => ?_)
          refine R.nil ?_
          refine X.then_ ?_
          refine wp_seq ?_
          refine C.yes hf rfl ?_
          refine wp_skip ?_
          refine X.then_ ?_
          refine wp_seq ?_
          refine wp_block ?_
          refine wp_seq ?_
          refine R.list ?_
          refine S.val hf hs (v := .int .i64 (k2 : Int)) rfl rfl rfl (V.pure rfl) (fun a hf => ?_)
          refine S.val hf hs (v := elemPtr y2A (k2 * 3)) rfl rfl rfl (V.index rfl rfl rfl Try.runUnderlying110 Try.sizeOf113 (hs.ownSome 0 rfl (lt_of_get hxk2)) (Int.natCast_nonneg _) (lt_of_get hxk2) rfl) (fun a hf => ?_)
          refine S.val hf hs (v := .agg #[.int .i64 xk2.Through.From, .int .i64 xk2.Through.To, .bool xk2.core]) rfl rfl rfl (V.loadOwn (off := 0) 0 rfl hxk2 rfl rfl rfl Try.isAgg113 Try.sizeOf113 rfl rfl) (fun a hf => ?_)
          refine S.alloc hf hs rfl rfl rfl [.int .i64 0, .int .i64 0, .bool false] rfl Try.zeroValue113 rfl (fun g2 a w hf hs => ?_)
          refine S.val hf hs (v := .int .i64 (k2 : Int)) rfl rfl rfl (V.pure rfl) (fun a hf => ?_)
          refine S.storeBox 0 hf hs rfl rfl [.int .i64 xk2.Through.From, .int .i64 xk2.Through.To, .bool xk2.core] [.int .i64 xk2.Through.From, .int .i64 xk2.Through.To, .bool xk2.core] rfl rfl rfl rfl rfl Try.sizeOf113 rfl rfl rfl rfl (fun a w hf hs => ?_)
          refine R.nil ?_
          refine X.then_ ?_
          refine wp_seq ?_
          refine R.list ?_
          refine S.val hf hs (v := .slice y2A y2.length y2C) rfl rfl rfl (V.pure rfl) (fun a hf => ?_)
          refine S.val hf hs (v := .int .i64 (k2 : Int)) rfl rfl rfl (V.pure rfl) (fun a hf => ?_)
          obtain ⟨hp1, h⟩ := h
          refine S.val hf hs (v := .slice y2A (y2.take (k2 : Int).toNat).length y2C) rfl rfl rfl (V.slicePre (xs := y2) rfl rfl rfl rfl Try.runUnderlying110 Try.sizeOf113 rfl hp1 (hs.ownView 1 rfl).cap) (fun a hf => ?_)
          refine S.val hf hs (v := .int .i64 ((y2.take (k2 : Int).toNat).length : Int)) rfl rfl rfl (V.len rfl rfl Try.runUnderlying110) (fun a hf => ?_)
          refine S.val hf hs (v := .int .i64 0) rfl rfl rfl (V.pure rfl) (fun a hf => ?_)
          refine R.nil ?_
          refine X.then_ ?_
          refine wp_block ?_
          have hlenk5 := (View.take (hs.ownView 1 rfl) (k2 : Int).toNat).len64
          refine C.range (fun (ll : List R4Sub) a w => ∃ (k5 : Nat) , (y2.take (k2 : Int).toNat).drop k5 = ll ∧ k5 + ll.length = (y2.take (k2 : Int).toNat).length ∧ forIn' (fun k x (s : Unit) next => M_ref4_CheckSpans_L4 Q xk2 k x (next ())) (fun (s : Unit) => next2) ll k5 () ∧ FrOk 156 [(103, .int .i64 (k5 : Int)), (10, .slice y2A y2.length y2C), (12, .pointer (some ⟨g2, 0, none⟩)), (92, .slice y2A y2.length y2C), (93, .int .i64 (y2.length : Int)), (94, .int .i64 (k2 : Int)), (101, .slice y2A (y2.take (k2 : Int).toNat).length y2C), (102, .int .i64 ((y2.take (k2 : Int).toNat).length : Int))] a ∧ Sat w0 none_ [hbox g2 113 [.int .i64 xk2.Through.From, .int .i64 xk2.Through.To, .bool xk2.core], hown 113 y2A y2C y2] w) (y2.take (k2 : Int).toNat) ⟨0, rfl, Nat.zero_add _, h, ((((((((hf.nil.cons (hf.get 102 _ rfl)).cons (hf.get 101 _ rfl)).cons (hf.get 94 _ rfl)).cons (hf.get 93 _ rfl)).cons (hf.get 92 _ rfl)).cons (hf.get 12 _ rfl)).cons (hf.get 10 _ rfl)).cons (hf.get 103 _ rfl)), hs⟩ ?_
          clear h hf hs
          rintro llk5 a w ⟨k5, hlk5, hkk5, h, hf, hs⟩
          cases llk5 with
          | nil =>
            have hc := range_done hkk5
            replace h : next2 := h
            refine wp_seq ?_
            refine R.list ?_
            refine S.val hf hs (v := .bool false) rfl rfl rfl (V.cmp false rfl rfl rfl rfl hc) (fun a hf => ?_)
            refine R.nil ?_
            refine X.then_ ?_
            refine wp_seq ?_
            refine C.no hf rfl ?_
            refine wp_exit ?_
            refine X.then_exit ?_
            refine X.then_exit ?_
            refine X.blk_exit ?_
            refine X.blk ?_
            refine X.then_ ?_
            refine R.list ?_
            refine S.val hf hs (v := .int .i64 ((k2 + 1 : Nat) : Int)) rfl rfl rfl (V.incr rfl rfl rfl hltk2 hlenk2) (fun a hf => ?_)
            refine S.val hf hs (v := .int .i64 ((k2 + 1 : Nat) : Int)) rfl rfl rfl (V.pure rfl) (fun a hf => ?_)
            refine R.nil ?_
            refine X.then_ ?_
            exact ⟨xk2, llk2, rfl, k2 + 1, range_drop hlk2, range_len hkk2, (by rw [hnext2] at h; exact h), ((((hf.nil.cons (hf.get 93 _ rfl)).cons (hf.get 92 _ rfl)).cons (hf.get 10 _ rfl)).cons (hf.get 94 _ rfl)), hs.drop⟩
          | cons xk5 llk5 =>
            have hltk5 := range_lt hkk5; have hc := range_go hkk5; have hxk5 := range_get hlk5
            obtain ⟨next4, hnext4⟩ : ∃ X : Prop, X = (forIn' (fun k x (s : Unit) next => M_ref4_CheckSpans_L4 Q xk2 k x (next ())) (fun (s : Unit) => next2) llk5 (k5 + 1) ()) := ⟨_, rfl⟩
            replace h : M_ref4_CheckSpans_L4 Q xk2 k5 xk5  next4 := by rw [hnext4]; exact h
            unfold M_ref4_CheckSpans_L4 at h
            refine wp_seq ?_
            refine R.list ?_
            refine S.val hf hs (v := .bool true) rfl rfl rfl (V.cmp true rfl rfl rfl rfl hc) (fun a hf => ?_)
            refine R.nil ?_
            refine X.then_ ?_
            refine wp_seq ?_
            refine C.yes hf rfl ?_
            refine wp_skip ?_
            refine X.then_ ?_
            refine wp_seq ?_
            refine wp_block ?_
            refine wp_seq ?_
            refine R.list ?_
            have hx1 := take_get hxk5
            refine S.val hf hs (v := elemPtr y2A (k5 * 3)) rfl rfl rfl (V.index rfl rfl rfl Try.runUnderlying110 Try.sizeOf113 (hs.ownSome 1 rfl (lt_of_get hx1)) (Int.natCast_nonneg _) (lt_of_get hxk5) rfl) (fun a hf => ?_)
            refine S.val hf hs (v := .agg #[.int .i64 xk5.Through.From, .int .i64 xk5.Through.To, .bool xk5.core]) rfl rfl rfl (V.loadOwn (off := 0) 1 rfl hx1 rfl rfl rfl Try.isAgg113 Try.sizeOf113 rfl rfl) (fun a hf => ?_)
            refine S.alloc hf hs rfl rfl rfl [.int .i64 0, .int .i64 0, .bool false] rfl Try.zeroValue113 rfl (fun g3 a w hf hs => ?_)
            refine S.storeBox 0 hf hs rfl rfl [.int .i64 xk5.Through.From, .int .i64 xk5.Through.To, .bool xk5.core] [.int .i64 xk5.Through.From, .int .i64 xk5.Through.To, .bool xk5.core] rfl rfl rfl rfl rfl Try.sizeOf113 rfl rfl rfl rfl (fun a w hf hs => ?_)
            refine R.nil ?_
            refine X.then_ ?_
            refine wp_seq ?_
            refine C.cut (J := fun a w => ∃ (c2 : Bool), M_ref4_CheckSpans_k6 Q next4 c2 ∧ FrOk 156 [(10, .slice y2A y2.length y2C), (12, .pointer (some ⟨g2, 0, none⟩)), (92, .slice y2A y2.length y2C), (93, .int .i64 (y2.length : Int)), (94, .int .i64 (k2 : Int)), (101, .slice y2A (y2.take (k2 : Int).toNat).length y2C), (102, .int .i64 ((y2.take (k2 : Int).toNat).length : Int)), (103, .int .i64 (k5 : Int)), (137, .bool c2)] a ∧ Sat w0 none_ [hbox g3 113 [.int .i64 xk5.Through.From, .int .i64 xk5.Through.To, .bool xk5.core], hbox g2 113 [.int .i64 xk2.Through.From, .int .i64 xk2.Through.To, .bool xk2.core], hown 113 y2A y2C y2] w) ?_ ?_
            · rintro a w ⟨c2, h, hf, hs⟩
              unfold M_ref4_CheckSpans_k6 at h
              refine C.cond hf (b := c2) rfl (fun hc => ?_) (fun hc => ?_)
              · replace h := h.1 hc
                refine wp_seq ?_
                refine R.list ?_
                refine S.val hf hs (v := .int .i64 12) rfl rfl rfl (V.pure rfl) (fun a hf => ?_)
                refine R.nil ?_
                refine X.then_ ?_
                refine wp_ret ?_
                refine X.blk_ret ?_
                refine X.then_ret ?_
                refine X.then_ret ?_
                refine X.blk_ret ?_
                refine X.blk_ret ?_
                refine X.then_ret ?_
                refine X.then_ret ?_
                refine X.blk_ret ?_
                refine X.then_ret ?_
                exact L.ret hf (run_results1 Try.results46 (ResIs.tmp hf rfl)) ⟨12, rfl, h, hs.nil⟩
              · replace h := h.2 hc
                refine wp_skip ?_
                refine X.blk ?_
                refine X.then_ ?_
                refine R.list ?_
                refine S.val hf hs (v := .int .i64 ((k5 + 1 : Nat) : Int)) rfl rfl rfl (V.incr rfl rfl rfl hltk5 hlenk5) (fun a hf => ?_)
                refine S.val hf hs (v := .int .i64 ((k5 + 1 : Nat) : Int)) rfl rfl rfl (V.pure rfl) (fun a hf => ?_)
                refine R.nil ?_
                refine X.then_ ?_
                exact ⟨xk5, llk5, rfl, k5 + 1, range_drop hlk5, range_len hkk5, (by rw [hnext4] at h; exact h), ((((((((hf.nil.cons (hf.get 102 _ rfl)).cons (hf.get 101 _ rfl)).cons (hf.get 94 _ rfl)).cons (hf.get 93 _ rfl)).cons (hf.get 92 _ rfl)).cons (hf.get 12 _ rfl)).cons (hf.get 10 _ rfl)).cons (hf.get 103 _ rfl)), hs.drop⟩
            · skip
              refine R.list ?_
              refine S.val hf hs (v := .pointer (some ⟨g2, 0, none⟩)) rfl rfl rfl (V.fieldBox rfl rfl Try.runUnderlying113 rfl Try.sizeOf59 rfl rfl) (fun a hf => ?_)
              refine S.val hf hs (v := .pointer (some ⟨g2, 0, none⟩)) rfl rfl rfl (V.fieldBox rfl rfl Try.runUnderlying59 rfl Try.sizeOf3 rfl rfl) (fun a hf => ?_)
              refine S.val hf hs (v := .int .i64 xk2.Through.From) rfl rfl rfl (V.loadBox 1 rfl rfl rfl Try.isAgg3 Try.sizeOf3 rfl rfl) (fun a hf => ?_)
              refine S.val hf hs (v := .pointer (some ⟨g3, 0, none⟩)) rfl rfl rfl (V.fieldBox rfl rfl Try.runUnderlying113 rfl Try.sizeOf59 rfl rfl) (fun a hf => ?_)
              refine S.val hf hs (v := .pointer (some ⟨g3, 0, none⟩)) rfl rfl rfl (V.fieldBox rfl rfl Try.runUnderlying59 rfl Try.sizeOf3 rfl rfl) (fun a hf => ?_)
              refine S.val hf hs (v := .int .i64 xk5.Through.From) rfl rfl rfl (V.loadBox 0 rfl rfl rfl Try.isAgg3 Try.sizeOf3 rfl rfl) (fun a hf => ?_)
              refine S.val hf hs (v := .int .i64 (max xk2.Through.From xk5.Through.From)) rfl rfl rfl (V.max2 rfl rfl rfl) (fun a hf => ?_)
              refine S.val hf hs (v := .pointer (some ⟨g2, 0, none⟩)) rfl rfl rfl (V.fieldBox rfl rfl Try.runUnderlying113 rfl Try.sizeOf59 rfl rfl) (fun a hf => ?_)
              refine S.val hf hs (v := .pointer (some ⟨g2, 1, none⟩)) rfl rfl rfl (V.fieldBox rfl rfl Try.runUnderlying59 rfl Try.sizeOf3 rfl rfl) (fun a hf => ?_)
              refine S.val hf hs (v := .int .i64 xk2.Through.To) rfl rfl rfl (V.loadBox 1 rfl rfl rfl Try.isAgg3 Try.sizeOf3 rfl rfl) (fun a hf => ?_)
              refine S.val hf hs (v := .pointer (some ⟨g3, 0, none⟩)) rfl rfl rfl (V.fieldBox rfl rfl Try.runUnderlying113 rfl Try.sizeOf59 rfl rfl) (fun a hf => ?_)
              refine S.val hf hs (v := .pointer (some ⟨g3, 1, none⟩)) rfl rfl rfl (V.fieldBox rfl rfl Try.runUnderlying59 rfl Try.sizeOf3 rfl rfl) (fun a hf => ?_)
              refine S.val hf hs (v := .int .i64 xk5.Through.To) rfl rfl rfl (V.loadBox 0 rfl rfl rfl Try.isAgg3 Try.sizeOf3 rfl rfl) (fun a hf => ?_)
              refine S.val hf hs (v := .int .i64 (min xk2.Through.To xk5.Through.To)) rfl rfl rfl (V.min2 rfl rfl rfl) (fun a hf => ?_)
              refine S.val hf hs (v := .bool (decide (max xk2.Through.From xk5.Through.From ≤ min xk2.Through.To xk5.Through.To))) rfl rfl rfl (V.pure rfl) (fun a hf => ?_)
              refine S.split hf hs (b := decide (max xk2.Through.From xk5.Through.From ≤ min xk2.Through.To xk5.Through.To)) rfl rfl rfl (V.pure rfl) (fun hc a hf => ?_) (fun hc a hf => ?_)
              · replace h := h.1 hc
                refine S.val hf hs (v := .pointer (some ⟨g2, 0, none⟩)) rfl rfl rfl (V.fieldBox rfl rfl Try.runUnderlying113 rfl Try.sizeOf59 rfl rfl) (fun a hf => ?_)
                refine S.val hf hs (v := .agg #[.int .i64 xk2.Through.From, .int .i64 xk2.Through.To]) rfl rfl rfl (V.loadBox 1 rfl rfl rfl Try.isAgg59 Try.sizeOf59 rfl rfl) (fun a hf => ?_)
                refine S.val hf hs (v := .pointer (some ⟨g3, 0, none⟩)) rfl rfl rfl (V.fieldBox rfl rfl Try.runUnderlying113 rfl Try.sizeOf59 rfl rfl) (fun a hf => ?_)
                refine S.val hf hs (v := .agg #[.int .i64 xk5.Through.From, .int .i64 xk5.Through.To]) rfl rfl rfl (V.loadBox 0 rfl rfl rfl Try.isAgg59 Try.sizeOf59 rfl rfl) (fun a hf => ?_)
                refine S.call hf rfl rfl rfl (call_fn (vs := [.agg #[.int .i64 xk2.Through.From, .int .i64 xk2.Through.To], .agg #[.int .i64 xk5.Through.From, .int .i64 xk5.Through.To]]) rfl rfl rfl Try.call86) (R_ref4_inside xk2.Through xk5.Through _  _ h) (fun v a w' hf hr => ?_)
                obtain ⟨y4, rfl, h2, hs2⟩ := hr
                replace h := h2; replace hs := hs.call hs2; clear h2 hs2
                refine S.val hf hs (v := .bool (!y4)) rfl rfl rfl (V.pure rfl) (fun a hf => ?_)
                refine S.val hf hs (v := .bool (!y4)) rfl rfl rfl (V.pure rfl) (fun a hf => ?_)
                refine S.split hf hs (b := !y4) rfl rfl rfl (V.pure rfl) (fun hc a hf => ?_) (fun hc a hf => ?_)
                · replace h := h.1 hc
                  refine S.val hf hs (v := .pointer (some ⟨g3, 0, none⟩)) rfl rfl rfl (V.fieldBox rfl rfl Try.runUnderlying113 rfl Try.sizeOf59 rfl rfl) (fun a hf => ?_)
                  refine S.val hf hs (v := .agg #[.int .i64 xk5.Through.From, .int .i64 xk5.Through.To]) rfl rfl rfl (V.loadBox 0 rfl rfl rfl Try.isAgg59 Try.sizeOf59 rfl rfl) (fun a hf => ?_)
                  refine S.val hf hs (v := .pointer (some ⟨g2, 0, none⟩)) rfl rfl rfl (V.fieldBox rfl rfl Try.runUnderlying113 rfl Try.sizeOf59 rfl rfl) (fun a hf => ?_)
                  refine S.val hf hs (v := .agg #[.int .i64 xk2.Through.From, .int .i64 xk2.Through.To]) rfl rfl rfl (V.loadBox 1 rfl rfl rfl Try.isAgg59 Try.sizeOf59 rfl rfl) (fun a hf => ?_)
                  refine S.call hf rfl rfl rfl (call_fn (vs := [.agg #[.int .i64 xk5.Through.From, .int .i64 xk5.Through.To], .agg #[.int .i64 xk2.Through.From, .int .i64 xk2.Through.To]]) rfl rfl rfl Try.call86) (R_ref4_inside xk5.Through xk2.Through _  _ h) (fun v a w' hf hr => ?_)
                  obtain ⟨y5, rfl, h2, hs2⟩ := hr
                  replace h := h2; replace hs := hs.call hs2; clear h2 hs2
                  refine S.val hf hs (v := .bool (!y5)) rfl rfl rfl (V.pure rfl) (fun a hf => ?_)
                  refine S.val hf hs (v := .bool (!y5)) rfl rfl rfl (V.pure rfl) (fun a hf => ?_)
                  refine R.nil ?_
                  refine X.then_ ?_
                  exact ⟨(!y5), h, (((((((((hf.nil.cons (hf.get 137 _ rfl)).cons (hf.get 103 _ rfl)).cons (hf.get 102 _ rfl)).cons (hf.get 101 _ rfl)).cons (hf.get 94 _ rfl)).cons (hf.get 93 _ rfl)).cons (hf.get 92 _ rfl)).cons (hf.get 12 _ rfl)).cons (hf.get 10 _ rfl)), hs⟩
                · replace h := h.2 hc
                  refine S.skip hf rfl rfl rfl (fun a hf => ?_)
                  refine S.skip hf rfl rfl rfl (fun a hf => ?_)
                  refine S.skip hf rfl rfl rfl (fun a hf => ?_)
                  refine S.skip hf rfl rfl rfl (fun a hf => ?_)
                  refine S.skip hf rfl rfl rfl (fun a hf => ?_)
                  refine S.skip hf rfl rfl rfl (fun a hf => ?_)
                  refine S.val hf hs (v := .bool false) rfl rfl rfl (V.pure rfl) (fun a hf => ?_)
                  refine R.nil ?_
                  refine X.then_ ?_
                  exact ⟨false, h, (((((((((hf.nil.cons (hf.get 137 _ rfl)).cons (hf.get 103 _ rfl)).cons (hf.get 102 _ rfl)).cons (hf.get 101 _ rfl)).cons (hf.get 94 _ rfl)).cons (hf.get 93 _ rfl)).cons (hf.get 92 _ rfl)).cons (hf.get 12 _ rfl)).cons (hf.get 10 _ rfl)), hs⟩
              · replace h := h.2 hc
                refine S.skip hf rfl rfl rfl (fun a hf => ?_)
                refine S.skip hf rfl rfl rfl (fun a hf => ?_)
                refine S.skip hf rfl rfl rfl (fun a hf => ?_)
                refine S.skip hf rfl rfl rfl (fun a hf => ?_)
                refine S.skip hf rfl rfl rfl (fun a hf => ?_)
                refine S.skip hf rfl rfl rfl (fun a hf => ?_)
                refine S.val hf hs (v := .bool false) rfl rfl rfl (V.pure rfl) (fun a hf => ?_)
                refine S.val hf hs (v := .bool false) rfl rfl rfl (V.pure rfl) (fun a hf => ?_)
                refine S.skip hf rfl rfl rfl (fun a hf => ?_)
                refine S.skip hf rfl rfl rfl (fun a hf => ?_)
                refine S.skip hf rfl rfl rfl (fun a hf => ?_)
                refine S.skip hf rfl rfl rfl (fun a hf => ?_)
                refine S.skip hf rfl rfl rfl (fun a hf => ?_)
                refine S.skip hf rfl rfl rfl (fun a hf => ?_)
                refine S.val hf hs (v := .bool false) rfl rfl rfl (V.pure rfl) (fun a hf => ?_)
                refine R.nil ?_
                refine X.then_ ?_
                exact ⟨false, h, (((((((((hf.nil.cons (hf.get 137 _ rfl)).cons (hf.get 103 _ rfl)).cons (hf.get 102 _ rfl)).cons (hf.get 101 _ rfl)).cons (hf.get 94 _ rfl)).cons (hf.get 93 _ rfl)).cons (hf.get 92 _ rfl)).cons (hf.get 12 _ rfl)).cons (hf.get 10 _ rfl)), hs⟩
      | cons xk1 llk1 =>
        have hltk1 := range_lt hkk1; have hc := range_go hkk1; have hxk1 := range_get hlk1
        obtain ⟨next1, hnext1⟩ : ∃ X : Prop, X = (forIn' (fun k x (s : Unit) next => M_ref4_CheckSpans_L1 m s_ l Q k x (next ())) (fun (s : Unit) => M_ref4_subs m s_ l fun y2 => forIn' (fun k x (s : Unit) next => M_ref4_CheckSpans_L2 Q y2 k x (next ())) (fun (s : Unit) => forIn' (fun k x (s : Unit) next => M_ref4_CheckSpans_L3 Q y2 k x (next ())) (fun (s : Unit) => Q 0) y2 0 ()) y2 0 ()) llk1 (k1 + 1) ()) := ⟨_, rfl⟩
        replace h : M_ref4_CheckSpans_L1 m s_ l Q k1 xk1  next1 := by rw [hnext1]; exact h
        unfold M_ref4_CheckSpans_L1 at h
        refine wp_seq ?_
        refine R.list ?_
        refine S.val hf hs (v := .bool true) rfl rfl rfl (V.cmp true rfl rfl rfl rfl hc) (fun a hf => ?_)
        refine R.nil ?_
        refine X.then_ ?_
        refine wp_seq ?_
        refine C.yes hf rfl ?_
        refine wp_skip ?_
        refine X.then_ ?_
        refine wp_seq ?_
        refine wp_block ?_
        refine wp_seq ?_
        refine R.list ?_
        refine S.val hf hs (v := .int .i64 (k1 : Int)) rfl rfl rfl (V.pure rfl) (fun a hf => ?_)
        refine S.val hf hs (v := elemPtr lA (k1 * 2)) rfl rfl rfl (V.index rfl rfl rfl Try.runUnderlying52 Try.sizeOf59 (hv_l.some_ (lt_of_get hxk1)) (Int.natCast_nonneg _) (lt_of_get hxk1) rfl) (fun a hf => ?_)
        refine S.val hf hs (v := .agg #[.int .i64 xk1.From, .int .i64 xk1.To]) rfl rfl rfl (V.loadEl (off := 0) (Ag.args _ _ _) (hv_l.flat hxk1) rfl rfl rfl Try.isAgg59 Try.sizeOf59 rfl rfl) (fun a hf => ?_)
        refine S.alloc hf hs rfl rfl rfl [.int .i64 0, .int .i64 0] rfl Try.zeroValue59 rfl (fun g4 a w hf hs => ?_)
        refine S.val hf hs (v := .int .i64 (k1 : Int)) rfl rfl rfl (V.pure rfl) (fun a hf => ?_)
        refine S.storeBox 0 hf hs rfl rfl [.int .i64 xk1.From, .int .i64 xk1.To] [.int .i64 xk1.From, .int .i64 xk1.To] rfl rfl rfl rfl rfl Try.sizeOf59 rfl rfl rfl rfl (fun a w hf hs => ?_)
        refine R.nil ?_
        refine X.then_ ?_
        refine wp_seq ?_
        refine wp_seq ?_
        refine C.cut (J := fun a w => ∃ (c3 : Bool), M_ref4_CheckSpans_k7 l Q k1 xk1 next1 c3 ∧ FrOk 156 [(0, .slice mA m.length mC), (1, .slice s_A s_.length s_C), (2, .slice lA l.length lC), (8, .int .i64 (k1 : Int)), (9, .pointer (some ⟨g4, 0, none⟩)), (26, .slice lA l.length lC), (27, .int .i64 (l.length : Int)), (28, .int .i64 (k1 : Int)), (51, .bool c3)] a ∧ Sat w0 none_ [hbox g4 59 [.int .i64 xk1.From, .int .i64 xk1.To]] w) ?_ ?_
        · rintro a w ⟨c3, h, hf, hs⟩
          unfold M_ref4_CheckSpans_k7 at h
          refine C.cond hf (b := c3) rfl (fun hc => ?_) (fun hc => ?_)
          · replace h := h.1 hc
            refine wp_seq ?_
            refine R.list ?_
            refine S.val hf hs (v := .int .i64 1) rfl rfl rfl (V.pure rfl) (fun a hf => ?_)
            refine R.nil ?_
            refine X.then_ ?_
            refine wp_ret ?_
            refine X.then_ret ?_
            refine X.blk_ret ?_
            refine X.then_ret ?_
            refine X.then_ret ?_
            refine X.blk_ret ?_
            refine X.then_ret ?_
            exact L.ret hf (run_results1 Try.results46 (ResIs.tmp hf rfl)) ⟨1, rfl, h, hs.nil⟩
          · replace h := h.2 hc
            refine wp_skip ?_
            refine X.then_ ?_
            refine wp_seq ?_
            refine C.cut (J := fun a w => ∃ (c4 : Bool), M_ref4_CheckSpans_k8 Q next1 c4 ∧ FrOk 156 [(0, .slice mA m.length mC), (1, .slice s_A s_.length s_C), (2, .slice lA l.length lC), (26, .slice lA l.length lC), (27, .int .i64 (l.length : Int)), (28, .int .i64 (k1 : Int)), (86, .bool c4)] a ∧ Sat w0 none_ [hbox g4 59 [.int .i64 xk1.From, .int .i64 xk1.To]] w) ?_ ?_
            · rintro a w ⟨c4, h, hf, hs⟩
              unfold M_ref4_CheckSpans_k8 at h
              refine C.cond hf (b := c4) rfl (fun hc => ?_) (fun hc => ?_)
              · replace h := h.1 hc
                refine wp_seq ?_
                refine R.list ?_
                refine S.val hf hs (v := .int .i64 8) rfl rfl rfl (V.pure rfl) (fun a hf => ?_)
                refine R.nil ?_
                refine X.then_ ?_
                refine wp_ret ?_
                refine X.blk_ret ?_
                refine X.then_ret ?_
                refine X.then_ret ?_
                refine X.blk_ret ?_
                refine X.then_ret ?_
                exact L.ret hf (run_results1 Try.results46 (ResIs.tmp hf rfl)) ⟨8, rfl, h, hs.nil⟩
              · replace h := h.2 hc
                refine wp_skip ?_
                refine X.blk ?_
                refine X.then_ ?_
                refine R.list ?_
                refine S.val hf hs (v := .int .i64 ((k1 + 1 : Nat) : Int)) rfl rfl rfl (V.incr rfl rfl rfl hltk1 hlenk1) (fun a hf => ?_)
                refine S.val hf hs (v := .int .i64 ((k1 + 1 : Nat) : Int)) rfl rfl rfl (V.pure rfl) (fun a hf => ?_)
                refine R.nil ?_
                refine X.then_ ?_
                exact ⟨xk1, llk1, rfl, k1 + 1, range_drop hlk1, range_len hkk1, (by rw [hnext1] at h; exact h), ((((((hf.nil.cons (hf.get 27 _ rfl)).cons (hf.get 26 _ rfl)).cons (hf.get 2 _ rfl)).cons (hf.get 1 _ rfl)).cons (hf.get 0 _ rfl)).cons (hf.get 28 _ rfl)), hs.drop⟩
            · skip
              refine R.draw mo (by kernel_rfl) hs ?_
              refine D.val hf (v := .int .i64 (k1 : Int)) rfl rfl rfl (V.pure rfl) (fun a hf => ?_)
              refine D.val hf (v := .bool (decide ((k1 : Int) > 0))) rfl rfl rfl (V.pure rfl) (fun a hf => ?_)
              refine D.split hf (b := decide ((k1 : Int) > 0)) rfl rfl rfl (V.pure rfl) (fun hc a hf => ?_) (fun hc a hf => ?_)
              · replace h := h.1 hc
                refine D.val hf (v := .pointer (some ⟨g4, 0, none⟩)) rfl rfl rfl (V.fieldBox rfl rfl Try.runUnderlying59 rfl Try.sizeOf3 rfl rfl) (fun a hf => ?_)
                refine D.val hf (v := .int .i64 xk1.From) rfl rfl rfl (V.loadBox 0 rfl rfl rfl Try.isAgg3 Try.sizeOf3 rfl rfl) (fun a hf => ?_)
                refine D.val hf (v := .slice lA l.length lC) rfl rfl rfl (V.pure rfl) (fun a hf => ?_)
                refine D.val hf (v := .int .i64 (k1 : Int)) rfl rfl rfl (V.pure rfl) (fun a hf => ?_)
                refine D.val hf (v := .int .i64 (w64 ((k1 : Int) - 1))) rfl rfl rfl (V.pure rfl) (fun a hf => ?_)
                obtain ⟨h0x1, x1, hx1, h⟩ := h
                refine D.val hf (v := elemPtr lA ((w64 ((k1 : Int) - 1)).toNat * 2)) rfl rfl rfl (V.index rfl rfl rfl Try.runUnderlying52 Try.sizeOf59 (hv_l.some_ (lt_of_get hx1)) h0x1 (lt_of_get hx1) rfl) (fun a hf => ?_)
                refine D.val hf (v := elemPtr lA ((w64 ((k1 : Int) - 1)).toNat * 2)) rfl rfl rfl (V.fieldEl rfl rfl (hv_l.some_ (lt_of_get hx1)) Try.runUnderlying59 rfl Try.sizeOf3 rfl rfl) (fun a hf => ?_)
                refine D.val hf (v := .int .i64 x1.From) rfl rfl rfl (V.loadEl (off := 0) (Ag.args _ _ _) (hv_l.flat hx1) rfl rfl rfl Try.isAgg3 Try.sizeOf3 rfl rfl) (fun a hf => ?_)
                refine D.val hf (v := .bool (decide (xk1.From < x1.From))) rfl rfl rfl (V.pure rfl) (fun a hf => ?_)
                refine D.split hf (b := decide (xk1.From < x1.From)) rfl rfl rfl (V.pure rfl) (fun hc a hf => ?_) (fun hc a hf => ?_)
                · replace h := h.1 hc
                  refine D.skip hf rfl rfl rfl (fun a hf => ?_)
                  refine D.skip hf rfl rfl rfl (fun a hf => ?_)
                  refine D.skip hf rfl rfl rfl (fun a hf => ?_)
                  refine D.skip hf rfl rfl rfl (fun a hf => ?_)
                  refine D.skip hf rfl rfl rfl (fun a hf => ?_)
                  refine D.skip hf rfl rfl rfl (fun a hf => ?_)
                  refine D.skip hf rfl rfl rfl (fun a hf => ?_)
                  refine D.skip hf rfl rfl rfl (fun a hf => ?_)
                  refine D.skip hf rfl rfl rfl (fun a hf => ?_)
                  refine D.skip hf rfl rfl rfl (fun a hf => ?_)
                  refine D.skip hf rfl rfl rfl (fun a hf => ?_)
                  refine D.skip hf rfl rfl rfl (fun a hf => ?_)
                  refine D.skip hf rfl rfl rfl (fun a hf => ?_)
                  refine D.skip hf rfl rfl rfl (fun a hf => ?_)
                  refine D.skip hf rfl rfl rfl (fun a hf => ?_)
                  refine D.skip hf rfl rfl rfl (fun a hf => ?_)
                  refine D.skip hf rfl rfl rfl (fun a hf => ?_)
                  refine D.skip hf rfl rfl rfl (fun a hf => ?_)
                  refine D.skip hf rfl rfl rfl (fun a hf => ?_)
                  refine D.skip hf rfl rfl rfl (fun a hf => ?_)
                  refine D.val hf (v := .bool true) rfl rfl rfl (V.pure rfl) (fun a hf => ?_)
                  refine D.val hf (v := .bool true) rfl rfl rfl (V.pure rfl) (fun a hf => ?_)
                  refine D.done (fun w hs => ?_)
                  refine X.then_ ?_
                  exact ⟨true, h, (((((((hf.nil.cons (hf.get 86 _ rfl)).cons (hf.get 28 _ rfl)).cons (hf.get 27 _ rfl)).cons (hf.get 26 _ rfl)).cons (hf.get 2 _ rfl)).cons (hf.get 1 _ rfl)).cons (hf.get 0 _ rfl)), hs⟩
                · replace h := h.2 hc
                  refine D.val hf (v := .pointer (some ⟨g4, 0, none⟩)) rfl rfl rfl (V.fieldBox rfl rfl Try.runUnderlying59 rfl Try.sizeOf3 rfl rfl) (fun a hf => ?_)
                  refine D.val hf (v := .int .i64 xk1.From) rfl rfl rfl (V.loadBox 0 rfl rfl rfl Try.isAgg3 Try.sizeOf3 rfl rfl) (fun a hf => ?_)
                  refine D.val hf (v := .slice lA l.length lC) rfl rfl rfl (V.pure rfl) (fun a hf => ?_)
                  refine D.val hf (v := .int .i64 (k1 : Int)) rfl rfl rfl (V.pure rfl) (fun a hf => ?_)
                  refine D.val hf (v := .int .i64 (w64 ((k1 : Int) - 1))) rfl rfl rfl (V.pure rfl) (fun a hf => ?_)
                  refine D.val hf (v := elemPtr lA ((w64 ((k1 : Int) - 1)).toNat * 2)) rfl rfl rfl (V.index rfl rfl rfl Try.runUnderlying52 Try.sizeOf59 (hv_l.some_ (lt_of_get hx1)) h0x1 (lt_of_get hx1) rfl) (fun a hf => ?_)
                  refine D.val hf (v := elemPtr lA ((w64 ((k1 : Int) - 1)).toNat * 2)) rfl rfl rfl (V.fieldEl rfl rfl (hv_l.some_ (lt_of_get hx1)) Try.runUnderlying59 rfl Try.sizeOf3 rfl rfl) (fun a hf => ?_)
                  refine D.val hf (v := .int .i64 x1.From) rfl rfl rfl (V.loadEl (off := 0) (Ag.args _ _ _) (hv_l.flat hx1) rfl rfl rfl Try.isAgg3 Try.sizeOf3 rfl rfl) (fun a hf => ?_)
                  refine D.val hf (v := .bool (xk1.From == x1.From)) rfl rfl rfl (V.pure rfl) (fun a hf => ?_)
                  refine D.split hf (b := xk1.From == x1.From) rfl rfl rfl (V.pure rfl) (fun hc a hf => ?_) (fun hc a hf => ?_)
                  · replace h := h.1 hc
                    refine D.val hf (v := .pointer (some ⟨g4, 1, none⟩)) rfl rfl rfl (V.fieldBox rfl rfl Try.runUnderlying59 rfl Try.sizeOf3 rfl rfl) (fun a hf => ?_)
                    refine D.val hf (v := .int .i64 xk1.To) rfl rfl rfl (V.loadBox 0 rfl rfl rfl Try.isAgg3 Try.sizeOf3 rfl rfl) (fun a hf => ?_)
                    refine D.val hf (v := .slice lA l.length lC) rfl rfl rfl (V.pure rfl) (fun a hf => ?_)
                    refine D.val hf (v := .int .i64 (k1 : Int)) rfl rfl rfl (V.pure rfl) (fun a hf => ?_)
                    refine D.val hf (v := .int .i64 (w64 ((k1 : Int) - 1))) rfl rfl rfl (V.pure rfl) (fun a hf => ?_)
                    refine D.val hf (v := elemPtr lA ((w64 ((k1 : Int) - 1)).toNat * 2)) rfl rfl rfl (V.index rfl rfl rfl Try.runUnderlying52 Try.sizeOf59 (hv_l.some_ (lt_of_get hx1)) h0x1 (lt_of_get hx1) rfl) (fun a hf => ?_)
                    refine D.val hf (v := elemPtr lA ((w64 ((k1 : Int) - 1)).toNat * 2 + 1)) rfl rfl rfl (V.fieldEl rfl rfl (hv_l.some_ (lt_of_get hx1)) Try.runUnderlying59 rfl Try.sizeOf3 rfl rfl) (fun a hf => ?_)
                    refine D.val hf (v := .int .i64 x1.To) rfl rfl rfl (V.loadEl (off := 1) (Ag.args _ _ _) (hv_l.flat hx1) rfl rfl rfl Try.isAgg3 Try.sizeOf3 rfl rfl) (fun a hf => ?_)
                    refine D.val hf (v := .bool (decide (xk1.To ≤ x1.To))) rfl rfl rfl (V.pure rfl) (fun a hf => ?_)
                    refine D.val hf (v := .bool (decide (xk1.To ≤ x1.To))) rfl rfl rfl (V.pure rfl) (fun a hf => ?_)
                    refine D.val hf (v := .bool (decide (xk1.To ≤ x1.To))) rfl rfl rfl (V.pure rfl) (fun a hf => ?_)
                    refine D.val hf (v := .bool (decide (xk1.To ≤ x1.To))) rfl rfl rfl (V.pure rfl) (fun a hf => ?_)
                    refine D.done (fun w hs => ?_)
                    refine X.then_ ?_
                    exact ⟨(decide (xk1.To ≤ x1.To)), h, (((((((hf.nil.cons (hf.get 86 _ rfl)).cons (hf.get 28 _ rfl)).cons (hf.get 27 _ rfl)).cons (hf.get 26 _ rfl)).cons (hf.get 2 _ rfl)).cons (hf.get 1 _ rfl)).cons (hf.get 0 _ rfl)), hs⟩
                  · replace h := h.2 hc
                    refine D.skip hf rfl rfl rfl (fun a hf => ?_)
                    refine D.skip hf rfl rfl rfl (fun a hf => ?_)
                    refine D.skip hf rfl rfl rfl (fun a hf => ?_)
                    refine D.skip hf rfl rfl rfl (fun a hf => ?_)
                    refine D.skip hf rfl rfl rfl (fun a hf => ?_)
                    refine D.skip hf rfl rfl rfl (fun a hf => ?_)
                    refine D.skip hf rfl rfl rfl (fun a hf => ?_)
                    refine D.skip hf rfl rfl rfl (fun a hf => ?_)
                    refine D.skip hf rfl rfl rfl (fun a hf => ?_)
                    refine D.val hf (v := .bool false) rfl rfl rfl (V.pure rfl) (fun a hf => ?_)
                    refine D.val hf (v := .bool false) rfl rfl rfl (V.pure rfl) (fun a hf => ?_)
                    refine D.val hf (v := .bool false) rfl rfl rfl (V.pure rfl) (fun a hf => ?_)
                    refine D.done (fun w hs => ?_)
                    refine X.then_ ?_
                    exact ⟨false, h, (((((((hf.nil.cons (hf.get 86 _ rfl)).cons (hf.get 28 _ rfl)).cons (hf.get 27 _ rfl)).cons (hf.get 26 _ rfl)).cons (hf.get 2 _ rfl)).cons (hf.get 1 _ rfl)).cons (hf.get 0 _ rfl)), hs⟩
              · replace h := h.2 hc
                refine D.skip hf rfl rfl rfl (fun a hf => ?_)
                refine D.skip hf rfl rfl rfl (fun a hf => ?_)
                refine D.skip hf rfl rfl rfl (fun a hf => ?_)
                refine D.skip hf rfl rfl rfl (fun a hf => ?_)
                refine D.skip hf rfl rfl rfl (fun a hf => ?_)
                refine D.skip hf rfl rfl rfl (fun a hf => ?_)
                refine D.skip hf rfl rfl rfl (fun a hf => ?_)
                refine D.skip hf rfl rfl rfl (fun a hf => ?_)
                refine D.skip hf rfl rfl rfl (fun a hf => ?_)
                refine D.skip hf rfl rfl rfl (fun a hf => ?_)
                refine D.skip hf rfl rfl rfl (fun a hf => ?_)
                refine D.skip hf rfl rfl rfl (fun a hf => ?_)
                refine D.skip hf rfl rfl rfl (fun a hf => ?_)
                refine D.skip hf rfl rfl rfl (fun a hf => ?_)
                refine D.skip hf rfl rfl rfl (fun a hf => ?_)
                refine D.skip hf rfl rfl rfl (fun a hf => ?_)
                refine D.skip hf rfl rfl rfl (fun a hf => ?_)
                refine D.skip hf rfl rfl rfl (fun a hf => ?_)
                refine D.skip hf rfl rfl rfl (fun a hf => ?_)
                refine D.skip hf rfl rfl rfl (fun a hf => ?_)
                refine D.skip hf rfl rfl rfl (fun a hf => ?_)
                refine D.skip hf rfl rfl rfl (fun a hf => ?_)
                refine D.skip hf rfl rfl rfl (fun a hf => ?_)
                refine D.skip hf rfl rfl rfl (fun a hf => ?_)
                refine D.skip hf rfl rfl rfl (fun a hf => ?_)
                refine D.skip hf rfl rfl rfl (fun a hf => ?_)
                refine D.skip hf rfl rfl rfl (fun a hf => ?_)
                refine D.skip hf rfl rfl rfl (fun a hf => ?_)
                refine D.skip hf rfl rfl rfl (fun a hf => ?_)
                refine D.skip hf rfl rfl rfl (fun a hf => ?_)
                refine D.skip hf rfl rfl rfl (fun a hf => ?_)
                refine D.val hf (v := .bool false) rfl rfl rfl (V.pure rfl) (fun a hf => ?_)
                refine D.done (fun w hs => ?_)
                refine X.then_ ?_
                exact ⟨false, h, (((((((hf.nil.cons (hf.get 86 _ rfl)).cons (hf.get 28 _ rfl)).cons (hf.get 27 _ rfl)).cons (hf.get 26 _ rfl)).cons (hf.get 2 _ rfl)).cons (hf.get 1 _ rfl)).cons (hf.get 0 _ rfl)), hs⟩
        · skip
          refine H.start (S := Sat w0 none_ [hbox g4 59 [.int .i64 xk1.From, .int .i64 xk1.To]]) mo ?_
          replace hs := hs.drew
          refine H.val hf hs (v := .pointer (some ⟨g4, 0, none⟩)) (i := 0) rfl rfl rfl rfl (by kernel_rfl) (by kernel_rfl) (by kernel_rfl) (V.fieldBox rfl rfl Try.runUnderlying59 rfl Try.sizeOf3 rfl rfl) (fun a hf => ?_)
          refine H.val hf hs (v := .int .i64 xk1.From) (i := 1) rfl rfl rfl rfl (by kernel_rfl) (by kernel_rfl) (by kernel_rfl) (V.loadBox 0 rfl rfl rfl Try.isAgg3 Try.sizeOf3 rfl rfl) (fun a hf => ?_)
          refine H.val hf hs (v := .bool (decide (xk1.From < 1))) (i := 2) rfl rfl rfl rfl (by kernel_rfl) (by kernel_rfl) (by kernel_rfl) (V.pure rfl) (fun a hf => ?_)
          refine H.split hf hs (b := decide (xk1.From < 1)) (i := 3) rfl rfl rfl rfl (by kernel_rfl) (by kernel_rfl) (by kernel_rfl) (V.pure rfl) (fun hc a hf => ?_) (fun hc a hf => ?_)
          · replace h := h.1 hc
            refine H.skip hf hs (i := 4) rfl rfl rfl rfl (by kernel_rfl) (by kernel_rfl) (by kernel_rfl) (fun a hf => ?_)
            refine H.skip hf hs (i := 5) rfl rfl rfl rfl (by kernel_rfl) (by kernel_rfl) (by kernel_rfl) (fun a hf => ?_)
            refine H.skip hf hs (i := 6) rfl rfl rfl rfl (by kernel_rfl) (by kernel_rfl) (by kernel_rfl) (fun a hf => ?_)
            refine H.skip hf hs (i := 7) rfl rfl rfl rfl (by kernel_rfl) (by kernel_rfl) (by kernel_rfl) (fun a hf => ?_)
            refine H.one (i := 8) rfl (by kernel_rfl) ?_
            refine S.skip hf rfl rfl rfl (fun a hf => ?_)
            refine R.nil ?_
            refine X.then_ ?_
            refine ⟨hs, ?_⟩
            refine H.skip hf hs (i := 9) rfl rfl rfl rfl (by kernel_rfl) (by kernel_rfl) (by kernel_rfl) (fun a hf => ?_)
            refine H.skip hf hs (i := 10) rfl rfl rfl rfl (by kernel_rfl) (by kernel_rfl) (by kernel_rfl) (fun a hf => ?_)
            refine H.val hf hs (v := .bool true) (i := 11) rfl rfl rfl rfl (by kernel_rfl) (by kernel_rfl) (by kernel_rfl) (V.pure rfl) (fun a hf => ?_)
            refine H.val hf hs (v := .bool true) (i := 12) rfl rfl rfl rfl (by kernel_rfl) (by kernel_rfl) (by kernel_rfl) (V.pure rfl) (fun a hf => ?_)
            refine H.skip hf hs (i := 13) rfl rfl rfl rfl (by kernel_rfl) (by kernel_rfl) (by kernel_rfl) (fun a hf => ?_)
            refine H.skip hf hs (i := 14) rfl rfl rfl rfl (by kernel_rfl) (by kernel_rfl) (by kernel_rfl) (fun a hf => ?_)
            refine H.skip hf hs (i := 15) rfl rfl rfl rfl (by kernel_rfl) (by kernel_rfl) (by kernel_rfl) (fun a hf => ?_)
            refine H.skip hf hs (i := 16) rfl rfl rfl rfl (by kernel_rfl) (by kernel_rfl) (by kernel_rfl) (fun a hf => ?_)
            refine H.skip hf hs (i := 17) rfl rfl rfl rfl (by kernel_rfl) (by kernel_rfl) (by kernel_rfl) (fun a hf => ?_)
            refine H.val hf hs (v := .bool true) (i := 18) rfl rfl rfl rfl (by kernel_rfl) (by kernel_rfl) (by kernel_rfl) (V.pure rfl) (fun a hf => ?_)
            refine H.done (by kernel_rfl) ?_
            refine X.then_ ?_
            exact ⟨true, h, (((((((((hf.nil.cons (hf.get 51 _ rfl)).cons (hf.get 28 _ rfl)).cons (hf.get 27 _ rfl)).cons (hf.get 26 _ rfl)).cons (hf.get 9 _ rfl)).cons (hf.get 8 _ rfl)).cons (hf.get 2 _ rfl)).cons (hf.get 1 _ rfl)).cons (hf.get 0 _ rfl)), hs⟩
          · replace h := h.2 hc
            refine H.val hf hs (v := .pointer (some ⟨g4, 1, none⟩)) (i := 4) rfl rfl rfl rfl (by kernel_rfl) (by kernel_rfl) (by kernel_rfl) (V.fieldBox rfl rfl Try.runUnderlying59 rfl Try.sizeOf3 rfl rfl) (fun a hf => ?_)
            refine H.val hf hs (v := .int .i64 xk1.To) (i := 5) rfl rfl rfl rfl (by kernel_rfl) (by kernel_rfl) (by kernel_rfl) (V.loadBox 0 rfl rfl rfl Try.isAgg3 Try.sizeOf3 rfl rfl) (fun a hf => ?_)
            refine H.val hf hs (v := .slice mA m.length mC) (i := 6) rfl rfl rfl rfl (by kernel_rfl) (by kernel_rfl) (by kernel_rfl) (V.pure rfl) (fun a hf => ?_)
            refine H.val hf hs (v := .slice s_A s_.length s_C) (i := 7) rfl rfl rfl rfl (by kernel_rfl) (by kernel_rfl) (by kernel_rfl) (V.pure rfl) (fun a hf => ?_)
            refine H.one (i := 8) rfl (by kernel_rfl) ?_
            refine S.call hf rfl rfl rfl (call_fn (vs := [.slice mA m.length mC, .slice s_A s_.length s_C]) rfl rfl rfl Try.call64) (R_ref4_coppers m s_ _ mA mC ((Ag.args _ _ _).view hv_m hs) s_A s_C ((Ag.args _ _ _).view hv_s_ hs) _ h) (fun v a w' hf hr => ?_)
            obtain ⟨y6, y6A, y6C, rfl, h2, hs2⟩ := hr
            replace h := h2; replace hs := hs.call hs2; clear h2 hs2
            refine R.nil ?_
            refine X.then_ ?_
            refine ⟨(hs.mask [false, true]), ?_⟩
            refine H.val hf (hs.mask [false, true]) (v := .int .i64 (y6.length : Int)) (i := 9) rfl rfl rfl rfl (by kernel_rfl) (by kernel_rfl) (by kernel_rfl) (V.len rfl rfl Try.runUnderlying43) (fun a hf => ?_)
            refine H.val hf (hs.mask [false, true]) (v := .bool (decide (xk1.To > (y6.length : Int)))) (i := 10) rfl rfl rfl rfl (by kernel_rfl) (by kernel_rfl) (by kernel_rfl) (V.pure rfl) (fun a hf => ?_)
            refine H.val hf (hs.mask [false, true]) (v := .bool (decide (xk1.To > (y6.length : Int)))) (i := 11) rfl rfl rfl rfl (by kernel_rfl) (by kernel_rfl) (by kernel_rfl) (V.pure rfl) (fun a hf => ?_)
            refine H.split hf (hs.mask [false, true]) (b := decide (xk1.To > (y6.length : Int))) (i := 12) rfl rfl rfl rfl (by kernel_rfl) (by kernel_rfl) (by kernel_rfl) (V.pure rfl) (fun hc a hf => ?_) (fun hc a hf => ?_)
            · replace h := h.1 hc
              refine H.skip hf (hs.mask [false, true]) (i := 13) rfl rfl rfl rfl (by kernel_rfl) (by kernel_rfl) (by kernel_rfl) (fun a hf => ?_)
              refine H.skip hf (hs.mask [false, true]) (i := 14) rfl rfl rfl rfl (by kernel_rfl) (by kernel_rfl) (by kernel_rfl) (fun a hf => ?_)
              refine H.skip hf (hs.mask [false, true]) (i := 15) rfl rfl rfl rfl (by kernel_rfl) (by kernel_rfl) (by kernel_rfl) (fun a hf => ?_)
              refine H.skip hf (hs.mask [false, true]) (i := 16) rfl rfl rfl rfl (by kernel_rfl) (by kernel_rfl) (by kernel_rfl) (fun a hf => ?_)
              refine H.skip hf (hs.mask [false, true]) (i := 17) rfl rfl rfl rfl (by kernel_rfl) (by kernel_rfl) (by kernel_rfl) (fun a hf => ?_)
              refine H.val hf (hs.mask [false, true]) (v := .bool true) (i := 18) rfl rfl rfl rfl (by kernel_rfl) (by kernel_rfl) (by kernel_rfl) (V.pure rfl) (fun a hf => ?_)
              refine H.done (by kernel_rfl) ?_
              refine X.then_ ?_
              exact ⟨true, h, (((((((((hf.nil.cons (hf.get 51 _ rfl)).cons (hf.get 28 _ rfl)).cons (hf.get 27 _ rfl)).cons (hf.get 26 _ rfl)).cons (hf.get 9 _ rfl)).cons (hf.get 8 _ rfl)).cons (hf.get 2 _ rfl)).cons (hf.get 1 _ rfl)).cons (hf.get 0 _ rfl)), hs.drop⟩
            · replace h := h.2 hc
              refine H.val hf (hs.mask [false, true]) (v := .pointer (some ⟨g4, 1, none⟩)) (i := 13) rfl rfl rfl rfl (by kernel_rfl) (by kernel_rfl) (by kernel_rfl) (V.fieldBox rfl rfl Try.runUnderlying59 rfl Try.sizeOf3 rfl rfl) (fun a hf => ?_)
              refine H.val hf (hs.mask [false, true]) (v := .int .i64 xk1.To) (i := 14) rfl rfl rfl rfl (by kernel_rfl) (by kernel_rfl) (by kernel_rfl) (V.loadBox 0 rfl rfl rfl Try.isAgg3 Try.sizeOf3 rfl rfl) (fun a hf => ?_)
              refine H.val hf (hs.mask [false, true]) (v := .pointer (some ⟨g4, 0, none⟩)) (i := 15) rfl rfl rfl rfl (by kernel_rfl) (by kernel_rfl) (by kernel_rfl) (V.fieldBox rfl rfl Try.runUnderlying59 rfl Try.sizeOf3 rfl rfl) (fun a hf => ?_)
              refine H.val hf (hs.mask [false, true]) (v := .int .i64 xk1.From) (i := 16) rfl rfl rfl rfl (by kernel_rfl) (by kernel_rfl) (by kernel_rfl) (V.loadBox 0 rfl rfl rfl Try.isAgg3 Try.sizeOf3 rfl rfl) (fun a hf => ?_)
              refine H.val hf (hs.mask [false, true]) (v := .bool (decide (xk1.To ≤ xk1.From))) (i := 17) rfl rfl rfl rfl (by kernel_rfl) (by kernel_rfl) (by kernel_rfl) (V.pure rfl) (fun a hf => ?_)
              refine H.val hf (hs.mask [false, true]) (v := .bool (decide (xk1.To ≤ xk1.From))) (i := 18) rfl rfl rfl rfl (by kernel_rfl) (by kernel_rfl) (by kernel_rfl) (V.pure rfl) (fun a hf => ?_)
              refine H.done (by kernel_rfl) ?_
              refine X.then_ ?_
              exact ⟨(decide (xk1.To ≤ xk1.From)), h, (((((((((hf.nil.cons (hf.get 51 _ rfl)).cons (hf.get 28 _ rfl)).cons (hf.get 27 _ rfl)).cons (hf.get 26 _ rfl)).cons (hf.get 9 _ rfl)).cons (hf.get 8 _ rfl)).cons (hf.get 2 _ rfl)).cons (hf.get 1 _ rfl)).cons (hf.get 0 _ rfl)), hs.drop⟩

end Go.Proofs.Ytjkkefhfbcgahaa
