/- Chapter 4: the fewest spans: the walks. -/
import Derived.Test.YtjkkefhfbcgahaaStackJ
namespace Go.Proofs.Ytjkkefhfbcgahaa
open Go Go.RowKit
set_option linter.unusedVariables false

/-- slices.Grow of nil: an empty row -/
def M_grow_thr (k : Int) (Q : (List Through) → Prop) : Prop := must (0 ≤ k ∧ room k.toNat 16) (Q ([] : List Through))
theorem R_grow_thr (i : Int) (w0 : World) (Q : (List Through) → Prop) (h : M_grow_thr i Q) :
    Ret Try.prog 104 #[.slice none 0 0, .int .i64 i] w0 fun v w' => ∃ (r0 : (List Through)) (r0A : Option Addr) (r0C : Nat), v = .slice r0A r0.length r0C ∧ Q r0 ∧ Sat w0 none_ [hown 59 r0A r0C r0] w' := by
  obtain ⟨⟨h0, hroom⟩, hq⟩ := h
  obtain ⟨k, rfl⟩ : ∃ k : Nat, i = (k : Int) := ⟨i.toNat, by omega⟩
  rw [Int.toNat_natCast] at hroom
  have hbig : k ≤ 9223372036854775807 := hroom.1
  refine fn_enter Try.func104 rfl Try.ntmps104 rfl (fs := [(0, .slice none 0 0), (1, .int .i64 (k : Int))]) rfl (fun a hf => ?_)
  have hs := (Sat.start w0 none_).nilOwn (α := Through) 59
  refine wp_seq ?_
  refine R.list ?_
  refine S.val hf hs (v := .slice none 0 0) rfl rfl rfl (V.pure rfl) (fun a hf => ?_)
  refine R.nil ?_
  refine X.then_ ?_
  refine wp_seq ?_
  refine wp_seq ?_
  refine R.list ?_
  refine S.val hf hs (v := .int .i64 (k : Int)) rfl rfl rfl (V.pure rfl) (fun a hf => ?_)
  refine S.val hf hs (v := .bool (decide ((k : Int) < 0))) rfl rfl rfl (V.pure rfl) (fun a hf => ?_)
  refine R.nil ?_
  refine X.then_ ?_
  refine C.cond hf (b := decide ((k : Int) < 0)) rfl (fun hc => ?_) (fun hc => ?_)
  · exfalso; simp at hc; omega
  refine wp_skip ?_
  refine X.then_ ?_
  refine wp_seq ?_
  refine wp_seq ?_
  refine R.list ?_
  refine S.val hf hs (v := .int .i64 (k : Int)) rfl rfl rfl (V.pure rfl) (fun a hf => ?_)
  refine S.val hf hs (v := .slice none 0 0) rfl rfl rfl (V.pure rfl) (fun a hf => ?_)
  refine S.val hf hs (v := .int .i64 ((0 : Nat) : Int)) rfl rfl rfl (V.cap rfl rfl Try.runUnderlying52) (fun a hf => ?_)
  refine S.val hf hs (v := .slice none 0 0) rfl rfl rfl (V.pure rfl) (fun a hf => ?_)
  refine S.val hf hs (v := .int .i64 ((0 : Nat) : Int)) rfl rfl rfl (V.len rfl rfl Try.runUnderlying52) (fun a hf => ?_)
  refine S.val hf hs (v := .int .i64 ((0 : Nat) : Int)) rfl rfl rfl (V.subNat rfl rfl rfl rfl (by omega)) (fun a hf => ?_)
  refine S.val hf hs (v := .int .i64 (k : Int)) rfl rfl rfl (V.subNat rfl rfl rfl (Nat.zero_add k) hbig) (fun a hf => ?_)
  refine S.val hf hs (v := .int .i64 (k : Int)) rfl rfl rfl (V.pure rfl) (fun a hf => ?_)
  refine R.nil ?_
  refine X.then_ ?_
  refine wp_seq ?_
  refine R.list ?_
  refine S.val hf hs (v := .int .i64 (k : Int)) rfl rfl rfl (V.pure rfl) (fun a hf => ?_)
  refine S.val hf hs (v := .bool (decide ((k : Int) > 0))) rfl rfl rfl (V.pure rfl) (fun a hf => ?_)
  refine R.nil ?_
  refine X.then_ ?_
  refine C.cond hf (b := decide ((k : Int) > 0)) rfl (fun hc2 => ?_) (fun hc2 => ?_)
  · have hk0 : 0 < k := by simp at hc2; omega
    refine R.list ?_
    refine S.val hf hs (v := .slice none 0 0) rfl rfl rfl (V.pure rfl) (fun a hf => ?_)
    refine S.val hf hs (v := .slice none 0 0) rfl rfl rfl (V.pure rfl) (fun a hf => ?_)
    refine S.val hf hs (v := .int .i64 ((0 : Nat) : Int)) rfl rfl rfl (V.cap rfl rfl Try.runUnderlying52) (fun a hf => ?_)
    refine S.val hf hs (v := .slice none 0 0) rfl rfl rfl (V.sliceCap rfl rfl rfl Try.runUnderlying52 Try.sizeOf59 (Nat.le_refl _)) (fun a hf => ?_)
    refine S.val hf hs (v := .int .i64 (k : Int)) rfl rfl rfl (V.pure rfl) (fun a hf => ?_)
    refine S.growRaw 0 (α := Through) hf hs rfl rfl rfl rfl rfl (Nat.le_refl _) rfl rfl Try.underlying52 Try.underlying3 info59 rfl (by omega) hk0 (by rw [List.length_nil, Nat.zero_add]; exact hroom) (fun g cs C' a w hf i1 i2 i3 i4 hs => ?_)
    refine S.val hf hs (v := .slice none 0 0) rfl rfl rfl (V.pure rfl) (fun a hf => ?_)
    refine S.val hf hs (v := .int .i64 ((0 : Nat) : Int)) rfl rfl rfl (V.len rfl rfl Try.runUnderlying52) (fun a hf => ?_)
    refine S.val hf hs (v := .slice (some ⟨g, 0, none⟩) 0 C') rfl rfl rfl (V.sliceCap rfl rfl rfl Try.runUnderlying52 Try.sizeOf59 (Nat.zero_le _)) (fun a hf => ?_)
    refine S.val hf hs (v := .slice (some ⟨g, 0, none⟩) 0 C') rfl rfl rfl (V.pure rfl) (fun a hf => ?_)
    refine R.nil ?_
    refine X.then_ ?_
    refine wp_seq ?_
    refine R.list ?_
    refine S.val hf hs (v := .slice (some ⟨g, 0, none⟩) 0 C') rfl rfl rfl (V.pure rfl) (fun a hf => ?_)
    refine S.val hf hs (v := .slice (some ⟨g, 0, none⟩) 0 C') rfl rfl rfl (V.pure rfl) (fun a hf => ?_)
    refine R.nil ?_
    refine X.then_ ?_
    refine wp_ret ?_
    have hs2 := hs.ofRaw 0 rfl (C := C') ([] : List Through) i1 (Nat.zero_le _) i3 (by simp)
    exact L.ret hf (run_results1 Try.results104 (ResIs.tmp hf rfl)) ⟨[], some ⟨g, 0, none⟩, C', rfl, hq, hs2.take 1⟩
  refine wp_skip ?_
  refine X.then_ ?_
  refine wp_seq ?_
  refine R.list ?_
  refine S.val hf hs (v := .slice none 0 0) rfl rfl rfl (V.pure rfl) (fun a hf => ?_)
  refine S.val hf hs (v := .slice none 0 0) rfl rfl rfl (V.pure rfl) (fun a hf => ?_)
  refine R.nil ?_
  refine X.then_ ?_
  refine wp_ret ?_
  exact L.ret hf (run_results1 Try.results104 (ResIs.tmp hf rfl)) ⟨[], none, 0, rfl, hq, hs⟩

set_option linter.unusedVariables false
def M_concat_thr_L2  (k2 : Nat) (xk2 : (List Through)) (l2 : List Through) (next2 : List Through → Prop) : Prop :=
  must (room (l2 ++ xk2).length 16) (next2 (l2 ++ xk2))
def M_concat_thr_L1  (k1 : Nat) (xk1 : (List Through)) (n2 : Int) (next1 : Int → Prop) : Prop :=
  cnd (decide (w64 (n2 + (xk1.length : Int)) < 0)) (False) (next1 (w64 (n2 + (xk1.length : Int))))
def M_concat_thr (slices : (List (List Through))) (Q : (List Through) → Prop) : Prop :=
  forIn' (fun k x (s : Int) next => M_concat_thr_L1 k x s (fun n2 => next n2)) (fun (s : Int) => (fun (n2 : Int) => M_grow_thr n2 fun y1 => forIn' (fun k x (s : List Through) next => M_concat_thr_L2 k x s (fun l2 => next l2)) (fun (s : List Through) => (fun (l2 : List Through) => Q l2) s) slices 0 y1) s) slices 0 0
set_option maxHeartbeats 1000000 in
theorem R_concat_thr (slices : (List (List Through))) (w0 : World) (slicesA : Option Addr) (slicesC : Nat) (hv_slices : View w0 (old w0 none_) slicesA slicesC slices) (Q : (List Through) → Prop) (h : M_concat_thr slices Q) :
    Ret Try.prog 81 #[.slice slicesA slices.length slicesC] w0 fun v w' => ∃ (r0 : (List Through)) (r0A : Option Addr) (r0C : Nat), v = .slice r0A r0.length r0C ∧ Q r0 ∧ Sat w0 none_ [hown 59 r0A r0C r0] w' := by
  refine fn_enter Try.func81 rfl Try.ntmps81 rfl (fs := [(0, .slice slicesA slices.length slicesC)]) rfl (fun a hf => ?_)
  have hs := Sat.start w0 none_
  unfold M_concat_thr at h
  refine wp_seq ?_
  refine R.list ?_
  refine S.val hf hs (v := .slice none 0 0) rfl rfl rfl (V.pure rfl) (fun a hf => ?_)
  refine R.nil ?_
  refine X.then_ ?_
  refine wp_seq ?_
  refine R.list ?_
  refine S.val hf hs (v := .int .i64 0) rfl rfl rfl (V.pure rfl) (fun a hf => ?_)
  refine R.nil ?_
  refine X.then_ ?_
  refine wp_seq ?_
  refine wp_seq ?_
  refine R.list ?_
  refine S.val hf hs (v := .slice slicesA slices.length slicesC) rfl rfl rfl (V.pure rfl) (fun a hf => ?_)
  refine S.val hf hs (v := .int .i64 (slices.length : Int)) rfl rfl rfl (V.len rfl rfl Try.runUnderlying133) (fun a hf => ?_)
  refine S.val hf hs (v := .int .i64 0) rfl rfl rfl (V.pure rfl) (fun a hf => ?_)
  refine R.nil ?_
  refine X.then_ ?_
  refine wp_block ?_
  have hlenk1 := hv_slices.len64
  refine C.range (fun (ll : List (List Through)) a w => ∃ (k1 : Nat) (n2 : Int), slices.drop k1 = ll ∧ k1 + ll.length = slices.length ∧ forIn' (fun k x (s : Int) next => M_concat_thr_L1 k x s (fun n2 => next n2)) (fun (s : Int) => (fun (n2 : Int) => M_grow_thr n2 fun y1 => forIn' (fun k x (s : List Through) next => M_concat_thr_L2 k x s (fun l2 => next l2)) (fun (s : List Through) => (fun (l2 : List Through) => Q l2) s) slices 0 y1) s) ll k1 n2 ∧ FrOk 36 [(11, .int .i64 (k1 : Int)), (0, .slice slicesA slices.length slicesC), (3, .int .i64 n2), (9, .slice slicesA slices.length slicesC), (10, .int .i64 (slices.length : Int))] a ∧ Sat w0 none_ [] w) slices ⟨0, 0, rfl, Nat.zero_add _, h, (((((hf.nil.cons (hf.get 10 _ rfl)).cons (hf.get 9 _ rfl)).cons (hf.get 3 _ rfl)).cons (hf.get 0 _ rfl)).cons (hf.get 11 _ rfl)), hs⟩ ?_
  clear h hf hs
  rintro llk1 a w ⟨k1, n2, hlk1, hkk1, h, hf, hs⟩
  cases llk1 with
  | nil =>
    have hc := range_done hkk1
    replace h : (fun (n2 : Int) => M_grow_thr n2 fun y1 => forIn' (fun k x (s : List Through) next => M_concat_thr_L2 k x s (fun l2 => next l2)) (fun (s : List Through) => (fun (l2 : List Through) => Q l2) s) slices 0 y1) n2 := h
    refine wp_seq ?_
    refine R.list ?_
    refine S.val hf hs (v := .bool false) rfl rfl rfl (V.cmp false rfl rfl rfl rfl hc) (fun a hf => ?_)
    refine R.nil ?_
    refine X.then_ ?_
    refine wp_seq ?_
    refine C.no hf rfl ?_
    refine wp_exit ?_
    refine X.then_exit ?_
    refine X.then_exit ?_
    refine X.blk_exit ?_
    refine X.then_ ?_
    refine wp_seq ?_
    refine R.list ?_
    refine S.val hf hs (v := .int .i64 n2) rfl rfl rfl (V.pure rfl) (fun a hf => ?_)
    refine S.call hf rfl rfl rfl (call_fn (vs := [.slice none 0 0, .int .i64 n2]) rfl rfl rfl Try.call104) (R_grow_thr n2 _  _ h) (fun v a w' hf hr => ?_)
    obtain ⟨y1, y1A, y1C, rfl, h2, hs2⟩ := hr
    replace h := h2; replace hs := hs.call hs2; clear h2 hs2
    refine S.val hf hs (v := .slice y1A y1.length y1C) rfl rfl rfl (V.pure rfl) (fun a hf => ?_)
    refine R.nil ?_
    refine X.then_ ?_
    refine wp_seq ?_
    refine wp_seq ?_
    refine R.list ?_
    refine S.val hf hs (v := .slice slicesA slices.length slicesC) rfl rfl rfl (V.pure rfl) (fun a hf => ?_)
    refine S.val hf hs (v := .int .i64 (slices.length : Int)) rfl rfl rfl (V.len rfl rfl Try.runUnderlying133) (fun a hf => ?_)
    refine S.val hf hs (v := .int .i64 0) rfl rfl rfl (V.pure rfl) (fun a hf => ?_)
    refine R.nil ?_
    refine X.then_ ?_
    refine wp_block ?_
    have hlenk2 := hv_slices.len64
    refine C.range (fun (ll : List (List Through)) a w => ∃ (k2 : Nat) (l2 : List Through) (l2A : Option Addr) (l2C : Nat), slices.drop k2 = ll ∧ k2 + ll.length = slices.length ∧ forIn' (fun k x (s : List Through) next => M_concat_thr_L2 k x s (fun l2 => next l2)) (fun (s : List Through) => (fun (l2 : List Through) => Q l2) s) ll k2 l2 ∧ FrOk 36 [(27, .int .i64 (k2 : Int)), (6, .slice l2A l2.length l2C), (25, .slice slicesA slices.length slicesC), (26, .int .i64 (slices.length : Int))] a ∧ Sat w0 none_ [hown 59 l2A l2C l2] w) slices ⟨0, y1, y1A, y1C, rfl, Nat.zero_add _, h, ((((hf.nil.cons (hf.get 26 _ rfl)).cons (hf.get 25 _ rfl)).cons (hf.get 6 _ rfl)).cons (hf.get 27 _ rfl)), hs⟩ ?_
    clear h hf hs
    rintro llk2 a w ⟨k2, l2, l2A, l2C, hlk2, hkk2, h, hf, hs⟩
    cases llk2 with
    | nil =>
      have hc := range_done hkk2
      replace h : (fun (l2 : List Through) => Q l2) l2 := h
      refine wp_seq ?_
      refine R.list ?_
      refine S.val hf hs (v := .bool false) rfl rfl rfl (V.cmp false rfl rfl rfl rfl hc) (fun a hf => ?_)
      refine R.nil ?_
      refine X.then_ ?_
      refine wp_seq ?_
      refine C.no hf rfl ?_
      refine wp_exit ?_
      refine X.then_exit ?_
      refine X.then_exit ?_
      refine X.blk_exit ?_
      refine X.then_ ?_
      refine wp_seq ?_
      refine R.list ?_
      refine S.val hf hs (v := .slice l2A l2.length l2C) rfl rfl rfl (V.pure rfl) (fun a hf => ?_)
      refine S.val hf hs (v := .slice l2A l2.length l2C) rfl rfl rfl (V.pure rfl) (fun a hf => ?_)
      refine R.nil ?_
      refine X.then_ ?_
      refine wp_ret ?_
      replace hs := hs.take 1
      exact L.ret hf (run_results1 Try.results81 (ResIs.tmp hf rfl)) ⟨l2, l2A, l2C, rfl, h, hs⟩
    | cons xk2 llk2 =>
      have hltk2 := range_lt hkk2; have hc := range_go hkk2; have hxk2 := range_get hlk2
      obtain ⟨next2, hnext2⟩ : ∃ X : List Through → Prop, X = (fun l2 => forIn' (fun k x (s : List Through) next => M_concat_thr_L2 k x s (fun l2 => next l2)) (fun (s : List Through) => (fun (l2 : List Through) => Q l2) s) llk2 (k2 + 1) l2) := ⟨_, rfl⟩
      replace h : M_concat_thr_L2 k2 xk2 l2 next2 := by rw [hnext2]; exact h
      unfold M_concat_thr_L2 at h
      refine wp_seq ?_
      refine R.list ?_
      refine S.val hf hs (v := .bool true) rfl rfl rfl (V.cmp true rfl rfl rfl rfl hc) (fun a hf => ?_)
      refine R.nil ?_
      refine X.then_ ?_
      refine wp_seq ?_
      refine C.yes hf rfl ?_
      refine wp_skip ?_
      refine X.then_ ?_
      refine wp_seq ?_
      refine wp_block ?_
      refine wp_seq ?_
      refine R.list ?_
      obtain ⟨cs1, he1, hr1⟩ := hv_slices.at_ _ _ hxk2
      obtain ⟨u1A, u1C, rfl, hvu1⟩ := hr1
      refine S.val hf hs (v := elemPtr slicesA (k2 * 1)) rfl rfl rfl (V.index rfl rfl rfl Try.runUnderlying133 Try.sizeOf52 (hv_slices.some_ (lt_of_get hxk2)) (Int.natCast_nonneg _) (lt_of_get hxk2) rfl) (fun a hf => ?_)
      refine S.val hf hs (v := .slice u1A xk2.length u1C) rfl rfl rfl (V.loadEl (off := 0) (Ag.args _ _ _) he1 rfl rfl rfl Try.isAgg52 Try.sizeOf52 rfl rfl) (fun a hf => ?_)
      refine S.val hf hs (v := .slice u1A xk2.length u1C) rfl rfl rfl (V.pure rfl) (fun a hf => ?_)
      refine R.nil ?_
      refine X.then_ ?_
      refine R.list ?_
      refine S.val hf hs (v := .slice l2A l2.length l2C) rfl rfl rfl (V.pure rfl) (fun a hf => ?_)
      refine S.val hf hs (v := .slice u1A xk2.length u1C) rfl rfl rfl (V.pure rfl) (fun a hf => ?_)
      obtain ⟨hroom, h⟩ := h
      refine S.appendAny 0 hf hs rfl rfl rfl rfl rfl rfl rfl Try.underlying52 info59 rfl hroom ((Ag.args _ _ _).view hvu1 hs) (fun A1 C1 a w hf hs => ?_)
      refine S.val hf hs (v := .slice A1 (l2 ++ xk2).length C1) rfl rfl rfl (V.pure rfl) (fun a hf => ?_)
      refine R.nil ?_
      refine X.blk ?_
      refine X.then_ ?_
      refine R.list ?_
      refine S.val hf hs (v := .int .i64 ((k2 + 1 : Nat) : Int)) rfl rfl rfl (V.incr rfl rfl rfl hltk2 hlenk2) (fun a hf => ?_)
      refine S.val hf hs (v := .int .i64 ((k2 + 1 : Nat) : Int)) rfl rfl rfl (V.pure rfl) (fun a hf => ?_)
      refine R.nil ?_
      refine X.then_ ?_
      exact ⟨xk2, llk2, rfl, k2 + 1, (l2 ++ xk2), A1, C1, range_drop hlk2, range_len hkk2, (by rw [hnext2] at h; exact h), ((((hf.nil.cons (hf.get 26 _ rfl)).cons (hf.get 25 _ rfl)).cons (hf.get 6 _ rfl)).cons (hf.get 27 _ rfl)), hs⟩
  | cons xk1 llk1 =>
    have hltk1 := range_lt hkk1; have hc := range_go hkk1; have hxk1 := range_get hlk1
    obtain ⟨next1, hnext1⟩ : ∃ X : Int → Prop, X = (fun n2 => forIn' (fun k x (s : Int) next => M_concat_thr_L1 k x s (fun n2 => next n2)) (fun (s : Int) => (fun (n2 : Int) => M_grow_thr n2 fun y1 => forIn' (fun k x (s : List Through) next => M_concat_thr_L2 k x s (fun l2 => next l2)) (fun (s : List Through) => (fun (l2 : List Through) => Q l2) s) slices 0 y1) s) llk1 (k1 + 1) n2) := ⟨_, rfl⟩
    replace h : M_concat_thr_L1 k1 xk1 n2 next1 := by rw [hnext1]; exact h
    unfold M_concat_thr_L1 at h
    refine wp_seq ?_
    refine R.list ?_
    refine S.val hf hs (v := .bool true) rfl rfl rfl (V.cmp true rfl rfl rfl rfl hc) (fun a hf => ?_)
    refine R.nil ?_
    refine X.then_ ?_
    refine wp_seq ?_
    refine C.yes hf rfl ?_
    refine wp_skip ?_
    refine X.then_ ?_
    refine wp_seq ?_
    refine wp_block ?_
    refine wp_seq ?_
    refine R.list ?_
    obtain ⟨cs2, he2, hr2⟩ := hv_slices.at_ _ _ hxk1
    obtain ⟨u2A, u2C, rfl, hvu2⟩ := hr2
    refine S.val hf hs (v := elemPtr slicesA (k1 * 1)) rfl rfl rfl (V.index rfl rfl rfl Try.runUnderlying133 Try.sizeOf52 (hv_slices.some_ (lt_of_get hxk1)) (Int.natCast_nonneg _) (lt_of_get hxk1) rfl) (fun a hf => ?_)
    refine S.val hf hs (v := .slice u2A xk1.length u2C) rfl rfl rfl (V.loadEl (off := 0) (Ag.args _ _ _) he2 rfl rfl rfl Try.isAgg52 Try.sizeOf52 rfl rfl) (fun a hf => ?_)
    refine S.val hf hs (v := .slice u2A xk1.length u2C) rfl rfl rfl (V.pure rfl) (fun a hf => ?_)
    refine R.nil ?_
    refine X.then_ ?_
    refine wp_seq ?_
    refine R.list ?_
    refine S.val hf hs (v := .int .i64 n2) rfl rfl rfl (V.pure rfl) (fun a hf => ?_)
    refine S.val hf hs (v := .slice u2A xk1.length u2C) rfl rfl rfl (V.pure rfl) (fun a hf => ?_)
    refine S.val hf hs (v := .int .i64 (xk1.length : Int)) rfl rfl rfl (V.len rfl rfl Try.runUnderlying52) (fun a hf => ?_)
    refine S.val hf hs (v := .int .i64 (w64 (n2 + (xk1.length : Int)))) rfl rfl rfl (V.pure rfl) (fun a hf => ?_)
    refine S.val hf hs (v := .int .i64 (w64 (n2 + (xk1.length : Int)))) rfl rfl rfl (V.pure rfl) (fun a hf => ?_)
    refine R.nil ?_
    refine X.then_ ?_
    refine wp_seq ?_
    refine R.list ?_
    refine S.val hf hs (v := .int .i64 (w64 (n2 + (xk1.length : Int)))) rfl rfl rfl (V.pure rfl) (fun a hf => ?_)
    refine S.val hf hs (v := .bool (decide (w64 (n2 + (xk1.length : Int)) < 0))) rfl rfl rfl (V.pure rfl) (fun a hf => ?_)
    refine R.nil ?_
    refine X.then_ ?_
    refine C.cond hf (b := decide (w64 (n2 + (xk1.length : Int)) < 0)) rfl (fun hc => ?_) (fun hc => ?_)
    · replace h := h.1 hc
      exact h.elim
    · replace h := h.2 hc
      refine wp_skip ?_
      refine X.blk ?_
      refine X.then_ ?_
      refine R.list ?_
      refine S.val hf hs (v := .int .i64 ((k1 + 1 : Nat) : Int)) rfl rfl rfl (V.incr rfl rfl rfl hltk1 hlenk1) (fun a hf => ?_)
      refine S.val hf hs (v := .int .i64 ((k1 + 1 : Nat) : Int)) rfl rfl rfl (V.pure rfl) (fun a hf => ?_)
      refine R.nil ?_
      refine X.then_ ?_
      exact ⟨xk1, llk1, rfl, k1 + 1, (w64 (n2 + (xk1.length : Int))), range_drop hlk1, range_len hkk1, (by rw [hnext1] at h; exact h), (((((hf.nil.cons (hf.get 10 _ rfl)).cons (hf.get 9 _ rfl)).cons (hf.get 3 _ rfl)).cons (hf.get 0 _ rfl)).cons (hf.get 11 _ rfl)), hs⟩

set_option linter.unusedVariables false
def M_equal_int_L1 (s2 : (List Int)) (Q : Bool → Prop) (k1 : Nat) (xk1 : Int)  (next1 : Prop) : Prop :=
  idx s2 (k1 : Int) fun x1 => cnd (xk1 != x1) (Q false) (next1)
def M_equal_int (s1 : (List Int)) (s2 : (List Int)) (Q : Bool → Prop) : Prop :=
  cnd ((s1.length : Int) != (s2.length : Int)) (Q false) (forIn' (fun k x (s : Unit) next => M_equal_int_L1 s2 Q k x (next ())) (fun (s : Unit) => Q true) s1 0 ())
set_option maxHeartbeats 1000000 in
theorem R_equal_int (s1 : (List Int)) (s2 : (List Int)) (w0 : World) (s1A : Option Addr) (s1C : Nat) (hv_s1 : View w0 (old w0 none_) s1A s1C s1) (s2A : Option Addr) (s2C : Nat) (hv_s2 : View w0 (old w0 none_) s2A s2C s2) (Q : Bool → Prop) (h : M_equal_int s1 s2 Q) :
    Ret Try.prog 37 #[.slice s1A s1.length s1C, .slice s2A s2.length s2C] w0 fun v w' => ∃ (r0 : Bool), v = .bool r0 ∧ Q r0 ∧ Sat w0 none_ [] w' := by
  refine fn_enter Try.func37 rfl Try.ntmps37 rfl (fs := [(0, .slice s1A s1.length s1C), (1, .slice s2A s2.length s2C)]) rfl (fun a hf => ?_)
  have hs := Sat.start w0 none_
  unfold M_equal_int at h
  refine wp_seq ?_
  refine R.list ?_
  refine S.val hf hs (v := .bool false) rfl rfl rfl (V.pure rfl) (fun a hf => ?_)
  refine R.nil ?_
  refine X.then_ ?_
  refine wp_seq ?_
  refine wp_seq ?_
  refine R.list ?_
  refine S.val hf hs (v := .slice s1A s1.length s1C) rfl rfl rfl (V.pure rfl) (fun a hf => ?_)
  refine S.val hf hs (v := .int .i64 (s1.length : Int)) rfl rfl rfl (V.len rfl rfl Try.runUnderlying43) (fun a hf => ?_)
  refine S.val hf hs (v := .slice s2A s2.length s2C) rfl rfl rfl (V.pure rfl) (fun a hf => ?_)
  refine S.val hf hs (v := .int .i64 (s2.length : Int)) rfl rfl rfl (V.len rfl rfl Try.runUnderlying43) (fun a hf => ?_)
  refine S.val hf hs (v := .bool ((s1.length : Int) != (s2.length : Int))) rfl rfl rfl (V.pure rfl) (fun a hf => ?_)
  refine R.nil ?_
  refine X.then_ ?_
  refine C.cond hf (b := (s1.length : Int) != (s2.length : Int)) rfl (fun hc => ?_) (fun hc => ?_)
  · replace h := h.1 hc
    refine wp_seq ?_
    refine R.list ?_
    refine S.val hf hs (v := .bool false) rfl rfl rfl (V.pure rfl) (fun a hf => ?_)
    refine R.nil ?_
    refine X.then_ ?_
    refine wp_ret ?_
    refine X.then_ret ?_
    exact L.ret hf (run_results1 Try.results37 (ResIs.tmp hf rfl)) ⟨false, rfl, h, hs.nil⟩
  · replace h := h.2 hc
    refine wp_skip ?_
    refine X.then_ ?_
    refine wp_seq ?_
    refine wp_seq ?_
    refine R.list ?_
    refine S.val hf hs (v := .slice s1A s1.length s1C) rfl rfl rfl (V.pure rfl) (fun a hf => ?_)
    refine S.val hf hs (v := .int .i64 (s1.length : Int)) rfl rfl rfl (V.len rfl rfl Try.runUnderlying43) (fun a hf => ?_)
    refine S.val hf hs (v := .int .i64 0) rfl rfl rfl (V.pure rfl) (fun a hf => ?_)
    refine R.nil ?_
    refine X.then_ ?_
    refine wp_block ?_
    have hlenk1 := hv_s1.len64
    refine C.range (fun (ll : List Int) a w => ∃ (k1 : Nat) , s1.drop k1 = ll ∧ k1 + ll.length = s1.length ∧ forIn' (fun k x (s : Unit) next => M_equal_int_L1 s2 Q k x (next ())) (fun (s : Unit) => Q true) ll k1 () ∧ FrOk 26 [(13, .int .i64 (k1 : Int)), (0, .slice s1A s1.length s1C), (1, .slice s2A s2.length s2C), (12, .int .i64 (s1.length : Int))] a ∧ Sat w0 none_ [] w) s1 ⟨0, rfl, Nat.zero_add _, h, ((((hf.nil.cons (hf.get 12 _ rfl)).cons (hf.get 1 _ rfl)).cons (hf.get 0 _ rfl)).cons (hf.get 13 _ rfl)), hs⟩ ?_
    clear h hf hs
    rintro llk1 a w ⟨k1, hlk1, hkk1, h, hf, hs⟩
    cases llk1 with
    | nil =>
      have hc := range_done hkk1
      replace h : Q true := h
      refine wp_seq ?_
      refine R.list ?_
      refine S.val hf hs (v := .bool false) rfl rfl rfl (V.cmp false rfl rfl rfl rfl hc) (fun a hf => ?_)
      refine R.nil ?_
      refine X.then_ ?_
      refine wp_seq ?_
      refine C.no hf rfl ?_
      refine wp_exit ?_
      refine X.then_exit ?_
      refine X.then_exit ?_
      refine X.blk_exit ?_
      refine X.then_ ?_
      refine wp_seq ?_
      refine R.list ?_
      refine S.val hf hs (v := .bool true) rfl rfl rfl (V.pure rfl) (fun a hf => ?_)
      refine R.nil ?_
      refine X.then_ ?_
      refine wp_ret ?_
      exact L.ret hf (run_results1 Try.results37 (ResIs.tmp hf rfl)) ⟨true, rfl, h, hs.nil⟩
    | cons xk1 llk1 =>
      have hltk1 := range_lt hkk1; have hc := range_go hkk1; have hxk1 := range_get hlk1
      obtain ⟨next1, hnext1⟩ : ∃ X : Prop, X = (forIn' (fun k x (s : Unit) next => M_equal_int_L1 s2 Q k x (next ())) (fun (s : Unit) => Q true) llk1 (k1 + 1) ()) := ⟨_, rfl⟩
      replace h : M_equal_int_L1 s2 Q k1 xk1  next1 := by rw [hnext1]; exact h
      unfold M_equal_int_L1 at h
      refine wp_seq ?_
      refine R.list ?_
      refine S.val hf hs (v := .bool true) rfl rfl rfl (V.cmp true rfl rfl rfl rfl hc) (fun a hf => ?_)
      refine R.nil ?_
      refine X.then_ ?_
      refine wp_seq ?_
      refine C.yes hf rfl ?_
      refine wp_skip ?_
      refine X.then_ ?_
      refine wp_seq ?_
      refine wp_block ?_
      refine wp_seq ?_
      refine R.list ?_
      refine S.val hf hs (v := .int .i64 (k1 : Int)) rfl rfl rfl (V.pure rfl) (fun a hf => ?_)
      refine S.val hf hs (v := .int .i64 (k1 : Int)) rfl rfl rfl (V.pure rfl) (fun a hf => ?_)
      refine R.nil ?_
      refine X.then_ ?_
      refine wp_seq ?_
      refine R.draw mo (by kernel_rfl) hs ?_
      refine D.val hf (v := .slice s1A s1.length s1C) rfl rfl rfl (V.pure rfl) (fun a hf => ?_)
      refine D.val hf (v := .int .i64 (k1 : Int)) rfl rfl rfl (V.pure rfl) (fun a hf => ?_)
      refine D.val hf (v := elemPtr s1A (k1 * 1)) rfl rfl rfl (V.index rfl rfl rfl Try.runUnderlying43 Try.sizeOf3 (hv_s1.some_ (lt_of_get hxk1)) (Int.natCast_nonneg _) (lt_of_get hxk1) rfl) (fun a hf => ?_)
      refine D.val hf (v := .int .i64 xk1) rfl rfl rfl (V.loadEl (off := 0) (Ag.args _ _ _) (hv_s1.flat hxk1) rfl rfl rfl Try.isAgg3 Try.sizeOf3 rfl rfl) (fun a hf => ?_)
      refine D.val hf (v := .slice s2A s2.length s2C) rfl rfl rfl (V.pure rfl) (fun a hf => ?_)
      refine D.val hf (v := .int .i64 (k1 : Int)) rfl rfl rfl (V.pure rfl) (fun a hf => ?_)
      obtain ⟨h0x1, x1, hx1, h⟩ := h
      refine D.val hf (v := elemPtr s2A (k1 * 1)) rfl rfl rfl (V.index rfl rfl rfl Try.runUnderlying43 Try.sizeOf3 (hv_s2.some_ (lt_of_get hx1)) (Int.natCast_nonneg _) (lt_of_get hx1) rfl) (fun a hf => ?_)
      refine D.val hf (v := .int .i64 x1) rfl rfl rfl (V.loadEl (off := 0) (Ag.args _ _ _) (hv_s2.flat hx1) rfl rfl rfl Try.isAgg3 Try.sizeOf3 rfl rfl) (fun a hf => ?_)
      refine D.val hf (v := .bool (xk1 != x1)) rfl rfl rfl (V.pure rfl) (fun a hf => ?_)
      refine D.done (fun w hs => ?_)
      refine X.then_ ?_
      refine C.cond hf (b := xk1 != x1) rfl (fun hc => ?_) (fun hc => ?_)
      · replace h := h.1 hc
        refine wp_seq ?_
        refine R.list ?_
        refine S.val hf hs (v := .bool false) rfl rfl rfl (V.pure rfl) (fun a hf => ?_)
        refine R.nil ?_
        refine X.then_ ?_
        refine wp_ret ?_
        refine X.blk_ret ?_
        refine X.then_ret ?_
        refine X.then_ret ?_
        refine X.blk_ret ?_
        refine X.then_ret ?_
        exact L.ret hf (run_results1 Try.results37 (ResIs.tmp hf rfl)) ⟨false, rfl, h, hs.nil⟩
      · replace h := h.2 hc
        refine wp_skip ?_
        refine X.blk ?_
        refine X.then_ ?_
        refine R.list ?_
        refine S.val hf hs (v := .int .i64 ((k1 + 1 : Nat) : Int)) rfl rfl rfl (V.incr rfl rfl rfl hltk1 hlenk1) (fun a hf => ?_)
        refine S.val hf hs (v := .int .i64 ((k1 + 1 : Nat) : Int)) rfl rfl rfl (V.pure rfl) (fun a hf => ?_)
        refine R.nil ?_
        refine X.then_ ?_
        exact ⟨xk1, llk1, rfl, k1 + 1, range_drop hlk1, range_len hkk1, (by rw [hnext1] at h; exact h), ((((hf.nil.cons (hf.get 12 _ rfl)).cons (hf.get 1 _ rfl)).cons (hf.get 0 _ rfl)).cons (hf.get 13 _ rfl)), hs⟩

set_option linter.unusedVariables false
def M_stack_Fewest_k2 (l2 : List Through) (n2 : Int) (again1 : List Through → Int → Prop) (y5 : (List Through)) (c1 : Bool) : Prop :=
  cnd c1 (again1 y5 (w64 (n2 - 1))) (again1 l2 (w64 (n2 - 1)))
def M_stack_Fewest_L1 (m : (List Material)) (s_ : (List Layer)) (Q : (List Through) → Int → Prop) (y2 : (List Int)) (y3 : (List Int)) (again1 : List Through → Int → Prop) (l2 : List Through) (n2 : Int) : Prop :=
  cnd (decide (n2 ≥ 0)) (must (0 ≤ n2 ∧ n2 ≤ (l2.length : Int)) (must (0 ≤ w64 (n2 + 1) ∧ w64 (n2 + 1) ≤ (l2.length : Int) ∧ (l2.length : Int) ≤ (l2.length : Int)) (M_concat_thr ([(l2.take n2.toNat), (seg l2 (w64 (n2 + 1)) (l2.length : Int))] : List (List Through)) fun y5 => M_stack_reach (y2.length : Int) y5 fun y6 => M_equal_int y6 y3 fun y7 => cnd y7 (M_stack_CheckSpans m s_ y5 fun y8 => M_stack_Fewest_k2 l2 n2 again1 y5 (y8 == 0)) (M_stack_Fewest_k2 l2 n2 again1 y5 false)))) (Q l2 0)
def M_stack_Fewest (m : (List Material)) (s_ : (List Layer)) (l : (List Through)) (Q : (List Through) → Int → Prop) : Prop :=
  M_stack_CheckSpans m s_ l fun y1 => cnd (y1 != 0) (Q ([] : List Through) y1) (M_stack_coppers m s_ fun y2 => M_stack_reach (y2.length : Int) l fun y3 => M_clone_thr l fun y4 => lp (fun again (s : List Through × Int) => M_stack_Fewest_L1 m s_ Q y2 y3 (fun l2 n2 => again (l2, n2)) s.1 s.2) (y4, w64 ((y4.length : Int) - 1)))
set_option maxHeartbeats 1000000 in
theorem R_stack_Fewest (m : (List Material)) (s_ : (List Layer)) (l : (List Through)) (w0 : World) (mA : Option Addr) (mC : Nat) (hv_m : View w0 (old w0 none_) mA mC m) (s_A : Option Addr) (s_C : Nat) (hv_s_ : View w0 (old w0 none_) s_A s_C s_) (lA : Option Addr) (lC : Nat) (hv_l : View w0 (old w0 none_) lA lC l) (Q : (List Through) → Int → Prop) (h : M_stack_Fewest m s_ l Q) :
    Ret Try.prog 43 #[.slice mA m.length mC, .slice s_A s_.length s_C, .slice lA l.length lC] w0 fun v w' => ∃ (r0 : (List Through)) (r0A : Option Addr) (r0C : Nat) (r1 : Int), v = .tuple #[.slice r0A r0.length r0C, .int .i64 r1] ∧ Q r0 r1 ∧ Sat w0 none_ [hown 59 r0A r0C r0] w' := by
  refine fn_enter Try.func43 rfl Try.ntmps43 rfl (fs := [(0, .slice mA m.length mC), (1, .slice s_A s_.length s_C), (2, .slice lA l.length lC)]) rfl (fun a hf => ?_)
  have hs := Sat.start w0 none_
  unfold M_stack_Fewest at h
  refine wp_seq ?_
  refine R.list ?_
  refine S.val hf hs (v := .slice none 0 0) rfl rfl rfl (V.pure rfl) (fun a hf => ?_)
  refine S.val hf hs (v := .int .i64 0) rfl rfl rfl (V.pure rfl) (fun a hf => ?_)
  refine R.nil ?_
  refine X.then_ ?_
  refine wp_seq ?_
  refine wp_seq ?_
  refine R.list ?_
  refine S.val hf hs (v := .slice mA m.length mC) rfl rfl rfl (V.pure rfl) (fun a hf => ?_)
  refine S.val hf hs (v := .slice s_A s_.length s_C) rfl rfl rfl (V.pure rfl) (fun a hf => ?_)
  refine S.val hf hs (v := .slice lA l.length lC) rfl rfl rfl (V.pure rfl) (fun a hf => ?_)
  refine S.call hf rfl rfl rfl (call_fn (vs := [.slice mA m.length mC, .slice s_A s_.length s_C, .slice lA l.length lC]) rfl rfl rfl Try.call44) (R_stack_CheckSpans m s_ l _ mA mC ((Ag.args _ _ _).view hv_m hs) s_A s_C ((Ag.args _ _ _).view hv_s_ hs) lA lC ((Ag.args _ _ _).view hv_l hs) _ h) (fun v a w' hf hr => ?_)
  obtain ⟨y1, rfl, h2, hs2⟩ := hr
  replace h := h2; replace hs := hs.call hs2; clear h2 hs2
  refine S.val hf hs (v := .int .i64 y1) rfl rfl rfl (V.pure rfl) (fun a hf => ?_)
  refine R.nil ?_
  refine X.then_ ?_
  refine wp_seq ?_
  refine R.list ?_
  refine S.val hf hs (v := .int .i64 y1) rfl rfl rfl (V.pure rfl) (fun a hf => ?_)
  refine S.val hf hs (v := .bool (y1 != 0)) rfl rfl rfl (V.pure rfl) (fun a hf => ?_)
  refine R.nil ?_
  refine X.then_ ?_
  refine C.cond hf (b := y1 != 0) rfl (fun hc => ?_) (fun hc => ?_)
  · replace h := h.1 hc
    refine wp_seq ?_
    refine R.list ?_
    refine S.val hf hs (v := .int .i64 y1) rfl rfl rfl (V.pure rfl) (fun a hf => ?_)
    refine S.val hf hs (v := .slice none 0 0) rfl rfl rfl (V.pure rfl) (fun a hf => ?_)
    refine S.val hf hs (v := .int .i64 y1) rfl rfl rfl (V.pure rfl) (fun a hf => ?_)
    refine R.nil ?_
    refine X.then_ ?_
    refine wp_ret ?_
    refine X.then_ret ?_
    replace hs := hs.nilOwn (α := Through) 59
    replace hs := hs.take 1
    exact L.ret hf (run_results2 Try.results43 (ResIs.tmp hf rfl) (ResIs.tmp hf rfl)) ⟨([] : List Through), none, 0, y1, rfl, h, hs⟩
  · replace h := h.2 hc
    refine wp_skip ?_
    refine X.then_ ?_
    refine wp_seq ?_
    refine R.list ?_
    refine S.val hf hs (v := .slice mA m.length mC) rfl rfl rfl (V.pure rfl) (fun a hf => ?_)
    refine S.val hf hs (v := .slice s_A s_.length s_C) rfl rfl rfl (V.pure rfl) (fun a hf => ?_)
    refine S.call hf rfl rfl rfl (call_fn (vs := [.slice mA m.length mC, .slice s_A s_.length s_C]) rfl rfl rfl Try.call61) (R_stack_coppers m s_ _ mA mC ((Ag.args _ _ _).view hv_m hs) s_A s_C ((Ag.args _ _ _).view hv_s_ hs) _ h) (fun v a w' hf hr => ?_)
    obtain ⟨y2, y2A, y2C, rfl, h2, hs2⟩ := hr
    replace h := h2; replace hs := hs.call hs2; clear h2 hs2
    refine S.val hf hs (v := .int .i64 (y2.length : Int)) rfl rfl rfl (V.len rfl rfl Try.runUnderlying43) (fun a hf => ?_)
    refine S.val hf hs (v := .int .i64 (y2.length : Int)) rfl rfl rfl (V.pure rfl) (fun a hf => ?_)
    refine R.nil ?_
    refine X.then_ ?_
    refine wp_seq ?_
    refine R.list ?_
    refine S.val hf hs (v := .int .i64 (y2.length : Int)) rfl rfl rfl (V.pure rfl) (fun a hf => ?_)
    refine S.val hf hs (v := .slice lA l.length lC) rfl rfl rfl (V.pure rfl) (fun a hf => ?_)
    refine S.call hf rfl rfl rfl (call_fn (vs := [.int .i64 (y2.length : Int), .slice lA l.length lC]) rfl rfl rfl Try.call77) (R_stack_reach (y2.length : Int) l _ lA lC ((Ag.args _ _ _).view hv_l hs) _ h) (fun v a w' hf hr => ?_)
    obtain ⟨y3, y3A, y3C, rfl, h2, hs2⟩ := hr
    replace h := h2; replace hs := hs.call hs2; clear h2 hs2
    refine S.val hf hs (v := .slice y3A y3.length y3C) rfl rfl rfl (V.pure rfl) (fun a hf => ?_)
    refine R.nil ?_
    refine X.then_ ?_
    refine wp_seq ?_
    refine R.list ?_
    refine S.val hf hs (v := .slice lA l.length lC) rfl rfl rfl (V.pure rfl) (fun a hf => ?_)
    refine S.call hf rfl rfl rfl (call_fn (vs := [.slice lA l.length lC]) rfl rfl rfl Try.call80) (R_clone_thr l _ lA lC ((Ag.args _ _ _).view hv_l hs) _ h) (fun v a w' hf hr => ?_)
    obtain ⟨y4, y4A, y4C, rfl, h2, hs2⟩ := hr
    replace h := h2; replace hs := hs.call hs2; clear h2 hs2
    refine S.val hf hs (v := .slice y4A y4.length y4C) rfl rfl rfl (V.pure rfl) (fun a hf => ?_)
    refine R.nil ?_
    refine X.then_ ?_
    refine wp_seq ?_
    refine wp_seq ?_
    refine R.list ?_
    refine S.val hf hs (v := .slice y4A y4.length y4C) rfl rfl rfl (V.pure rfl) (fun a hf => ?_)
    refine S.val hf hs (v := .int .i64 (y4.length : Int)) rfl rfl rfl (V.len rfl rfl Try.runUnderlying52) (fun a hf => ?_)
    refine S.val hf hs (v := .int .i64 (w64 ((y4.length : Int) - 1))) rfl rfl rfl (V.pure rfl) (fun a hf => ?_)
    refine S.val hf hs (v := .int .i64 (w64 ((y4.length : Int) - 1))) rfl rfl rfl (V.pure rfl) (fun a hf => ?_)
    refine R.nil ?_
    refine X.then_ ?_
    refine wp_block ?_
    replace hs := hs.front 1 rfl
    replace hs := hs.take 2
    obtain ⟨kk, h⟩ := h
    refine C.loop (fun kk a w => ∃ (l2 : List Through) (l2A : Option Addr) (l2C : Nat) (n2 : Int), iterF (fun again (s : List Through × Int) => M_stack_Fewest_L1 m s_ Q y2 y3 (fun l2 n2 => again (l2, n2)) s.1 s.2) kk (l2, n2) ∧ FrOk 60 [(0, .slice mA m.length mC), (1, .slice s_A s_.length s_C), (9, .int .i64 (y2.length : Int)), (10, .slice y3A y3.length y3C), (11, .slice l2A l2.length l2C), (12, .int .i64 n2)] a ∧ Sat w0 none_ [hown 3 y3A y3C y3, hown 59 l2A l2C l2] w) kk ⟨y4, y4A, y4C, (w64 ((y4.length : Int) - 1)), h, ((((((hf.nil.cons (hf.get 12 _ rfl)).cons (hf.get 11 _ rfl)).cons (hf.get 10 _ rfl)).cons (hf.get 9 _ rfl)).cons (hf.get 1 _ rfl)).cons (hf.get 0 _ rfl)), hs⟩ (fun a w ⟨_, _, _, _, h, _, _⟩ => h) ?_
    clear h hf hs
    rintro kk a w ⟨l2, l2A, l2C, n2, h, hf, hs⟩
    obtain ⟨again1, hagain1⟩ : ∃ X : List Through → Int → Prop, X = (fun l2 n2 => iterF (fun again (s : List Through × Int) => M_stack_Fewest_L1 m s_ Q y2 y3 (fun l2 n2 => again (l2, n2)) s.1 s.2) kk (l2, n2)) := ⟨_, rfl⟩
    replace h : M_stack_Fewest_L1 m s_ Q y2 y3 again1 l2 n2 := by rw [hagain1]; exact h
    unfold M_stack_Fewest_L1 at h
    refine wp_seq ?_
    refine wp_seq ?_
    refine R.list ?_
    refine S.val hf hs (v := .int .i64 n2) rfl rfl rfl (V.pure rfl) (fun a hf => ?_)
    refine S.val hf hs (v := .bool (decide (n2 ≥ 0))) rfl rfl rfl (V.pure rfl) (fun a hf => ?_)
    refine R.nil ?_
    refine X.then_ ?_
    refine C.cond hf (b := decide (n2 ≥ 0)) rfl (fun hc => ?_) (fun hc => ?_)
    · replace h := h.1 hc
      refine wp_skip ?_
      refine X.then_ ?_
      refine wp_seq ?_
      refine wp_block ?_
      refine wp_seq ?_
      refine H.start (S := Sat w0 none_ [hown 3 y3A y3C y3, hown 59 l2A l2C l2]) mo ?_
      replace hs := hs.drew
      refine H.val hf hs (v := .slice l2A l2.length l2C) (i := 0) rfl rfl rfl rfl (by kernel_rfl) (by kernel_rfl) (by kernel_rfl) (V.pure rfl) (fun a hf => ?_)
      refine H.val hf hs (v := .int .i64 n2) (i := 1) rfl rfl rfl rfl (by kernel_rfl) (by kernel_rfl) (by kernel_rfl) (V.pure rfl) (fun a hf => ?_)
      obtain ⟨hp1, h⟩ := h
      refine H.val hf hs (v := .slice l2A (l2.take n2.toNat).length l2C) (i := 2) rfl rfl rfl rfl (by kernel_rfl) (by kernel_rfl) (by kernel_rfl) (V.slicePre (xs := l2) rfl rfl rfl rfl Try.runUnderlying52 Try.sizeOf59 rfl hp1 (hs.ownView 1 rfl).cap) (fun a hf => ?_)
      refine H.val hf hs (v := .slice l2A l2.length l2C) (i := 3) rfl rfl rfl rfl (by kernel_rfl) (by kernel_rfl) (by kernel_rfl) (V.pure rfl) (fun a hf => ?_)
      refine H.val hf hs (v := .int .i64 n2) (i := 4) rfl rfl rfl rfl (by kernel_rfl) (by kernel_rfl) (by kernel_rfl) (V.pure rfl) (fun a hf => ?_)
      refine H.val hf hs (v := .int .i64 (w64 (n2 + 1))) (i := 5) rfl rfl rfl rfl (by kernel_rfl) (by kernel_rfl) (by kernel_rfl) (V.pure rfl) (fun a hf => ?_)
      obtain ⟨hp2, h⟩ := h
      refine H.val hf hs (v := .slice (segA l2A l2C (w64 (n2 + 1) : Int).toNat 2) (seg l2 (w64 (n2 + 1)) (l2.length : Int)).length (l2C - (w64 (n2 + 1) : Int).toNat)) (i := 6) rfl rfl rfl rfl (by kernel_rfl) (by kernel_rfl) (by kernel_rfl) (V.slice rfl rfl rfl rfl Try.runUnderlying52 Try.sizeOf59 rfl rfl hp2 (hs.ownView 1 rfl).cap (seg_length (by have := hp2.2.2; omega))) (fun a hf => ?_)
      refine H.one (i := 7) rfl (by kernel_rfl) ?_
      refine S.buildSlice hf hs rfl rfl rfl (α := Sl) [(⟨l2A, (l2.take n2.toNat).length, l2C⟩ : Sl), (⟨(segA l2A l2C (w64 (n2 + 1) : Int).toNat 2), (seg l2 (w64 (n2 + 1)) (l2.length : Int)).length, (l2C - (w64 (n2 + 1) : Int).toNat)⟩ : Sl)] rfl rfl Try.runUnderlying133 Try.sizeOf52 Try.zeroValue52 (by kernel_rfl) rfl (by decide) (by decide) (fun A1 a w hf hs => ?_)
      refine R.nil ?_
      refine X.then_ ?_
      refine ⟨(hs.mask [false, true, true]), ?_⟩
      refine H.one (i := 8) rfl (by kernel_rfl) ?_
      refine S.call hf rfl rfl rfl (call_fn (vs := [.slice A1 ([(⟨l2A, (l2.take n2.toNat).length, l2C⟩ : Sl), (⟨(segA l2A l2C (w64 (n2 + 1) : Int).toNat 2), (seg l2 (w64 (n2 + 1)) (l2.length : Int)).length, (l2C - (w64 (n2 + 1) : Int).toNat)⟩ : Sl)] : List Sl).length 2]) rfl rfl rfl Try.call81) (R_concat_thr ([(l2.take n2.toNat), (seg l2 (w64 (n2 + 1)) (l2.length : Int))] : List (List Through)) _ A1 2 (View.rows2 (hs.ownView 0 rfl) (View.take (hs.ownView 2 rfl) n2.toNat) (View.sub (hs.ownView 2 rfl) hp2)) _ h) (fun v a w' hf hr => ?_)
      obtain ⟨y5, y5A, y5C, rfl, h2, hs2⟩ := hr
      replace h := h2; replace hs := hs.call hs2; clear h2 hs2
      refine R.nil ?_
      refine X.then_ ?_
      refine ⟨(hs.mask [false, false, true, true]), ?_⟩
      refine H.val hf (hs.mask [false, false, true, true]) (v := .slice y5A y5.length y5C) (i := 9) rfl rfl rfl rfl (by kernel_rfl) (by kernel_rfl) (by kernel_rfl) (V.pure rfl) (fun a hf => ?_)
      refine H.done (by kernel_rfl) ?_
      refine X.then_ ?_
      refine wp_seq ?_
      refine C.cut (J := fun a w => ∃ (c1 : Bool), M_stack_Fewest_k2 l2 n2 again1 y5 c1 ∧ FrOk 60 [(0, .slice mA m.length mC), (1, .slice s_A s_.length s_C), (9, .int .i64 (y2.length : Int)), (10, .slice y3A y3.length y3C), (11, .slice l2A l2.length l2C), (12, .int .i64 n2), (13, .slice y5A y5.length y5C), (57, .bool c1)] a ∧ Sat w0 none_ [hown 59 y5A y5C y5, hown 52 A1 2 ([(⟨l2A, (l2.take n2.toNat).length, l2C⟩ : Sl), (⟨(segA l2A l2C (w64 (n2 + 1) : Int).toNat 2), (seg l2 (w64 (n2 + 1)) (l2.length : Int)).length, (l2C - (w64 (n2 + 1) : Int).toNat)⟩ : Sl)] : List Sl), hown 3 y3A y3C y3, hown 59 l2A l2C l2] w) ?_ ?_
      · rintro a w ⟨c1, h, hf, hs⟩
        unfold M_stack_Fewest_k2 at h
        refine C.cond hf (b := c1) rfl (fun hc => ?_) (fun hc => ?_)
        · replace h := h.1 hc
          refine R.list ?_
          refine S.val hf hs (v := .slice y5A y5.length y5C) rfl rfl rfl (V.pure rfl) (fun a hf => ?_)
          refine S.val hf hs (v := .slice y5A y5.length y5C) rfl rfl rfl (V.pure rfl) (fun a hf => ?_)
          refine R.nil ?_
          refine X.blk ?_
          refine X.then_ ?_
          refine R.list ?_
          refine S.val hf hs (v := .int .i64 n2) rfl rfl rfl (V.pure rfl) (fun a hf => ?_)
          refine S.val hf hs (v := .int .i64 (w64 (n2 - 1))) rfl rfl rfl (V.pure rfl) (fun a hf => ?_)
          refine S.val hf hs (v := .int .i64 (w64 (n2 - 1))) rfl rfl rfl (V.pure rfl) (fun a hf => ?_)
          refine R.nil ?_
          refine X.then_ ?_
          replace hs := hs.front 2 rfl
          replace hs := hs.take 2
          exact ⟨y5, y5A, y5C, (w64 (n2 - 1)), (by rw [hagain1] at h; exact h), ((((((hf.nil.cons (hf.get 12 _ rfl)).cons (hf.get 11 _ rfl)).cons (hf.get 10 _ rfl)).cons (hf.get 9 _ rfl)).cons (hf.get 1 _ rfl)).cons (hf.get 0 _ rfl)), hs⟩
        · replace h := h.2 hc
          refine wp_skip ?_
          refine X.blk ?_
          refine X.then_ ?_
          refine R.list ?_
          refine S.val hf hs (v := .int .i64 n2) rfl rfl rfl (V.pure rfl) (fun a hf => ?_)
          refine S.val hf hs (v := .int .i64 (w64 (n2 - 1))) rfl rfl rfl (V.pure rfl) (fun a hf => ?_)
          refine S.val hf hs (v := .int .i64 (w64 (n2 - 1))) rfl rfl rfl (V.pure rfl) (fun a hf => ?_)
          refine R.nil ?_
          refine X.then_ ?_
          replace hs := hs.front 3 rfl
          replace hs := hs.front 3 rfl
          replace hs := hs.take 2
          exact ⟨l2, l2A, l2C, (w64 (n2 - 1)), (by rw [hagain1] at h; exact h), ((((((hf.nil.cons (hf.get 12 _ rfl)).cons (hf.get 11 _ rfl)).cons (hf.get 10 _ rfl)).cons (hf.get 9 _ rfl)).cons (hf.get 1 _ rfl)).cons (hf.get 0 _ rfl)), hs⟩
      · skip
        refine R.list ?_
        refine S.val hf hs (v := .int .i64 (y2.length : Int)) rfl rfl rfl (V.pure rfl) (fun a hf => ?_)
        refine S.val hf hs (v := .slice y5A y5.length y5C) rfl rfl rfl (V.pure rfl) (fun a hf => ?_)
        refine S.call hf rfl rfl rfl (call_fn (vs := [.int .i64 (y2.length : Int), .slice y5A y5.length y5C]) rfl rfl rfl Try.call77) (R_stack_reach (y2.length : Int) y5 _ y5A y5C (hs.ownView 0 rfl) _ h) (fun v a w' hf hr => ?_)
        obtain ⟨y6, y6A, y6C, rfl, h2, hs2⟩ := hr
        replace h := h2; replace hs := hs.call hs2; clear h2 hs2
        refine S.val hf hs (v := .slice y3A y3.length y3C) rfl rfl rfl (V.pure rfl) (fun a hf => ?_)
        refine S.call hf rfl rfl rfl (call_fn (vs := [.slice y6A y6.length y6C, .slice y3A y3.length y3C]) rfl rfl rfl Try.call37) (R_equal_int y6 y3 _ y6A y6C (hs.ownView 0 rfl) y3A y3C (hs.ownView 3 rfl) _ h) (fun v a w' hf hr => ?_)
        obtain ⟨y7, rfl, h2, hs2⟩ := hr
        replace h := h2; replace hs := hs.call hs2; clear h2 hs2
        refine S.split hf hs (b := y7) rfl rfl rfl (V.pure rfl) (fun hc a hf => ?_) (fun hc a hf => ?_)
        · replace h := h.1 hc
          refine S.val hf hs (v := .slice mA m.length mC) rfl rfl rfl (V.pure rfl) (fun a hf => ?_)
          refine S.val hf hs (v := .slice s_A s_.length s_C) rfl rfl rfl (V.pure rfl) (fun a hf => ?_)
          refine S.val hf hs (v := .slice y5A y5.length y5C) rfl rfl rfl (V.pure rfl) (fun a hf => ?_)
          refine S.call hf rfl rfl rfl (call_fn (vs := [.slice mA m.length mC, .slice s_A s_.length s_C, .slice y5A y5.length y5C]) rfl rfl rfl Try.call44) (R_stack_CheckSpans m s_ y5 _ mA mC ((Ag.args _ _ _).view hv_m hs) s_A s_C ((Ag.args _ _ _).view hv_s_ hs) y5A y5C (hs.ownView 1 rfl) _ h) (fun v a w' hf hr => ?_)
          obtain ⟨y8, rfl, h2, hs2⟩ := hr
          replace h := h2; replace hs := hs.call hs2; clear h2 hs2
          refine S.val hf hs (v := .bool (y8 == 0)) rfl rfl rfl (V.pure rfl) (fun a hf => ?_)
          refine S.val hf hs (v := .bool (y8 == 0)) rfl rfl rfl (V.pure rfl) (fun a hf => ?_)
          refine R.nil ?_
          refine X.then_ ?_
          exact ⟨(y8 == 0), h, ((((((((hf.nil.cons (hf.get 57 _ rfl)).cons (hf.get 13 _ rfl)).cons (hf.get 12 _ rfl)).cons (hf.get 11 _ rfl)).cons (hf.get 10 _ rfl)).cons (hf.get 9 _ rfl)).cons (hf.get 1 _ rfl)).cons (hf.get 0 _ rfl)), hs.drop⟩
        · replace h := h.2 hc
          refine S.skip hf rfl rfl rfl (fun a hf => ?_)
          refine S.skip hf rfl rfl rfl (fun a hf => ?_)
          refine S.skip hf rfl rfl rfl (fun a hf => ?_)
          refine S.skip hf rfl rfl rfl (fun a hf => ?_)
          refine S.skip hf rfl rfl rfl (fun a hf => ?_)
          refine S.val hf hs (v := .bool false) rfl rfl rfl (V.pure rfl) (fun a hf => ?_)
          refine R.nil ?_
          refine X.then_ ?_
          exact ⟨false, h, ((((((((hf.nil.cons (hf.get 57 _ rfl)).cons (hf.get 13 _ rfl)).cons (hf.get 12 _ rfl)).cons (hf.get 11 _ rfl)).cons (hf.get 10 _ rfl)).cons (hf.get 9 _ rfl)).cons (hf.get 1 _ rfl)).cons (hf.get 0 _ rfl)), hs.drop⟩
    · replace h := h.2 hc
      refine wp_exit ?_
      refine X.then_exit ?_
      refine X.then_exit ?_
      refine X.blk_exit ?_
      refine X.then_ ?_
      refine wp_seq ?_
      refine R.list ?_
      refine S.val hf hs (v := .slice l2A l2.length l2C) rfl rfl rfl (V.pure rfl) (fun a hf => ?_)
      refine S.val hf hs (v := .slice l2A l2.length l2C) rfl rfl rfl (V.pure rfl) (fun a hf => ?_)
      refine S.val hf hs (v := .int .i64 0) rfl rfl rfl (V.pure rfl) (fun a hf => ?_)
      refine R.nil ?_
      refine X.then_ ?_
      refine wp_ret ?_
      replace hs := hs.front 1 rfl
      replace hs := hs.take 1
      exact L.ret hf (run_results2 Try.results43 (ResIs.tmp hf rfl) (ResIs.tmp hf rfl)) ⟨l2, l2A, l2C, 0, rfl, h, hs⟩

set_option linter.unusedVariables false
def M_law_FewestSame (m : (List Material)) (s_ : (List Layer)) (l : (List Through)) (name : Str) (Q : Bool → Prop) : Prop :=
  M_stack_Fewest m s_ l fun y1 y2 => cnd (y2 != 0) (cnd ((y1.length : Int) == 0) (M_awake  fun y3 => Q y3) (Q false)) (M_stack_Reached m s_ l name fun y4 y5 => M_stack_Reached m s_ y1 name fun y6 y7 => cnd (y5 == y7) (M_equal_str y4 y6 fun y8 => cnd y8 (cnd (decide ((y1.length : Int) ≤ (l.length : Int))) (M_stack_CheckSpans m s_ y1 fun y9 => cnd (y9 == 0) (M_awake  fun y10 => Q y10) (Q false)) (Q false)) (Q false)) (Q false))
set_option maxHeartbeats 1000000 in
theorem R_law_FewestSame (m : (List Material)) (s_ : (List Layer)) (l : (List Through)) (name : Str) (w0 : World) (mA : Option Addr) (mC : Nat) (hv_m : View w0 (old w0 none_) mA mC m) (s_A : Option Addr) (s_C : Nat) (hv_s_ : View w0 (old w0 none_) s_A s_C s_) (lA : Option Addr) (lC : Nat) (hv_l : View w0 (old w0 none_) lA lC l) (Q : Bool → Prop) (h : M_law_FewestSame m s_ l name Q) :
    Ret Try.prog 11 #[.slice mA m.length mC, .slice s_A s_.length s_C, .slice lA l.length lC, .string (ba name)] w0 fun v w' => ∃ (r0 : Bool), v = .bool r0 ∧ Q r0 ∧ Sat w0 none_ [] w' := by
  refine fn_enter Try.func11 rfl Try.ntmps11 rfl (fs := [(0, .slice mA m.length mC), (1, .slice s_A s_.length s_C), (2, .slice lA l.length lC), (3, .string (ba name))]) rfl (fun a hf => ?_)
  have hs := Sat.start w0 none_
  unfold M_law_FewestSame at h
  refine wp_seq ?_
  refine R.list ?_
  refine S.val hf hs (v := .bool false) rfl rfl rfl (V.pure rfl) (fun a hf => ?_)
  refine R.nil ?_
  refine X.then_ ?_
  refine wp_seq ?_
  refine R.list ?_
  refine S.val hf hs (v := .slice mA m.length mC) rfl rfl rfl (V.pure rfl) (fun a hf => ?_)
  refine S.val hf hs (v := .slice s_A s_.length s_C) rfl rfl rfl (V.pure rfl) (fun a hf => ?_)
  refine S.val hf hs (v := .slice lA l.length lC) rfl rfl rfl (V.pure rfl) (fun a hf => ?_)
  refine S.call hf rfl rfl rfl (call_fn (vs := [.slice mA m.length mC, .slice s_A s_.length s_C, .slice lA l.length lC]) rfl rfl rfl Try.call43) (R_stack_Fewest m s_ l _ mA mC ((Ag.args _ _ _).view hv_m hs) s_A s_C ((Ag.args _ _ _).view hv_s_ hs) lA lC ((Ag.args _ _ _).view hv_l hs) _ h) (fun v a w' hf hr => ?_)
  obtain ⟨y1, y1A, y1C, y2, rfl, h2, hs2⟩ := hr
  replace h := h2; replace hs := hs.call hs2; clear h2 hs2
  refine S.val hf hs (v := .tuple #[.slice y1A y1.length y1C, .int .i64 y2]) rfl rfl rfl (V.pure rfl) (fun a hf => ?_)
  refine S.val hf hs (v := .slice y1A y1.length y1C) rfl rfl rfl (V.pure rfl) (fun a hf => ?_)
  refine S.val hf hs (v := .int .i64 y2) rfl rfl rfl (V.pure rfl) (fun a hf => ?_)
  refine S.val hf hs (v := .slice y1A y1.length y1C) rfl rfl rfl (V.pure rfl) (fun a hf => ?_)
  refine S.val hf hs (v := .int .i64 y2) rfl rfl rfl (V.pure rfl) (fun a hf => ?_)
  refine R.nil ?_
  refine X.then_ ?_
  refine wp_seq ?_
  refine wp_seq ?_
  refine R.list ?_
  refine S.val hf hs (v := .int .i64 y2) rfl rfl rfl (V.pure rfl) (fun a hf => ?_)
  refine S.val hf hs (v := .bool (y2 != 0)) rfl rfl rfl (V.pure rfl) (fun a hf => ?_)
  refine R.nil ?_
  refine X.then_ ?_
  refine C.cond hf (b := y2 != 0) rfl (fun hc => ?_) (fun hc => ?_)
  · replace h := h.1 hc
    refine wp_seq ?_
    refine R.list ?_
    refine S.val hf hs (v := .slice y1A y1.length y1C) rfl rfl rfl (V.pure rfl) (fun a hf => ?_)
    refine S.val hf hs (v := .int .i64 (y1.length : Int)) rfl rfl rfl (V.len rfl rfl Try.runUnderlying52) (fun a hf => ?_)
    refine S.val hf hs (v := .bool ((y1.length : Int) == 0)) rfl rfl rfl (V.pure rfl) (fun a hf => ?_)
    refine S.split hf hs (b := (y1.length : Int) == 0) rfl rfl rfl (V.pure rfl) (fun hc a hf => ?_) (fun hc a hf => ?_)
    · replace h := h.1 hc
      refine S.call hf rfl rfl rfl (call_fn (vs := []) rfl rfl rfl Try.call20) (R_awake  _  _ h) (fun v a w' hf hr => ?_)
      obtain ⟨y3, rfl, h2, hs2⟩ := hr
      replace h := h2; replace hs := hs.call hs2; clear h2 hs2
      refine S.val hf hs (v := .bool y3) rfl rfl rfl (V.pure rfl) (fun a hf => ?_)
      refine S.val hf hs (v := .bool y3) rfl rfl rfl (V.pure rfl) (fun a hf => ?_)
      refine R.nil ?_
      refine X.then_ ?_
      refine wp_ret ?_
      refine X.then_ret ?_
      exact L.ret hf (run_results1 Try.results11 (ResIs.tmp hf rfl)) ⟨y3, rfl, h, hs.nil⟩
    · replace h := h.2 hc
      refine S.skip hf rfl rfl rfl (fun a hf => ?_)
      refine S.val hf hs (v := .bool false) rfl rfl rfl (V.pure rfl) (fun a hf => ?_)
      refine S.val hf hs (v := .bool false) rfl rfl rfl (V.pure rfl) (fun a hf => ?_)
      refine R.nil ?_
      refine X.then_ ?_
      refine wp_ret ?_
      refine X.then_ret ?_
      exact L.ret hf (run_results1 Try.results11 (ResIs.tmp hf rfl)) ⟨false, rfl, h, hs.nil⟩
  · replace h := h.2 hc
    refine wp_skip ?_
    refine X.then_ ?_
    refine wp_seq ?_
    refine R.list ?_
    refine S.val hf hs (v := .slice mA m.length mC) rfl rfl rfl (V.pure rfl) (fun a hf => ?_)
    refine S.val hf hs (v := .slice s_A s_.length s_C) rfl rfl rfl (V.pure rfl) (fun a hf => ?_)
    refine S.val hf hs (v := .slice lA l.length lC) rfl rfl rfl (V.pure rfl) (fun a hf => ?_)
    refine S.val hf hs (v := .string (ba name)) rfl rfl rfl (V.pure rfl) (fun a hf => ?_)
    refine S.call hf rfl rfl rfl (call_fn (vs := [.slice mA m.length mC, .slice s_A s_.length s_C, .slice lA l.length lC, .string (ba name)]) rfl rfl rfl Try.call40) (R_stack_Reached m s_ l name _ mA mC ((Ag.args _ _ _).view hv_m hs) s_A s_C ((Ag.args _ _ _).view hv_s_ hs) lA lC ((Ag.args _ _ _).view hv_l hs) _ h) (fun v a w' hf hr => ?_)
    obtain ⟨y4, y4A, y4C, y5, rfl, h2, hs2⟩ := hr
    replace h := h2; replace hs := hs.call hs2; clear h2 hs2
    refine S.val hf hs (v := .tuple #[.slice y4A y4.length y4C, .int .i64 y5]) rfl rfl rfl (V.pure rfl) (fun a hf => ?_)
    refine S.val hf hs (v := .slice y4A y4.length y4C) rfl rfl rfl (V.pure rfl) (fun a hf => ?_)
    refine S.val hf hs (v := .int .i64 y5) rfl rfl rfl (V.pure rfl) (fun a hf => ?_)
    refine S.val hf hs (v := .slice y4A y4.length y4C) rfl rfl rfl (V.pure rfl) (fun a hf => ?_)
    refine S.val hf hs (v := .int .i64 y5) rfl rfl rfl (V.pure rfl) (fun a hf => ?_)
    refine R.nil ?_
    refine X.then_ ?_
    refine wp_seq ?_
    refine R.list ?_
    refine S.val hf hs (v := .slice mA m.length mC) rfl rfl rfl (V.pure rfl) (fun a hf => ?_)
    refine S.val hf hs (v := .slice s_A s_.length s_C) rfl rfl rfl (V.pure rfl) (fun a hf => ?_)
    refine S.val hf hs (v := .slice y1A y1.length y1C) rfl rfl rfl (V.pure rfl) (fun a hf => ?_)
    refine S.val hf hs (v := .string (ba name)) rfl rfl rfl (V.pure rfl) (fun a hf => ?_)
    refine S.call hf rfl rfl rfl (call_fn (vs := [.slice mA m.length mC, .slice s_A s_.length s_C, .slice y1A y1.length y1C, .string (ba name)]) rfl rfl rfl Try.call40) (R_stack_Reached m s_ y1 name _ mA mC ((Ag.args _ _ _).view hv_m hs) s_A s_C ((Ag.args _ _ _).view hv_s_ hs) y1A y1C (hs.ownView 1 rfl) _ h) (fun v a w' hf hr => ?_)
    obtain ⟨y6, y6A, y6C, y7, rfl, h2, hs2⟩ := hr
    replace h := h2; replace hs := hs.call hs2; clear h2 hs2
    refine S.val hf hs (v := .tuple #[.slice y6A y6.length y6C, .int .i64 y7]) rfl rfl rfl (V.pure rfl) (fun a hf => ?_)
    refine S.val hf hs (v := .slice y6A y6.length y6C) rfl rfl rfl (V.pure rfl) (fun a hf => ?_)
    refine S.val hf hs (v := .int .i64 y7) rfl rfl rfl (V.pure rfl) (fun a hf => ?_)
    refine S.val hf hs (v := .slice y6A y6.length y6C) rfl rfl rfl (V.pure rfl) (fun a hf => ?_)
    refine S.val hf hs (v := .int .i64 y7) rfl rfl rfl (V.pure rfl) (fun a hf => ?_)
    refine R.nil ?_
    refine X.then_ ?_
    refine wp_seq ?_
    refine R.list ?_
    refine S.val hf hs (v := .int .i64 y5) rfl rfl rfl (V.pure rfl) (fun a hf => ?_)
    refine S.val hf hs (v := .int .i64 y7) rfl rfl rfl (V.pure rfl) (fun a hf => ?_)
    refine S.val hf hs (v := .bool (y5 == y7)) rfl rfl rfl (V.pure rfl) (fun a hf => ?_)
    refine S.split hf hs (b := y5 == y7) rfl rfl rfl (V.pure rfl) (fun hc a hf => ?_) (fun hc a hf => ?_)
    · replace h := h.1 hc
      refine S.val hf hs (v := .slice y4A y4.length y4C) rfl rfl rfl (V.pure rfl) (fun a hf => ?_)
      refine S.val hf hs (v := .slice y6A y6.length y6C) rfl rfl rfl (V.pure rfl) (fun a hf => ?_)
      refine S.call hf rfl rfl rfl (call_fn (vs := [.slice y4A y4.length y4C, .slice y6A y6.length y6C]) rfl rfl rfl Try.call41) (R_equal_str y4 y6 _ y4A y4C (hs.ownView 1 rfl) y6A y6C (hs.ownView 0 rfl) _ h) (fun v a w' hf hr => ?_)
      obtain ⟨y8, rfl, h2, hs2⟩ := hr
      replace h := h2; replace hs := hs.call hs2; clear h2 hs2
      refine S.val hf hs (v := .bool y8) rfl rfl rfl (V.pure rfl) (fun a hf => ?_)
      refine S.split hf hs (b := y8) rfl rfl rfl (V.pure rfl) (fun hc a hf => ?_) (fun hc a hf => ?_)
      · replace h := h.1 hc
        refine S.val hf hs (v := .slice y1A y1.length y1C) rfl rfl rfl (V.pure rfl) (fun a hf => ?_)
        refine S.val hf hs (v := .int .i64 (y1.length : Int)) rfl rfl rfl (V.len rfl rfl Try.runUnderlying52) (fun a hf => ?_)
        refine S.val hf hs (v := .slice lA l.length lC) rfl rfl rfl (V.pure rfl) (fun a hf => ?_)
        refine S.val hf hs (v := .int .i64 (l.length : Int)) rfl rfl rfl (V.len rfl rfl Try.runUnderlying52) (fun a hf => ?_)
        refine S.val hf hs (v := .bool (decide ((y1.length : Int) ≤ (l.length : Int)))) rfl rfl rfl (V.pure rfl) (fun a hf => ?_)
        refine S.val hf hs (v := .bool (decide ((y1.length : Int) ≤ (l.length : Int)))) rfl rfl rfl (V.pure rfl) (fun a hf => ?_)
        refine S.split hf hs (b := decide ((y1.length : Int) ≤ (l.length : Int))) rfl rfl rfl (V.pure rfl) (fun hc a hf => ?_) (fun hc a hf => ?_)
        · replace h := h.1 hc
          refine S.val hf hs (v := .slice mA m.length mC) rfl rfl rfl (V.pure rfl) (fun a hf => ?_)
          refine S.val hf hs (v := .slice s_A s_.length s_C) rfl rfl rfl (V.pure rfl) (fun a hf => ?_)
          refine S.val hf hs (v := .slice y1A y1.length y1C) rfl rfl rfl (V.pure rfl) (fun a hf => ?_)
          refine S.call hf rfl rfl rfl (call_fn (vs := [.slice mA m.length mC, .slice s_A s_.length s_C, .slice y1A y1.length y1C]) rfl rfl rfl Try.call44) (R_stack_CheckSpans m s_ y1 _ mA mC ((Ag.args _ _ _).view hv_m hs) s_A s_C ((Ag.args _ _ _).view hv_s_ hs) y1A y1C (hs.ownView 2 rfl) _ h) (fun v a w' hf hr => ?_)
          obtain ⟨y9, rfl, h2, hs2⟩ := hr
          replace h := h2; replace hs := hs.call hs2; clear h2 hs2
          refine S.val hf hs (v := .bool (y9 == 0)) rfl rfl rfl (V.pure rfl) (fun a hf => ?_)
          refine S.val hf hs (v := .bool (y9 == 0)) rfl rfl rfl (V.pure rfl) (fun a hf => ?_)
          refine S.split hf hs (b := y9 == 0) rfl rfl rfl (V.pure rfl) (fun hc a hf => ?_) (fun hc a hf => ?_)
          · replace h := h.1 hc
            refine S.call hf rfl rfl rfl (call_fn (vs := []) rfl rfl rfl Try.call20) (R_awake  _  _ h) (fun v a w' hf hr => ?_)
            obtain ⟨y10, rfl, h2, hs2⟩ := hr
            replace h := h2; replace hs := hs.call hs2; clear h2 hs2
            refine S.val hf hs (v := .bool y10) rfl rfl rfl (V.pure rfl) (fun a hf => ?_)
            refine S.val hf hs (v := .bool y10) rfl rfl rfl (V.pure rfl) (fun a hf => ?_)
            refine R.nil ?_
            refine X.then_ ?_
            refine wp_ret ?_
            exact L.ret hf (run_results1 Try.results11 (ResIs.tmp hf rfl)) ⟨y10, rfl, h, hs.nil⟩
          · replace h := h.2 hc
            refine S.skip hf rfl rfl rfl (fun a hf => ?_)
            refine S.val hf hs (v := .bool false) rfl rfl rfl (V.pure rfl) (fun a hf => ?_)
            refine S.val hf hs (v := .bool false) rfl rfl rfl (V.pure rfl) (fun a hf => ?_)
            refine R.nil ?_
            refine X.then_ ?_
            refine wp_ret ?_
            exact L.ret hf (run_results1 Try.results11 (ResIs.tmp hf rfl)) ⟨false, rfl, h, hs.nil⟩
        · replace h := h.2 hc
          refine S.skip hf rfl rfl rfl (fun a hf => ?_)
          refine S.skip hf rfl rfl rfl (fun a hf => ?_)
          refine S.skip hf rfl rfl rfl (fun a hf => ?_)
          refine S.skip hf rfl rfl rfl (fun a hf => ?_)
          refine S.skip hf rfl rfl rfl (fun a hf => ?_)
          refine S.val hf hs (v := .bool false) rfl rfl rfl (V.pure rfl) (fun a hf => ?_)
          refine S.val hf hs (v := .bool false) rfl rfl rfl (V.pure rfl) (fun a hf => ?_)
          refine S.skip hf rfl rfl rfl (fun a hf => ?_)
          refine S.val hf hs (v := .bool false) rfl rfl rfl (V.pure rfl) (fun a hf => ?_)
          refine S.val hf hs (v := .bool false) rfl rfl rfl (V.pure rfl) (fun a hf => ?_)
          refine R.nil ?_
          refine X.then_ ?_
          refine wp_ret ?_
          exact L.ret hf (run_results1 Try.results11 (ResIs.tmp hf rfl)) ⟨false, rfl, h, hs.nil⟩
      · replace h := h.2 hc
        refine S.skip hf rfl rfl rfl (fun a hf => ?_)
        refine S.skip hf rfl rfl rfl (fun a hf => ?_)
        refine S.skip hf rfl rfl rfl (fun a hf => ?_)
        refine S.skip hf rfl rfl rfl (fun a hf => ?_)
        refine S.skip hf rfl rfl rfl (fun a hf => ?_)
        refine S.val hf hs (v := .bool false) rfl rfl rfl (V.pure rfl) (fun a hf => ?_)
        refine S.val hf hs (v := .bool false) rfl rfl rfl (V.pure rfl) (fun a hf => ?_)
        refine S.skip hf rfl rfl rfl (fun a hf => ?_)
        refine S.skip hf rfl rfl rfl (fun a hf => ?_)
        refine S.skip hf rfl rfl rfl (fun a hf => ?_)
        refine S.skip hf rfl rfl rfl (fun a hf => ?_)
        refine S.skip hf rfl rfl rfl (fun a hf => ?_)
        refine S.val hf hs (v := .bool false) rfl rfl rfl (V.pure rfl) (fun a hf => ?_)
        refine S.val hf hs (v := .bool false) rfl rfl rfl (V.pure rfl) (fun a hf => ?_)
        refine S.skip hf rfl rfl rfl (fun a hf => ?_)
        refine S.val hf hs (v := .bool false) rfl rfl rfl (V.pure rfl) (fun a hf => ?_)
        refine S.val hf hs (v := .bool false) rfl rfl rfl (V.pure rfl) (fun a hf => ?_)
        refine R.nil ?_
        refine X.then_ ?_
        refine wp_ret ?_
        exact L.ret hf (run_results1 Try.results11 (ResIs.tmp hf rfl)) ⟨false, rfl, h, hs.nil⟩
    · replace h := h.2 hc
      refine S.skip hf rfl rfl rfl (fun a hf => ?_)
      refine S.skip hf rfl rfl rfl (fun a hf => ?_)
      refine S.skip hf rfl rfl rfl (fun a hf => ?_)
      refine S.val hf hs (v := .bool false) rfl rfl rfl (V.pure rfl) (fun a hf => ?_)
      refine S.val hf hs (v := .bool false) rfl rfl rfl (V.pure rfl) (fun a hf => ?_)
      refine S.skip hf rfl rfl rfl (fun a hf => ?_)
      refine S.skip hf rfl rfl rfl (fun a hf => ?_)
      refine S.skip hf rfl rfl rfl (fun a hf => ?_)
      refine S.skip hf rfl rfl rfl (fun a hf => ?_)
      refine S.skip hf rfl rfl rfl (fun a hf => ?_)
      refine S.val hf hs (v := .bool false) rfl rfl rfl (V.pure rfl) (fun a hf => ?_)
      refine S.val hf hs (v := .bool false) rfl rfl rfl (V.pure rfl) (fun a hf => ?_)
      refine S.skip hf rfl rfl rfl (fun a hf => ?_)
      refine S.skip hf rfl rfl rfl (fun a hf => ?_)
      refine S.skip hf rfl rfl rfl (fun a hf => ?_)
      refine S.skip hf rfl rfl rfl (fun a hf => ?_)
      refine S.skip hf rfl rfl rfl (fun a hf => ?_)
      refine S.val hf hs (v := .bool false) rfl rfl rfl (V.pure rfl) (fun a hf => ?_)
      refine S.val hf hs (v := .bool false) rfl rfl rfl (V.pure rfl) (fun a hf => ?_)
      refine S.skip hf rfl rfl rfl (fun a hf => ?_)
      refine S.val hf hs (v := .bool false) rfl rfl rfl (V.pure rfl) (fun a hf => ?_)
      refine S.val hf hs (v := .bool false) rfl rfl rfl (V.pure rfl) (fun a hf => ?_)
      refine R.nil ?_
      refine X.then_ ?_
      refine wp_ret ?_
      exact L.ret hf (run_results1 Try.results11 (ResIs.tmp hf rfl)) ⟨false, rfl, h, hs.nil⟩

end Go.Proofs.Ytjkkefhfbcgahaa
