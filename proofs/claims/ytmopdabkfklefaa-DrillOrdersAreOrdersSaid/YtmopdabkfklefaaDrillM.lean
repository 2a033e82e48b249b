/- Chapter 8: orders made better. -/
import Derived.Test.YtmopdabkfklefaaDrillB
namespace Go.Proofs.Ytmopdabkfklefaa
open Go Go.RowKit
set_option linter.unusedVariables false

set_option linter.unusedVariables false
def M_reverse_int_L1 (s__lo : Int) (s__hi : Int) (Q : (List Int) → Prop) (again1 : List Int → Int → Int → Prop) (l2 : List Int) (n3 : Int) (n4 : Int) : Prop :=
  cnd (decide (n3 < n4)) (idx (seg l2 s__lo s__hi) n4 fun x1 => idx (seg l2 s__lo s__hi) n3 fun x2 => idx (seg (l2.set ((s__lo : Int).toNat + n3.toNat) x1) s__lo s__hi) n4 fun x3 => again1 ((l2.set ((s__lo : Int).toNat + n3.toNat) x1).set ((s__lo : Int).toNat + n4.toNat) x2) (w64 (n3 + 1)) (w64 (n4 - 1))) (Q l2)
def M_reverse_int (s_ : (List Int)) (s__lo : Int) (s__hi : Int) (Q : (List Int) → Prop) : Prop :=
  lp (fun again (s : List Int × Int × Int) => M_reverse_int_L1 s__lo s__hi Q (fun l2 n3 n4 => again (l2, n3, n4)) s.1 s.2.1 s.2.2) (s_, 0, w64 (((seg s_ s__lo s__hi).length : Int) - 1))
set_option maxHeartbeats 1000000 in
theorem R_reverse_int (s_ : (List Int)) (s__lo : Int) (s__hi : Int) (w0 : World) (F0 : Nat → Prop) (s_A : Option Addr) (s_C : Nat) (hp_s_ : 0 ≤ s__lo ∧ s__lo ≤ s__hi ∧ s__hi ≤ (s_.length : Int)) (hs0 : Sat w0 F0 [hown 3 s_A s_C s_] w0) (Q : (List Int) → Prop) (h : M_reverse_int s_ s__lo s__hi Q) :
    Ret Try.prog 86 #[.slice (segA s_A s_C (s__lo : Int).toNat 1) (seg s_ s__lo s__hi).length (s_C - (s__lo : Int).toNat)] w0 fun v w' => ∃ (s_1 : List Int) (hl_s_1 : s_1.length = s_.length), v = .tuple #[] ∧ Q s_1 ∧ Sat w0 F0 [hown 3 s_A s_C s_1] w' := by
  refine fn_enter Try.func86 rfl Try.ntmps86 rfl (fs := [(0, .slice (segA s_A s_C (s__lo : Int).toNat 1) (seg s_ s__lo s__hi).length (s_C - (s__lo : Int).toNat))]) rfl (fun a hf => ?_)
  have hs := hs0
  unfold M_reverse_int at h
  refine wp_seq ?_
  refine R.list ?_
  refine S.val hf hs (v := .slice (segA s_A s_C (s__lo : Int).toNat 1) (seg s_ s__lo s__hi).length (s_C - (s__lo : Int).toNat)) rfl rfl rfl (V.pure rfl) (fun a hf => ?_)
  refine S.val hf hs (v := .int .i64 ((seg s_ s__lo s__hi).length : Int)) rfl rfl rfl (V.len rfl rfl Try.runUnderlying28) (fun a hf => ?_)
  refine S.val hf hs (v := .int .i64 (w64 (((seg s_ s__lo s__hi).length : Int) - 1))) rfl rfl rfl (V.pure rfl) (fun a hf => ?_)
  refine S.val hf hs (v := .int .i64 0) rfl rfl rfl (V.pure rfl) (fun a hf => ?_)
  refine S.val hf hs (v := .int .i64 (w64 (((seg s_ s__lo s__hi).length : Int) - 1))) rfl rfl rfl (V.pure rfl) (fun a hf => ?_)
  refine R.nil ?_
  refine X.then_ ?_
  refine wp_block ?_
  obtain ⟨kk, h⟩ := h
  refine C.loop (fun kk a w => ∃ (l2 : List Int) (hl_l2 : l2.length = s_.length) (hp_l2 : 0 ≤ s__lo ∧ s__lo ≤ s__hi ∧ s__hi ≤ (l2.length : Int)) (n3 : Int) (n4 : Int), iterF (fun again (s : List Int × Int × Int) => M_reverse_int_L1 s__lo s__hi Q (fun l2 n3 n4 => again (l2, n3, n4)) s.1 s.2.1 s.2.2) kk (l2, n3, n4) ∧ FrOk 28 [(0, .slice (segA s_A s_C (s__lo : Int).toNat 1) (seg l2 s__lo s__hi).length (s_C - (s__lo : Int).toNat)), (2, .int .i64 n3), (3, .int .i64 n4)] a ∧ Sat w0 F0 [hown 3 s_A s_C l2] w) kk ⟨s_, rfl, hp_s_, 0, (w64 (((seg s_ s__lo s__hi).length : Int) - 1)), h, (((hf.nil.cons (hf.get 3 _ rfl)).cons (hf.get 2 _ rfl)).cons (hf.get 0 _ rfl)), hs⟩ (fun a w ⟨_, _, _, _, _, h, _, _⟩ => h) ?_
  clear h hf hs
  rintro kk a w ⟨l2, hl_l2, hp_l2, n3, n4, h, hf, hs⟩
  obtain ⟨again1, hagain1⟩ : ∃ X : List Int → Int → Int → Prop, X = (fun l2 n3 n4 => iterF (fun again (s : List Int × Int × Int) => M_reverse_int_L1 s__lo s__hi Q (fun l2 n3 n4 => again (l2, n3, n4)) s.1 s.2.1 s.2.2) kk (l2, n3, n4)) := ⟨_, rfl⟩
  replace h : M_reverse_int_L1 s__lo s__hi Q again1 l2 n3 n4 := by rw [hagain1]; exact h
  unfold M_reverse_int_L1 at h
  refine wp_seq ?_
  refine wp_seq ?_
  refine R.list ?_
  refine S.val hf hs (v := .int .i64 n3) rfl rfl rfl (V.pure rfl) (fun a hf => ?_)
  refine S.val hf hs (v := .int .i64 n4) rfl rfl rfl (V.pure rfl) (fun a hf => ?_)
  refine S.val hf hs (v := .bool (decide (n3 < n4))) rfl rfl rfl (V.pure rfl) (fun a hf => ?_)
  refine R.nil ?_
  refine X.then_ ?_
  refine C.cond hf (b := decide (n3 < n4)) rfl (fun hc => ?_) (fun hc => ?_)
  · replace h := h.1 hc
    refine wp_skip ?_
    refine X.then_ ?_
    refine wp_seq ?_
    refine wp_block ?_
    refine H.start (S := Sat w0 F0 []) mo ?_
    replace hs := hs.drew
    refine H.val hf hs.nil (v := .slice (segA s_A s_C (s__lo : Int).toNat 1) (seg l2 s__lo s__hi).length (s_C - (s__lo : Int).toNat)) (i := 0) rfl rfl rfl rfl (by kernel_rfl) (by kernel_rfl) (by kernel_rfl) (V.pure rfl) (fun a hf => ?_)
    refine H.val hf hs.nil (v := .int .i64 n3) (i := 1) rfl rfl rfl rfl (by kernel_rfl) (by kernel_rfl) (by kernel_rfl) (V.pure rfl) (fun a hf => ?_)
    refine H.val hf hs.nil (v := .slice (segA s_A s_C (s__lo : Int).toNat 1) (seg l2 s__lo s__hi).length (s_C - (s__lo : Int).toNat)) (i := 2) rfl rfl rfl rfl (by kernel_rfl) (by kernel_rfl) (by kernel_rfl) (V.pure rfl) (fun a hf => ?_)
    refine H.val hf hs.nil (v := .int .i64 n4) (i := 3) rfl rfl rfl rfl (by kernel_rfl) (by kernel_rfl) (by kernel_rfl) (V.pure rfl) (fun a hf => ?_)
    refine H.val hf hs.nil (v := .slice (segA s_A s_C (s__lo : Int).toNat 1) (seg l2 s__lo s__hi).length (s_C - (s__lo : Int).toNat)) (i := 4) rfl rfl rfl rfl (by kernel_rfl) (by kernel_rfl) (by kernel_rfl) (V.pure rfl) (fun a hf => ?_)
    refine H.val hf hs.nil (v := .int .i64 n4) (i := 5) rfl rfl rfl rfl (by kernel_rfl) (by kernel_rfl) (by kernel_rfl) (V.pure rfl) (fun a hf => ?_)
    obtain ⟨h0x1, x1, hyx1, h⟩ := h
    have hx1 := seg_get hyx1
    refine H.val hf hs.nil (v := elemPtr s_A (((s__lo : Int).toNat + n4.toNat) * 1)) (i := 6) rfl rfl rfl rfl (by kernel_rfl) (by kernel_rfl) (by kernel_rfl) (V.indexSub (lo := s__lo) rfl rfl rfl Try.runUnderlying28 Try.sizeOf3 (hs.ownSome 0 rfl (lt_of_get hx1)) h0x1 (lt_of_get hyx1) (seg_fits hp_l2 (hs.ownView 0 rfl).cap) rfl) (fun a hf => ?_)
    refine H.val hf hs.nil (v := .slice (segA s_A s_C (s__lo : Int).toNat 1) (seg l2 s__lo s__hi).length (s_C - (s__lo : Int).toNat)) (i := 8) rfl rfl rfl rfl (by kernel_rfl) (by kernel_rfl) (by kernel_rfl) (V.pure rfl) (fun a hf => ?_)
    refine H.val hf hs.nil (v := .int .i64 n3) (i := 9) rfl rfl rfl rfl (by kernel_rfl) (by kernel_rfl) (by kernel_rfl) (V.pure rfl) (fun a hf => ?_)
    obtain ⟨h0x2, x2, hyx2, h⟩ := h
    have hx2 := seg_get hyx2
    refine H.val hf hs.nil (v := elemPtr s_A (((s__lo : Int).toNat + n3.toNat) * 1)) (i := 10) rfl rfl rfl rfl (by kernel_rfl) (by kernel_rfl) (by kernel_rfl) (V.indexSub (lo := s__lo) rfl rfl rfl Try.runUnderlying28 Try.sizeOf3 (hs.ownSome 0 rfl (lt_of_get hx2)) h0x2 (lt_of_get hyx2) (seg_fits hp_l2 (hs.ownView 0 rfl).cap) rfl) (fun a hf => ?_)
    refine H.two (i := 7) (j := 11) (vi := .int .i64 x1) (vj := .int .i64 x2) hf hs hs.nil rfl rfl rfl rfl rfl rfl rfl rfl rfl rfl rfl (by kernel_rfl) (by kernel_rfl) (by kernel_rfl) (by kernel_rfl) (V.loadOwn (off := 0) 0 rfl hx1 rfl rfl rfl Try.isAgg3 Try.sizeOf3 rfl rfl) (V.loadOwn (off := 0) 0 rfl hx2 rfl rfl rfl Try.isAgg3 Try.sizeOf3 rfl rfl) (V.loadOwn (off := 0) 0 rfl hx2 rfl rfl rfl Try.isAgg3 Try.sizeOf3 rfl rfl) (V.loadOwn (off := 0) 0 rfl hx1 rfl rfl rfl Try.isAgg3 Try.sizeOf3 rfl rfl) (fun a hf => ?_)
    refine H.val hf hs.nil (v := elemPtr s_A (((s__lo : Int).toNat + n3.toNat) * 1)) (i := 12) rfl rfl rfl rfl (by kernel_rfl) (by kernel_rfl) (by kernel_rfl) (V.indexSub (lo := s__lo) rfl rfl rfl Try.runUnderlying28 Try.sizeOf3 (hs.ownSome 0 rfl (lt_of_get hx2)) h0x2 (lt_of_get hyx2) (seg_fits hp_l2 (hs.ownView 0 rfl).cap) rfl) (fun a hf => ?_)
    refine H.one (i := 13) rfl (by kernel_rfl) ?_
    refine S.storeOwn (off := 0) 0 hf hs rfl rfl x1 [.int .i64 x1] rfl hx2 rfl rfl rfl rfl rfl Try.sizeOf3 rfl (by decide) rfl rfl (fun a w hf hs => ?_)
    have hp1 : 0 ≤ s__lo ∧ s__lo ≤ s__hi ∧ s__hi ≤ ((l2.set ((s__lo : Int).toNat + n3.toNat) x1).length : Int) := by rw [List.length_set]; exact hp_l2
    replace hf := hf.tell 0 (v := .slice (segA s_A s_C (s__lo : Int).toNat 1) (seg (l2.set ((s__lo : Int).toNat + n3.toNat) x1) s__lo s__hi).length (s_C - (s__lo : Int).toNat)) ((hf.get 0 (.slice (segA s_A s_C (s__lo : Int).toNat 1) (seg l2 s__lo s__hi).length (s_C - (s__lo : Int).toNat)) rfl).trans (congrArg (fun n => Value.slice (segA s_A s_C (s__lo : Int).toNat 1) n (s_C - (s__lo : Int).toNat)) (seg_len_eq List.length_set).symm))
    have hp2 : 0 ≤ s__lo ∧ s__lo ≤ s__hi ∧ s__hi ≤ ((l2.set ((s__lo : Int).toNat + n3.toNat) x1).length : Int) := by rw [List.length_set]; exact hp_l2
    replace hf := hf.tell 14 (v := .slice (segA s_A s_C (s__lo : Int).toNat 1) (seg (l2.set ((s__lo : Int).toNat + n3.toNat) x1) s__lo s__hi).length (s_C - (s__lo : Int).toNat)) ((hf.get 14 (.slice (segA s_A s_C (s__lo : Int).toNat 1) (seg l2 s__lo s__hi).length (s_C - (s__lo : Int).toNat)) rfl).trans (congrArg (fun n => Value.slice (segA s_A s_C (s__lo : Int).toNat 1) n (s_C - (s__lo : Int).toNat)) (seg_len_eq List.length_set).symm))
    have hp3 : 0 ≤ s__lo ∧ s__lo ≤ s__hi ∧ s__hi ≤ ((l2.set ((s__lo : Int).toNat + n3.toNat) x1).length : Int) := by rw [List.length_set]; exact hp_l2
    replace hf := hf.tell 16 (v := .slice (segA s_A s_C (s__lo : Int).toNat 1) (seg (l2.set ((s__lo : Int).toNat + n3.toNat) x1) s__lo s__hi).length (s_C - (s__lo : Int).toNat)) ((hf.get 16 (.slice (segA s_A s_C (s__lo : Int).toNat 1) (seg l2 s__lo s__hi).length (s_C - (s__lo : Int).toNat)) rfl).trans (congrArg (fun n => Value.slice (segA s_A s_C (s__lo : Int).toNat 1) n (s_C - (s__lo : Int).toNat)) (seg_len_eq List.length_set).symm))
    have hp4 : 0 ≤ s__lo ∧ s__lo ≤ s__hi ∧ s__hi ≤ ((l2.set ((s__lo : Int).toNat + n3.toNat) x1).length : Int) := by rw [List.length_set]; exact hp_l2
    replace hf := hf.tell 18 (v := .slice (segA s_A s_C (s__lo : Int).toNat 1) (seg (l2.set ((s__lo : Int).toNat + n3.toNat) x1) s__lo s__hi).length (s_C - (s__lo : Int).toNat)) ((hf.get 18 (.slice (segA s_A s_C (s__lo : Int).toNat 1) (seg l2 s__lo s__hi).length (s_C - (s__lo : Int).toNat)) rfl).trans (congrArg (fun n => Value.slice (segA s_A s_C (s__lo : Int).toNat 1) n (s_C - (s__lo : Int).toNat)) (seg_len_eq List.length_set).symm))
    have hp5 : 0 ≤ s__lo ∧ s__lo ≤ s__hi ∧ s__hi ≤ ((l2.set ((s__lo : Int).toNat + n3.toNat) x1).length : Int) := by rw [List.length_set]; exact hp_l2
    replace hf := hf.tell 22 (v := .slice (segA s_A s_C (s__lo : Int).toNat 1) (seg (l2.set ((s__lo : Int).toNat + n3.toNat) x1) s__lo s__hi).length (s_C - (s__lo : Int).toNat)) ((hf.get 22 (.slice (segA s_A s_C (s__lo : Int).toNat 1) (seg l2 s__lo s__hi).length (s_C - (s__lo : Int).toNat)) rfl).trans (congrArg (fun n => Value.slice (segA s_A s_C (s__lo : Int).toNat 1) n (s_C - (s__lo : Int).toNat)) (seg_len_eq List.length_set).symm))
    refine R.nil ?_
    refine X.then_ ?_
    refine ⟨hs.nil, ?_⟩
    obtain ⟨h0x3, x3, hyx3, h⟩ := h
    have hx3 := seg_get hyx3
    refine H.val hf hs.nil (v := elemPtr s_A (((s__lo : Int).toNat + n4.toNat) * 1)) (i := 14) rfl rfl rfl rfl (by kernel_rfl) (by kernel_rfl) (by kernel_rfl) (V.indexSub (lo := s__lo) rfl rfl rfl Try.runUnderlying28 Try.sizeOf3 (hs.ownSome 0 rfl (lt_of_get hx3)) h0x3 (lt_of_get hyx3) (seg_fits hp3 (hs.ownView 0 rfl).cap) rfl) (fun a hf => ?_)
    refine H.one (i := 15) rfl (by kernel_rfl) ?_
    refine S.storeOwn (off := 0) 0 hf hs rfl rfl x2 [.int .i64 x2] rfl hx3 rfl rfl rfl rfl rfl Try.sizeOf3 rfl (by decide) rfl rfl (fun a w hf hs => ?_)
    have hp6 : 0 ≤ s__lo ∧ s__lo ≤ s__hi ∧ s__hi ≤ (((l2.set ((s__lo : Int).toNat + n3.toNat) x1).set ((s__lo : Int).toNat + n4.toNat) x2).length : Int) := by rw [List.length_set]; exact hp1
    replace hf := hf.tell 0 (v := .slice (segA s_A s_C (s__lo : Int).toNat 1) (seg ((l2.set ((s__lo : Int).toNat + n3.toNat) x1).set ((s__lo : Int).toNat + n4.toNat) x2) s__lo s__hi).length (s_C - (s__lo : Int).toNat)) ((hf.get 0 (.slice (segA s_A s_C (s__lo : Int).toNat 1) (seg (l2.set ((s__lo : Int).toNat + n3.toNat) x1) s__lo s__hi).length (s_C - (s__lo : Int).toNat)) rfl).trans (congrArg (fun n => Value.slice (segA s_A s_C (s__lo : Int).toNat 1) n (s_C - (s__lo : Int).toNat)) (seg_len_eq List.length_set).symm))
    have hp7 : 0 ≤ s__lo ∧ s__lo ≤ s__hi ∧ s__hi ≤ (((l2.set ((s__lo : Int).toNat + n3.toNat) x1).set ((s__lo : Int).toNat + n4.toNat) x2).length : Int) := by rw [List.length_set]; exact hp2
    replace hf := hf.tell 14 (v := .slice (segA s_A s_C (s__lo : Int).toNat 1) (seg ((l2.set ((s__lo : Int).toNat + n3.toNat) x1).set ((s__lo : Int).toNat + n4.toNat) x2) s__lo s__hi).length (s_C - (s__lo : Int).toNat)) ((hf.get 14 (.slice (segA s_A s_C (s__lo : Int).toNat 1) (seg (l2.set ((s__lo : Int).toNat + n3.toNat) x1) s__lo s__hi).length (s_C - (s__lo : Int).toNat)) rfl).trans (congrArg (fun n => Value.slice (segA s_A s_C (s__lo : Int).toNat 1) n (s_C - (s__lo : Int).toNat)) (seg_len_eq List.length_set).symm))
    have hp8 : 0 ≤ s__lo ∧ s__lo ≤ s__hi ∧ s__hi ≤ (((l2.set ((s__lo : Int).toNat + n3.toNat) x1).set ((s__lo : Int).toNat + n4.toNat) x2).length : Int) := by rw [List.length_set]; exact hp3
    replace hf := hf.tell 16 (v := .slice (segA s_A s_C (s__lo : Int).toNat 1) (seg ((l2.set ((s__lo : Int).toNat + n3.toNat) x1).set ((s__lo : Int).toNat + n4.toNat) x2) s__lo s__hi).length (s_C - (s__lo : Int).toNat)) ((hf.get 16 (.slice (segA s_A s_C (s__lo : Int).toNat 1) (seg (l2.set ((s__lo : Int).toNat + n3.toNat) x1) s__lo s__hi).length (s_C - (s__lo : Int).toNat)) rfl).trans (congrArg (fun n => Value.slice (segA s_A s_C (s__lo : Int).toNat 1) n (s_C - (s__lo : Int).toNat)) (seg_len_eq List.length_set).symm))
    have hp9 : 0 ≤ s__lo ∧ s__lo ≤ s__hi ∧ s__hi ≤ (((l2.set ((s__lo : Int).toNat + n3.toNat) x1).set ((s__lo : Int).toNat + n4.toNat) x2).length : Int) := by rw [List.length_set]; exact hp4
    replace hf := hf.tell 18 (v := .slice (segA s_A s_C (s__lo : Int).toNat 1) (seg ((l2.set ((s__lo : Int).toNat + n3.toNat) x1).set ((s__lo : Int).toNat + n4.toNat) x2) s__lo s__hi).length (s_C - (s__lo : Int).toNat)) ((hf.get 18 (.slice (segA s_A s_C (s__lo : Int).toNat 1) (seg (l2.set ((s__lo : Int).toNat + n3.toNat) x1) s__lo s__hi).length (s_C - (s__lo : Int).toNat)) rfl).trans (congrArg (fun n => Value.slice (segA s_A s_C (s__lo : Int).toNat 1) n (s_C - (s__lo : Int).toNat)) (seg_len_eq List.length_set).symm))
    have hp10 : 0 ≤ s__lo ∧ s__lo ≤ s__hi ∧ s__hi ≤ (((l2.set ((s__lo : Int).toNat + n3.toNat) x1).set ((s__lo : Int).toNat + n4.toNat) x2).length : Int) := by rw [List.length_set]; exact hp5
    replace hf := hf.tell 22 (v := .slice (segA s_A s_C (s__lo : Int).toNat 1) (seg ((l2.set ((s__lo : Int).toNat + n3.toNat) x1).set ((s__lo : Int).toNat + n4.toNat) x2) s__lo s__hi).length (s_C - (s__lo : Int).toNat)) ((hf.get 22 (.slice (segA s_A s_C (s__lo : Int).toNat 1) (seg (l2.set ((s__lo : Int).toNat + n3.toNat) x1) s__lo s__hi).length (s_C - (s__lo : Int).toNat)) rfl).trans (congrArg (fun n => Value.slice (segA s_A s_C (s__lo : Int).toNat 1) n (s_C - (s__lo : Int).toNat)) (seg_len_eq List.length_set).symm))
    refine R.nil ?_
    refine X.then_ ?_
    refine ⟨hs.nil, ?_⟩
    refine H.done (by kernel_rfl) ?_
    refine X.blk ?_
    refine X.then_ ?_
    refine R.list ?_
    refine S.val hf hs (v := .int .i64 n3) rfl rfl rfl (V.pure rfl) (fun a hf => ?_)
    refine S.val hf hs (v := .int .i64 (w64 (n3 + 1))) rfl rfl rfl (V.pure rfl) (fun a hf => ?_)
    refine S.val hf hs (v := .int .i64 n4) rfl rfl rfl (V.pure rfl) (fun a hf => ?_)
    refine S.val hf hs (v := .int .i64 (w64 (n4 - 1))) rfl rfl rfl (V.pure rfl) (fun a hf => ?_)
    refine S.val hf hs (v := .int .i64 (w64 (n3 + 1))) rfl rfl rfl (V.pure rfl) (fun a hf => ?_)
    refine S.val hf hs (v := .int .i64 (w64 (n4 - 1))) rfl rfl rfl (V.pure rfl) (fun a hf => ?_)
    refine R.nil ?_
    refine X.then_ ?_
    exact ⟨((l2.set ((s__lo : Int).toNat + n3.toNat) x1).set ((s__lo : Int).toNat + n4.toNat) x2), (List.length_set.trans (List.length_set.trans hl_l2)), hp6, (w64 (n3 + 1)), (w64 (n4 - 1)), (by rw [hagain1] at h; exact h), (((hf.nil.cons (hf.get 3 _ rfl)).cons (hf.get 2 _ rfl)).cons (hf.get 0 _ rfl)), hs⟩
  · replace h := h.2 hc
    refine wp_exit ?_
    refine X.then_exit ?_
    refine X.then_exit ?_
    refine X.blk_exit ?_
    replace hs := hs.take 1
    exact L.end0 Try.results86 hf ⟨l2, hl_l2, rfl, h, hs⟩

set_option linter.unusedVariables false
def M_clone_int (s_ : (List Int)) (Q : (List Int) → Prop) : Prop :=
  nilq s_ fun b1 => cnd b1 (Q ([] : List Int)) (must (room (([] : List Int) ++ s_).length 8) (Q (([] : List Int) ++ s_)))
set_option maxHeartbeats 1000000 in
theorem R_clone_int (s_ : (List Int)) (w0 : World) (s_A : Option Addr) (s_C : Nat) (hv_s_ : View w0 (old w0 none_) s_A s_C s_) (Q : (List Int) → Prop) (h : M_clone_int s_ Q) :
    Ret Try.prog 85 #[.slice s_A s_.length s_C] w0 fun v w' => ∃ (r0 : (List Int)) (r0A : Option Addr) (r0C : Nat), v = .slice r0A r0.length r0C ∧ Q r0 ∧ Sat w0 none_ [hown 3 r0A r0C r0] w' := by
  refine fn_enter Try.func85 rfl Try.ntmps85 rfl (fs := [(0, .slice s_A s_.length s_C)]) rfl (fun a hf => ?_)
  have hs := Sat.start w0 none_
  unfold M_clone_int at h
  refine wp_seq ?_
  refine R.list ?_
  refine S.val hf hs (v := .slice none 0 0) rfl rfl rfl (V.pure rfl) (fun a hf => ?_)
  refine R.nil ?_
  refine X.then_ ?_
  refine wp_seq ?_
  refine wp_seq ?_
  refine R.list ?_
  refine S.val hf hs (v := .slice s_A s_.length s_C) rfl rfl rfl (V.pure rfl) (fun a hf => ?_)
  obtain ⟨b1, hb1⟩ : ∃ b : Bool, b = Option.isNone s_A := ⟨_, rfl⟩
  replace h := h b1 (fun e => ((Ag.args _ _ _).view hv_s_ hs).nil_of (hb1.symm.trans e))
  refine S.val hf hs (v := .bool b1) rfl rfl rfl (V.eqNil b1 rfl rfl rfl Try.underlying28 (by kernel_rfl) hb1) (fun a hf => ?_)
  refine R.nil ?_
  refine X.then_ ?_
  refine C.cond hf (b := b1) rfl (fun hc => ?_) (fun hc => ?_)
  · replace h := h.1 hc
    refine wp_seq ?_
    refine R.list ?_
    refine S.val hf hs (v := .slice none 0 0) rfl rfl rfl (V.pure rfl) (fun a hf => ?_)
    refine R.nil ?_
    refine X.then_ ?_
    refine wp_ret ?_
    refine X.then_ret ?_
    replace hs := hs.nilOwn (α := Int) 3
    replace hs := hs.take 1
    exact L.ret hf (run_results1 Try.results85 (ResIs.tmp hf rfl)) ⟨([] : List Int), none, 0, rfl, h, hs⟩
  · replace h := h.2 hc
    refine wp_skip ?_
    refine X.then_ ?_
    refine wp_seq ?_
    refine R.list ?_
    refine S.buildEmpty (α := Int) hf hs rfl rfl rfl rfl Try.runUnderlying28 Try.sizeOf3 (fun A1 a w hf hs => ?_)
    refine S.val hf hs (v := .slice s_A s_.length s_C) rfl rfl rfl (V.pure rfl) (fun a hf => ?_)
    obtain ⟨hroom, h⟩ := h
    refine S.appendAny 0 hf hs rfl rfl rfl rfl rfl rfl rfl Try.underlying28 info3 rfl hroom ((Ag.args _ _ _).view hv_s_ hs) (fun A2 C1 a w hf hs => ?_)
    refine S.val hf hs (v := .slice A2 (([] : List Int) ++ s_).length C1) rfl rfl rfl (V.pure rfl) (fun a hf => ?_)
    refine R.nil ?_
    refine X.then_ ?_
    refine wp_ret ?_
    replace hs := hs.take 1
    exact L.ret hf (run_results1 Try.results85 (ResIs.tmp hf rfl)) ⟨(([] : List Int) ++ s_), A2, C1, rfl, h, hs⟩

set_option linter.unusedVariables false
def M_drill_turn_k4 (order : (List Int)) (Q : Bool → (List Int) → Prop) (k1 : Nat) (n2 : Int) (again2 : Int → Prop) (n3 : Int) (n4 : Int) : Prop :=
  cnd (decide (n4 < n3)) (must (0 ≤ (k1 : Int) ∧ (k1 : Int) ≤ w64 (n2 + 1) ∧ w64 (n2 + 1) ≤ (order.length : Int)) (M_reverse_int order (k1 : Int) (w64 (n2 + 1)) fun z1 => Q true z1)) (again2 (w64 (n2 + 1)))
def M_drill_turn_L2 (l : (List Point)) (order : (List Int)) (Q : Bool → (List Int) → Prop) (k1 : Nat) (xk1 : Int) (next1 : Prop) (b1 : Point) (again2 : Int → Prop) (n2 : Int) : Prop :=
  cnd (decide (n2 < (order.length : Int))) (idx l xk1 fun x1 => idx order n2 fun x2 => idx l x2 fun x3 => cnd (decide (w64 (n2 + 1) < (order.length : Int))) (idx order (w64 (n2 + 1)) fun x4 => idx l x4 fun x5 => M_drill_turn_k4 order Q k1 n2 again2 (w64 ((far b1 x1) + (far x3 x5))) (w64 ((far b1 x3) + (far x1 x5)))) (M_drill_turn_k4 order Q k1 n2 again2 (far b1 x1) (far b1 x3))) (next1)
def M_drill_turn_k2 (l : (List Point)) (order : (List Int)) (Q : Bool → (List Int) → Prop) (k1 : Nat) (xk1 : Int) (next1 : Prop) (b1 : Point) : Prop :=
  lp (fun again (s : Int) => M_drill_turn_L2 l order Q k1 xk1 next1 b1 (fun n2 => again n2) s) ((k1 + 1 : Nat) : Int)
def M_drill_turn_L1 (l : (List Point)) (from_ : Point) (order : (List Int)) (Q : Bool → (List Int) → Prop) (k1 : Nat) (xk1 : Int)  (next1 : Prop) : Prop :=
  cnd (decide ((k1 : Int) > 0)) (idx order (w64 ((k1 : Int) - 1)) fun x6 => idx l x6 fun x7 => M_drill_turn_k2 l order Q k1 xk1 next1 x7) (M_drill_turn_k2 l order Q k1 xk1 next1 from_)
def M_drill_turn (l : (List Point)) (from_ : Point) (order : (List Int)) (Q : Bool → (List Int) → Prop) : Prop :=
  forIn' (fun k x (s : Unit) next => M_drill_turn_L1 l from_ order Q k x (next ())) (fun (s : Unit) => Q false order) order 0 ()
set_option maxHeartbeats 1000000 in
theorem R_drill_turn (l : (List Point)) (from_ : Point) (order : (List Int)) (w0 : World) (F0 : Nat → Prop) (lA : Option Addr) (lC : Nat) (hv_l : View w0 (old w0 F0) lA lC l) (orderA : Option Addr) (orderC : Nat) (hs0 : Sat w0 F0 [hown 3 orderA orderC order] w0) (Q : Bool → (List Int) → Prop) (h : M_drill_turn l from_ order Q) :
    Ret Try.prog 63 #[.slice lA l.length lC, .agg #[.int .i64 from_.X, .int .i64 from_.Y], .slice orderA order.length orderC] w0 fun v w' => ∃ (r0 : Bool) (order1 : List Int) (hl_order1 : order1.length = order.length), v = .bool r0 ∧ Q r0 order1 ∧ Sat w0 F0 [hown 3 orderA orderC order1] w' := by
  refine fn_enter Try.func63 rfl Try.ntmps63 rfl (fs := [(0, .slice lA l.length lC), (1, .agg #[.int .i64 from_.X, .int .i64 from_.Y]), (2, .slice orderA order.length orderC)]) rfl (fun a hf => ?_)
  have hs := hs0
  unfold M_drill_turn at h
  refine wp_seq ?_
  refine R.list ?_
  refine S.box hf hs rfl rfl rfl [.int .i64 from_.X, .int .i64 from_.Y] rfl rfl rfl (fun g1 a w hf hs => ?_)
  refine S.val hf hs (v := .bool false) rfl rfl rfl (V.pure rfl) (fun a hf => ?_)
  refine R.nil ?_
  refine X.then_ ?_
  refine wp_seq ?_
  refine wp_seq ?_
  refine R.list ?_
  refine S.val hf hs (v := .slice orderA order.length orderC) rfl rfl rfl (V.pure rfl) (fun a hf => ?_)
  refine S.val hf hs (v := .int .i64 (order.length : Int)) rfl rfl rfl (V.len rfl rfl Try.runUnderlying28) (fun a hf => ?_)
  refine S.val hf hs (v := .int .i64 0) rfl rfl rfl (V.pure rfl) (fun a hf => ?_)
  refine R.nil ?_
  refine X.then_ ?_
  refine wp_block ?_
  have hlenk1 := (hs.ownView 1 rfl).len64
  refine C.range (fun (ll : List Int) a w => ∃ (k1 : Nat) , order.drop k1 = ll ∧ k1 + ll.length = order.length ∧ forIn' (fun k x (s : Unit) next => M_drill_turn_L1 l from_ order Q k x (next ())) (fun (s : Unit) => Q false order) ll k1 () ∧ FrOk 92 [(17, .int .i64 (k1 : Int)), (0, .slice lA l.length lC), (2, .slice orderA order.length orderC), (4, .pointer (some ⟨g1, 0, none⟩)), (16, .int .i64 (order.length : Int))] a ∧ Sat w0 F0 [hbox g1 24 [.int .i64 from_.X, .int .i64 from_.Y], hown 3 orderA orderC order] w) order ⟨0, rfl, Nat.zero_add _, h, (((((hf.nil.cons (hf.get 16 _ rfl)).cons (hf.get 4 _ rfl)).cons (hf.get 2 _ rfl)).cons (hf.get 0 _ rfl)).cons (hf.get 17 _ rfl)), hs⟩ ?_
  clear h hf hs
  rintro llk1 a w ⟨k1, hlk1, hkk1, h, hf, hs⟩
  cases llk1 with
  | nil =>
    have hc := range_done hkk1
    replace h : Q false order := h
    refine wp_seq ?_
    refine R.list ?_
    refine S.val hf hs (v := .bool false) rfl rfl rfl (V.cmp false rfl rfl rfl rfl hc) (fun a hf => ?_)
    refine R.nil ?_
    refine X.then_ ?_
    refine wp_seq ?_
    refine C.no hf rfl ?_
    refine wp_exit ?_
    refine X.then_exit ?_
    refine X.then_exit ?_
    refine X.blk_exit ?_
    refine X.then_ ?_
    refine wp_seq ?_
    refine R.list ?_
    refine S.val hf hs (v := .bool false) rfl rfl rfl (V.pure rfl) (fun a hf => ?_)
    refine R.nil ?_
    refine X.then_ ?_
    refine wp_ret ?_
    replace hs := hs.front 1 rfl
    replace hs := hs.take 1
    exact L.ret hf (run_results1 Try.results63 (ResIs.tmp hf rfl)) ⟨false, order, rfl, rfl, h, hs⟩
  | cons xk1 llk1 =>
    have hltk1 := range_lt hkk1; have hc := range_go hkk1; have hxk1 := range_get hlk1
    obtain ⟨next1, hnext1⟩ : ∃ X : Prop, X = (forIn' (fun k x (s : Unit) next => M_drill_turn_L1 l from_ order Q k x (next ())) (fun (s : Unit) => Q false order) llk1 (k1 + 1) ()) := ⟨_, rfl⟩
    replace h : M_drill_turn_L1 l from_ order Q k1 xk1  next1 := by rw [hnext1]; exact h
    unfold M_drill_turn_L1 at h
    refine wp_seq ?_
    refine R.list ?_
    refine S.val hf hs (v := .bool true) rfl rfl rfl (V.cmp true rfl rfl rfl rfl hc) (fun a hf => ?_)
    refine R.nil ?_
    refine X.then_ ?_
    refine wp_seq ?_
    refine C.yes hf rfl ?_
    refine wp_skip ?_
    refine X.then_ ?_
    refine wp_seq ?_
    refine wp_block ?_
    refine wp_seq ?_
    refine R.list ?_
    refine S.val hf hs (v := .int .i64 (k1 : Int)) rfl rfl rfl (V.pure rfl) (fun a hf => ?_)
    refine S.val hf hs (v := .int .i64 (k1 : Int)) rfl rfl rfl (V.pure rfl) (fun a hf => ?_)
    refine R.nil ?_
    refine X.then_ ?_
    refine wp_seq ?_
    refine R.list ?_
    refine S.val hf hs (v := .agg #[.int .i64 from_.X, .int .i64 from_.Y]) rfl rfl rfl (V.loadBox 0 rfl rfl rfl Try.isAgg24 Try.sizeOf24 rfl rfl) (fun a hf => ?_)
    refine S.alloc hf hs rfl rfl rfl [.int .i64 0, .int .i64 0] rfl Try.zeroValue24 rfl (fun g2 a w hf hs => ?_)
    refine S.storeBox 0 hf hs rfl rfl [.int .i64 from_.X, .int .i64 from_.Y] [.int .i64 from_.X, .int .i64 from_.Y] rfl rfl rfl rfl rfl Try.sizeOf24 rfl rfl rfl rfl (fun a w hf hs => ?_)
    refine R.nil ?_
    refine X.then_ ?_
    refine wp_seq ?_
    refine C.cut (J := fun a w => ∃ (b1 : Point), M_drill_turn_k2 l order Q k1 xk1 next1 b1 ∧ FrOk 92 [(0, .slice lA l.length lC), (2, .slice orderA order.length orderC), (4, .pointer (some ⟨g1, 0, none⟩)), (7, .int .i64 (k1 : Int)), (8, .pointer (some ⟨g2, 0, none⟩)), (16, .int .i64 (order.length : Int)), (17, .int .i64 (k1 : Int))] a ∧ Sat w0 F0 [hbox g2 24 [.int .i64 b1.X, .int .i64 b1.Y], hbox g1 24 [.int .i64 from_.X, .int .i64 from_.Y], hown 3 orderA orderC order] w) ?_ ?_
    · rintro a w ⟨b1, h, hf, hs⟩
      unfold M_drill_turn_k2 at h
      refine wp_seq ?_
      refine R.list ?_
      refine S.val hf hs (v := .int .i64 (k1 : Int)) rfl rfl rfl (V.pure rfl) (fun a hf => ?_)
      refine S.val hf hs (v := .int .i64 ((k1 + 1 : Nat) : Int)) rfl rfl rfl (V.incr rfl rfl rfl hltk1 hlenk1) (fun a hf => ?_)
      refine S.val hf hs (v := .int .i64 ((k1 + 1 : Nat) : Int)) rfl rfl rfl (V.pure rfl) (fun a hf => ?_)
      refine R.nil ?_
      refine X.then_ ?_
      refine wp_block ?_
      obtain ⟨kk, h⟩ := h
      refine C.loop (fun kk a w => ∃ (n2 : Int), iterF (fun again (s : Int) => M_drill_turn_L2 l order Q k1 xk1 next1 b1 (fun n2 => again n2) s) kk n2 ∧ FrOk 92 [(0, .slice lA l.length lC), (2, .slice orderA order.length orderC), (4, .pointer (some ⟨g1, 0, none⟩)), (7, .int .i64 (k1 : Int)), (8, .pointer (some ⟨g2, 0, none⟩)), (9, .int .i64 n2), (16, .int .i64 (order.length : Int)), (17, .int .i64 (k1 : Int))] a ∧ Sat w0 F0 [hbox g2 24 [.int .i64 b1.X, .int .i64 b1.Y], hbox g1 24 [.int .i64 from_.X, .int .i64 from_.Y], hown 3 orderA orderC order] w) kk ⟨((k1 + 1 : Nat) : Int), h, ((((((((hf.nil.cons (hf.get 17 _ rfl)).cons (hf.get 16 _ rfl)).cons (hf.get 9 _ rfl)).cons (hf.get 8 _ rfl)).cons (hf.get 7 _ rfl)).cons (hf.get 4 _ rfl)).cons (hf.get 2 _ rfl)).cons (hf.get 0 _ rfl)), hs⟩ (fun a w ⟨_, h, _, _⟩ => h) ?_
      clear h hf hs
      rintro kk a w ⟨n2, h, hf, hs⟩
      obtain ⟨again2, hagain2⟩ : ∃ X : Int → Prop, X = (fun n2 => iterF (fun again (s : Int) => M_drill_turn_L2 l order Q k1 xk1 next1 b1 (fun n2 => again n2) s) kk n2) := ⟨_, rfl⟩
      replace h : M_drill_turn_L2 l order Q k1 xk1 next1 b1 again2 n2 := by rw [hagain2]; exact h
      unfold M_drill_turn_L2 at h
      refine wp_seq ?_
      refine wp_seq ?_
      refine R.list ?_
      refine S.val hf hs (v := .int .i64 n2) rfl rfl rfl (V.pure rfl) (fun a hf => ?_)
      refine S.val hf hs (v := .slice orderA order.length orderC) rfl rfl rfl (V.pure rfl) (fun a hf => ?_)
      refine S.val hf hs (v := .int .i64 (order.length : Int)) rfl rfl rfl (V.len rfl rfl Try.runUnderlying28) (fun a hf => ?_)
      refine S.val hf hs (v := .bool (decide (n2 < (order.length : Int)))) rfl rfl rfl (V.pure rfl) (fun a hf => ?_)
      refine R.nil ?_
      refine X.then_ ?_
      refine C.cond hf (b := decide (n2 < (order.length : Int))) rfl (fun hc => ?_) (fun hc => ?_)
      · replace h := h.1 hc
        refine wp_skip ?_
        refine X.then_ ?_
        refine wp_seq ?_
        refine wp_block ?_
        refine wp_seq ?_
        refine H.start (S := Sat w0 F0 [hbox g2 24 [.int .i64 b1.X, .int .i64 b1.Y], hbox g1 24 [.int .i64 from_.X, .int .i64 from_.Y], hown 3 orderA orderC order]) mo ?_
        replace hs := hs.drew
        refine H.val hf hs (v := .slice lA l.length lC) (i := 0) rfl rfl rfl rfl (by kernel_rfl) (by kernel_rfl) (by kernel_rfl) (V.pure rfl) (fun a hf => ?_)
        refine H.val hf hs (v := .slice orderA order.length orderC) (i := 1) rfl rfl rfl rfl (by kernel_rfl) (by kernel_rfl) (by kernel_rfl) (V.pure rfl) (fun a hf => ?_)
        refine H.val hf hs (v := .int .i64 (k1 : Int)) (i := 2) rfl rfl rfl rfl (by kernel_rfl) (by kernel_rfl) (by kernel_rfl) (V.pure rfl) (fun a hf => ?_)
        refine H.val hf hs (v := elemPtr orderA (k1 * 1)) (i := 3) rfl rfl rfl rfl (by kernel_rfl) (by kernel_rfl) (by kernel_rfl) (V.index rfl rfl rfl Try.runUnderlying28 Try.sizeOf3 (hs.ownSome 2 rfl (lt_of_get hxk1)) (Int.natCast_nonneg _) (lt_of_get hxk1) rfl) (fun a hf => ?_)
        refine H.val hf hs (v := .int .i64 xk1) (i := 4) rfl rfl rfl rfl (by kernel_rfl) (by kernel_rfl) (by kernel_rfl) (V.loadOwn (off := 0) 2 rfl hxk1 rfl rfl rfl Try.isAgg3 Try.sizeOf3 rfl rfl) (fun a hf => ?_)
        obtain ⟨h0x1, x1, hx1, h⟩ := h
        refine H.val hf hs (v := elemPtr lA (xk1.toNat * 2)) (i := 5) rfl rfl rfl rfl (by kernel_rfl) (by kernel_rfl) (by kernel_rfl) (V.index rfl rfl rfl Try.runUnderlying22 Try.sizeOf24 (hv_l.some_ (lt_of_get hx1)) h0x1 (lt_of_get hx1) rfl) (fun a hf => ?_)
        refine H.val hf hs (v := .agg #[.int .i64 x1.X, .int .i64 x1.Y]) (i := 6) rfl rfl rfl rfl (by kernel_rfl) (by kernel_rfl) (by kernel_rfl) (V.loadEl (off := 0) (Ag.args _ _ _) (hv_l.flat hx1) rfl rfl rfl Try.isAgg24 Try.sizeOf24 rfl rfl) (fun a hf => ?_)
        refine H.val hf hs (v := .slice lA l.length lC) (i := 7) rfl rfl rfl rfl (by kernel_rfl) (by kernel_rfl) (by kernel_rfl) (V.pure rfl) (fun a hf => ?_)
        refine H.val hf hs (v := .slice orderA order.length orderC) (i := 8) rfl rfl rfl rfl (by kernel_rfl) (by kernel_rfl) (by kernel_rfl) (V.pure rfl) (fun a hf => ?_)
        refine H.val hf hs (v := .int .i64 n2) (i := 9) rfl rfl rfl rfl (by kernel_rfl) (by kernel_rfl) (by kernel_rfl) (V.pure rfl) (fun a hf => ?_)
        obtain ⟨h0x2, x2, hx2, h⟩ := h
        refine H.val hf hs (v := elemPtr orderA (n2.toNat * 1)) (i := 10) rfl rfl rfl rfl (by kernel_rfl) (by kernel_rfl) (by kernel_rfl) (V.index rfl rfl rfl Try.runUnderlying28 Try.sizeOf3 (hs.ownSome 2 rfl (lt_of_get hx2)) h0x2 (lt_of_get hx2) rfl) (fun a hf => ?_)
        refine H.val hf hs (v := .int .i64 x2) (i := 11) rfl rfl rfl rfl (by kernel_rfl) (by kernel_rfl) (by kernel_rfl) (V.loadOwn (off := 0) 2 rfl hx2 rfl rfl rfl Try.isAgg3 Try.sizeOf3 rfl rfl) (fun a hf => ?_)
        obtain ⟨h0x3, x3, hx3, h⟩ := h
        refine H.val hf hs (v := elemPtr lA (x2.toNat * 2)) (i := 12) rfl rfl rfl rfl (by kernel_rfl) (by kernel_rfl) (by kernel_rfl) (V.index rfl rfl rfl Try.runUnderlying22 Try.sizeOf24 (hv_l.some_ (lt_of_get hx3)) h0x3 (lt_of_get hx3) rfl) (fun a hf => ?_)
        refine H.val hf hs (v := .agg #[.int .i64 x3.X, .int .i64 x3.Y]) (i := 13) rfl rfl rfl rfl (by kernel_rfl) (by kernel_rfl) (by kernel_rfl) (V.loadEl (off := 0) (Ag.args _ _ _) (hv_l.flat hx3) rfl rfl rfl Try.isAgg24 Try.sizeOf24 rfl rfl) (fun a hf => ?_)
        refine H.alloc2 (i := 14) (j := 15) hf hs (fun w hs => hs) rfl rfl rfl rfl rfl rfl rfl rfl (fun _ => rfl) rfl (fun _ => rfl) (by kernel_rfl) (by kernel_rfl) (by kernel_rfl) (by kernel_rfl) [.int .i64 0, .int .i64 0] [.int .i64 0, .int .i64 0] rfl rfl Try.zeroValue24 rfl Try.zeroValue24 rfl (fun g3 g4 a w hf hs => ?_)
        refine H.one (i := 16) rfl (by kernel_rfl) ?_
        refine S.storeBox 1 hf hs rfl rfl [.int .i64 x1.X, .int .i64 x1.Y] [.int .i64 x1.X, .int .i64 x1.Y] rfl rfl rfl rfl rfl Try.sizeOf24 rfl rfl rfl rfl (fun a w hf hs => ?_)
        refine R.nil ?_
        refine X.then_ ?_
        refine ⟨(hs.mask [false, false, true, true, true]), ?_⟩
        refine H.one (i := 17) rfl (by kernel_rfl) ?_
        refine S.storeBox 0 hf hs rfl rfl [.int .i64 x3.X, .int .i64 x3.Y] [.int .i64 x3.X, .int .i64 x3.Y] rfl rfl rfl rfl rfl Try.sizeOf24 rfl rfl rfl rfl (fun a w hf hs => ?_)
        refine R.nil ?_
        refine X.then_ ?_
        refine ⟨(hs.mask [false, false, true, true, true]), ?_⟩
        refine H.done (by kernel_rfl) ?_
        refine X.then_ ?_
        refine wp_seq ?_
        refine R.draw mo (by kernel_rfl) hs ?_
        refine D.val hf (v := .agg #[.int .i64 b1.X, .int .i64 b1.Y]) rfl rfl rfl (V.loadBox 2 rfl rfl rfl Try.isAgg24 Try.sizeOf24 rfl rfl) (fun a hf => ?_)
        refine D.val hf (v := .agg #[.int .i64 x1.X, .int .i64 x1.Y]) rfl rfl rfl (V.loadBox 1 rfl rfl rfl Try.isAgg24 Try.sizeOf24 rfl rfl) (fun a hf => ?_)
        refine D.call hf (v := .int .i64 (far b1 x1)) rfl rfl rfl (call_fn (vs := [.agg #[.int .i64 b1.X, .int .i64 b1.Y], .agg #[.int .i64 x1.X, .int .i64 x1.Y]]) rfl rfl rfl Try.call61) (fun w hs => Ret.quiet hs (C_drill_far b1 x1 w )) (fun a hf => ?_)
        refine D.val hf (v := .agg #[.int .i64 b1.X, .int .i64 b1.Y]) rfl rfl rfl (V.loadBox 2 rfl rfl rfl Try.isAgg24 Try.sizeOf24 rfl rfl) (fun a hf => ?_)
        refine D.val hf (v := .agg #[.int .i64 x3.X, .int .i64 x3.Y]) rfl rfl rfl (V.loadBox 0 rfl rfl rfl Try.isAgg24 Try.sizeOf24 rfl rfl) (fun a hf => ?_)
        refine D.call hf (v := .int .i64 (far b1 x3)) rfl rfl rfl (call_fn (vs := [.agg #[.int .i64 b1.X, .int .i64 b1.Y], .agg #[.int .i64 x3.X, .int .i64 x3.Y]]) rfl rfl rfl Try.call61) (fun w hs => Ret.quiet hs (C_drill_far b1 x3 w )) (fun a hf => ?_)
        refine D.val hf (v := .int .i64 (far b1 x1)) rfl rfl rfl (V.pure rfl) (fun a hf => ?_)
        refine D.val hf (v := .int .i64 (far b1 x3)) rfl rfl rfl (V.pure rfl) (fun a hf => ?_)
        refine D.done (fun w hs => ?_)
        refine X.then_ ?_
        refine wp_seq ?_
        refine C.cut (J := fun a w => ∃ (n3 : Int) (n4 : Int), M_drill_turn_k4 order Q k1 n2 again2 n3 n4 ∧ FrOk 92 [(0, .slice lA l.length lC), (2, .slice orderA order.length orderC), (4, .pointer (some ⟨g1, 0, none⟩)), (7, .int .i64 (k1 : Int)), (8, .pointer (some ⟨g2, 0, none⟩)), (9, .int .i64 n2), (12, .int .i64 n3), (13, .int .i64 n4), (16, .int .i64 (order.length : Int)), (17, .int .i64 (k1 : Int))] a ∧ Sat w0 F0 [hbox g4 24 [.int .i64 x3.X, .int .i64 x3.Y], hbox g3 24 [.int .i64 x1.X, .int .i64 x1.Y], hbox g2 24 [.int .i64 b1.X, .int .i64 b1.Y], hbox g1 24 [.int .i64 from_.X, .int .i64 from_.Y], hown 3 orderA orderC order] w) ?_ ?_
        · rintro a w ⟨n3, n4, h, hf, hs⟩
          unfold M_drill_turn_k4 at h
          refine wp_seq ?_
          refine R.list ?_
          refine S.val hf hs (v := .int .i64 n4) rfl rfl rfl (V.pure rfl) (fun a hf => ?_)
          refine S.val hf hs (v := .int .i64 n3) rfl rfl rfl (V.pure rfl) (fun a hf => ?_)
          refine S.val hf hs (v := .bool (decide (n4 < n3))) rfl rfl rfl (V.pure rfl) (fun a hf => ?_)
          refine R.nil ?_
          refine X.then_ ?_
          refine C.cond hf (b := decide (n4 < n3)) rfl (fun hc => ?_) (fun hc => ?_)
          · replace h := h.1 hc
            refine wp_seq ?_
            refine R.list ?_
            refine S.val hf hs (v := .slice orderA order.length orderC) rfl rfl rfl (V.pure rfl) (fun a hf => ?_)
            refine S.val hf hs (v := .int .i64 (k1 : Int)) rfl rfl rfl (V.pure rfl) (fun a hf => ?_)
            refine S.val hf hs (v := .int .i64 n2) rfl rfl rfl (V.pure rfl) (fun a hf => ?_)
            refine S.val hf hs (v := .int .i64 (w64 (n2 + 1))) rfl rfl rfl (V.pure rfl) (fun a hf => ?_)
            obtain ⟨hp1, h⟩ := h
            refine S.val hf hs (v := .slice (segA orderA orderC ((k1 : Int) : Int).toNat 1) (seg order (k1 : Int) (w64 (n2 + 1))).length (orderC - ((k1 : Int) : Int).toNat)) rfl rfl rfl (V.slice rfl rfl rfl rfl Try.runUnderlying28 Try.sizeOf3 rfl rfl hp1 (hs.ownView 4 rfl).cap (seg_length (by have := hp1.2.2; omega))) (fun a hf => ?_)
            replace hs := hs.front 4 rfl
            obtain ⟨F1, hsF, hback, hold, hrest⟩ := Sat.callOwns [hown 3 orderA orderC order] (σ := [hbox g4 24 [.int .i64 x3.X, .int .i64 x3.Y], hbox g3 24 [.int .i64 x1.X, .int .i64 x1.Y], hbox g2 24 [.int .i64 b1.X, .int .i64 b1.Y], hbox g1 24 [.int .i64 from_.X, .int .i64 from_.Y]]) hs
            refine S.call hf rfl rfl rfl (call_fn (vs := [.slice (segA orderA orderC ((k1 : Int) : Int).toNat 1) (seg order (k1 : Int) (w64 (n2 + 1))).length (orderC - ((k1 : Int) : Int).toNat)]) rfl rfl rfl Try.call86) (R_reverse_int order (k1 : Int) (w64 (n2 + 1)) _ _ orderA orderC hp1 hsF _ h) (fun v a w' hf hr => ?_)
            obtain ⟨z1, hl_z1, rfl, h2, hs2⟩ := hr
            replace h := h2; replace hs := hback _ _ hs2; clear h2 hs2 hback hold hrest hsF
            replace hf := hf.tell 2 (v := .slice orderA z1.length orderC) ((hf.get 2 (.slice orderA order.length orderC) rfl).trans (congrArg (fun n => Value.slice orderA n orderC) hl_z1.symm))
            replace hf := hf.tell 85 (v := .slice orderA z1.length orderC) ((hf.get 85 (.slice orderA order.length orderC) rfl).trans (congrArg (fun n => Value.slice orderA n orderC) hl_z1.symm))
            have hp2 : 0 ≤ (k1 : Int) ∧ (k1 : Int) ≤ (w64 (n2 + 1)) ∧ (w64 (n2 + 1)) ≤ (z1.length : Int) := by rw [hl_z1]; exact hp1
            replace hf := hf.tell 89 (v := .slice (segA orderA orderC ((k1 : Int) : Int).toNat 1) (seg z1 (k1 : Int) (w64 (n2 + 1))).length (orderC - ((k1 : Int) : Int).toNat)) ((hf.get 89 (.slice (segA orderA orderC ((k1 : Int) : Int).toNat 1) (seg order (k1 : Int) (w64 (n2 + 1))).length (orderC - ((k1 : Int) : Int).toNat)) rfl).trans (congrArg (fun n => Value.slice (segA orderA orderC ((k1 : Int) : Int).toNat 1) n (orderC - ((k1 : Int) : Int).toNat)) (seg_len_eq hl_z1).symm))
            refine R.nil ?_
            refine X.then_ ?_
            refine wp_seq ?_
            refine R.list ?_
            refine S.val hf hs (v := .bool true) rfl rfl rfl (V.pure rfl) (fun a hf => ?_)
            refine R.nil ?_
            refine X.then_ ?_
            refine wp_ret ?_
            refine X.blk_ret ?_
            refine X.then_ret ?_
            refine X.then_ret ?_
            refine X.blk_ret ?_
            refine X.blk_ret ?_
            refine X.then_ret ?_
            refine X.then_ret ?_
            refine X.blk_ret ?_
            refine X.then_ret ?_
            replace hs := hs.take 1
            exact L.ret hf (run_results1 Try.results63 (ResIs.tmp hf rfl)) ⟨true, z1, (hl_z1.trans rfl), rfl, h, hs⟩
          · replace h := h.2 hc
            refine wp_skip ?_
            refine X.blk ?_
            refine X.then_ ?_
            refine R.list ?_
            refine S.val hf hs (v := .int .i64 n2) rfl rfl rfl (V.pure rfl) (fun a hf => ?_)
            refine S.val hf hs (v := .int .i64 (w64 (n2 + 1))) rfl rfl rfl (V.pure rfl) (fun a hf => ?_)
            refine S.val hf hs (v := .int .i64 (w64 (n2 + 1))) rfl rfl rfl (V.pure rfl) (fun a hf => ?_)
            refine R.nil ?_
            refine X.then_ ?_
            exact ⟨(w64 (n2 + 1)), (by rw [hagain2] at h; exact h), ((((((((hf.nil.cons (hf.get 17 _ rfl)).cons (hf.get 16 _ rfl)).cons (hf.get 9 _ rfl)).cons (hf.get 8 _ rfl)).cons (hf.get 7 _ rfl)).cons (hf.get 4 _ rfl)).cons (hf.get 2 _ rfl)).cons (hf.get 0 _ rfl)), hs.drop.drop⟩
        · skip
          refine wp_seq ?_
          refine R.list ?_
          refine S.val hf hs (v := .int .i64 n2) rfl rfl rfl (V.pure rfl) (fun a hf => ?_)
          refine S.val hf hs (v := .int .i64 (w64 (n2 + 1))) rfl rfl rfl (V.pure rfl) (fun a hf => ?_)
          refine S.val hf hs (v := .slice orderA order.length orderC) rfl rfl rfl (V.pure rfl) (fun a hf => ?_)
          refine S.val hf hs (v := .int .i64 (order.length : Int)) rfl rfl rfl (V.len rfl rfl Try.runUnderlying28) (fun a hf => ?_)
          refine S.val hf hs (v := .bool (decide (w64 (n2 + 1) < (order.length : Int)))) rfl rfl rfl (V.pure rfl) (fun a hf => ?_)
          refine R.nil ?_
          refine X.then_ ?_
          refine C.cond hf (b := decide (w64 (n2 + 1) < (order.length : Int))) rfl (fun hc => ?_) (fun hc => ?_)
          · replace h := h.1 hc
            refine wp_seq ?_
            refine R.list ?_
            refine S.val hf hs (v := .slice lA l.length lC) rfl rfl rfl (V.pure rfl) (fun a hf => ?_)
            refine S.val hf hs (v := .slice orderA order.length orderC) rfl rfl rfl (V.pure rfl) (fun a hf => ?_)
            refine S.val hf hs (v := .int .i64 n2) rfl rfl rfl (V.pure rfl) (fun a hf => ?_)
            refine S.val hf hs (v := .int .i64 (w64 (n2 + 1))) rfl rfl rfl (V.pure rfl) (fun a hf => ?_)
            obtain ⟨h0x4, x4, hx4, h⟩ := h
            refine S.val hf hs (v := elemPtr orderA ((w64 (n2 + 1)).toNat * 1)) rfl rfl rfl (V.index rfl rfl rfl Try.runUnderlying28 Try.sizeOf3 (hs.ownSome 4 rfl (lt_of_get hx4)) h0x4 (lt_of_get hx4) rfl) (fun a hf => ?_)
            refine S.val hf hs (v := .int .i64 x4) rfl rfl rfl (V.loadOwn (off := 0) 4 rfl hx4 rfl rfl rfl Try.isAgg3 Try.sizeOf3 rfl rfl) (fun a hf => ?_)
            obtain ⟨h0x5, x5, hx5, h⟩ := h
            refine S.val hf hs (v := elemPtr lA (x4.toNat * 2)) rfl rfl rfl (V.index rfl rfl rfl Try.runUnderlying22 Try.sizeOf24 (hv_l.some_ (lt_of_get hx5)) h0x5 (lt_of_get hx5) rfl) (fun a hf => ?_)
            refine S.val hf hs (v := .agg #[.int .i64 x5.X, .int .i64 x5.Y]) rfl rfl rfl (V.loadEl (off := 0) (Ag.args _ _ _) (hv_l.flat hx5) rfl rfl rfl Try.isAgg24 Try.sizeOf24 rfl rfl) (fun a hf => ?_)
            refine S.alloc hf hs rfl rfl rfl [.int .i64 0, .int .i64 0] rfl Try.zeroValue24 rfl (fun g5 a w hf hs => ?_)
            refine S.storeBox 0 hf hs rfl rfl [.int .i64 x5.X, .int .i64 x5.Y] [.int .i64 x5.X, .int .i64 x5.Y] rfl rfl rfl rfl rfl Try.sizeOf24 rfl rfl rfl rfl (fun a w hf hs => ?_)
            refine R.nil ?_
            refine X.then_ ?_
            refine R.draw mo (by kernel_rfl) hs ?_
            refine D.val hf (v := .int .i64 (far b1 x1)) rfl rfl rfl (V.pure rfl) (fun a hf => ?_)
            refine D.val hf (v := .agg #[.int .i64 x3.X, .int .i64 x3.Y]) rfl rfl rfl (V.loadBox 1 rfl rfl rfl Try.isAgg24 Try.sizeOf24 rfl rfl) (fun a hf => ?_)
            refine D.val hf (v := .agg #[.int .i64 x5.X, .int .i64 x5.Y]) rfl rfl rfl (V.loadBox 0 rfl rfl rfl Try.isAgg24 Try.sizeOf24 rfl rfl) (fun a hf => ?_)
            refine D.call hf (v := .int .i64 (far x3 x5)) rfl rfl rfl (call_fn (vs := [.agg #[.int .i64 x3.X, .int .i64 x3.Y], .agg #[.int .i64 x5.X, .int .i64 x5.Y]]) rfl rfl rfl Try.call61) (fun w hs => Ret.quiet hs (C_drill_far x3 x5 w )) (fun a hf => ?_)
            refine D.val hf (v := .int .i64 (w64 ((far b1 x1) + (far x3 x5)))) rfl rfl rfl (V.pure rfl) (fun a hf => ?_)
            refine D.val hf (v := .int .i64 (far b1 x3)) rfl rfl rfl (V.pure rfl) (fun a hf => ?_)
            refine D.val hf (v := .agg #[.int .i64 x1.X, .int .i64 x1.Y]) rfl rfl rfl (V.loadBox 2 rfl rfl rfl Try.isAgg24 Try.sizeOf24 rfl rfl) (fun a hf => ?_)
            refine D.val hf (v := .agg #[.int .i64 x5.X, .int .i64 x5.Y]) rfl rfl rfl (V.loadBox 0 rfl rfl rfl Try.isAgg24 Try.sizeOf24 rfl rfl) (fun a hf => ?_)
            refine D.call hf (v := .int .i64 (far x1 x5)) rfl rfl rfl (call_fn (vs := [.agg #[.int .i64 x1.X, .int .i64 x1.Y], .agg #[.int .i64 x5.X, .int .i64 x5.Y]]) rfl rfl rfl Try.call61) (fun w hs => Ret.quiet hs (C_drill_far x1 x5 w )) (fun a hf => ?_)
            refine D.val hf (v := .int .i64 (w64 ((far b1 x3) + (far x1 x5)))) rfl rfl rfl (V.pure rfl) (fun a hf => ?_)
            refine D.val hf (v := .int .i64 (w64 ((far b1 x1) + (far x3 x5)))) rfl rfl rfl (V.pure rfl) (fun a hf => ?_)
            refine D.val hf (v := .int .i64 (w64 ((far b1 x3) + (far x1 x5)))) rfl rfl rfl (V.pure rfl) (fun a hf => ?_)
            refine D.done (fun w hs => ?_)
            refine X.then_ ?_
            exact ⟨(w64 ((far b1 x1) + (far x3 x5))), (w64 ((far b1 x3) + (far x1 x5))), h, ((((((((((hf.nil.cons (hf.get 17 _ rfl)).cons (hf.get 16 _ rfl)).cons (hf.get 13 _ rfl)).cons (hf.get 12 _ rfl)).cons (hf.get 9 _ rfl)).cons (hf.get 8 _ rfl)).cons (hf.get 7 _ rfl)).cons (hf.get 4 _ rfl)).cons (hf.get 2 _ rfl)).cons (hf.get 0 _ rfl)), hs.drop⟩
          · replace h := h.2 hc
            refine wp_skip ?_
            refine X.then_ ?_
            exact ⟨(far b1 x1), (far b1 x3), h, ((((((((((hf.nil.cons (hf.get 17 _ rfl)).cons (hf.get 16 _ rfl)).cons (hf.get 13 _ rfl)).cons (hf.get 12 _ rfl)).cons (hf.get 9 _ rfl)).cons (hf.get 8 _ rfl)).cons (hf.get 7 _ rfl)).cons (hf.get 4 _ rfl)).cons (hf.get 2 _ rfl)).cons (hf.get 0 _ rfl)), hs⟩
      · replace h := h.2 hc
        refine wp_exit ?_
        refine X.then_exit ?_
        refine X.then_exit ?_
        refine X.blk_exit ?_
        refine X.blk ?_
        refine X.then_ ?_
        refine R.list ?_
        refine S.val hf hs (v := .int .i64 ((k1 + 1 : Nat) : Int)) rfl rfl rfl (V.incr rfl rfl rfl hltk1 hlenk1) (fun a hf => ?_)
        refine S.val hf hs (v := .int .i64 ((k1 + 1 : Nat) : Int)) rfl rfl rfl (V.pure rfl) (fun a hf => ?_)
        refine R.nil ?_
        refine X.then_ ?_
        exact ⟨xk1, llk1, rfl, k1 + 1, range_drop hlk1, range_len hkk1, (by rw [hnext1] at h; exact h), (((((hf.nil.cons (hf.get 16 _ rfl)).cons (hf.get 4 _ rfl)).cons (hf.get 2 _ rfl)).cons (hf.get 0 _ rfl)).cons (hf.get 17 _ rfl)), hs.drop⟩
    · skip
      refine wp_seq ?_
      refine R.list ?_
      refine S.val hf hs (v := .int .i64 (k1 : Int)) rfl rfl rfl (V.pure rfl) (fun a hf => ?_)
      refine S.val hf hs (v := .bool (decide ((k1 : Int) > 0))) rfl rfl rfl (V.pure rfl) (fun a hf => ?_)
      refine R.nil ?_
      refine X.then_ ?_
      refine C.cond hf (b := decide ((k1 : Int) > 0)) rfl (fun hc => ?_) (fun hc => ?_)
      · replace h := h.1 hc
        refine R.list ?_
        refine S.val hf hs (v := .slice lA l.length lC) rfl rfl rfl (V.pure rfl) (fun a hf => ?_)
        refine S.val hf hs (v := .slice orderA order.length orderC) rfl rfl rfl (V.pure rfl) (fun a hf => ?_)
        refine S.val hf hs (v := .int .i64 (k1 : Int)) rfl rfl rfl (V.pure rfl) (fun a hf => ?_)
        refine S.val hf hs (v := .int .i64 (w64 ((k1 : Int) - 1))) rfl rfl rfl (V.pure rfl) (fun a hf => ?_)
        obtain ⟨h0x6, x6, hx6, h⟩ := h
        refine S.val hf hs (v := elemPtr orderA ((w64 ((k1 : Int) - 1)).toNat * 1)) rfl rfl rfl (V.index rfl rfl rfl Try.runUnderlying28 Try.sizeOf3 (hs.ownSome 2 rfl (lt_of_get hx6)) h0x6 (lt_of_get hx6) rfl) (fun a hf => ?_)
        refine S.val hf hs (v := .int .i64 x6) rfl rfl rfl (V.loadOwn (off := 0) 2 rfl hx6 rfl rfl rfl Try.isAgg3 Try.sizeOf3 rfl rfl) (fun a hf => ?_)
        obtain ⟨h0x7, x7, hx7, h⟩ := h
        refine S.val hf hs (v := elemPtr lA (x6.toNat * 2)) rfl rfl rfl (V.index rfl rfl rfl Try.runUnderlying22 Try.sizeOf24 (hv_l.some_ (lt_of_get hx7)) h0x7 (lt_of_get hx7) rfl) (fun a hf => ?_)
        refine S.val hf hs (v := .agg #[.int .i64 x7.X, .int .i64 x7.Y]) rfl rfl rfl (V.loadEl (off := 0) (Ag.args _ _ _) (hv_l.flat hx7) rfl rfl rfl Try.isAgg24 Try.sizeOf24 rfl rfl) (fun a hf => ?_)
        refine S.storeBox 0 hf hs rfl rfl [.int .i64 x7.X, .int .i64 x7.Y] [.int .i64 x7.X, .int .i64 x7.Y] rfl rfl rfl rfl rfl Try.sizeOf24 rfl rfl rfl rfl (fun a w hf hs => ?_)
        refine R.nil ?_
        refine X.then_ ?_
        exact ⟨x7, h, (((((((hf.nil.cons (hf.get 17 _ rfl)).cons (hf.get 16 _ rfl)).cons (hf.get 8 _ rfl)).cons (hf.get 7 _ rfl)).cons (hf.get 4 _ rfl)).cons (hf.get 2 _ rfl)).cons (hf.get 0 _ rfl)), hs⟩
      · replace h := h.2 hc
        refine wp_skip ?_
        refine X.then_ ?_
        exact ⟨from_, h, (((((((hf.nil.cons (hf.get 17 _ rfl)).cons (hf.get 16 _ rfl)).cons (hf.get 8 _ rfl)).cons (hf.get 7 _ rfl)).cons (hf.get 4 _ rfl)).cons (hf.get 2 _ rfl)).cons (hf.get 0 _ rfl)), hs⟩

set_option linter.unusedVariables false
def M_drill_Better_k2 (Q : (List Int) → Int → Prop) (n2 : Int) (again1 : List Int → Int → Prop) (l3 : List Int) (c1 : Bool) : Prop :=
  cnd c1 (again1 l3 (w64 (n2 + 1))) (Q l3 0)
def M_drill_Better_L1 (l : (List Point)) (from_ : Point) (Q : (List Int) → Int → Prop) (again1 : List Int → Int → Prop) (l2 : List Int) (n2 : Int) : Prop :=
  cnd (decide (n2 < 5000)) (M_drill_turn l from_ l2 fun y3 z1 => M_drill_Better_k2 Q n2 again1 z1 y3) (M_drill_Better_k2 Q n2 again1 l2 false)
def M_drill_Better (l : (List Point)) (from_ : Point) (Q : (List Int) → Int → Prop) : Prop :=
  M_drill_checkPoints l from_ 200 fun y1 => cnd (y1 != 0) (Q ([] : List Int) y1) (M_drill_greedy l from_ fun y2 => lp (fun again (s : List Int × Int) => M_drill_Better_L1 l from_ Q (fun l2 n2 => again (l2, n2)) s.1 s.2) (y2, 0))
set_option maxHeartbeats 1000000 in
theorem R_drill_Better (l : (List Point)) (from_ : Point) (w0 : World) (lA : Option Addr) (lC : Nat) (hv_l : View w0 (old w0 none_) lA lC l) (Q : (List Int) → Int → Prop) (h : M_drill_Better l from_ Q) :
    Ret Try.prog 29 #[.slice lA l.length lC, .agg #[.int .i64 from_.X, .int .i64 from_.Y]] w0 fun v w' => ∃ (r0 : (List Int)) (r0A : Option Addr) (r0C : Nat) (r1 : Int), v = .tuple #[.slice r0A r0.length r0C, .int .i64 r1] ∧ Q r0 r1 ∧ Sat w0 none_ [hown 3 r0A r0C r0] w' := by
  refine fn_enter Try.func29 rfl Try.ntmps29 rfl (fs := [(0, .slice lA l.length lC), (1, .agg #[.int .i64 from_.X, .int .i64 from_.Y])]) rfl (fun a hf => ?_)
  have hs := Sat.start w0 none_
  unfold M_drill_Better at h
  refine wp_seq ?_
  refine R.list ?_
  refine S.box hf hs rfl rfl rfl [.int .i64 from_.X, .int .i64 from_.Y] rfl rfl rfl (fun g1 a w hf hs => ?_)
  refine S.val hf hs (v := .slice none 0 0) rfl rfl rfl (V.pure rfl) (fun a hf => ?_)
  refine S.val hf hs (v := .int .i64 0) rfl rfl rfl (V.pure rfl) (fun a hf => ?_)
  refine R.nil ?_
  refine X.then_ ?_
  refine wp_seq ?_
  refine wp_seq ?_
  refine R.list ?_
  refine S.val hf hs (v := .slice lA l.length lC) rfl rfl rfl (V.pure rfl) (fun a hf => ?_)
  refine S.val hf hs (v := .agg #[.int .i64 from_.X, .int .i64 from_.Y]) rfl rfl rfl (V.loadBox 0 rfl rfl rfl Try.isAgg24 Try.sizeOf24 rfl rfl) (fun a hf => ?_)
  refine S.call hf rfl rfl rfl (call_fn (vs := [.slice lA l.length lC, .agg #[.int .i64 from_.X, .int .i64 from_.Y], .int .i64 200]) rfl rfl rfl Try.call48) (R_drill_checkPoints l from_ 200 _ lA lC ((Ag.args _ _ _).view hv_l hs) _ h) (fun v a w' hf hr => ?_)
  obtain ⟨y1, rfl, h2, hs2⟩ := hr
  replace h := h2; replace hs := hs.call hs2; clear h2 hs2
  refine S.val hf hs (v := .int .i64 y1) rfl rfl rfl (V.pure rfl) (fun a hf => ?_)
  refine R.nil ?_
  refine X.then_ ?_
  refine wp_seq ?_
  refine R.list ?_
  refine S.val hf hs (v := .int .i64 y1) rfl rfl rfl (V.pure rfl) (fun a hf => ?_)
  refine S.val hf hs (v := .bool (y1 != 0)) rfl rfl rfl (V.pure rfl) (fun a hf => ?_)
  refine R.nil ?_
  refine X.then_ ?_
  refine C.cond hf (b := y1 != 0) rfl (fun hc => ?_) (fun hc => ?_)
  · replace h := h.1 hc
    refine wp_seq ?_
    refine R.list ?_
    refine S.val hf hs (v := .int .i64 y1) rfl rfl rfl (V.pure rfl) (fun a hf => ?_)
    refine S.val hf hs (v := .slice none 0 0) rfl rfl rfl (V.pure rfl) (fun a hf => ?_)
    refine S.val hf hs (v := .int .i64 y1) rfl rfl rfl (V.pure rfl) (fun a hf => ?_)
    refine R.nil ?_
    refine X.then_ ?_
    refine wp_ret ?_
    refine X.then_ret ?_
    replace hs := hs.nilOwn (α := Int) 3
    replace hs := hs.take 1
    exact L.ret hf (run_results2 Try.results29 (ResIs.tmp hf rfl) (ResIs.tmp hf rfl)) ⟨([] : List Int), none, 0, y1, rfl, h, hs⟩
  · replace h := h.2 hc
    refine wp_skip ?_
    refine X.then_ ?_
    refine wp_seq ?_
    refine R.list ?_
    refine S.val hf hs (v := .slice lA l.length lC) rfl rfl rfl (V.pure rfl) (fun a hf => ?_)
    refine S.val hf hs (v := .agg #[.int .i64 from_.X, .int .i64 from_.Y]) rfl rfl rfl (V.loadBox 0 rfl rfl rfl Try.isAgg24 Try.sizeOf24 rfl rfl) (fun a hf => ?_)
    refine S.call hf rfl rfl rfl (call_fn (vs := [.slice lA l.length lC, .agg #[.int .i64 from_.X, .int .i64 from_.Y]]) rfl rfl rfl Try.call52) (R_drill_greedy l from_ _ lA lC ((Ag.args _ _ _).view hv_l hs) _ h) (fun v a w' hf hr => ?_)
    obtain ⟨y2, y2A, y2C, rfl, h2, hs2⟩ := hr
    replace h := h2; replace hs := hs.call hs2; clear h2 hs2
    refine S.val hf hs (v := .slice y2A y2.length y2C) rfl rfl rfl (V.pure rfl) (fun a hf => ?_)
    refine R.nil ?_
    refine X.then_ ?_
    refine wp_seq ?_
    refine wp_seq ?_
    refine R.list ?_
    refine S.val hf hs (v := .int .i64 0) rfl rfl rfl (V.pure rfl) (fun a hf => ?_)
    refine R.nil ?_
    refine X.then_ ?_
    refine wp_block ?_
    obtain ⟨kk, h⟩ := h
    refine C.loop (fun kk a w => ∃ (l2 : List Int) (l2A : Option Addr) (l2C : Nat) (n2 : Int), iterF (fun again (s : List Int × Int) => M_drill_Better_L1 l from_ Q (fun l2 n2 => again (l2, n2)) s.1 s.2) kk (l2, n2) ∧ FrOk 29 [(0, .slice lA l.length lC), (3, .pointer (some ⟨g1, 0, none⟩)), (7, .slice l2A l2.length l2C), (8, .int .i64 n2)] a ∧ Sat w0 none_ [hown 3 l2A l2C l2, hbox g1 24 [.int .i64 from_.X, .int .i64 from_.Y]] w) kk ⟨y2, y2A, y2C, 0, h, ((((hf.nil.cons (hf.get 8 _ rfl)).cons (hf.get 7 _ rfl)).cons (hf.get 3 _ rfl)).cons (hf.get 0 _ rfl)), hs⟩ (fun a w ⟨_, _, _, _, h, _, _⟩ => h) ?_
    clear h hf hs
    rintro kk a w ⟨l2, l2A, l2C, n2, h, hf, hs⟩
    obtain ⟨again1, hagain1⟩ : ∃ X : List Int → Int → Prop, X = (fun l2 n2 => iterF (fun again (s : List Int × Int) => M_drill_Better_L1 l from_ Q (fun l2 n2 => again (l2, n2)) s.1 s.2) kk (l2, n2)) := ⟨_, rfl⟩
    replace h : M_drill_Better_L1 l from_ Q again1 l2 n2 := by rw [hagain1]; exact h
    unfold M_drill_Better_L1 at h
    refine wp_seq ?_
    refine wp_seq ?_
    refine C.cut (J := fun a w => ∃ (l3 : List Int) (l3A : Option Addr) (l3C : Nat) (c1 : Bool), M_drill_Better_k2 Q n2 again1 l3 c1 ∧ FrOk 29 [(0, .slice lA l.length lC), (3, .pointer (some ⟨g1, 0, none⟩)), (7, .slice l3A l3.length l3C), (8, .int .i64 n2), (25, .bool c1)] a ∧ Sat w0 none_ [hown 3 l3A l3C l3, hbox g1 24 [.int .i64 from_.X, .int .i64 from_.Y]] w) ?_ ?_
    · rintro a w ⟨l3, l3A, l3C, c1, h, hf, hs⟩
      unfold M_drill_Better_k2 at h
      refine C.cond hf (b := c1) rfl (fun hc => ?_) (fun hc => ?_)
      · replace h := h.1 hc
        refine wp_skip ?_
        refine X.then_ ?_
        refine wp_seq ?_
        refine wp_block ?_
        refine wp_skip ?_
        refine X.blk ?_
        refine X.then_ ?_
        refine R.list ?_
        refine S.val hf hs (v := .int .i64 n2) rfl rfl rfl (V.pure rfl) (fun a hf => ?_)
        refine S.val hf hs (v := .int .i64 (w64 (n2 + 1))) rfl rfl rfl (V.pure rfl) (fun a hf => ?_)
        refine S.val hf hs (v := .int .i64 (w64 (n2 + 1))) rfl rfl rfl (V.pure rfl) (fun a hf => ?_)
        refine R.nil ?_
        refine X.then_ ?_
        exact ⟨l3, l3A, l3C, (w64 (n2 + 1)), (by rw [hagain1] at h; exact h), ((((hf.nil.cons (hf.get 8 _ rfl)).cons (hf.get 7 _ rfl)).cons (hf.get 3 _ rfl)).cons (hf.get 0 _ rfl)), hs⟩
      · replace h := h.2 hc
        refine wp_exit ?_
        refine X.then_exit ?_
        refine X.then_exit ?_
        refine X.blk_exit ?_
        refine X.then_ ?_
        refine wp_seq ?_
        refine R.list ?_
        refine S.val hf hs (v := .slice l3A l3.length l3C) rfl rfl rfl (V.pure rfl) (fun a hf => ?_)
        refine S.val hf hs (v := .slice l3A l3.length l3C) rfl rfl rfl (V.pure rfl) (fun a hf => ?_)
        refine S.val hf hs (v := .int .i64 0) rfl rfl rfl (V.pure rfl) (fun a hf => ?_)
        refine R.nil ?_
        refine X.then_ ?_
        refine wp_ret ?_
        replace hs := hs.take 1
        exact L.ret hf (run_results2 Try.results29 (ResIs.tmp hf rfl) (ResIs.tmp hf rfl)) ⟨l3, l3A, l3C, 0, rfl, h, hs⟩
    · skip
      refine R.list ?_
      refine S.val hf hs (v := .int .i64 n2) rfl rfl rfl (V.pure rfl) (fun a hf => ?_)
      refine S.val hf hs (v := .bool (decide (n2 < 5000))) rfl rfl rfl (V.pure rfl) (fun a hf => ?_)
      refine S.split hf hs (b := decide (n2 < 5000)) rfl rfl rfl (V.pure rfl) (fun hc a hf => ?_) (fun hc a hf => ?_)
      · replace h := h.1 hc
        refine S.val hf hs (v := .slice lA l.length lC) rfl rfl rfl (V.pure rfl) (fun a hf => ?_)
        refine S.val hf hs (v := .agg #[.int .i64 from_.X, .int .i64 from_.Y]) rfl rfl rfl (V.loadBox 1 rfl rfl rfl Try.isAgg24 Try.sizeOf24 rfl rfl) (fun a hf => ?_)
        refine S.val hf hs (v := .slice l2A l2.length l2C) rfl rfl rfl (V.pure rfl) (fun a hf => ?_)
        obtain ⟨F1, hsF, hback, hold, hrest⟩ := Sat.callOwns [hown 3 l2A l2C l2] (σ := [hbox g1 24 [.int .i64 from_.X, .int .i64 from_.Y]]) hs
        refine S.call hf rfl rfl rfl (call_fn (vs := [.slice lA l.length lC, .agg #[.int .i64 from_.X, .int .i64 from_.Y], .slice l2A l2.length l2C]) rfl rfl rfl Try.call63) (R_drill_turn l from_ l2 _ _ lA lC (viewArgsF hs hold hv_l) l2A l2C hsF _ h) (fun v a w' hf hr => ?_)
        obtain ⟨y3, z1, hl_z1, rfl, h2, hs2⟩ := hr
        replace h := h2; replace hs := hback _ _ hs2; clear h2 hs2 hback hold hrest hsF
        replace hf := hf.tell 7 (v := .slice l2A z1.length l2C) ((hf.get 7 (.slice l2A l2.length l2C) rfl).trans (congrArg (fun n => Value.slice l2A n l2C) hl_z1.symm))
        replace hf := hf.tell 23 (v := .slice l2A z1.length l2C) ((hf.get 23 (.slice l2A l2.length l2C) rfl).trans (congrArg (fun n => Value.slice l2A n l2C) hl_z1.symm))
        refine S.val hf hs (v := .bool y3) rfl rfl rfl (V.pure rfl) (fun a hf => ?_)
        refine R.nil ?_
        refine X.then_ ?_
        exact ⟨z1, l2A, l2C, y3, h, (((((hf.nil.cons (hf.get 25 _ rfl)).cons (hf.get 8 _ rfl)).cons (hf.get 7 _ rfl)).cons (hf.get 3 _ rfl)).cons (hf.get 0 _ rfl)), hs⟩
      · replace h := h.2 hc
        refine S.skip hf rfl rfl rfl (fun a hf => ?_)
        refine S.skip hf rfl rfl rfl (fun a hf => ?_)
        refine S.skip hf rfl rfl rfl (fun a hf => ?_)
        refine S.skip hf rfl rfl rfl (fun a hf => ?_)
        refine S.val hf hs (v := .bool false) rfl rfl rfl (V.pure rfl) (fun a hf => ?_)
        refine R.nil ?_
        refine X.then_ ?_
        exact ⟨l2, l2A, l2C, false, h, (((((hf.nil.cons (hf.get 25 _ rfl)).cons (hf.get 8 _ rfl)).cons (hf.get 7 _ rfl)).cons (hf.get 3 _ rfl)).cons (hf.get 0 _ rfl)), hs⟩

set_option linter.unusedVariables false
def M_ref8_turned (order : (List Int)) (i : Int) (j : Int) (Q : (List Int) → Prop) : Prop :=
  M_clone_int order fun y1 => must (0 ≤ i ∧ i ≤ w64 (j + 1) ∧ w64 (j + 1) ≤ (y1.length : Int)) (M_reverse_int y1 i (w64 (j + 1)) fun z1 => Q z1)
set_option maxHeartbeats 1000000 in
theorem R_ref8_turned (order : (List Int)) (i : Int) (j : Int) (w0 : World) (orderA : Option Addr) (orderC : Nat) (hv_order : View w0 (old w0 none_) orderA orderC order) (Q : (List Int) → Prop) (h : M_ref8_turned order i j Q) :
    Ret Try.prog 87 #[.slice orderA order.length orderC, .int .i64 i, .int .i64 j] w0 fun v w' => ∃ (r0 : (List Int)) (r0A : Option Addr) (r0C : Nat), v = .slice r0A r0.length r0C ∧ Q r0 ∧ Sat w0 none_ [hown 3 r0A r0C r0] w' := by
  refine fn_enter Try.func87 rfl Try.ntmps87 rfl (fs := [(0, .slice orderA order.length orderC), (1, .int .i64 i), (2, .int .i64 j)]) rfl (fun a hf => ?_)
  have hs := Sat.start w0 none_
  unfold M_ref8_turned at h
  refine wp_seq ?_
  refine R.list ?_
  refine S.val hf hs (v := .slice none 0 0) rfl rfl rfl (V.pure rfl) (fun a hf => ?_)
  refine R.nil ?_
  refine X.then_ ?_
  refine wp_seq ?_
  refine R.list ?_
  refine S.val hf hs (v := .slice orderA order.length orderC) rfl rfl rfl (V.pure rfl) (fun a hf => ?_)
  refine S.call hf rfl rfl rfl (call_fn (vs := [.slice orderA order.length orderC]) rfl rfl rfl Try.call85) (R_clone_int order _ orderA orderC ((Ag.args _ _ _).view hv_order hs) _ h) (fun v a w' hf hr => ?_)
  obtain ⟨y1, y1A, y1C, rfl, h2, hs2⟩ := hr
  replace h := h2; replace hs := hs.call hs2; clear h2 hs2
  refine S.val hf hs (v := .slice y1A y1.length y1C) rfl rfl rfl (V.pure rfl) (fun a hf => ?_)
  refine R.nil ?_
  refine X.then_ ?_
  refine wp_seq ?_
  refine R.list ?_
  refine S.val hf hs (v := .slice y1A y1.length y1C) rfl rfl rfl (V.pure rfl) (fun a hf => ?_)
  refine S.val hf hs (v := .int .i64 i) rfl rfl rfl (V.pure rfl) (fun a hf => ?_)
  refine S.val hf hs (v := .int .i64 j) rfl rfl rfl (V.pure rfl) (fun a hf => ?_)
  refine S.val hf hs (v := .int .i64 (w64 (j + 1))) rfl rfl rfl (V.pure rfl) (fun a hf => ?_)
  obtain ⟨hp1, h⟩ := h
  refine S.val hf hs (v := .slice (segA y1A y1C (i : Int).toNat 1) (seg y1 i (w64 (j + 1))).length (y1C - (i : Int).toNat)) rfl rfl rfl (V.slice rfl rfl rfl rfl Try.runUnderlying28 Try.sizeOf3 rfl rfl hp1 (hs.ownView 0 rfl).cap (seg_length (by have := hp1.2.2; omega))) (fun a hf => ?_)
  obtain ⟨F1, hsF, hback, hold, hrest⟩ := Sat.callOwns [hown 3 y1A y1C y1] (σ := []) hs
  refine S.call hf rfl rfl rfl (call_fn (vs := [.slice (segA y1A y1C (i : Int).toNat 1) (seg y1 i (w64 (j + 1))).length (y1C - (i : Int).toNat)]) rfl rfl rfl Try.call86) (R_reverse_int y1 i (w64 (j + 1)) _ _ y1A y1C hp1 hsF _ h) (fun v a w' hf hr => ?_)
  obtain ⟨z1, hl_z1, rfl, h2, hs2⟩ := hr
  replace h := h2; replace hs := hback _ _ hs2; clear h2 hs2 hback hold hrest hsF
  replace hf := hf.tell 7 (v := .slice y1A z1.length y1C) ((hf.get 7 (.slice y1A y1.length y1C) rfl).trans (congrArg (fun n => Value.slice y1A n y1C) hl_z1.symm))
  replace hf := hf.tell 9 (v := .slice y1A z1.length y1C) ((hf.get 9 (.slice y1A y1.length y1C) rfl).trans (congrArg (fun n => Value.slice y1A n y1C) hl_z1.symm))
  replace hf := hf.tell 10 (v := .slice y1A z1.length y1C) ((hf.get 10 (.slice y1A y1.length y1C) rfl).trans (congrArg (fun n => Value.slice y1A n y1C) hl_z1.symm))
  have hp2 : 0 ≤ i ∧ i ≤ (w64 (j + 1)) ∧ (w64 (j + 1)) ≤ (z1.length : Int) := by rw [hl_z1]; exact hp1
  replace hf := hf.tell 14 (v := .slice (segA y1A y1C (i : Int).toNat 1) (seg z1 i (w64 (j + 1))).length (y1C - (i : Int).toNat)) ((hf.get 14 (.slice (segA y1A y1C (i : Int).toNat 1) (seg y1 i (w64 (j + 1))).length (y1C - (i : Int).toNat)) rfl).trans (congrArg (fun n => Value.slice (segA y1A y1C (i : Int).toNat 1) n (y1C - (i : Int).toNat)) (seg_len_eq hl_z1).symm))
  refine R.nil ?_
  refine X.then_ ?_
  refine wp_seq ?_
  refine R.list ?_
  refine S.val hf hs (v := .slice y1A z1.length y1C) rfl rfl rfl (V.pure rfl) (fun a hf => ?_)
  refine S.val hf hs (v := .slice y1A z1.length y1C) rfl rfl rfl (V.pure rfl) (fun a hf => ?_)
  refine R.nil ?_
  refine X.then_ ?_
  refine wp_ret ?_
  replace hs := hs.take 1
  exact L.ret hf (run_results1 Try.results87 (ResIs.tmp hf rfl)) ⟨z1, y1A, y1C, rfl, h, hs⟩

set_option linter.unusedVariables false
def M_ref8_length_L1 (l : (List Point)) (k1 : Nat) (xk1 : Int) (b2 : Point) (n2 : Int) (next1 : Point → Int → Prop) : Prop :=
  idx l xk1 fun x1 => next1 x1 (w64 (n2 + (rdist b2 x1)))
def M_ref8_length (l : (List Point)) (from_ : Point) (order : (List Int)) (Q : Int → Prop) : Prop :=
  forIn' (fun k x (s : Point × Int) next => M_ref8_length_L1 l k x s.1 s.2 (fun b2 n2 => next (b2, n2))) (fun (s : Point × Int) => (fun (b2 : Point) (n2 : Int) => Q n2) s.1 s.2) order 0 (from_, 0)
set_option maxHeartbeats 1000000 in
theorem R_ref8_length (l : (List Point)) (from_ : Point) (order : (List Int)) (w0 : World) (lA : Option Addr) (lC : Nat) (hv_l : View w0 (old w0 none_) lA lC l) (orderA : Option Addr) (orderC : Nat) (hv_order : View w0 (old w0 none_) orderA orderC order) (Q : Int → Prop) (h : M_ref8_length l from_ order Q) :
    Ret Try.prog 66 #[.slice lA l.length lC, .agg #[.int .i64 from_.X, .int .i64 from_.Y], .slice orderA order.length orderC] w0 fun v w' => ∃ (r0 : Int), v = .int .i64 r0 ∧ Q r0 ∧ Sat w0 none_ [] w' := by
  refine fn_enter Try.func66 rfl Try.ntmps66 rfl (fs := [(0, .slice lA l.length lC), (1, .agg #[.int .i64 from_.X, .int .i64 from_.Y]), (2, .slice orderA order.length orderC)]) rfl (fun a hf => ?_)
  have hs := Sat.start w0 none_
  unfold M_ref8_length at h
  refine wp_seq ?_
  refine R.list ?_
  refine S.box hf hs rfl rfl rfl [.int .i64 from_.X, .int .i64 from_.Y] rfl rfl rfl (fun g1 a w hf hs => ?_)
  refine S.val hf hs (v := .int .i64 0) rfl rfl rfl (V.pure rfl) (fun a hf => ?_)
  refine R.nil ?_
  refine X.then_ ?_
  refine wp_seq ?_
  refine R.list ?_
  refine S.val hf hs (v := .int .i64 0) rfl rfl rfl (V.pure rfl) (fun a hf => ?_)
  refine R.nil ?_
  refine X.then_ ?_
  refine wp_seq ?_
  refine wp_seq ?_
  refine R.list ?_
  refine S.val hf hs (v := .slice orderA order.length orderC) rfl rfl rfl (V.pure rfl) (fun a hf => ?_)
  refine S.val hf hs (v := .int .i64 (order.length : Int)) rfl rfl rfl (V.len rfl rfl Try.runUnderlying28) (fun a hf => ?_)
  refine S.val hf hs (v := .int .i64 0) rfl rfl rfl (V.pure rfl) (fun a hf => ?_)
  refine R.nil ?_
  refine X.then_ ?_
  refine wp_block ?_
  have hlenk1 := hv_order.len64
  refine C.range (fun (ll : List Int) a w => ∃ (k1 : Nat) (b2 : Point) (n2 : Int), order.drop k1 = ll ∧ k1 + ll.length = order.length ∧ forIn' (fun k x (s : Point × Int) next => M_ref8_length_L1 l k x s.1 s.2 (fun b2 n2 => next (b2, n2))) (fun (s : Point × Int) => (fun (b2 : Point) (n2 : Int) => Q n2) s.1 s.2) ll k1 (b2, n2) ∧ FrOk 30 [(12, .int .i64 (k1 : Int)), (0, .slice lA l.length lC), (4, .pointer (some ⟨g1, 0, none⟩)), (7, .int .i64 n2), (10, .slice orderA order.length orderC), (11, .int .i64 (order.length : Int))] a ∧ Sat w0 none_ [hbox g1 24 [.int .i64 b2.X, .int .i64 b2.Y]] w) order ⟨0, from_, 0, rfl, Nat.zero_add _, h, ((((((hf.nil.cons (hf.get 11 _ rfl)).cons (hf.get 10 _ rfl)).cons (hf.get 7 _ rfl)).cons (hf.get 4 _ rfl)).cons (hf.get 0 _ rfl)).cons (hf.get 12 _ rfl)), hs⟩ ?_
  clear h hf hs
  rintro llk1 a w ⟨k1, b2, n2, hlk1, hkk1, h, hf, hs⟩
  cases llk1 with
  | nil =>
    have hc := range_done hkk1
    replace h : (fun (b2 : Point) (n2 : Int) => Q n2) b2 n2 := h
    refine wp_seq ?_
    refine R.list ?_
    refine S.val hf hs (v := .bool false) rfl rfl rfl (V.cmp false rfl rfl rfl rfl hc) (fun a hf => ?_)
    refine R.nil ?_
    refine X.then_ ?_
    refine wp_seq ?_
    refine C.no hf rfl ?_
    refine wp_exit ?_
    refine X.then_exit ?_
    refine X.then_exit ?_
    refine X.blk_exit ?_
    refine X.then_ ?_
    refine wp_seq ?_
    refine R.list ?_
    refine S.val hf hs (v := .int .i64 n2) rfl rfl rfl (V.pure rfl) (fun a hf => ?_)
    refine S.val hf hs (v := .int .i64 n2) rfl rfl rfl (V.pure rfl) (fun a hf => ?_)
    refine R.nil ?_
    refine X.then_ ?_
    refine wp_ret ?_
    exact L.ret hf (run_results1 Try.results66 (ResIs.tmp hf rfl)) ⟨n2, rfl, h, hs.nil⟩
  | cons xk1 llk1 =>
    have hltk1 := range_lt hkk1; have hc := range_go hkk1; have hxk1 := range_get hlk1
    obtain ⟨next1, hnext1⟩ : ∃ X : Point → Int → Prop, X = (fun b2 n2 => forIn' (fun k x (s : Point × Int) next => M_ref8_length_L1 l k x s.1 s.2 (fun b2 n2 => next (b2, n2))) (fun (s : Point × Int) => (fun (b2 : Point) (n2 : Int) => Q n2) s.1 s.2) llk1 (k1 + 1) (b2, n2)) := ⟨_, rfl⟩
    replace h : M_ref8_length_L1 l k1 xk1 b2 n2 next1 := by rw [hnext1]; exact h
    unfold M_ref8_length_L1 at h
    refine wp_seq ?_
    refine R.list ?_
    refine S.val hf hs (v := .bool true) rfl rfl rfl (V.cmp true rfl rfl rfl rfl hc) (fun a hf => ?_)
    refine R.nil ?_
    refine X.then_ ?_
    refine wp_seq ?_
    refine C.yes hf rfl ?_
    refine wp_skip ?_
    refine X.then_ ?_
    refine wp_seq ?_
    refine wp_block ?_
    refine wp_seq ?_
    refine R.list ?_
    refine S.val hf hs (v := elemPtr orderA (k1 * 1)) rfl rfl rfl (V.index rfl rfl rfl Try.runUnderlying28 Try.sizeOf3 (hv_order.some_ (lt_of_get hxk1)) (Int.natCast_nonneg _) (lt_of_get hxk1) rfl) (fun a hf => ?_)
    refine S.val hf hs (v := .int .i64 xk1) rfl rfl rfl (V.loadEl (off := 0) (Ag.args _ _ _) (hv_order.flat hxk1) rfl rfl rfl Try.isAgg3 Try.sizeOf3 rfl rfl) (fun a hf => ?_)
    refine S.val hf hs (v := .int .i64 xk1) rfl rfl rfl (V.pure rfl) (fun a hf => ?_)
    refine R.nil ?_
    refine X.then_ ?_
    refine wp_seq ?_
    refine R.draw mo (by kernel_rfl) hs ?_
    refine D.val hf (v := .int .i64 n2) rfl rfl rfl (V.pure rfl) (fun a hf => ?_)
    refine D.val hf (v := .agg #[.int .i64 b2.X, .int .i64 b2.Y]) rfl rfl rfl (V.loadBox 0 rfl rfl rfl Try.isAgg24 Try.sizeOf24 rfl rfl) (fun a hf => ?_)
    refine D.val hf (v := .slice lA l.length lC) rfl rfl rfl (V.pure rfl) (fun a hf => ?_)
    refine D.val hf (v := .int .i64 xk1) rfl rfl rfl (V.pure rfl) (fun a hf => ?_)
    obtain ⟨h0x1, x1, hx1, h⟩ := h
    refine D.val hf (v := elemPtr lA (xk1.toNat * 2)) rfl rfl rfl (V.index rfl rfl rfl Try.runUnderlying22 Try.sizeOf24 (hv_l.some_ (lt_of_get hx1)) h0x1 (lt_of_get hx1) rfl) (fun a hf => ?_)
    refine D.val hf (v := .agg #[.int .i64 x1.X, .int .i64 x1.Y]) rfl rfl rfl (V.loadEl (off := 0) (Ag.args _ _ _) (hv_l.flat hx1) rfl rfl rfl Try.isAgg24 Try.sizeOf24 rfl rfl) (fun a hf => ?_)
    refine D.call hf (v := .int .i64 (rdist b2 x1)) rfl rfl rfl (call_fn (vs := [.agg #[.int .i64 b2.X, .int .i64 b2.Y], .agg #[.int .i64 x1.X, .int .i64 x1.Y]]) rfl rfl rfl Try.call51) (fun w hs => Ret.quiet hs (C_ref8_distance b2 x1 w )) (fun a hf => ?_)
    refine D.val hf (v := .int .i64 (w64 (n2 + (rdist b2 x1)))) rfl rfl rfl (V.pure rfl) (fun a hf => ?_)
    refine D.val hf (v := .int .i64 (w64 (n2 + (rdist b2 x1)))) rfl rfl rfl (V.pure rfl) (fun a hf => ?_)
    refine D.done (fun w hs => ?_)
    refine X.then_ ?_
    refine R.list ?_
    refine S.val hf hs (v := .slice lA l.length lC) rfl rfl rfl (V.pure rfl) (fun a hf => ?_)
    refine S.val hf hs (v := .int .i64 xk1) rfl rfl rfl (V.pure rfl) (fun a hf => ?_)
    refine S.val hf hs (v := elemPtr lA (xk1.toNat * 2)) rfl rfl rfl (V.index rfl rfl rfl Try.runUnderlying22 Try.sizeOf24 (hv_l.some_ (lt_of_get hx1)) h0x1 (lt_of_get hx1) rfl) (fun a hf => ?_)
    refine S.val hf hs (v := .agg #[.int .i64 x1.X, .int .i64 x1.Y]) rfl rfl rfl (V.loadEl (off := 0) (Ag.args _ _ _) (hv_l.flat hx1) rfl rfl rfl Try.isAgg24 Try.sizeOf24 rfl rfl) (fun a hf => ?_)
    refine S.storeBox 0 hf hs rfl rfl [.int .i64 x1.X, .int .i64 x1.Y] [.int .i64 x1.X, .int .i64 x1.Y] rfl rfl rfl rfl rfl Try.sizeOf24 rfl rfl rfl rfl (fun a w hf hs => ?_)
    refine R.nil ?_
    refine X.blk ?_
    refine X.then_ ?_
    refine R.list ?_
    refine S.val hf hs (v := .int .i64 ((k1 + 1 : Nat) : Int)) rfl rfl rfl (V.incr rfl rfl rfl hltk1 hlenk1) (fun a hf => ?_)
    refine S.val hf hs (v := .int .i64 ((k1 + 1 : Nat) : Int)) rfl rfl rfl (V.pure rfl) (fun a hf => ?_)
    refine R.nil ?_
    refine X.then_ ?_
    exact ⟨xk1, llk1, rfl, k1 + 1, x1, (w64 (n2 + (rdist b2 x1))), range_drop hlk1, range_len hkk1, (by rw [hnext1] at h; exact h), ((((((hf.nil.cons (hf.get 11 _ rfl)).cons (hf.get 10 _ rfl)).cons (hf.get 7 _ rfl)).cons (hf.get 4 _ rfl)).cons (hf.get 0 _ rfl)).cons (hf.get 12 _ rfl)), hs⟩

set_option linter.unusedVariables false
def M_ref8_shorter_L2 (l : (List Point)) (from_ : Point) (order : (List Int)) (Q : (List Int) → Bool → Prop) (y1 : Int) (k1 : Nat) (next1 : Prop) (again2 : Int → Prop) (n2 : Int) : Prop :=
  cnd (decide (n2 < (order.length : Int))) (M_ref8_turned order (k1 : Int) n2 fun y2 => M_ref8_length l from_ y2 fun y3 => cnd (decide (y3 < y1)) (Q y2 true) (again2 (w64 (n2 + 1)))) (next1)
def M_ref8_shorter_L1 (l : (List Point)) (from_ : Point) (order : (List Int)) (Q : (List Int) → Bool → Prop) (y1 : Int) (k1 : Nat) (xk1 : Int)  (next1 : Prop) : Prop :=
  lp (fun again (s : Int) => M_ref8_shorter_L2 l from_ order Q y1 k1 next1 (fun n2 => again n2) s) ((k1 + 1 : Nat) : Int)
def M_ref8_shorter (l : (List Point)) (from_ : Point) (order : (List Int)) (Q : (List Int) → Bool → Prop) : Prop :=
  M_ref8_length l from_ order fun y1 => forIn' (fun k x (s : Unit) next => M_ref8_shorter_L1 l from_ order Q y1 k x (next ())) (fun (s : Unit) => Q ([] : List Int) false) order 0 ()
set_option maxHeartbeats 1000000 in
theorem R_ref8_shorter (l : (List Point)) (from_ : Point) (order : (List Int)) (w0 : World) (lA : Option Addr) (lC : Nat) (hv_l : View w0 (old w0 none_) lA lC l) (orderA : Option Addr) (orderC : Nat) (hv_order : View w0 (old w0 none_) orderA orderC order) (Q : (List Int) → Bool → Prop) (h : M_ref8_shorter l from_ order Q) :
    Ret Try.prog 64 #[.slice lA l.length lC, .agg #[.int .i64 from_.X, .int .i64 from_.Y], .slice orderA order.length orderC] w0 fun v w' => ∃ (r0 : (List Int)) (r0A : Option Addr) (r0C : Nat) (r1 : Bool), v = .tuple #[.slice r0A r0.length r0C, .bool r1] ∧ Q r0 r1 ∧ Sat w0 none_ [hown 3 r0A r0C r0] w' := by
  refine fn_enter Try.func64 rfl Try.ntmps64 rfl (fs := [(0, .slice lA l.length lC), (1, .agg #[.int .i64 from_.X, .int .i64 from_.Y]), (2, .slice orderA order.length orderC)]) rfl (fun a hf => ?_)
  have hs := Sat.start w0 none_
  unfold M_ref8_shorter at h
  refine wp_seq ?_
  refine R.list ?_
  refine S.box hf hs rfl rfl rfl [.int .i64 from_.X, .int .i64 from_.Y] rfl rfl rfl (fun g1 a w hf hs => ?_)
  refine S.val hf hs (v := .slice none 0 0) rfl rfl rfl (V.pure rfl) (fun a hf => ?_)
  refine S.val hf hs (v := .bool false) rfl rfl rfl (V.pure rfl) (fun a hf => ?_)
  refine R.nil ?_
  refine X.then_ ?_
  refine wp_seq ?_
  refine R.list ?_
  refine S.val hf hs (v := .slice lA l.length lC) rfl rfl rfl (V.pure rfl) (fun a hf => ?_)
  refine S.val hf hs (v := .agg #[.int .i64 from_.X, .int .i64 from_.Y]) rfl rfl rfl (V.loadBox 0 rfl rfl rfl Try.isAgg24 Try.sizeOf24 rfl rfl) (fun a hf => ?_)
  refine S.val hf hs (v := .slice orderA order.length orderC) rfl rfl rfl (V.pure rfl) (fun a hf => ?_)
  refine S.call hf rfl rfl rfl (call_fn (vs := [.slice lA l.length lC, .agg #[.int .i64 from_.X, .int .i64 from_.Y], .slice orderA order.length orderC]) rfl rfl rfl Try.call66) (R_ref8_length l from_ order _ lA lC ((Ag.args _ _ _).view hv_l hs) orderA orderC ((Ag.args _ _ _).view hv_order hs) _ h) (fun v a w' hf hr => ?_)
  obtain ⟨y1, rfl, h2, hs2⟩ := hr
  replace h := h2; replace hs := hs.call hs2; clear h2 hs2
  refine S.val hf hs (v := .int .i64 y1) rfl rfl rfl (V.pure rfl) (fun a hf => ?_)
  refine R.nil ?_
  refine X.then_ ?_
  refine wp_seq ?_
  refine wp_seq ?_
  refine R.list ?_
  refine S.val hf hs (v := .slice orderA order.length orderC) rfl rfl rfl (V.pure rfl) (fun a hf => ?_)
  refine S.val hf hs (v := .int .i64 (order.length : Int)) rfl rfl rfl (V.len rfl rfl Try.runUnderlying28) (fun a hf => ?_)
  refine S.val hf hs (v := .int .i64 0) rfl rfl rfl (V.pure rfl) (fun a hf => ?_)
  refine R.nil ?_
  refine X.then_ ?_
  refine wp_block ?_
  have hlenk1 := hv_order.len64
  refine C.range (fun (ll : List Int) a w => ∃ (k1 : Nat) , order.drop k1 = ll ∧ k1 + ll.length = order.length ∧ forIn' (fun k x (s : Unit) next => M_ref8_shorter_L1 l from_ order Q y1 k x (next ())) (fun (s : Unit) => Q ([] : List Int) false) ll k1 () ∧ FrOk 41 [(18, .int .i64 (k1 : Int)), (0, .slice lA l.length lC), (2, .slice orderA order.length orderC), (4, .pointer (some ⟨g1, 0, none⟩)), (8, .int .i64 y1), (17, .int .i64 (order.length : Int))] a ∧ Sat w0 none_ [hbox g1 24 [.int .i64 from_.X, .int .i64 from_.Y]] w) order ⟨0, rfl, Nat.zero_add _, h, ((((((hf.nil.cons (hf.get 17 _ rfl)).cons (hf.get 8 _ rfl)).cons (hf.get 4 _ rfl)).cons (hf.get 2 _ rfl)).cons (hf.get 0 _ rfl)).cons (hf.get 18 _ rfl)), hs⟩ ?_
  clear h hf hs
  rintro llk1 a w ⟨k1, hlk1, hkk1, h, hf, hs⟩
  cases llk1 with
  | nil =>
    have hc := range_done hkk1
    replace h : Q ([] : List Int) false := h
    refine wp_seq ?_
    refine R.list ?_
    refine S.val hf hs (v := .bool false) rfl rfl rfl (V.cmp false rfl rfl rfl rfl hc) (fun a hf => ?_)
    refine R.nil ?_
    refine X.then_ ?_
    refine wp_seq ?_
    refine C.no hf rfl ?_
    refine wp_exit ?_
    refine X.then_exit ?_
    refine X.then_exit ?_
    refine X.blk_exit ?_
    refine X.then_ ?_
    refine wp_seq ?_
    refine R.list ?_
    refine S.val hf hs (v := .slice none 0 0) rfl rfl rfl (V.pure rfl) (fun a hf => ?_)
    refine S.val hf hs (v := .bool false) rfl rfl rfl (V.pure rfl) (fun a hf => ?_)
    refine R.nil ?_
    refine X.then_ ?_
    refine wp_ret ?_
    replace hs := hs.nilOwn (α := Int) 3
    replace hs := hs.take 1
    exact L.ret hf (run_results2 Try.results64 (ResIs.tmp hf rfl) (ResIs.tmp hf rfl)) ⟨([] : List Int), none, 0, false, rfl, h, hs⟩
  | cons xk1 llk1 =>
    have hltk1 := range_lt hkk1; have hc := range_go hkk1; have hxk1 := range_get hlk1
    obtain ⟨next1, hnext1⟩ : ∃ X : Prop, X = (forIn' (fun k x (s : Unit) next => M_ref8_shorter_L1 l from_ order Q y1 k x (next ())) (fun (s : Unit) => Q ([] : List Int) false) llk1 (k1 + 1) ()) := ⟨_, rfl⟩
    replace h : M_ref8_shorter_L1 l from_ order Q y1 k1 xk1  next1 := by rw [hnext1]; exact h
    unfold M_ref8_shorter_L1 at h
    refine wp_seq ?_
    refine R.list ?_
    refine S.val hf hs (v := .bool true) rfl rfl rfl (V.cmp true rfl rfl rfl rfl hc) (fun a hf => ?_)
    refine R.nil ?_
    refine X.then_ ?_
    refine wp_seq ?_
    refine C.yes hf rfl ?_
    refine wp_skip ?_
    refine X.then_ ?_
    refine wp_seq ?_
    refine wp_block ?_
    refine wp_seq ?_
    refine R.list ?_
    refine S.val hf hs (v := .int .i64 (k1 : Int)) rfl rfl rfl (V.pure rfl) (fun a hf => ?_)
    refine S.val hf hs (v := .int .i64 (k1 : Int)) rfl rfl rfl (V.pure rfl) (fun a hf => ?_)
    refine R.nil ?_
    refine X.then_ ?_
    refine wp_seq ?_
    refine R.list ?_
    refine S.val hf hs (v := .int .i64 (k1 : Int)) rfl rfl rfl (V.pure rfl) (fun a hf => ?_)
    refine S.val hf hs (v := .int .i64 ((k1 + 1 : Nat) : Int)) rfl rfl rfl (V.incr rfl rfl rfl hltk1 hlenk1) (fun a hf => ?_)
    refine S.val hf hs (v := .int .i64 ((k1 + 1 : Nat) : Int)) rfl rfl rfl (V.pure rfl) (fun a hf => ?_)
    refine R.nil ?_
    refine X.then_ ?_
    refine wp_block ?_
    obtain ⟨kk, h⟩ := h
    refine C.loop (fun kk a w => ∃ (n2 : Int), iterF (fun again (s : Int) => M_ref8_shorter_L2 l from_ order Q y1 k1 next1 (fun n2 => again n2) s) kk n2 ∧ FrOk 41 [(0, .slice lA l.length lC), (2, .slice orderA order.length orderC), (4, .pointer (some ⟨g1, 0, none⟩)), (8, .int .i64 y1), (9, .int .i64 (k1 : Int)), (10, .int .i64 n2), (17, .int .i64 (order.length : Int)), (18, .int .i64 (k1 : Int))] a ∧ Sat w0 none_ [hbox g1 24 [.int .i64 from_.X, .int .i64 from_.Y]] w) kk ⟨((k1 + 1 : Nat) : Int), h, ((((((((hf.nil.cons (hf.get 18 _ rfl)).cons (hf.get 17 _ rfl)).cons (hf.get 10 _ rfl)).cons (hf.get 9 _ rfl)).cons (hf.get 8 _ rfl)).cons (hf.get 4 _ rfl)).cons (hf.get 2 _ rfl)).cons (hf.get 0 _ rfl)), hs⟩ (fun a w ⟨_, h, _, _⟩ => h) ?_
    clear h hf hs
    rintro kk a w ⟨n2, h, hf, hs⟩
    obtain ⟨again2, hagain2⟩ : ∃ X : Int → Prop, X = (fun n2 => iterF (fun again (s : Int) => M_ref8_shorter_L2 l from_ order Q y1 k1 next1 (fun n2 => again n2) s) kk n2) := ⟨_, rfl⟩
    replace h : M_ref8_shorter_L2 l from_ order Q y1 k1 next1 again2 n2 := by rw [hagain2]; exact h
    unfold M_ref8_shorter_L2 at h
    refine wp_seq ?_
    refine wp_seq ?_
    refine R.list ?_
    refine S.val hf hs (v := .int .i64 n2) rfl rfl rfl (V.pure rfl) (fun a hf => ?_)
    refine S.val hf hs (v := .slice orderA order.length orderC) rfl rfl rfl (V.pure rfl) (fun a hf => ?_)
    refine S.val hf hs (v := .int .i64 (order.length : Int)) rfl rfl rfl (V.len rfl rfl Try.runUnderlying28) (fun a hf => ?_)
    refine S.val hf hs (v := .bool (decide (n2 < (order.length : Int)))) rfl rfl rfl (V.pure rfl) (fun a hf => ?_)
    refine R.nil ?_
    refine X.then_ ?_
    refine C.cond hf (b := decide (n2 < (order.length : Int))) rfl (fun hc => ?_) (fun hc => ?_)
    · replace h := h.1 hc
      refine wp_skip ?_
      refine X.then_ ?_
      refine wp_seq ?_
      refine wp_block ?_
      refine wp_seq ?_
      refine R.list ?_
      refine S.val hf hs (v := .slice orderA order.length orderC) rfl rfl rfl (V.pure rfl) (fun a hf => ?_)
      refine S.val hf hs (v := .int .i64 (k1 : Int)) rfl rfl rfl (V.pure rfl) (fun a hf => ?_)
      refine S.val hf hs (v := .int .i64 n2) rfl rfl rfl (V.pure rfl) (fun a hf => ?_)
      refine S.call hf rfl rfl rfl (call_fn (vs := [.slice orderA order.length orderC, .int .i64 (k1 : Int), .int .i64 n2]) rfl rfl rfl Try.call87) (R_ref8_turned order (k1 : Int) n2 _ orderA orderC ((Ag.args _ _ _).view hv_order hs) _ h) (fun v a w' hf hr => ?_)
      obtain ⟨y2, y2A, y2C, rfl, h2, hs2⟩ := hr
      replace h := h2; replace hs := hs.call hs2; clear h2 hs2
      refine S.val hf hs (v := .slice y2A y2.length y2C) rfl rfl rfl (V.pure rfl) (fun a hf => ?_)
      refine R.nil ?_
      refine X.then_ ?_
      refine wp_seq ?_
      refine R.list ?_
      refine S.val hf hs (v := .slice lA l.length lC) rfl rfl rfl (V.pure rfl) (fun a hf => ?_)
      refine S.val hf hs (v := .agg #[.int .i64 from_.X, .int .i64 from_.Y]) rfl rfl rfl (V.loadBox 1 rfl rfl rfl Try.isAgg24 Try.sizeOf24 rfl rfl) (fun a hf => ?_)
      refine S.val hf hs (v := .slice y2A y2.length y2C) rfl rfl rfl (V.pure rfl) (fun a hf => ?_)
      refine S.call hf rfl rfl rfl (call_fn (vs := [.slice lA l.length lC, .agg #[.int .i64 from_.X, .int .i64 from_.Y], .slice y2A y2.length y2C]) rfl rfl rfl Try.call66) (R_ref8_length l from_ y2 _ lA lC ((Ag.args _ _ _).view hv_l hs) y2A y2C (hs.ownView 0 rfl) _ h) (fun v a w' hf hr => ?_)
      obtain ⟨y3, rfl, h2, hs2⟩ := hr
      replace h := h2; replace hs := hs.call hs2; clear h2 hs2
      refine S.val hf hs (v := .int .i64 y1) rfl rfl rfl (V.pure rfl) (fun a hf => ?_)
      refine S.val hf hs (v := .bool (decide (y3 < y1))) rfl rfl rfl (V.pure rfl) (fun a hf => ?_)
      refine R.nil ?_
      refine X.then_ ?_
      refine C.cond hf (b := decide (y3 < y1)) rfl (fun hc => ?_) (fun hc => ?_)
      · replace h := h.1 hc
        refine wp_seq ?_
        refine R.list ?_
        refine S.val hf hs (v := .slice y2A y2.length y2C) rfl rfl rfl (V.pure rfl) (fun a hf => ?_)
        refine S.val hf hs (v := .slice y2A y2.length y2C) rfl rfl rfl (V.pure rfl) (fun a hf => ?_)
        refine S.val hf hs (v := .bool true) rfl rfl rfl (V.pure rfl) (fun a hf => ?_)
        refine R.nil ?_
        refine X.then_ ?_
        refine wp_ret ?_
        refine X.blk_ret ?_
        refine X.then_ret ?_
        refine X.then_ret ?_
        refine X.blk_ret ?_
        refine X.blk_ret ?_
        refine X.then_ret ?_
        refine X.then_ret ?_
        refine X.blk_ret ?_
        refine X.then_ret ?_
        replace hs := hs.take 1
        exact L.ret hf (run_results2 Try.results64 (ResIs.tmp hf rfl) (ResIs.tmp hf rfl)) ⟨y2, y2A, y2C, true, rfl, h, hs⟩
      · replace h := h.2 hc
        refine wp_skip ?_
        refine X.blk ?_
        refine X.then_ ?_
        refine R.list ?_
        refine S.val hf hs (v := .int .i64 n2) rfl rfl rfl (V.pure rfl) (fun a hf => ?_)
        refine S.val hf hs (v := .int .i64 (w64 (n2 + 1))) rfl rfl rfl (V.pure rfl) (fun a hf => ?_)
        refine S.val hf hs (v := .int .i64 (w64 (n2 + 1))) rfl rfl rfl (V.pure rfl) (fun a hf => ?_)
        refine R.nil ?_
        refine X.then_ ?_
        exact ⟨(w64 (n2 + 1)), (by rw [hagain2] at h; exact h), ((((((((hf.nil.cons (hf.get 18 _ rfl)).cons (hf.get 17 _ rfl)).cons (hf.get 10 _ rfl)).cons (hf.get 9 _ rfl)).cons (hf.get 8 _ rfl)).cons (hf.get 4 _ rfl)).cons (hf.get 2 _ rfl)).cons (hf.get 0 _ rfl)), hs.drop⟩
    · replace h := h.2 hc
      refine wp_exit ?_
      refine X.then_exit ?_
      refine X.then_exit ?_
      refine X.blk_exit ?_
      refine X.blk ?_
      refine X.then_ ?_
      refine R.list ?_
      refine S.val hf hs (v := .int .i64 ((k1 + 1 : Nat) : Int)) rfl rfl rfl (V.incr rfl rfl rfl hltk1 hlenk1) (fun a hf => ?_)
      refine S.val hf hs (v := .int .i64 ((k1 + 1 : Nat) : Int)) rfl rfl rfl (V.pure rfl) (fun a hf => ?_)
      refine R.nil ?_
      refine X.then_ ?_
      exact ⟨xk1, llk1, rfl, k1 + 1, range_drop hlk1, range_len hkk1, (by rw [hnext1] at h; exact h), ((((((hf.nil.cons (hf.get 17 _ rfl)).cons (hf.get 8 _ rfl)).cons (hf.get 4 _ rfl)).cons (hf.get 2 _ rfl)).cons (hf.get 0 _ rfl)).cons (hf.get 18 _ rfl)), hs⟩

set_option linter.unusedVariables false
def M_ref8_Better_L1 (l : (List Point)) (from_ : Point) (Q : (List Int) → Int → Prop) (again1 : List Int → Int → Prop) (l2 : List Int) (n2 : Int) : Prop :=
  cnd (decide (n2 < 5000)) (M_ref8_shorter l from_ l2 fun y3 y4 => cnd (!y4) (Q l2 0) (again1 y3 (w64 (n2 + 1)))) (Q l2 0)
def M_ref8_Better (l : (List Point)) (from_ : Point) (Q : (List Int) → Int → Prop) : Prop :=
  M_ref8_askPoints l from_ 200 fun y1 => cnd (y1 != 0) (Q ([] : List Int) y1) (M_ref8_greedy l from_ fun y2 => lp (fun again (s : List Int × Int) => M_ref8_Better_L1 l from_ Q (fun l2 n2 => again (l2, n2)) s.1 s.2) (y2, 0))
set_option maxHeartbeats 1000000 in
theorem R_ref8_Better (l : (List Point)) (from_ : Point) (w0 : World) (lA : Option Addr) (lC : Nat) (hv_l : View w0 (old w0 none_) lA lC l) (Q : (List Int) → Int → Prop) (h : M_ref8_Better l from_ Q) :
    Ret Try.prog 30 #[.slice lA l.length lC, .agg #[.int .i64 from_.X, .int .i64 from_.Y]] w0 fun v w' => ∃ (r0 : (List Int)) (r0A : Option Addr) (r0C : Nat) (r1 : Int), v = .tuple #[.slice r0A r0.length r0C, .int .i64 r1] ∧ Q r0 r1 ∧ Sat w0 none_ [hown 3 r0A r0C r0] w' := by
  refine fn_enter Try.func30 rfl Try.ntmps30 rfl (fs := [(0, .slice lA l.length lC), (1, .agg #[.int .i64 from_.X, .int .i64 from_.Y])]) rfl (fun a hf => ?_)
  have hs := Sat.start w0 none_
  unfold M_ref8_Better at h
  refine wp_seq ?_
  refine R.list ?_
  refine S.box hf hs rfl rfl rfl [.int .i64 from_.X, .int .i64 from_.Y] rfl rfl rfl (fun g1 a w hf hs => ?_)
  refine S.val hf hs (v := .slice none 0 0) rfl rfl rfl (V.pure rfl) (fun a hf => ?_)
  refine S.val hf hs (v := .int .i64 0) rfl rfl rfl (V.pure rfl) (fun a hf => ?_)
  refine R.nil ?_
  refine X.then_ ?_
  refine wp_seq ?_
  refine wp_seq ?_
  refine R.list ?_
  refine S.val hf hs (v := .slice lA l.length lC) rfl rfl rfl (V.pure rfl) (fun a hf => ?_)
  refine S.val hf hs (v := .agg #[.int .i64 from_.X, .int .i64 from_.Y]) rfl rfl rfl (V.loadBox 0 rfl rfl rfl Try.isAgg24 Try.sizeOf24 rfl rfl) (fun a hf => ?_)
  refine S.call hf rfl rfl rfl (call_fn (vs := [.slice lA l.length lC, .agg #[.int .i64 from_.X, .int .i64 from_.Y], .int .i64 200]) rfl rfl rfl Try.call50) (R_ref8_askPoints l from_ 200 _ lA lC ((Ag.args _ _ _).view hv_l hs) _ h) (fun v a w' hf hr => ?_)
  obtain ⟨y1, rfl, h2, hs2⟩ := hr
  replace h := h2; replace hs := hs.call hs2; clear h2 hs2
  refine S.val hf hs (v := .int .i64 y1) rfl rfl rfl (V.pure rfl) (fun a hf => ?_)
  refine R.nil ?_
  refine X.then_ ?_
  refine wp_seq ?_
  refine R.list ?_
  refine S.val hf hs (v := .int .i64 y1) rfl rfl rfl (V.pure rfl) (fun a hf => ?_)
  refine S.val hf hs (v := .bool (y1 != 0)) rfl rfl rfl (V.pure rfl) (fun a hf => ?_)
  refine R.nil ?_
  refine X.then_ ?_
  refine C.cond hf (b := y1 != 0) rfl (fun hc => ?_) (fun hc => ?_)
  · replace h := h.1 hc
    refine wp_seq ?_
    refine R.list ?_
    refine S.val hf hs (v := .int .i64 y1) rfl rfl rfl (V.pure rfl) (fun a hf => ?_)
    refine S.val hf hs (v := .slice none 0 0) rfl rfl rfl (V.pure rfl) (fun a hf => ?_)
    refine S.val hf hs (v := .int .i64 y1) rfl rfl rfl (V.pure rfl) (fun a hf => ?_)
    refine R.nil ?_
    refine X.then_ ?_
    refine wp_ret ?_
    refine X.then_ret ?_
    replace hs := hs.nilOwn (α := Int) 3
    replace hs := hs.take 1
    exact L.ret hf (run_results2 Try.results30 (ResIs.tmp hf rfl) (ResIs.tmp hf rfl)) ⟨([] : List Int), none, 0, y1, rfl, h, hs⟩
  · replace h := h.2 hc
    refine wp_skip ?_
    refine X.then_ ?_
    refine wp_seq ?_
    refine R.list ?_
    refine S.val hf hs (v := .slice lA l.length lC) rfl rfl rfl (V.pure rfl) (fun a hf => ?_)
    refine S.val hf hs (v := .agg #[.int .i64 from_.X, .int .i64 from_.Y]) rfl rfl rfl (V.loadBox 0 rfl rfl rfl Try.isAgg24 Try.sizeOf24 rfl rfl) (fun a hf => ?_)
    refine S.call hf rfl rfl rfl (call_fn (vs := [.slice lA l.length lC, .agg #[.int .i64 from_.X, .int .i64 from_.Y]]) rfl rfl rfl Try.call53) (R_ref8_greedy l from_ _ lA lC ((Ag.args _ _ _).view hv_l hs) _ h) (fun v a w' hf hr => ?_)
    obtain ⟨y2, y2A, y2C, rfl, h2, hs2⟩ := hr
    replace h := h2; replace hs := hs.call hs2; clear h2 hs2
    refine S.val hf hs (v := .slice y2A y2.length y2C) rfl rfl rfl (V.pure rfl) (fun a hf => ?_)
    refine R.nil ?_
    refine X.then_ ?_
    refine wp_seq ?_
    refine wp_seq ?_
    refine R.list ?_
    refine S.val hf hs (v := .int .i64 0) rfl rfl rfl (V.pure rfl) (fun a hf => ?_)
    refine R.nil ?_
    refine X.then_ ?_
    refine wp_block ?_
    replace hs := hs.front 1 rfl
    obtain ⟨kk, h⟩ := h
    refine C.loop (fun kk a w => ∃ (l2 : List Int) (l2A : Option Addr) (l2C : Nat) (n2 : Int), iterF (fun again (s : List Int × Int) => M_ref8_Better_L1 l from_ Q (fun l2 n2 => again (l2, n2)) s.1 s.2) kk (l2, n2) ∧ FrOk 33 [(0, .slice lA l.length lC), (3, .pointer (some ⟨g1, 0, none⟩)), (7, .slice l2A l2.length l2C), (19, .int .i64 n2)] a ∧ Sat w0 none_ [hbox g1 24 [.int .i64 from_.X, .int .i64 from_.Y], hown 3 l2A l2C l2] w) kk ⟨y2, y2A, y2C, 0, h, ((((hf.nil.cons (hf.get 19 _ rfl)).cons (hf.get 7 _ rfl)).cons (hf.get 3 _ rfl)).cons (hf.get 0 _ rfl)), hs⟩ (fun a w ⟨_, _, _, _, h, _, _⟩ => h) ?_
    clear h hf hs
    rintro kk a w ⟨l2, l2A, l2C, n2, h, hf, hs⟩
    obtain ⟨again1, hagain1⟩ : ∃ X : List Int → Int → Prop, X = (fun l2 n2 => iterF (fun again (s : List Int × Int) => M_ref8_Better_L1 l from_ Q (fun l2 n2 => again (l2, n2)) s.1 s.2) kk (l2, n2)) := ⟨_, rfl⟩
    replace h : M_ref8_Better_L1 l from_ Q again1 l2 n2 := by rw [hagain1]; exact h
    unfold M_ref8_Better_L1 at h
    refine wp_seq ?_
    refine R.list ?_
    refine S.val hf hs (v := .bool (decide (n2 < 5000))) rfl rfl rfl (V.pure rfl) (fun a hf => ?_)
    refine R.nil ?_
    refine X.then_ ?_
    refine wp_seq ?_
    refine C.cond hf (b := decide (n2 < 5000)) rfl (fun hc => ?_) (fun hc => ?_)
    · replace h := h.1 hc
      refine wp_skip ?_
      refine X.then_ ?_
      refine wp_seq ?_
      refine wp_block ?_
      refine wp_seq ?_
      refine R.list ?_
      refine S.val hf hs (v := .slice lA l.length lC) rfl rfl rfl (V.pure rfl) (fun a hf => ?_)
      refine S.val hf hs (v := .agg #[.int .i64 from_.X, .int .i64 from_.Y]) rfl rfl rfl (V.loadBox 0 rfl rfl rfl Try.isAgg24 Try.sizeOf24 rfl rfl) (fun a hf => ?_)
      refine S.val hf hs (v := .slice l2A l2.length l2C) rfl rfl rfl (V.pure rfl) (fun a hf => ?_)
      refine S.call hf rfl rfl rfl (call_fn (vs := [.slice lA l.length lC, .agg #[.int .i64 from_.X, .int .i64 from_.Y], .slice l2A l2.length l2C]) rfl rfl rfl Try.call64) (R_ref8_shorter l from_ l2 _ lA lC ((Ag.args _ _ _).view hv_l hs) l2A l2C (hs.ownView 1 rfl) _ h) (fun v a w' hf hr => ?_)
      obtain ⟨y3, y3A, y3C, y4, rfl, h2, hs2⟩ := hr
      replace h := h2; replace hs := hs.call hs2; clear h2 hs2
      refine S.val hf hs (v := .tuple #[.slice y3A y3.length y3C, .bool y4]) rfl rfl rfl (V.pure rfl) (fun a hf => ?_)
      refine S.val hf hs (v := .slice y3A y3.length y3C) rfl rfl rfl (V.pure rfl) (fun a hf => ?_)
      refine S.val hf hs (v := .bool y4) rfl rfl rfl (V.pure rfl) (fun a hf => ?_)
      refine S.val hf hs (v := .slice y3A y3.length y3C) rfl rfl rfl (V.pure rfl) (fun a hf => ?_)
      refine S.val hf hs (v := .bool y4) rfl rfl rfl (V.pure rfl) (fun a hf => ?_)
      refine R.nil ?_
      refine X.then_ ?_
      refine wp_seq ?_
      refine wp_seq ?_
      refine R.list ?_
      refine S.val hf hs (v := .bool y4) rfl rfl rfl (V.pure rfl) (fun a hf => ?_)
      refine S.val hf hs (v := .bool (!y4)) rfl rfl rfl (V.pure rfl) (fun a hf => ?_)
      refine R.nil ?_
      refine X.then_ ?_
      refine C.cond hf (b := !y4) rfl (fun hc => ?_) (fun hc => ?_)
      · replace h := h.1 hc
        refine wp_exit ?_
        refine X.then_exit ?_
        refine X.blk_other rfl ?_
        refine X.then_exit ?_
        refine X.then_exit ?_
        refine X.blk_exit ?_
        refine X.then_ ?_
        refine wp_seq ?_
        refine R.list ?_
        refine S.val hf hs (v := .slice l2A l2.length l2C) rfl rfl rfl (V.pure rfl) (fun a hf => ?_)
        refine S.val hf hs (v := .slice l2A l2.length l2C) rfl rfl rfl (V.pure rfl) (fun a hf => ?_)
        refine S.val hf hs (v := .int .i64 0) rfl rfl rfl (V.pure rfl) (fun a hf => ?_)
        refine R.nil ?_
        refine X.then_ ?_
        refine wp_ret ?_
        replace hs := hs.front 2 rfl
        replace hs := hs.take 1
        exact L.ret hf (run_results2 Try.results30 (ResIs.tmp hf rfl) (ResIs.tmp hf rfl)) ⟨l2, l2A, l2C, 0, rfl, h, hs⟩
      · replace h := h.2 hc
        refine wp_skip ?_
        refine X.then_ ?_
        refine R.list ?_
        refine S.val hf hs (v := .slice y3A y3.length y3C) rfl rfl rfl (V.pure rfl) (fun a hf => ?_)
        refine S.val hf hs (v := .slice y3A y3.length y3C) rfl rfl rfl (V.pure rfl) (fun a hf => ?_)
        refine R.nil ?_
        refine X.blk ?_
        refine X.then_ ?_
        refine R.list ?_
        refine S.val hf hs (v := .int .i64 (w64 (n2 + 1))) rfl rfl rfl (V.pure rfl) (fun a hf => ?_)
        refine S.val hf hs (v := .int .i64 (w64 (n2 + 1))) rfl rfl rfl (V.pure rfl) (fun a hf => ?_)
        refine R.nil ?_
        refine X.then_ ?_
        replace hs := hs.front 1 rfl
        replace hs := hs.take 2
        exact ⟨y3, y3A, y3C, (w64 (n2 + 1)), (by rw [hagain1] at h; exact h), ((((hf.nil.cons (hf.get 19 _ rfl)).cons (hf.get 7 _ rfl)).cons (hf.get 3 _ rfl)).cons (hf.get 0 _ rfl)), hs⟩
    · replace h := h.2 hc
      refine wp_exit ?_
      refine X.then_exit ?_
      refine X.then_exit ?_
      refine X.blk_exit ?_
      refine X.then_ ?_
      refine wp_seq ?_
      refine R.list ?_
      refine S.val hf hs (v := .slice l2A l2.length l2C) rfl rfl rfl (V.pure rfl) (fun a hf => ?_)
      refine S.val hf hs (v := .slice l2A l2.length l2C) rfl rfl rfl (V.pure rfl) (fun a hf => ?_)
      refine S.val hf hs (v := .int .i64 0) rfl rfl rfl (V.pure rfl) (fun a hf => ?_)
      refine R.nil ?_
      refine X.then_ ?_
      refine wp_ret ?_
      replace hs := hs.front 1 rfl
      replace hs := hs.take 1
      exact L.ret hf (run_results2 Try.results30 (ResIs.tmp hf rfl) (ResIs.tmp hf rfl)) ⟨l2, l2A, l2C, 0, rfl, h, hs⟩

set_option linter.unusedVariables false
def M_law_Better (l : (List Point)) (from_ : Point) (Q : Bool → Prop) : Prop :=
  M_drill_Better l from_ fun y1 y2 => M_ref8_Better l from_ fun y3 y4 => cnd (y2 == y4) (M_equal_int y1 y3 fun y5 => cnd y5 (M_awake  fun y6 => Q y6) (Q false)) (Q false)
set_option maxHeartbeats 1000000 in
theorem R_law_Better (l : (List Point)) (from_ : Point) (w0 : World) (lA : Option Addr) (lC : Nat) (hv_l : View w0 (old w0 none_) lA lC l) (Q : Bool → Prop) (h : M_law_Better l from_ Q) :
    Ret Try.prog 7 #[.slice lA l.length lC, .agg #[.int .i64 from_.X, .int .i64 from_.Y]] w0 fun v w' => ∃ (r0 : Bool), v = .bool r0 ∧ Q r0 ∧ Sat w0 none_ [] w' := by
  refine fn_enter Try.func7 rfl Try.ntmps7 rfl (fs := [(0, .slice lA l.length lC), (1, .agg #[.int .i64 from_.X, .int .i64 from_.Y])]) rfl (fun a hf => ?_)
  have hs := Sat.start w0 none_
  unfold M_law_Better at h
  refine wp_seq ?_
  refine R.list ?_
  refine S.box hf hs rfl rfl rfl [.int .i64 from_.X, .int .i64 from_.Y] rfl rfl rfl (fun g1 a w hf hs => ?_)
  refine S.val hf hs (v := .bool false) rfl rfl rfl (V.pure rfl) (fun a hf => ?_)
  refine R.nil ?_
  refine X.then_ ?_
  refine wp_seq ?_
  refine R.list ?_
  refine S.val hf hs (v := .slice lA l.length lC) rfl rfl rfl (V.pure rfl) (fun a hf => ?_)
  refine S.val hf hs (v := .agg #[.int .i64 from_.X, .int .i64 from_.Y]) rfl rfl rfl (V.loadBox 0 rfl rfl rfl Try.isAgg24 Try.sizeOf24 rfl rfl) (fun a hf => ?_)
  refine S.call hf rfl rfl rfl (call_fn (vs := [.slice lA l.length lC, .agg #[.int .i64 from_.X, .int .i64 from_.Y]]) rfl rfl rfl Try.call29) (R_drill_Better l from_ _ lA lC ((Ag.args _ _ _).view hv_l hs) _ h) (fun v a w' hf hr => ?_)
  obtain ⟨y1, y1A, y1C, y2, rfl, h2, hs2⟩ := hr
  replace h := h2; replace hs := hs.call hs2; clear h2 hs2
  refine S.val hf hs (v := .tuple #[.slice y1A y1.length y1C, .int .i64 y2]) rfl rfl rfl (V.pure rfl) (fun a hf => ?_)
  refine S.val hf hs (v := .slice y1A y1.length y1C) rfl rfl rfl (V.pure rfl) (fun a hf => ?_)
  refine S.val hf hs (v := .int .i64 y2) rfl rfl rfl (V.pure rfl) (fun a hf => ?_)
  refine S.val hf hs (v := .slice y1A y1.length y1C) rfl rfl rfl (V.pure rfl) (fun a hf => ?_)
  refine S.val hf hs (v := .int .i64 y2) rfl rfl rfl (V.pure rfl) (fun a hf => ?_)
  refine R.nil ?_
  refine X.then_ ?_
  refine wp_seq ?_
  refine R.list ?_
  refine S.val hf hs (v := .slice lA l.length lC) rfl rfl rfl (V.pure rfl) (fun a hf => ?_)
  refine S.val hf hs (v := .agg #[.int .i64 from_.X, .int .i64 from_.Y]) rfl rfl rfl (V.loadBox 1 rfl rfl rfl Try.isAgg24 Try.sizeOf24 rfl rfl) (fun a hf => ?_)
  refine S.call hf rfl rfl rfl (call_fn (vs := [.slice lA l.length lC, .agg #[.int .i64 from_.X, .int .i64 from_.Y]]) rfl rfl rfl Try.call30) (R_ref8_Better l from_ _ lA lC ((Ag.args _ _ _).view hv_l hs) _ h) (fun v a w' hf hr => ?_)
  obtain ⟨y3, y3A, y3C, y4, rfl, h2, hs2⟩ := hr
  replace h := h2; replace hs := hs.call hs2; clear h2 hs2
  refine S.val hf hs (v := .tuple #[.slice y3A y3.length y3C, .int .i64 y4]) rfl rfl rfl (V.pure rfl) (fun a hf => ?_)
  refine S.val hf hs (v := .slice y3A y3.length y3C) rfl rfl rfl (V.pure rfl) (fun a hf => ?_)
  refine S.val hf hs (v := .int .i64 y4) rfl rfl rfl (V.pure rfl) (fun a hf => ?_)
  refine S.val hf hs (v := .slice y3A y3.length y3C) rfl rfl rfl (V.pure rfl) (fun a hf => ?_)
  refine S.val hf hs (v := .int .i64 y4) rfl rfl rfl (V.pure rfl) (fun a hf => ?_)
  refine R.nil ?_
  refine X.then_ ?_
  refine wp_seq ?_
  refine R.list ?_
  refine S.val hf hs (v := .int .i64 y2) rfl rfl rfl (V.pure rfl) (fun a hf => ?_)
  refine S.val hf hs (v := .int .i64 y4) rfl rfl rfl (V.pure rfl) (fun a hf => ?_)
  refine S.val hf hs (v := .bool (y2 == y4)) rfl rfl rfl (V.pure rfl) (fun a hf => ?_)
  refine S.split hf hs (b := y2 == y4) rfl rfl rfl (V.pure rfl) (fun hc a hf => ?_) (fun hc a hf => ?_)
  · replace h := h.1 hc
    refine S.val hf hs (v := .slice y1A y1.length y1C) rfl rfl rfl (V.pure rfl) (fun a hf => ?_)
    refine S.val hf hs (v := .slice y3A y3.length y3C) rfl rfl rfl (V.pure rfl) (fun a hf => ?_)
    refine S.call hf rfl rfl rfl (call_fn (vs := [.slice y1A y1.length y1C, .slice y3A y3.length y3C]) rfl rfl rfl Try.call19) (R_equal_int y1 y3 _ y1A y1C (hs.ownView 1 rfl) y3A y3C (hs.ownView 0 rfl) _ h) (fun v a w' hf hr => ?_)
    obtain ⟨y5, rfl, h2, hs2⟩ := hr
    replace h := h2; replace hs := hs.call hs2; clear h2 hs2
    refine S.val hf hs (v := .bool y5) rfl rfl rfl (V.pure rfl) (fun a hf => ?_)
    refine S.split hf hs (b := y5) rfl rfl rfl (V.pure rfl) (fun hc a hf => ?_) (fun hc a hf => ?_)
    · replace h := h.1 hc
      refine S.call hf rfl rfl rfl (call_fn (vs := []) rfl rfl rfl Try.call20) (R_awake  _  _ h) (fun v a w' hf hr => ?_)
      obtain ⟨y6, rfl, h2, hs2⟩ := hr
      replace h := h2; replace hs := hs.call hs2; clear h2 hs2
      refine S.val hf hs (v := .bool y6) rfl rfl rfl (V.pure rfl) (fun a hf => ?_)
      refine S.val hf hs (v := .bool y6) rfl rfl rfl (V.pure rfl) (fun a hf => ?_)
      refine R.nil ?_
      refine X.then_ ?_
      refine wp_ret ?_
      exact L.ret hf (run_results1 Try.results7 (ResIs.tmp hf rfl)) ⟨y6, rfl, h, hs.nil⟩
    · replace h := h.2 hc
      refine S.skip hf rfl rfl rfl (fun a hf => ?_)
      refine S.val hf hs (v := .bool false) rfl rfl rfl (V.pure rfl) (fun a hf => ?_)
      refine S.val hf hs (v := .bool false) rfl rfl rfl (V.pure rfl) (fun a hf => ?_)
      refine R.nil ?_
      refine X.then_ ?_
      refine wp_ret ?_
      exact L.ret hf (run_results1 Try.results7 (ResIs.tmp hf rfl)) ⟨false, rfl, h, hs.nil⟩
  · replace h := h.2 hc
    refine S.skip hf rfl rfl rfl (fun a hf => ?_)
    refine S.skip hf rfl rfl rfl (fun a hf => ?_)
    refine S.skip hf rfl rfl rfl (fun a hf => ?_)
    refine S.val hf hs (v := .bool false) rfl rfl rfl (V.pure rfl) (fun a hf => ?_)
    refine S.val hf hs (v := .bool false) rfl rfl rfl (V.pure rfl) (fun a hf => ?_)
    refine S.skip hf rfl rfl rfl (fun a hf => ?_)
    refine S.val hf hs (v := .bool false) rfl rfl rfl (V.pure rfl) (fun a hf => ?_)
    refine S.val hf hs (v := .bool false) rfl rfl rfl (V.pure rfl) (fun a hf => ?_)
    refine R.nil ?_
    refine X.then_ ?_
    refine wp_ret ?_
    exact L.ret hf (run_results1 Try.results7 (ResIs.tmp hf rfl)) ⟨false, rfl, h, hs.nil⟩

end Go.Proofs.Ytmopdabkfklefaa
