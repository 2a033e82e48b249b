/- Chapter 10: Johnson's order: the walks. -/
import Derived.Test.YtcmlcgjjkccaeaaMountE
import Derived.Test.YtcmlcgjjkccaeaaRaw
namespace Go.Proofs.Ytcmlcgjjkccaeaa
open Go Go.RowKit
set_option linter.unusedVariables false

/-- slices.Insert, at least one is put in -/
def M_insert_int (s_ : (List Int)) (i : Int) (v_ : (List Int)) (Q : (List Int) → (List Int) → Prop) : Prop :=
  must (0 ≤ i ∧ i ≤ (s_.length : Int) ∧ v_ ≠ [] ∧ room (s_.length + v_.length) 8) (Q (s_.take i.toNat ++ v_ ++ s_.drop i.toNat) v_)
set_option maxHeartbeats 1000000 in
theorem R_insert_int (s_ : (List Int)) (i : Int) (v_ : (List Int)) (w0 : World) (F0 : Nat → Prop) (s_A : Option Addr) (s_C : Nat) (v_A : Option Addr) (v_C : Nat) (hs0 : Sat w0 F0 [hown 3 s_A s_C s_, hown 3 v_A v_C v_] w0) (Q : (List Int) → (List Int) → Prop) (h : M_insert_int s_ i v_ Q) :
    Ret Try.prog 34 #[.slice s_A s_.length s_C, .int .i64 i, .slice v_A v_.length v_C] w0 fun v w' => ∃ (r0 : (List Int)) (r0A : Option Addr) (r0C : Nat) (v_1 : (List Int)) (hl_v_1 : v_1.length = v_.length), v = .slice r0A r0.length r0C ∧ Q r0 v_1 ∧ Sat w0 F0 [hown 3 r0A r0C r0, hown 3 v_A v_C v_1] w' := by
  obtain ⟨⟨h0, h1, hvne, hroom⟩, hq⟩ := h
  obtain ⟨k, rfl⟩ : ∃ k : Nat, i = (k : Int) := ⟨i.toNat, by omega⟩
  have hkn : k ≤ s_.length := by omega
  rw [Int.toNat_natCast] at hq
  have hm0 : 0 < v_.length := List.length_pos_iff.2 hvne
  have hszE : ∀ w, (Go.sizeOf 3).run Try.prog w = .ok (Flat.sz Int) w := Try.sizeOf3
  have hbig : s_.length + v_.length ≤ 9223372036854775807 := hroom.1
  refine fn_enter Try.func34 rfl Try.ntmps34 rfl (fs := [(0, .slice s_A s_.length s_C), (1, .int .i64 (k : Int)), (2, .slice v_A v_.length v_C)]) rfl (fun a hf => ?_)
  have hs := hs0
  refine wp_seq ?_
  refine R.list ?_
  refine S.val hf hs (v := .slice none 0 0) rfl rfl rfl (V.pure rfl) (fun a hf => ?_)
  refine R.nil ?_
  refine X.then_ ?_
  refine wp_seq ?_
  refine R.list ?_
  refine S.val hf hs (v := .slice s_A s_.length s_C) rfl rfl rfl (V.pure rfl) (fun a hf => ?_)
  refine S.val hf hs (v := .int .i64 (k : Int)) rfl rfl rfl (V.pure rfl) (fun a hf => ?_)
  have hp1 : 0 ≤ (k : Int) ∧ (k : Int) ≤ (s_.length : Int) ∧ (s_.length : Int) ≤ (s_.length : Int) := ⟨Int.natCast_nonneg _, by omega, Int.le_refl _⟩
  refine S.val hf hs (v := .slice (segA s_A s_C (k : Int).toNat 1) (s_.length - k) (s_C - (k : Int).toNat)) rfl rfl rfl (V.slice (L := (k : Int)) (H := (s_.length : Int)) rfl rfl rfl rfl Try.runUnderlying22 Try.sizeOf3 rfl rfl hp1 (hs.ownView 0 rfl).cap (by simp)) (fun a hf => ?_)
  refine R.nil ?_
  refine X.then_ ?_
  refine wp_seq ?_
  refine R.list ?_
  refine S.val hf hs (v := .slice v_A v_.length v_C) rfl rfl rfl (V.pure rfl) (fun a hf => ?_)
  refine S.val hf hs (v := .int .i64 (v_.length : Int)) rfl rfl rfl (V.len rfl rfl Try.runUnderlying22) (fun a hf => ?_)
  refine S.val hf hs (v := .int .i64 (v_.length : Int)) rfl rfl rfl (V.pure rfl) (fun a hf => ?_)
  refine R.nil ?_
  refine X.then_ ?_
  refine wp_seq ?_
  refine wp_seq ?_
  refine R.list ?_
  refine S.val hf hs (v := .int .i64 (v_.length : Int)) rfl rfl rfl (V.pure rfl) (fun a hf => ?_)
  refine S.val hf hs (v := .bool ((v_.length : Int) == 0)) rfl rfl rfl (V.pure rfl) (fun a hf => ?_)
  refine R.nil ?_
  refine X.then_ ?_
  refine C.cond hf (b := ((v_.length : Int) == 0)) rfl (fun hc => ?_) (fun hc => ?_)
  · exfalso; simp at hc; exact hvne hc
  refine wp_skip ?_
  refine X.then_ ?_
  refine wp_seq ?_
  refine R.list ?_
  refine S.val hf hs (v := .slice s_A s_.length s_C) rfl rfl rfl (V.pure rfl) (fun a hf => ?_)
  refine S.val hf hs (v := .int .i64 (s_.length : Int)) rfl rfl rfl (V.len rfl rfl Try.runUnderlying22) (fun a hf => ?_)
  refine S.val hf hs (v := .int .i64 (s_.length : Int)) rfl rfl rfl (V.pure rfl) (fun a hf => ?_)
  refine R.nil ?_
  refine X.then_ ?_
  refine wp_seq ?_
  refine wp_seq ?_
  refine R.list ?_
  refine S.val hf hs (v := .int .i64 (k : Int)) rfl rfl rfl (V.pure rfl) (fun a hf => ?_)
  refine S.val hf hs (v := .int .i64 (s_.length : Int)) rfl rfl rfl (V.pure rfl) (fun a hf => ?_)
  refine S.val hf hs (v := .bool ((k : Int) == (s_.length : Int))) rfl rfl rfl (V.pure rfl) (fun a hf => ?_)
  refine R.nil ?_
  refine X.then_ ?_
  refine C.cond hf (b := ((k : Int) == (s_.length : Int))) rfl (fun hi => ?_) (fun hi => ?_)
  · have hkn' : k = s_.length := by simp at hi; omega
    refine wp_seq ?_
    refine R.list ?_
    refine S.val hf hs (v := .slice s_A s_.length s_C) rfl rfl rfl (V.pure rfl) (fun a hf => ?_)
    refine S.val hf hs (v := .slice v_A v_.length v_C) rfl rfl rfl (V.pure rfl) (fun a hf => ?_)
    refine S.appendAny 0 hf hs rfl rfl rfl rfl rfl rfl rfl Try.underlying22 info3 rfl (by rw [List.length_append]; exact hroom) (hs.ownView 1 rfl) (fun A1 C1 a w hf hs => ?_)
    refine S.val hf hs (v := .slice A1 (s_ ++ v_).length C1) rfl rfl rfl (V.pure rfl) (fun a hf => ?_)
    refine R.nil ?_
    refine X.then_ ?_
    refine wp_ret ?_
    refine X.then_ret ?_
    have hq' : Q (s_ ++ v_) v_ := by subst hkn'; simpa using hq
    exact L.ret hf (run_results1 Try.results34 (ResIs.tmp hf rfl)) ⟨s_ ++ v_, A1, C1, v_, rfl, rfl, hq', hs⟩
  refine wp_skip ?_
  refine X.then_ ?_
  have hlt : k < s_.length := by simp at hi; omega
  obtain ⟨g1, cs1, hsA, hCl, hCm, hcl, hct, hsr⟩ := hs.toRaw 0 rfl (Nat.lt_of_le_of_lt (Nat.zero_le _) hlt)
  subst hsA
  refine wp_seq ?_
  refine wp_seq ?_
  refine R.list ?_
  refine S.val hf hs (v := .int .i64 (s_.length : Int)) rfl rfl rfl (V.pure rfl) (fun a hf => ?_)
  refine S.val hf hs (v := .int .i64 (v_.length : Int)) rfl rfl rfl (V.pure rfl) (fun a hf => ?_)
  refine S.val hf hs (v := .int .i64 ((s_.length + v_.length : Nat) : Int)) rfl rfl rfl (V.addNat rfl rfl rfl rfl hbig) (fun a hf => ?_)
  refine S.val hf hs (v := .slice (some ⟨g1, 0, none⟩) s_.length s_C) rfl rfl rfl (V.pure rfl) (fun a hf => ?_)
  refine S.val hf hs (v := .int .i64 (s_C : Int)) rfl rfl rfl (V.cap rfl rfl Try.runUnderlying22) (fun a hf => ?_)
  refine S.val hf hs (v := .bool (decide (((s_.length + v_.length : Nat) : Int) > (s_C : Int)))) rfl rfl rfl (V.pure rfl) (fun a hf => ?_)
  refine R.nil ?_
  refine X.then_ ?_
  refine C.cond hf (b := decide (((s_.length + v_.length : Nat) : Int) > (s_C : Int))) rfl (fun hc2 => ?_) (fun hc2 => ?_)
  · have hgr : s_C < s_.length + v_.length := by simp at hc2; omega
    have hkc : k + (s_.length + v_.length - k) = s_.length + v_.length := by omega
    refine wp_seq ?_
    refine R.list ?_
    refine S.val hf hs (v := .slice (some ⟨g1, 0, none⟩) s_.length s_C) rfl rfl rfl (V.pure rfl) (fun a hf => ?_)
    refine S.val hf hs (v := .int .i64 (k : Int)) rfl rfl rfl (V.pure rfl) (fun a hf => ?_)
    refine S.val hf hs (v := .slice (some ⟨g1, 0, none⟩) k s_C) rfl rfl rfl (V.sliceCap rfl rfl rfl Try.runUnderlying22 Try.sizeOf3 (by omega)) (fun a hf => ?_)
    refine S.val hf hs (v := .int .i64 (s_.length : Int)) rfl rfl rfl (V.pure rfl) (fun a hf => ?_)
    refine S.val hf hs (v := .int .i64 (v_.length : Int)) rfl rfl rfl (V.pure rfl) (fun a hf => ?_)
    refine S.val hf hs (v := .int .i64 ((s_.length + v_.length : Nat) : Int)) rfl rfl rfl (V.addNat rfl rfl rfl rfl hbig) (fun a hf => ?_)
    refine S.val hf hs (v := .int .i64 (k : Int)) rfl rfl rfl (V.pure rfl) (fun a hf => ?_)
    refine S.val hf hs (v := .int .i64 (((s_.length + v_.length - k) : Nat) : Int)) rfl rfl rfl (V.subNat rfl rfl rfl hkc hbig) (fun a hf => ?_)
    refine S.growRaw 0 (α := Int) hf hs rfl rfl rfl rfl rfl hkn rfl rfl Try.underlying22 Try.underlying3 info3 rfl (by omega) (by omega) (by rw [hkc]; exact hroom) (fun g cs C' a w hf i1 i2 i3 i4 hs => ?_)
    rw [hkc] at hf i2
    refine S.val hf hs (v := .slice (some ⟨g, 0, none⟩) (s_.length + v_.length) C') rfl rfl rfl (V.pure rfl) (fun a hf => ?_)
    refine R.nil ?_
    refine X.then_ ?_
    refine wp_seq ?_
    refine R.list ?_
    refine S.val hf hs (v := .slice (some ⟨g, 0, none⟩) (s_.length + v_.length) C') rfl rfl rfl (V.pure rfl) (fun a hf => ?_)
    refine S.val hf hs (v := .int .i64 (k : Int)) rfl rfl rfl (V.pure rfl) (fun a hf => ?_)
    refine S.val hf hs (v := .slice (some ⟨g, 0 + k * 1, none⟩) (s_.length + v_.length - k) (C' - k)) rfl rfl rfl (V.sliceFrom rfl rfl rfl Try.runUnderlying22 Try.sizeOf3 (by omega) i2 (by omega)) (fun a hf => ?_)
    refine S.val hf hs (v := .slice v_A v_.length v_C) rfl rfl rfl (V.pure rfl) (fun a hf => ?_)
    have hfit1 : 0 + k * 1 + v_.length * Flat.sz Int ≤ cs.length := by rw [i1]; show 0 + k * Flat.sz Int + _ ≤ _; rw [Nat.zero_add, ← Nat.add_mul]; exact Nat.mul_le_mul_right _ (by omega)
    refine S.copyRaw 0 hf hs rfl rfl rfl rfl rfl rfl rfl Try.underlying22 hszE v_ (hs.ownSome 2 rfl hm0) (hs.ownView 2 rfl) (by omega) hfit1 (fun a w hf hs => ?_)
    refine R.nil ?_
    refine X.then_ ?_
    refine wp_seq ?_
    refine H.start (S := Sat w0 F0 [hown 3 (some ⟨g1, 0, none⟩) s_C s_, hown 3 v_A v_C v_]) mo ?_
    replace hs := hs.drew
    refine H.val hf (hs.mask [false, true, true]) (v := .slice (some ⟨g, 0, none⟩) (s_.length + v_.length) C') (i := 0) rfl rfl rfl rfl (by kernel_rfl) (by kernel_rfl) (by kernel_rfl) (V.pure rfl) (fun a hf => ?_)
    refine H.val hf (hs.mask [false, true, true]) (v := .int .i64 (k : Int)) (i := 1) rfl rfl rfl rfl (by kernel_rfl) (by kernel_rfl) (by kernel_rfl) (V.pure rfl) (fun a hf => ?_)
    refine H.val hf (hs.mask [false, true, true]) (v := .int .i64 (v_.length : Int)) (i := 2) rfl rfl rfl rfl (by kernel_rfl) (by kernel_rfl) (by kernel_rfl) (V.pure rfl) (fun a hf => ?_)
    refine H.val hf (hs.mask [false, true, true]) (v := .int .i64 ((k + v_.length : Nat) : Int)) (i := 3) rfl rfl rfl rfl (by kernel_rfl) (by kernel_rfl) (by kernel_rfl) (V.addNat rfl rfl rfl rfl (by omega)) (fun a hf => ?_)
    refine H.val hf (hs.mask [false, true, true]) (v := .slice (some ⟨g, 0 + (k + v_.length) * 1, none⟩) (s_.length + v_.length - (k + v_.length)) (C' - (k + v_.length))) (i := 4) rfl rfl rfl rfl (by kernel_rfl) (by kernel_rfl) (by kernel_rfl) (V.sliceFrom rfl rfl rfl Try.runUnderlying22 Try.sizeOf3 (by omega) i2 (by omega)) (fun a hf => ?_)
    refine H.val hf (hs.mask [false, true, true]) (v := .slice (some ⟨g1, 0, none⟩) s_.length s_C) (i := 5) rfl rfl rfl rfl (by kernel_rfl) (by kernel_rfl) (by kernel_rfl) (V.pure rfl) (fun a hf => ?_)
    refine H.val hf (hs.mask [false, true, true]) (v := .int .i64 (k : Int)) (i := 6) rfl rfl rfl rfl (by kernel_rfl) (by kernel_rfl) (by kernel_rfl) (V.pure rfl) (fun a hf => ?_)
    refine H.val hf (hs.mask [false, true, true]) (v := .slice (some ⟨g1, 0 + k * 1, none⟩) (s_.length - k) (s_C - k)) (i := 7) rfl rfl rfl rfl (by kernel_rfl) (by kernel_rfl) (by kernel_rfl) (V.sliceFrom rfl rfl rfl Try.runUnderlying22 Try.sizeOf3 (by omega) hCl (by omega)) (fun a hf => ?_)
    refine H.one (i := 8) rfl (by kernel_rfl) ?_
    have hlc1 : (cs.take (0 + k * 1) ++ v_.flatMap Flat.enc ++ cs.drop (0 + k * 1 + v_.length * Flat.sz Int)).length = C' * Flat.sz Int := by rw [← i1]; simp only [List.length_append, List.length_take, List.length_drop, length_flatMap_enc]; omega
    have hfit2 : 0 + (k + v_.length) * 1 + (s_.drop k).length * Flat.sz Int ≤ (cs.take (0 + k * 1) ++ v_.flatMap Flat.enc ++ cs.drop (0 + k * 1 + v_.length * Flat.sz Int)).length := by rw [hlc1]; show 0 + (k + v_.length) * Flat.sz Int + _ ≤ _; rw [Nat.zero_add, ← Nat.add_mul, List.length_drop]; exact Nat.mul_le_mul_right _ (by omega)
    refine S.copyRaw 0 hf hs rfl rfl rfl rfl rfl rfl rfl Try.underlying22 hszE (s_.drop k) rfl (View.from_ (hs.ownView 1 rfl) hkn) (by rw [List.length_drop]; omega) hfit2 (fun a w hf hs => ?_)
    refine R.nil ?_
    refine X.then_ ?_
    refine ⟨(hs.mask [false, true, true]), ?_⟩
    refine H.done (by kernel_rfl) ?_
    refine X.then_ ?_
    refine wp_seq ?_
    refine R.list ?_
    refine S.val hf hs (v := .slice (some ⟨g, 0, none⟩) (s_.length + v_.length) C') rfl rfl rfl (V.pure rfl) (fun a hf => ?_)
    refine S.val hf hs (v := .slice (some ⟨g, 0, none⟩) (s_.length + v_.length) C') rfl rfl rfl (V.pure rfl) (fun a hf => ?_)
    refine R.nil ?_
    refine X.then_ ?_
    refine wp_ret ?_
    refine X.then_ret ?_
    have hs2 := hs.ofRaw 0 rfl (C := C') (s_.take k ++ v_ ++ s_.drop k) (by rw [← hlc1, List.length_append, List.length_append, List.length_take, List.length_drop, length_flatMap_enc]; omega) (by simp only [List.length_append, List.length_take, List.length_drop]; omega) i3 (insert_cells hkn hfit1 hfit2 i4)
    have hlen : (s_.take k ++ v_ ++ s_.drop k).length = s_.length + v_.length := by simp only [List.length_append, List.length_take, List.length_drop]; omega
    exact L.ret hf (run_results1 Try.results34 (ResIs.tmp hf rfl)) ⟨s_.take k ++ v_ ++ s_.drop k, some ⟨g, 0, none⟩, C', v_, rfl, by rw [hlen], hq, hs2.mask [true, false, true]⟩
  refine wp_skip ?_
  refine X.then_ ?_
  have hrm : s_.length + v_.length ≤ s_C := by simp at hc2; omega
  refine wp_seq ?_
  refine R.list ?_
  refine S.val hf hs (v := .slice (some ⟨g1, 0, none⟩) s_.length s_C) rfl rfl rfl (V.pure rfl) (fun a hf => ?_)
  refine S.val hf hs (v := .int .i64 (s_.length : Int)) rfl rfl rfl (V.pure rfl) (fun a hf => ?_)
  refine S.val hf hs (v := .int .i64 (v_.length : Int)) rfl rfl rfl (V.pure rfl) (fun a hf => ?_)
  refine S.val hf hs (v := .int .i64 ((s_.length + v_.length : Nat) : Int)) rfl rfl rfl (V.addNat rfl rfl rfl rfl hbig) (fun a hf => ?_)
  refine S.val hf hs (v := .slice (some ⟨g1, 0, none⟩) (s_.length + v_.length) s_C) rfl rfl rfl (V.sliceCap rfl rfl rfl Try.runUnderlying22 Try.sizeOf3 hrm) (fun a hf => ?_)
  refine S.val hf hs (v := .slice (some ⟨g1, 0, none⟩) (s_.length + v_.length) s_C) rfl rfl rfl (V.pure rfl) (fun a hf => ?_)
  refine R.nil ?_
  refine X.then_ ?_
  replace hs := hs.toRaw 0 rfl (Nat.lt_of_le_of_lt (Nat.zero_le _) hlt)
  clear hcl hct hsr
  obtain ⟨g2, cs, hsA, _, _, i1, i4, hs⟩ := hs
  injection hsA with hsA; injection hsA with hsA; subst hsA
  refine wp_seq ?_
  refine wp_seq ?_
  refine R.list ?_
  refine S.val hf hs (v := .slice v_A v_.length v_C) rfl rfl rfl (V.pure rfl) (fun a hf => ?_)
  refine S.val hf hs (v := .slice (some ⟨g1, 0, none⟩) (s_.length + v_.length) s_C) rfl rfl rfl (V.pure rfl) (fun a hf => ?_)
  refine S.val hf hs (v := .int .i64 (k : Int)) rfl rfl rfl (V.pure rfl) (fun a hf => ?_)
  refine S.val hf hs (v := .int .i64 (v_.length : Int)) rfl rfl rfl (V.pure rfl) (fun a hf => ?_)
  refine S.val hf hs (v := .int .i64 ((k + v_.length : Nat) : Int)) rfl rfl rfl (V.addNat rfl rfl rfl rfl (by omega)) (fun a hf => ?_)
  refine S.val hf hs (v := .slice (some ⟨g1, 0 + (k + v_.length) * 1, none⟩) (s_.length + v_.length - (k + v_.length)) (s_C - (k + v_.length))) rfl rfl rfl (V.sliceFrom rfl rfl rfl Try.runUnderlying22 Try.sizeOf3 (by omega) hrm (by omega)) (fun a hf => ?_)
  have hcs0 : 0 < cs.length := by rw [i1]; exact Nat.mul_pos (by omega) Flat.pos
  refine S.val hf hs (v := .bool false) rfl rfl rfl (V.externS Try.func37 (by kernel_rfl) (by kernel_rfl) (by kernel_rfl) (by kernel_rfl) rfl rfl rfl (fun w hs => overlaps_no (B := 4) hs Try.underlying22 hszE hm0 hcs0)) (fun a hf => ?_)
  refine S.val hf hs (v := .bool true) rfl rfl rfl (V.pure rfl) (fun a hf => ?_)
  refine R.nil ?_
  refine X.then_ ?_
  refine C.yes hf rfl ?_
  refine wp_seq ?_
  refine H.start (S := Sat w0 F0 [hown 3 v_A v_C v_]) mo ?_
  replace hs := hs.drew
  refine H.val hf (hs.mask [false, true]) (v := .slice (some ⟨g1, 0, none⟩) (s_.length + v_.length) s_C) (i := 0) rfl rfl rfl rfl (by kernel_rfl) (by kernel_rfl) (by kernel_rfl) (V.pure rfl) (fun a hf => ?_)
  refine H.val hf (hs.mask [false, true]) (v := .int .i64 (k : Int)) (i := 1) rfl rfl rfl rfl (by kernel_rfl) (by kernel_rfl) (by kernel_rfl) (V.pure rfl) (fun a hf => ?_)
  refine H.val hf (hs.mask [false, true]) (v := .int .i64 (v_.length : Int)) (i := 2) rfl rfl rfl rfl (by kernel_rfl) (by kernel_rfl) (by kernel_rfl) (V.pure rfl) (fun a hf => ?_)
  refine H.val hf (hs.mask [false, true]) (v := .int .i64 ((k + v_.length : Nat) : Int)) (i := 3) rfl rfl rfl rfl (by kernel_rfl) (by kernel_rfl) (by kernel_rfl) (V.addNat rfl rfl rfl rfl (by omega)) (fun a hf => ?_)
  refine H.val hf (hs.mask [false, true]) (v := .slice (some ⟨g1, 0 + (k + v_.length) * 1, none⟩) (s_.length + v_.length - (k + v_.length)) (s_C - (k + v_.length))) (i := 4) rfl rfl rfl rfl (by kernel_rfl) (by kernel_rfl) (by kernel_rfl) (V.sliceFrom rfl rfl rfl Try.runUnderlying22 Try.sizeOf3 (by omega) hrm (by omega)) (fun a hf => ?_)
  refine H.val hf (hs.mask [false, true]) (v := .slice (some ⟨g1, 0, none⟩) (s_.length + v_.length) s_C) (i := 5) rfl rfl rfl rfl (by kernel_rfl) (by kernel_rfl) (by kernel_rfl) (V.pure rfl) (fun a hf => ?_)
  refine H.val hf (hs.mask [false, true]) (v := .int .i64 (k : Int)) (i := 6) rfl rfl rfl rfl (by kernel_rfl) (by kernel_rfl) (by kernel_rfl) (V.pure rfl) (fun a hf => ?_)
  refine H.val hf (hs.mask [false, true]) (v := .slice (some ⟨g1, 0 + k * 1, none⟩) (s_.length + v_.length - k) (s_C - k)) (i := 7) rfl rfl rfl rfl (by kernel_rfl) (by kernel_rfl) (by kernel_rfl) (V.sliceFrom rfl rfl rfl Try.runUnderlying22 Try.sizeOf3 (by omega) hrm (by omega)) (fun a hf => ?_)
  refine H.one (i := 8) rfl (by kernel_rfl) ?_
  have hfit1 : 0 + (k + v_.length) * 1 + (s_.drop k).length * Flat.sz Int ≤ cs.length := by rw [i1]; show 0 + (k + v_.length) * Flat.sz Int + _ ≤ _; rw [Nat.zero_add, ← Nat.add_mul, List.length_drop]; exact Nat.mul_le_mul_right _ (by omega)
  refine S.copyRaw 0 hf hs rfl rfl rfl rfl rfl rfl rfl Try.underlying22 hszE (s_.drop k) rfl (hs.rawView 0 rfl (0 + k * 1) (s_C - k) (s_.drop k) (shift_src hkn i4) (by rw [List.length_drop]; omega) (by omega)) (by rw [List.length_drop]; omega) hfit1 (fun a w hf hs => ?_)
  refine R.nil ?_
  refine X.then_ ?_
  refine ⟨(hs.mask [false, true]), ?_⟩
  refine H.done (by kernel_rfl) ?_
  refine X.then_ ?_
  have hlc1 : (cs.take (0 + (k + v_.length) * 1) ++ (s_.drop k).flatMap Flat.enc ++ cs.drop (0 + (k + v_.length) * 1 + (s_.drop k).length * Flat.sz Int)).length = s_C * Flat.sz Int := by rw [← i1]; simp only [List.length_append, List.length_take, List.length_drop, length_flatMap_enc] at hfit1 ⊢; omega
  refine wp_seq ?_
  refine R.list ?_
  refine S.val hf hs (v := .slice (some ⟨g1, 0, none⟩) (s_.length + v_.length) s_C) rfl rfl rfl (V.pure rfl) (fun a hf => ?_)
  refine S.val hf hs (v := .int .i64 (k : Int)) rfl rfl rfl (V.pure rfl) (fun a hf => ?_)
  refine S.val hf hs (v := .slice (some ⟨g1, 0 + k * 1, none⟩) (s_.length + v_.length - k) (s_C - k)) rfl rfl rfl (V.sliceFrom rfl rfl rfl Try.runUnderlying22 Try.sizeOf3 (by omega) hrm (by omega)) (fun a hf => ?_)
  refine S.val hf hs (v := .slice v_A v_.length v_C) rfl rfl rfl (V.pure rfl) (fun a hf => ?_)
  have hfit2 : 0 + k * 1 + v_.length * Flat.sz Int ≤ (cs.take (0 + (k + v_.length) * 1) ++ (s_.drop k).flatMap Flat.enc ++ cs.drop (0 + (k + v_.length) * 1 + (s_.drop k).length * Flat.sz Int)).length := by rw [hlc1]; show 0 + k * Flat.sz Int + _ ≤ _; rw [Nat.zero_add, ← Nat.add_mul]; exact Nat.mul_le_mul_right _ (by omega)
  refine S.copyRaw 0 hf hs rfl rfl rfl rfl rfl rfl rfl Try.underlying22 hszE v_ (hs.ownSome 1 rfl hm0) (hs.ownView 1 rfl) (by omega) hfit2 (fun a w hf hs => ?_)
  refine R.nil ?_
  refine X.then_ ?_
  refine wp_seq ?_
  refine R.list ?_
  refine S.val hf hs (v := .slice (some ⟨g1, 0, none⟩) (s_.length + v_.length) s_C) rfl rfl rfl (V.pure rfl) (fun a hf => ?_)
  refine S.val hf hs (v := .slice (some ⟨g1, 0, none⟩) (s_.length + v_.length) s_C) rfl rfl rfl (V.pure rfl) (fun a hf => ?_)
  refine R.nil ?_
  refine X.then_ ?_
  refine wp_ret ?_
  refine X.then_ret ?_
  have hs2 := hs.ofRaw 0 rfl (C := s_C) (s_.take k ++ v_ ++ s_.drop k) (by have h9 := hfit2; rw [← hlc1]; generalize (cs.take (0 + (k + v_.length) * 1) ++ (s_.drop k).flatMap Flat.enc ++ cs.drop (0 + (k + v_.length) * 1 + (s_.drop k).length * Flat.sz Int)) = D at h9 ⊢; rw [List.length_append, List.length_append, List.length_take, List.length_drop, length_flatMap_enc]; omega) (by simp only [List.length_append, List.length_take, List.length_drop]; omega) hCm (shift_cells hkn hfit1 hfit2 i4)
  have hlen : (s_.take k ++ v_ ++ s_.drop k).length = s_.length + v_.length := by simp only [List.length_append, List.length_take, List.length_drop]; omega
  exact L.ret hf (run_results1 Try.results34 (ResIs.tmp hf rfl)) ⟨s_.take k ++ v_ ++ s_.drop k, some ⟨g1, 0, none⟩, s_C, v_, rfl, by rw [hlen], hq, hs2⟩

set_option linter.unusedVariables false
def M_ref10_Johnson_k3 (k1 : Nat) (l3 : List Int) (l4 : List Int) (next1 : List Int → List Int → Prop) (n2 : Int) (again2 : Int → Prop) (c1 : Bool) : Prop :=
  cnd c1 (again2 (w64 (n2 - 1))) (M_insert_int l3 n2 [(k1 : Int)] fun y1 z1 => next1 y1 l4)
def M_ref10_Johnson_L2 (l : (List Batch)) (k1 : Nat) (xk1 : Batch) (l3 : List Int) (l4 : List Int) (next1 : List Int → List Int → Prop) (again2 : Int → Prop) (n2 : Int) : Prop :=
  cnd (decide (n2 > 0)) (idx l3 (w64 (n2 - 1)) fun x1 => idx l x1 fun x2 => M_ref10_Johnson_k3 k1 l3 l4 next1 n2 again2 (decide (xk1.A < x2.A))) (M_ref10_Johnson_k3 k1 l3 l4 next1 n2 again2 false)
def M_ref10_Johnson_k5 (k1 : Nat) (l3 : List Int) (l4 : List Int) (next1 : List Int → List Int → Prop) (n4 : Int) (again3 : Int → Prop) (c2 : Bool) : Prop :=
  cnd c2 (again3 (w64 (n4 - 1))) (M_insert_int l4 n4 [(k1 : Int)] fun y2 z2 => next1 l3 y2)
def M_ref10_Johnson_L3 (l : (List Batch)) (k1 : Nat) (xk1 : Batch) (l3 : List Int) (l4 : List Int) (next1 : List Int → List Int → Prop) (again3 : Int → Prop) (n4 : Int) : Prop :=
  cnd (decide (n4 > 0)) (idx l4 (w64 (n4 - 1)) fun x3 => idx l x3 fun x4 => M_ref10_Johnson_k5 k1 l3 l4 next1 n4 again3 (decide (xk1.B > x4.B))) (M_ref10_Johnson_k5 k1 l3 l4 next1 n4 again3 false)
def M_ref10_Johnson_L1 (l : (List Batch)) (k1 : Nat) (xk1 : Batch) (l3 : List Int) (l4 : List Int) (next1 : List Int → List Int → Prop) : Prop :=
  cnd (decide (xk1.A < xk1.B)) (lp (fun again (s : Int) => M_ref10_Johnson_L2 l k1 xk1 l3 l4 next1 (fun n2 => again n2) s) (l3.length : Int)) (lp (fun again (s : Int) => M_ref10_Johnson_L3 l k1 xk1 l3 l4 next1 (fun n4 => again n4) s) (l4.length : Int))
def M_ref10_Johnson (l : (List Batch)) (Q : (List Int) → Prop) : Prop :=
  forIn' (fun k x (s : List Int × List Int) next => M_ref10_Johnson_L1 l k x s.1 s.2 (fun l3 l4 => next (l3, l4))) (fun (s : List Int × List Int) => (fun (l3 : List Int) (l4 : List Int) => must (room (l3 ++ l4).length 8) (Q (l3 ++ l4))) s.1 s.2) l 0 (([] : List Int), (([] : List Int)))
set_option maxHeartbeats 1000000 in
theorem R_ref10_Johnson (l : (List Batch)) (w0 : World) (lA : Option Addr) (lC : Nat) (hv_l : View w0 (old w0 none_) lA lC l) (Q : (List Int) → Prop) (h : M_ref10_Johnson l Q) :
    Ret Try.prog 16 #[.slice lA l.length lC] w0 fun v w' => ∃ (r0 : (List Int)) (r0A : Option Addr) (r0C : Nat), v = .slice r0A r0.length r0C ∧ Q r0 ∧ Sat w0 none_ [hown 3 r0A r0C r0] w' := by
  refine fn_enter Try.func16 rfl Try.ntmps16 rfl (fs := [(0, .slice lA l.length lC)]) rfl (fun a hf => ?_)
  have hs := Sat.start w0 none_
  unfold M_ref10_Johnson at h
  refine wp_seq ?_
  refine R.list ?_
  refine S.val hf hs (v := .slice none 0 0) rfl rfl rfl (V.pure rfl) (fun a hf => ?_)
  refine R.nil ?_
  refine X.then_ ?_
  refine wp_seq ?_
  refine R.list ?_
  refine S.val hf hs (v := .slice none 0 0) rfl rfl rfl (V.pure rfl) (fun a hf => ?_)
  refine S.val hf hs (v := .slice none 0 0) rfl rfl rfl (V.pure rfl) (fun a hf => ?_)
  refine R.nil ?_
  refine X.then_ ?_
  refine wp_seq ?_
  refine wp_seq ?_
  refine R.list ?_
  refine S.val hf hs (v := .slice lA l.length lC) rfl rfl rfl (V.pure rfl) (fun a hf => ?_)
  refine S.val hf hs (v := .int .i64 (l.length : Int)) rfl rfl rfl (V.len rfl rfl Try.runUnderlying32) (fun a hf => ?_)
  refine S.val hf hs (v := .int .i64 0) rfl rfl rfl (V.pure rfl) (fun a hf => ?_)
  refine R.nil ?_
  refine X.then_ ?_
  refine wp_block ?_
  replace hs := hs.nilOwn (α := Int) 3
  replace hs := hs.nilOwn (α := Int) 3
  replace hs := hs.front 1 rfl
  have hlenk1 := hv_l.len64
  refine C.range (fun (ll : List Batch) a w => ∃ (k1 : Nat) (l3 : List Int) (l3A : Option Addr) (l3C : Nat) (l4 : List Int) (l4A : Option Addr) (l4C : Nat), l.drop k1 = ll ∧ k1 + ll.length = l.length ∧ forIn' (fun k x (s : List Int × List Int) next => M_ref10_Johnson_L1 l k x s.1 s.2 (fun l3 l4 => next (l3, l4))) (fun (s : List Int × List Int) => (fun (l3 : List Int) (l4 : List Int) => must (room (l3 ++ l4).length 8) (Q (l3 ++ l4))) s.1 s.2) ll k1 (l3, l4) ∧ FrOk 75 [(11, .int .i64 (k1 : Int)), (0, .slice lA l.length lC), (3, .slice l3A l3.length l3C), (4, .slice l4A l4.length l4C), (9, .slice lA l.length lC), (10, .int .i64 (l.length : Int))] a ∧ Sat w0 none_ [hown 3 l3A l3C l3, hown 3 l4A l4C l4] w) l ⟨0, ([] : List Int), none, 0, (([] : List Int)), none, 0, rfl, Nat.zero_add _, h, ((((((hf.nil.cons (hf.get 10 _ rfl)).cons (hf.get 9 _ rfl)).cons (hf.get 4 _ rfl)).cons (hf.get 3 _ rfl)).cons (hf.get 0 _ rfl)).cons (hf.get 11 _ rfl)), hs⟩ ?_
  clear h hf hs
  rintro llk1 a w ⟨k1, l3, l3A, l3C, l4, l4A, l4C, hlk1, hkk1, h, hf, hs⟩
  cases llk1 with
  | nil =>
    have hc := range_done hkk1
    replace h : (fun (l3 : List Int) (l4 : List Int) => must (room (l3 ++ l4).length 8) (Q (l3 ++ l4))) l3 l4 := h
    refine wp_seq ?_
    refine R.list ?_
    refine S.val hf hs (v := .bool false) rfl rfl rfl (V.cmp false rfl rfl rfl rfl hc) (fun a hf => ?_)
    refine R.nil ?_
    refine X.then_ ?_
    refine wp_seq ?_
    refine C.no hf rfl ?_
    refine wp_exit ?_
    refine X.then_exit ?_
    refine X.then_exit ?_
    refine X.blk_exit ?_
    refine X.then_ ?_
    refine wp_seq ?_
    refine R.list ?_
    refine S.val hf hs (v := .slice l3A l3.length l3C) rfl rfl rfl (V.pure rfl) (fun a hf => ?_)
    refine S.val hf hs (v := .slice l4A l4.length l4C) rfl rfl rfl (V.pure rfl) (fun a hf => ?_)
    obtain ⟨hroom, h⟩ := h
    refine S.appendAny 0 hf hs rfl rfl rfl rfl rfl rfl rfl Try.underlying22 info3 rfl hroom (hs.ownView 1 rfl) (fun A1 C1 a w hf hs => ?_)
    refine S.val hf hs (v := .slice A1 (l3 ++ l4).length C1) rfl rfl rfl (V.pure rfl) (fun a hf => ?_)
    refine R.nil ?_
    refine X.then_ ?_
    refine wp_ret ?_
    replace hs := hs.take 1
    exact L.ret hf (run_results1 Try.results16 (ResIs.tmp hf rfl)) ⟨(l3 ++ l4), A1, C1, rfl, h, hs⟩
  | cons xk1 llk1 =>
    have hltk1 := range_lt hkk1; have hc := range_go hkk1; have hxk1 := range_get hlk1
    obtain ⟨next1, hnext1⟩ : ∃ X : List Int → List Int → Prop, X = (fun l3 l4 => forIn' (fun k x (s : List Int × List Int) next => M_ref10_Johnson_L1 l k x s.1 s.2 (fun l3 l4 => next (l3, l4))) (fun (s : List Int × List Int) => (fun (l3 : List Int) (l4 : List Int) => must (room (l3 ++ l4).length 8) (Q (l3 ++ l4))) s.1 s.2) llk1 (k1 + 1) (l3, l4)) := ⟨_, rfl⟩
    replace h : M_ref10_Johnson_L1 l k1 xk1 l3 l4 next1 := by rw [hnext1]; exact h
    unfold M_ref10_Johnson_L1 at h
    refine wp_seq ?_
    refine R.list ?_
    refine S.val hf hs (v := .bool true) rfl rfl rfl (V.cmp true rfl rfl rfl rfl hc) (fun a hf => ?_)
    refine R.nil ?_
    refine X.then_ ?_
    refine wp_seq ?_
    refine C.yes hf rfl ?_
    refine wp_skip ?_
    refine X.then_ ?_
    refine wp_seq ?_
    refine wp_block ?_
    refine wp_seq ?_
    refine R.list ?_
    refine S.val hf hs (v := .int .i64 (k1 : Int)) rfl rfl rfl (V.pure rfl) (fun a hf => ?_)
    refine S.val hf hs (v := elemPtr lA (k1 * 3)) rfl rfl rfl (V.index rfl rfl rfl Try.runUnderlying32 Try.sizeOf54 (hv_l.some_ (lt_of_get hxk1)) (Int.natCast_nonneg _) (lt_of_get hxk1) rfl) (fun a hf => ?_)
    refine S.val hf hs (v := .agg #[.string (ba xk1.Name), .int .i64 xk1.A, .int .i64 xk1.B]) rfl rfl rfl (V.loadEl (off := 0) (Ag.args _ _ _) (hv_l.flat hxk1) rfl rfl rfl Try.isAgg54 Try.sizeOf54 rfl rfl) (fun a hf => ?_)
    refine S.alloc hf hs rfl rfl rfl [.string (ba []), .int .i64 0, .int .i64 0] rfl Try.zeroValue54 rfl (fun g1 a w hf hs => ?_)
    refine S.val hf hs (v := .int .i64 (k1 : Int)) rfl rfl rfl (V.pure rfl) (fun a hf => ?_)
    refine S.storeBox 0 hf hs rfl rfl [.string (ba xk1.Name), .int .i64 xk1.A, .int .i64 xk1.B] [.string (ba xk1.Name), .int .i64 xk1.A, .int .i64 xk1.B] rfl rfl rfl rfl rfl Try.sizeOf54 rfl rfl rfl rfl (fun a w hf hs => ?_)
    refine R.nil ?_
    refine X.then_ ?_
    refine wp_seq ?_
    refine R.list ?_
    refine S.val hf hs (v := .pointer (some ⟨g1, 1, none⟩)) rfl rfl rfl (V.fieldBox rfl rfl Try.runUnderlying54 rfl Try.sizeOf3 rfl rfl) (fun a hf => ?_)
    refine S.val hf hs (v := .int .i64 xk1.A) rfl rfl rfl (V.loadBox 0 rfl rfl rfl Try.isAgg3 Try.sizeOf3 rfl rfl) (fun a hf => ?_)
    refine S.val hf hs (v := .pointer (some ⟨g1, 2, none⟩)) rfl rfl rfl (V.fieldBox rfl rfl Try.runUnderlying54 rfl Try.sizeOf3 rfl rfl) (fun a hf => ?_)
    refine S.val hf hs (v := .int .i64 xk1.B) rfl rfl rfl (V.loadBox 0 rfl rfl rfl Try.isAgg3 Try.sizeOf3 rfl rfl) (fun a hf => ?_)
    refine S.val hf hs (v := .bool (decide (xk1.A < xk1.B))) rfl rfl rfl (V.pure rfl) (fun a hf => ?_)
    refine R.nil ?_
    refine X.then_ ?_
    refine C.cond hf (b := decide (xk1.A < xk1.B)) rfl (fun hc => ?_) (fun hc => ?_)
    · replace h := h.1 hc
      refine wp_seq ?_
      refine R.list ?_
      refine S.val hf hs (v := .slice l3A l3.length l3C) rfl rfl rfl (V.pure rfl) (fun a hf => ?_)
      refine S.val hf hs (v := .int .i64 (l3.length : Int)) rfl rfl rfl (V.len rfl rfl Try.runUnderlying22) (fun a hf => ?_)
      refine S.val hf hs (v := .int .i64 (l3.length : Int)) rfl rfl rfl (V.pure rfl) (fun a hf => ?_)
      refine R.nil ?_
      refine X.then_ ?_
      refine wp_seq ?_
      refine wp_block ?_
      obtain ⟨kk, h⟩ := h
      refine C.loop (fun kk a w => ∃ (n2 : Int), iterF (fun again (s : Int) => M_ref10_Johnson_L2 l k1 xk1 l3 l4 next1 (fun n2 => again n2) s) kk n2 ∧ FrOk 75 [(0, .slice lA l.length lC), (3, .slice l3A l3.length l3C), (4, .slice l4A l4.length l4C), (5, .int .i64 (k1 : Int)), (6, .pointer (some ⟨g1, 0, none⟩)), (7, .int .i64 n2), (9, .slice lA l.length lC), (10, .int .i64 (l.length : Int)), (11, .int .i64 (k1 : Int))] a ∧ Sat w0 none_ [hbox g1 54 [.string (ba xk1.Name), .int .i64 xk1.A, .int .i64 xk1.B], hown 3 l3A l3C l3, hown 3 l4A l4C l4] w) kk ⟨(l3.length : Int), h, (((((((((hf.nil.cons (hf.get 11 _ rfl)).cons (hf.get 10 _ rfl)).cons (hf.get 9 _ rfl)).cons (hf.get 7 _ rfl)).cons (hf.get 6 _ rfl)).cons (hf.get 5 _ rfl)).cons (hf.get 4 _ rfl)).cons (hf.get 3 _ rfl)).cons (hf.get 0 _ rfl)), hs⟩ (fun a w ⟨_, h, _, _⟩ => h) ?_
      clear h hf hs
      rintro kk a w ⟨n2, h, hf, hs⟩
      obtain ⟨again2, hagain2⟩ : ∃ X : Int → Prop, X = (fun n2 => iterF (fun again (s : Int) => M_ref10_Johnson_L2 l k1 xk1 l3 l4 next1 (fun n2 => again n2) s) kk n2) := ⟨_, rfl⟩
      replace h : M_ref10_Johnson_L2 l k1 xk1 l3 l4 next1 again2 n2 := by rw [hagain2]; exact h
      unfold M_ref10_Johnson_L2 at h
      refine wp_seq ?_
      refine wp_seq ?_
      refine C.cut (J := fun a w => ∃ (c1 : Bool), M_ref10_Johnson_k3 k1 l3 l4 next1 n2 again2 c1 ∧ FrOk 75 [(0, .slice lA l.length lC), (3, .slice l3A l3.length l3C), (4, .slice l4A l4.length l4C), (5, .int .i64 (k1 : Int)), (6, .pointer (some ⟨g1, 0, none⟩)), (7, .int .i64 n2), (9, .slice lA l.length lC), (10, .int .i64 (l.length : Int)), (11, .int .i64 (k1 : Int)), (38, .bool c1)] a ∧ Sat w0 none_ [hbox g1 54 [.string (ba xk1.Name), .int .i64 xk1.A, .int .i64 xk1.B], hown 3 l3A l3C l3, hown 3 l4A l4C l4] w) ?_ ?_
      · rintro a w ⟨c1, h, hf, hs⟩
        unfold M_ref10_Johnson_k3 at h
        refine C.cond hf (b := c1) rfl (fun hc => ?_) (fun hc => ?_)
        · replace h := h.1 hc
          refine wp_skip ?_
          refine X.then_ ?_
          refine wp_block ?_
          refine R.list ?_
          refine S.val hf hs (v := .int .i64 n2) rfl rfl rfl (V.pure rfl) (fun a hf => ?_)
          refine S.val hf hs (v := .int .i64 (w64 (n2 - 1))) rfl rfl rfl (V.pure rfl) (fun a hf => ?_)
          refine S.val hf hs (v := .int .i64 (w64 (n2 - 1))) rfl rfl rfl (V.pure rfl) (fun a hf => ?_)
          refine R.nil ?_
          refine X.blk ?_
          refine X.then_ ?_
          exact ⟨(w64 (n2 - 1)), (by rw [hagain2] at h; exact h), (((((((((hf.nil.cons (hf.get 11 _ rfl)).cons (hf.get 10 _ rfl)).cons (hf.get 9 _ rfl)).cons (hf.get 7 _ rfl)).cons (hf.get 6 _ rfl)).cons (hf.get 5 _ rfl)).cons (hf.get 4 _ rfl)).cons (hf.get 3 _ rfl)).cons (hf.get 0 _ rfl)), hs⟩
        · replace h := h.2 hc
          refine wp_exit ?_
          refine X.then_exit ?_
          refine X.then_exit ?_
          refine X.blk_exit ?_
          refine X.then_ ?_
          refine R.list ?_
          refine S.val hf hs (v := .slice l3A l3.length l3C) rfl rfl rfl (V.pure rfl) (fun a hf => ?_)
          refine S.val hf hs (v := .int .i64 n2) rfl rfl rfl (V.pure rfl) (fun a hf => ?_)
          refine S.val hf hs (v := .int .i64 (k1 : Int)) rfl rfl rfl (V.pure rfl) (fun a hf => ?_)
          refine S.build1 hf hs rfl rfl rfl (α := Int) (k1 : Int) rfl rfl rfl Try.runUnderlying22 Try.sizeOf3 Try.zeroValue3 rfl (by decide) (fun A2 a w hf hs => ?_)
          replace hs := hs.front 2 rfl
          obtain ⟨F1, hsF, hback, hold, hrest⟩ := Sat.callOwns [hown 3 l3A l3C l3, hown 3 A2 1 [(k1 : Int)]] (σ := [hbox g1 54 [.string (ba xk1.Name), .int .i64 xk1.A, .int .i64 xk1.B], hown 3 l4A l4C l4]) hs
          refine S.call hf rfl rfl rfl (call_fn (vs := [.slice l3A l3.length l3C, .int .i64 n2, .slice A2 [(k1 : Int)].length 1]) rfl rfl rfl Try.call34) (R_insert_int l3 n2 [(k1 : Int)] _ _ l3A l3C A2 1 hsF _ h) (fun v a w' hf hr => ?_)
          obtain ⟨y1, y1A, y1C, z1, hl_z1, rfl, h2, hs2⟩ := hr
          replace h := h2; replace hs := hback _ _ hs2; clear h2 hs2 hback hold hrest hsF
          replace hf := hf.tell 44 (v := .slice A2 z1.length 1) ((hf.get 44 (.slice A2 [(k1 : Int)].length 1) rfl).trans (congrArg (fun n => Value.slice A2 n 1) hl_z1.symm))
          refine S.val hf hs (v := .slice y1A y1.length y1C) rfl rfl rfl (V.pure rfl) (fun a hf => ?_)
          refine R.nil ?_
          refine X.blk ?_
          refine X.then_ ?_
          refine R.list ?_
          refine S.val hf hs (v := .int .i64 ((k1 + 1 : Nat) : Int)) rfl rfl rfl (V.incr rfl rfl rfl hltk1 hlenk1) (fun a hf => ?_)
          refine S.val hf hs (v := .int .i64 ((k1 + 1 : Nat) : Int)) rfl rfl rfl (V.pure rfl) (fun a hf => ?_)
          refine R.nil ?_
          refine X.then_ ?_
          replace hs := hs.front 3 rfl
          replace hs := hs.front 1 rfl
          replace hs := hs.take 2
          exact ⟨xk1, llk1, rfl, k1 + 1, y1, y1A, y1C, l4, l4A, l4C, range_drop hlk1, range_len hkk1, (by rw [hnext1] at h; exact h), ((((((hf.nil.cons (hf.get 10 _ rfl)).cons (hf.get 9 _ rfl)).cons (hf.get 4 _ rfl)).cons (hf.get 3 _ rfl)).cons (hf.get 0 _ rfl)).cons (hf.get 11 _ rfl)), hs⟩
      · skip
        refine R.draw mo (by kernel_rfl) hs ?_
        refine D.val hf (v := .int .i64 n2) rfl rfl rfl (V.pure rfl) (fun a hf => ?_)
        refine D.val hf (v := .bool (decide (n2 > 0))) rfl rfl rfl (V.pure rfl) (fun a hf => ?_)
        refine D.split hf (b := decide (n2 > 0)) rfl rfl rfl (V.pure rfl) (fun hc a hf => ?_) (fun hc a hf => ?_)
        · replace h := h.1 hc
          refine D.val hf (v := .pointer (some ⟨g1, 1, none⟩)) rfl rfl rfl (V.fieldBox rfl rfl Try.runUnderlying54 rfl Try.sizeOf3 rfl rfl) (fun a hf => ?_)
          refine D.val hf (v := .int .i64 xk1.A) rfl rfl rfl (V.loadBox 0 rfl rfl rfl Try.isAgg3 Try.sizeOf3 rfl rfl) (fun a hf => ?_)
          refine D.val hf (v := .slice lA l.length lC) rfl rfl rfl (V.pure rfl) (fun a hf => ?_)
          refine D.val hf (v := .slice l3A l3.length l3C) rfl rfl rfl (V.pure rfl) (fun a hf => ?_)
          refine D.val hf (v := .int .i64 n2) rfl rfl rfl (V.pure rfl) (fun a hf => ?_)
          refine D.val hf (v := .int .i64 (w64 (n2 - 1))) rfl rfl rfl (V.pure rfl) (fun a hf => ?_)
          obtain ⟨h0x1, x1, hx1, h⟩ := h
          refine D.val hf (v := elemPtr l3A ((w64 (n2 - 1)).toNat * 1)) rfl rfl rfl (V.index rfl rfl rfl Try.runUnderlying22 Try.sizeOf3 (hs.ownSome 1 rfl (lt_of_get hx1)) h0x1 (lt_of_get hx1) rfl) (fun a hf => ?_)
          refine D.val hf (v := .int .i64 x1) rfl rfl rfl (V.loadOwn (off := 0) 1 rfl hx1 rfl rfl rfl Try.isAgg3 Try.sizeOf3 rfl rfl) (fun a hf => ?_)
          obtain ⟨h0x2, x2, hx2, h⟩ := h
          refine D.val hf (v := elemPtr lA (x1.toNat * 3)) rfl rfl rfl (V.index rfl rfl rfl Try.runUnderlying32 Try.sizeOf54 (hv_l.some_ (lt_of_get hx2)) h0x2 (lt_of_get hx2) rfl) (fun a hf => ?_)
          refine D.val hf (v := elemPtr lA (x1.toNat * 3 + 1)) rfl rfl rfl (V.fieldEl rfl rfl (hv_l.some_ (lt_of_get hx2)) Try.runUnderlying54 rfl Try.sizeOf3 rfl rfl) (fun a hf => ?_)
          refine D.val hf (v := .int .i64 x2.A) rfl rfl rfl (V.loadEl (off := 1) (Ag.args _ _ _) (hv_l.flat hx2) rfl rfl rfl Try.isAgg3 Try.sizeOf3 rfl rfl) (fun a hf => ?_)
          refine D.val hf (v := .bool (decide (xk1.A < x2.A))) rfl rfl rfl (V.pure rfl) (fun a hf => ?_)
          refine D.val hf (v := .bool (decide (xk1.A < x2.A))) rfl rfl rfl (V.pure rfl) (fun a hf => ?_)
          refine D.done (fun w hs => ?_)
          refine X.then_ ?_
          exact ⟨(decide (xk1.A < x2.A)), h, ((((((((((hf.nil.cons (hf.get 38 _ rfl)).cons (hf.get 11 _ rfl)).cons (hf.get 10 _ rfl)).cons (hf.get 9 _ rfl)).cons (hf.get 7 _ rfl)).cons (hf.get 6 _ rfl)).cons (hf.get 5 _ rfl)).cons (hf.get 4 _ rfl)).cons (hf.get 3 _ rfl)).cons (hf.get 0 _ rfl)), hs⟩
        · replace h := h.2 hc
          refine D.skip hf rfl rfl rfl (fun a hf => ?_)
          refine D.skip hf rfl rfl rfl (fun a hf => ?_)
          refine D.skip hf rfl rfl rfl (fun a hf => ?_)
          refine D.skip hf rfl rfl rfl (fun a hf => ?_)
          refine D.skip hf rfl rfl rfl (fun a hf => ?_)
          refine D.skip hf rfl rfl rfl (fun a hf => ?_)
          refine D.skip hf rfl rfl rfl (fun a hf => ?_)
          refine D.skip hf rfl rfl rfl (fun a hf => ?_)
          refine D.skip hf rfl rfl rfl (fun a hf => ?_)
          refine D.skip hf rfl rfl rfl (fun a hf => ?_)
          refine D.skip hf rfl rfl rfl (fun a hf => ?_)
          refine D.skip hf rfl rfl rfl (fun a hf => ?_)
          refine D.val hf (v := .bool false) rfl rfl rfl (V.pure rfl) (fun a hf => ?_)
          refine D.done (fun w hs => ?_)
          refine X.then_ ?_
          exact ⟨false, h, ((((((((((hf.nil.cons (hf.get 38 _ rfl)).cons (hf.get 11 _ rfl)).cons (hf.get 10 _ rfl)).cons (hf.get 9 _ rfl)).cons (hf.get 7 _ rfl)).cons (hf.get 6 _ rfl)).cons (hf.get 5 _ rfl)).cons (hf.get 4 _ rfl)).cons (hf.get 3 _ rfl)).cons (hf.get 0 _ rfl)), hs⟩
    · replace h := h.2 hc
      refine wp_seq ?_
      refine R.list ?_
      refine S.val hf hs (v := .slice l4A l4.length l4C) rfl rfl rfl (V.pure rfl) (fun a hf => ?_)
      refine S.val hf hs (v := .int .i64 (l4.length : Int)) rfl rfl rfl (V.len rfl rfl Try.runUnderlying22) (fun a hf => ?_)
      refine S.val hf hs (v := .int .i64 (l4.length : Int)) rfl rfl rfl (V.pure rfl) (fun a hf => ?_)
      refine R.nil ?_
      refine X.then_ ?_
      refine wp_seq ?_
      refine wp_block ?_
      obtain ⟨kk, h⟩ := h
      refine C.loop (fun kk a w => ∃ (n4 : Int), iterF (fun again (s : Int) => M_ref10_Johnson_L3 l k1 xk1 l3 l4 next1 (fun n4 => again n4) s) kk n4 ∧ FrOk 75 [(0, .slice lA l.length lC), (3, .slice l3A l3.length l3C), (4, .slice l4A l4.length l4C), (5, .int .i64 (k1 : Int)), (6, .pointer (some ⟨g1, 0, none⟩)), (8, .int .i64 n4), (9, .slice lA l.length lC), (10, .int .i64 (l.length : Int)), (11, .int .i64 (k1 : Int))] a ∧ Sat w0 none_ [hbox g1 54 [.string (ba xk1.Name), .int .i64 xk1.A, .int .i64 xk1.B], hown 3 l3A l3C l3, hown 3 l4A l4C l4] w) kk ⟨(l4.length : Int), h, (((((((((hf.nil.cons (hf.get 11 _ rfl)).cons (hf.get 10 _ rfl)).cons (hf.get 9 _ rfl)).cons (hf.get 8 _ rfl)).cons (hf.get 6 _ rfl)).cons (hf.get 5 _ rfl)).cons (hf.get 4 _ rfl)).cons (hf.get 3 _ rfl)).cons (hf.get 0 _ rfl)), hs⟩ (fun a w ⟨_, h, _, _⟩ => h) ?_
      clear h hf hs
      rintro kk a w ⟨n4, h, hf, hs⟩
      obtain ⟨again3, hagain3⟩ : ∃ X : Int → Prop, X = (fun n4 => iterF (fun again (s : Int) => M_ref10_Johnson_L3 l k1 xk1 l3 l4 next1 (fun n4 => again n4) s) kk n4) := ⟨_, rfl⟩
      replace h : M_ref10_Johnson_L3 l k1 xk1 l3 l4 next1 again3 n4 := by rw [hagain3]; exact h
      unfold M_ref10_Johnson_L3 at h
      refine wp_seq ?_
      refine wp_seq ?_
      refine C.cut (J := fun a w => ∃ (c2 : Bool), M_ref10_Johnson_k5 k1 l3 l4 next1 n4 again3 c2 ∧ FrOk 75 [(0, .slice lA l.length lC), (3, .slice l3A l3.length l3C), (4, .slice l4A l4.length l4C), (5, .int .i64 (k1 : Int)), (6, .pointer (some ⟨g1, 0, none⟩)), (8, .int .i64 n4), (9, .slice lA l.length lC), (10, .int .i64 (l.length : Int)), (11, .int .i64 (k1 : Int)), (63, .bool c2)] a ∧ Sat w0 none_ [hbox g1 54 [.string (ba xk1.Name), .int .i64 xk1.A, .int .i64 xk1.B], hown 3 l3A l3C l3, hown 3 l4A l4C l4] w) ?_ ?_
      · rintro a w ⟨c2, h, hf, hs⟩
        unfold M_ref10_Johnson_k5 at h
        refine C.cond hf (b := c2) rfl (fun hc => ?_) (fun hc => ?_)
        · replace h := h.1 hc
          refine wp_skip ?_
          refine X.then_ ?_
          refine wp_block ?_
          refine R.list ?_
          refine S.val hf hs (v := .int .i64 n4) rfl rfl rfl (V.pure rfl) (fun a hf => ?_)
          refine S.val hf hs (v := .int .i64 (w64 (n4 - 1))) rfl rfl rfl (V.pure rfl) (fun a hf => ?_)
          refine S.val hf hs (v := .int .i64 (w64 (n4 - 1))) rfl rfl rfl (V.pure rfl) (fun a hf => ?_)
          refine R.nil ?_
          refine X.blk ?_
          refine X.then_ ?_
          exact ⟨(w64 (n4 - 1)), (by rw [hagain3] at h; exact h), (((((((((hf.nil.cons (hf.get 11 _ rfl)).cons (hf.get 10 _ rfl)).cons (hf.get 9 _ rfl)).cons (hf.get 8 _ rfl)).cons (hf.get 6 _ rfl)).cons (hf.get 5 _ rfl)).cons (hf.get 4 _ rfl)).cons (hf.get 3 _ rfl)).cons (hf.get 0 _ rfl)), hs⟩
        · replace h := h.2 hc
          refine wp_exit ?_
          refine X.then_exit ?_
          refine X.then_exit ?_
          refine X.blk_exit ?_
          refine X.then_ ?_
          refine R.list ?_
          refine S.val hf hs (v := .slice l4A l4.length l4C) rfl rfl rfl (V.pure rfl) (fun a hf => ?_)
          refine S.val hf hs (v := .int .i64 n4) rfl rfl rfl (V.pure rfl) (fun a hf => ?_)
          refine S.val hf hs (v := .int .i64 (k1 : Int)) rfl rfl rfl (V.pure rfl) (fun a hf => ?_)
          refine S.build1 hf hs rfl rfl rfl (α := Int) (k1 : Int) rfl rfl rfl Try.runUnderlying22 Try.sizeOf3 Try.zeroValue3 rfl (by decide) (fun A3 a w hf hs => ?_)
          replace hs := hs.front 3 rfl
          obtain ⟨F1, hsF, hback, hold, hrest⟩ := Sat.callOwns [hown 3 l4A l4C l4, hown 3 A3 1 [(k1 : Int)]] (σ := [hbox g1 54 [.string (ba xk1.Name), .int .i64 xk1.A, .int .i64 xk1.B], hown 3 l3A l3C l3]) hs
          refine S.call hf rfl rfl rfl (call_fn (vs := [.slice l4A l4.length l4C, .int .i64 n4, .slice A3 [(k1 : Int)].length 1]) rfl rfl rfl Try.call34) (R_insert_int l4 n4 [(k1 : Int)] _ _ l4A l4C A3 1 hsF _ h) (fun v a w' hf hr => ?_)
          obtain ⟨y2, y2A, y2C, z2, hl_z2, rfl, h2, hs2⟩ := hr
          replace h := h2; replace hs := hback _ _ hs2; clear h2 hs2 hback hold hrest hsF
          replace hf := hf.tell 69 (v := .slice A3 z2.length 1) ((hf.get 69 (.slice A3 [(k1 : Int)].length 1) rfl).trans (congrArg (fun n => Value.slice A3 n 1) hl_z2.symm))
          refine S.val hf hs (v := .slice y2A y2.length y2C) rfl rfl rfl (V.pure rfl) (fun a hf => ?_)
          refine R.nil ?_
          refine X.blk ?_
          refine X.then_ ?_
          refine R.list ?_
          refine S.val hf hs (v := .int .i64 ((k1 + 1 : Nat) : Int)) rfl rfl rfl (V.incr rfl rfl rfl hltk1 hlenk1) (fun a hf => ?_)
          refine S.val hf hs (v := .int .i64 ((k1 + 1 : Nat) : Int)) rfl rfl rfl (V.pure rfl) (fun a hf => ?_)
          refine R.nil ?_
          refine X.then_ ?_
          replace hs := hs.front 3 rfl
          replace hs := hs.take 2
          exact ⟨xk1, llk1, rfl, k1 + 1, l3, l3A, l3C, y2, y2A, y2C, range_drop hlk1, range_len hkk1, (by rw [hnext1] at h; exact h), ((((((hf.nil.cons (hf.get 10 _ rfl)).cons (hf.get 9 _ rfl)).cons (hf.get 4 _ rfl)).cons (hf.get 3 _ rfl)).cons (hf.get 0 _ rfl)).cons (hf.get 11 _ rfl)), hs⟩
      · skip
        refine R.draw mo (by kernel_rfl) hs ?_
        refine D.val hf (v := .int .i64 n4) rfl rfl rfl (V.pure rfl) (fun a hf => ?_)
        refine D.val hf (v := .bool (decide (n4 > 0))) rfl rfl rfl (V.pure rfl) (fun a hf => ?_)
        refine D.split hf (b := decide (n4 > 0)) rfl rfl rfl (V.pure rfl) (fun hc a hf => ?_) (fun hc a hf => ?_)
        · replace h := h.1 hc
          refine D.val hf (v := .pointer (some ⟨g1, 2, none⟩)) rfl rfl rfl (V.fieldBox rfl rfl Try.runUnderlying54 rfl Try.sizeOf3 rfl rfl) (fun a hf => ?_)
          refine D.val hf (v := .int .i64 xk1.B) rfl rfl rfl (V.loadBox 0 rfl rfl rfl Try.isAgg3 Try.sizeOf3 rfl rfl) (fun a hf => ?_)
          refine D.val hf (v := .slice lA l.length lC) rfl rfl rfl (V.pure rfl) (fun a hf => ?_)
          refine D.val hf (v := .slice l4A l4.length l4C) rfl rfl rfl (V.pure rfl) (fun a hf => ?_)
          refine D.val hf (v := .int .i64 n4) rfl rfl rfl (V.pure rfl) (fun a hf => ?_)
          refine D.val hf (v := .int .i64 (w64 (n4 - 1))) rfl rfl rfl (V.pure rfl) (fun a hf => ?_)
          obtain ⟨h0x3, x3, hx3, h⟩ := h
          refine D.val hf (v := elemPtr l4A ((w64 (n4 - 1)).toNat * 1)) rfl rfl rfl (V.index rfl rfl rfl Try.runUnderlying22 Try.sizeOf3 (hs.ownSome 2 rfl (lt_of_get hx3)) h0x3 (lt_of_get hx3) rfl) (fun a hf => ?_)
          refine D.val hf (v := .int .i64 x3) rfl rfl rfl (V.loadOwn (off := 0) 2 rfl hx3 rfl rfl rfl Try.isAgg3 Try.sizeOf3 rfl rfl) (fun a hf => ?_)
          obtain ⟨h0x4, x4, hx4, h⟩ := h
          refine D.val hf (v := elemPtr lA (x3.toNat * 3)) rfl rfl rfl (V.index rfl rfl rfl Try.runUnderlying32 Try.sizeOf54 (hv_l.some_ (lt_of_get hx4)) h0x4 (lt_of_get hx4) rfl) (fun a hf => ?_)
          refine D.val hf (v := elemPtr lA (x3.toNat * 3 + 2)) rfl rfl rfl (V.fieldEl rfl rfl (hv_l.some_ (lt_of_get hx4)) Try.runUnderlying54 rfl Try.sizeOf3 rfl rfl) (fun a hf => ?_)
          refine D.val hf (v := .int .i64 x4.B) rfl rfl rfl (V.loadEl (off := 2) (Ag.args _ _ _) (hv_l.flat hx4) rfl rfl rfl Try.isAgg3 Try.sizeOf3 rfl rfl) (fun a hf => ?_)
          refine D.val hf (v := .bool (decide (xk1.B > x4.B))) rfl rfl rfl (V.pure rfl) (fun a hf => ?_)
          refine D.val hf (v := .bool (decide (xk1.B > x4.B))) rfl rfl rfl (V.pure rfl) (fun a hf => ?_)
          refine D.done (fun w hs => ?_)
          refine X.then_ ?_
          exact ⟨(decide (xk1.B > x4.B)), h, ((((((((((hf.nil.cons (hf.get 63 _ rfl)).cons (hf.get 11 _ rfl)).cons (hf.get 10 _ rfl)).cons (hf.get 9 _ rfl)).cons (hf.get 8 _ rfl)).cons (hf.get 6 _ rfl)).cons (hf.get 5 _ rfl)).cons (hf.get 4 _ rfl)).cons (hf.get 3 _ rfl)).cons (hf.get 0 _ rfl)), hs⟩
        · replace h := h.2 hc
          refine D.skip hf rfl rfl rfl (fun a hf => ?_)
          refine D.skip hf rfl rfl rfl (fun a hf => ?_)
          refine D.skip hf rfl rfl rfl (fun a hf => ?_)
          refine D.skip hf rfl rfl rfl (fun a hf => ?_)
          refine D.skip hf rfl rfl rfl (fun a hf => ?_)
          refine D.skip hf rfl rfl rfl (fun a hf => ?_)
          refine D.skip hf rfl rfl rfl (fun a hf => ?_)
          refine D.skip hf rfl rfl rfl (fun a hf => ?_)
          refine D.skip hf rfl rfl rfl (fun a hf => ?_)
          refine D.skip hf rfl rfl rfl (fun a hf => ?_)
          refine D.skip hf rfl rfl rfl (fun a hf => ?_)
          refine D.skip hf rfl rfl rfl (fun a hf => ?_)
          refine D.val hf (v := .bool false) rfl rfl rfl (V.pure rfl) (fun a hf => ?_)
          refine D.done (fun w hs => ?_)
          refine X.then_ ?_
          exact ⟨false, h, ((((((((((hf.nil.cons (hf.get 63 _ rfl)).cons (hf.get 11 _ rfl)).cons (hf.get 10 _ rfl)).cons (hf.get 9 _ rfl)).cons (hf.get 8 _ rfl)).cons (hf.get 6 _ rfl)).cons (hf.get 5 _ rfl)).cons (hf.get 4 _ rfl)).cons (hf.get 3 _ rfl)).cons (hf.get 0 _ rfl)), hs⟩

set_option linter.unusedVariables false
def M_law_Johnson_k1 (l : (List Batch)) (order : (List Int)) (Q : Bool → Prop) (y2 : Int) (c1 : Bool) : Prop :=
  cnd c1 (Q false) (M_mount_Makespan l order fun y10 y11 => cnd (y11 != 0) (Q true) (Q (decide (y2 ≤ y10))))
def M_law_Johnson (l : (List Batch)) (order : (List Int)) (Q : Bool → Prop) : Prop :=
  M_mount_Best l fun y1 y2 y3 => cnd (y3 != 0) (cnd ((y1.length : Int) == 0) (cnd (y2 == 0) (M_awake  fun y4 => Q y4) (Q false)) (Q false)) (M_mount_Makespan l y1 fun y5 y6 => M_ref10_Johnson l fun y7 => M_mount_Makespan l y7 fun y8 y9 => cnd (y6 != 0) (M_law_Johnson_k1 l order Q y2 true) (cnd (y9 != 0) (M_law_Johnson_k1 l order Q y2 true) (cnd (y2 != y5) (M_law_Johnson_k1 l order Q y2 true) (cnd (y2 != y8) (M_law_Johnson_k1 l order Q y2 true) (M_awake  fun y12 => M_law_Johnson_k1 l order Q y2 (!y12))))))
set_option maxHeartbeats 1000000 in
theorem R_law_Johnson (l : (List Batch)) (order : (List Int)) (w0 : World) (lA : Option Addr) (lC : Nat) (hv_l : View w0 (old w0 none_) lA lC l) (orderA : Option Addr) (orderC : Nat) (hv_order : View w0 (old w0 none_) orderA orderC order) (Q : Bool → Prop) (h : M_law_Johnson l order Q) :
    Ret Try.prog 6 #[.slice lA l.length lC, .slice orderA order.length orderC] w0 fun v w' => ∃ (r0 : Bool), v = .bool r0 ∧ Q r0 ∧ Sat w0 none_ [] w' := by
  refine fn_enter Try.func6 rfl Try.ntmps6 rfl (fs := [(0, .slice lA l.length lC), (1, .slice orderA order.length orderC)]) rfl (fun a hf => ?_)
  have hs := Sat.start w0 none_
  unfold M_law_Johnson at h
  refine wp_seq ?_
  refine R.list ?_
  refine S.val hf hs (v := .bool false) rfl rfl rfl (V.pure rfl) (fun a hf => ?_)
  refine R.nil ?_
  refine X.then_ ?_
  refine wp_seq ?_
  refine R.list ?_
  refine S.val hf hs (v := .slice lA l.length lC) rfl rfl rfl (V.pure rfl) (fun a hf => ?_)
  refine S.call hf rfl rfl rfl (call_fn (vs := [.slice lA l.length lC]) rfl rfl rfl Try.call14) (R_mount_Best l _ lA lC ((Ag.args _ _ _).view hv_l hs) _ h) (fun v a w' hf hr => ?_)
  obtain ⟨y1, y1A, y1C, y2, y3, rfl, h2, hs2⟩ := hr
  replace h := h2; replace hs := hs.call hs2; clear h2 hs2
  refine S.val hf hs (v := .tuple #[.slice y1A y1.length y1C, .int .i64 y2, .int .i64 y3]) rfl rfl rfl (V.pure rfl) (fun a hf => ?_)
  refine S.val hf hs (v := .slice y1A y1.length y1C) rfl rfl rfl (V.pure rfl) (fun a hf => ?_)
  refine S.val hf hs (v := .int .i64 y2) rfl rfl rfl (V.pure rfl) (fun a hf => ?_)
  refine S.val hf hs (v := .int .i64 y3) rfl rfl rfl (V.pure rfl) (fun a hf => ?_)
  refine S.val hf hs (v := .slice y1A y1.length y1C) rfl rfl rfl (V.pure rfl) (fun a hf => ?_)
  refine S.val hf hs (v := .int .i64 y2) rfl rfl rfl (V.pure rfl) (fun a hf => ?_)
  refine S.val hf hs (v := .int .i64 y3) rfl rfl rfl (V.pure rfl) (fun a hf => ?_)
  refine R.nil ?_
  refine X.then_ ?_
  refine wp_seq ?_
  refine wp_seq ?_
  refine R.list ?_
  refine S.val hf hs (v := .int .i64 y3) rfl rfl rfl (V.pure rfl) (fun a hf => ?_)
  refine S.val hf hs (v := .bool (y3 != 0)) rfl rfl rfl (V.pure rfl) (fun a hf => ?_)
  refine R.nil ?_
  refine X.then_ ?_
  refine C.cond hf (b := y3 != 0) rfl (fun hc => ?_) (fun hc => ?_)
  · replace h := h.1 hc
    refine wp_seq ?_
    refine R.list ?_
    refine S.val hf hs (v := .slice y1A y1.length y1C) rfl rfl rfl (V.pure rfl) (fun a hf => ?_)
    refine S.val hf hs (v := .int .i64 (y1.length : Int)) rfl rfl rfl (V.len rfl rfl Try.runUnderlying22) (fun a hf => ?_)
    refine S.val hf hs (v := .bool ((y1.length : Int) == 0)) rfl rfl rfl (V.pure rfl) (fun a hf => ?_)
    refine S.split hf hs (b := (y1.length : Int) == 0) rfl rfl rfl (V.pure rfl) (fun hc a hf => ?_) (fun hc a hf => ?_)
    · replace h := h.1 hc
      refine S.val hf hs (v := .int .i64 y2) rfl rfl rfl (V.pure rfl) (fun a hf => ?_)
      refine S.val hf hs (v := .bool (y2 == 0)) rfl rfl rfl (V.pure rfl) (fun a hf => ?_)
      refine S.val hf hs (v := .bool (y2 == 0)) rfl rfl rfl (V.pure rfl) (fun a hf => ?_)
      refine S.split hf hs (b := y2 == 0) rfl rfl rfl (V.pure rfl) (fun hc a hf => ?_) (fun hc a hf => ?_)
      · replace h := h.1 hc
        refine S.call hf rfl rfl rfl (call_fn (vs := []) rfl rfl rfl Try.call10) (R_awake  _  _ h) (fun v a w' hf hr => ?_)
        obtain ⟨y4, rfl, h2, hs2⟩ := hr
        replace h := h2; replace hs := hs.call hs2; clear h2 hs2
        refine S.val hf hs (v := .bool y4) rfl rfl rfl (V.pure rfl) (fun a hf => ?_)
        refine S.val hf hs (v := .bool y4) rfl rfl rfl (V.pure rfl) (fun a hf => ?_)
        refine R.nil ?_
        refine X.then_ ?_
        refine wp_ret ?_
        refine X.then_ret ?_
        exact L.ret hf (run_results1 Try.results6 (ResIs.tmp hf rfl)) ⟨y4, rfl, h, hs.nil⟩
      · replace h := h.2 hc
        refine S.skip hf rfl rfl rfl (fun a hf => ?_)
        refine S.val hf hs (v := .bool false) rfl rfl rfl (V.pure rfl) (fun a hf => ?_)
        refine S.val hf hs (v := .bool false) rfl rfl rfl (V.pure rfl) (fun a hf => ?_)
        refine R.nil ?_
        refine X.then_ ?_
        refine wp_ret ?_
        refine X.then_ret ?_
        exact L.ret hf (run_results1 Try.results6 (ResIs.tmp hf rfl)) ⟨false, rfl, h, hs.nil⟩
    · replace h := h.2 hc
      refine S.skip hf rfl rfl rfl (fun a hf => ?_)
      refine S.skip hf rfl rfl rfl (fun a hf => ?_)
      refine S.val hf hs (v := .bool false) rfl rfl rfl (V.pure rfl) (fun a hf => ?_)
      refine S.val hf hs (v := .bool false) rfl rfl rfl (V.pure rfl) (fun a hf => ?_)
      refine S.skip hf rfl rfl rfl (fun a hf => ?_)
      refine S.val hf hs (v := .bool false) rfl rfl rfl (V.pure rfl) (fun a hf => ?_)
      refine S.val hf hs (v := .bool false) rfl rfl rfl (V.pure rfl) (fun a hf => ?_)
      refine R.nil ?_
      refine X.then_ ?_
      refine wp_ret ?_
      refine X.then_ret ?_
      exact L.ret hf (run_results1 Try.results6 (ResIs.tmp hf rfl)) ⟨false, rfl, h, hs.nil⟩
  · replace h := h.2 hc
    refine wp_skip ?_
    refine X.then_ ?_
    refine wp_seq ?_
    refine R.list ?_
    refine S.val hf hs (v := .slice lA l.length lC) rfl rfl rfl (V.pure rfl) (fun a hf => ?_)
    refine S.val hf hs (v := .slice y1A y1.length y1C) rfl rfl rfl (V.pure rfl) (fun a hf => ?_)
    refine S.call hf rfl rfl rfl (call_fn (vs := [.slice lA l.length lC, .slice y1A y1.length y1C]) rfl rfl rfl Try.call12) (R_mount_Makespan l y1 _ lA lC ((Ag.args _ _ _).view hv_l hs) y1A y1C (hs.ownView 0 rfl) _ h) (fun v a w' hf hr => ?_)
    obtain ⟨y5, y6, rfl, h2, hs2⟩ := hr
    replace h := h2; replace hs := hs.call hs2; clear h2 hs2
    refine S.val hf hs (v := .tuple #[.int .i64 y5, .int .i64 y6]) rfl rfl rfl (V.pure rfl) (fun a hf => ?_)
    refine S.val hf hs (v := .int .i64 y5) rfl rfl rfl (V.pure rfl) (fun a hf => ?_)
    refine S.val hf hs (v := .int .i64 y6) rfl rfl rfl (V.pure rfl) (fun a hf => ?_)
    refine S.val hf hs (v := .int .i64 y5) rfl rfl rfl (V.pure rfl) (fun a hf => ?_)
    refine S.val hf hs (v := .int .i64 y6) rfl rfl rfl (V.pure rfl) (fun a hf => ?_)
    refine R.nil ?_
    refine X.then_ ?_
    refine wp_seq ?_
    refine R.list ?_
    refine S.val hf hs (v := .slice lA l.length lC) rfl rfl rfl (V.pure rfl) (fun a hf => ?_)
    refine S.val hf hs (v := .slice lA l.length lC) rfl rfl rfl (V.pure rfl) (fun a hf => ?_)
    refine S.call hf rfl rfl rfl (call_fn (vs := [.slice lA l.length lC]) rfl rfl rfl Try.call16) (R_ref10_Johnson l _ lA lC ((Ag.args _ _ _).view hv_l hs) _ h) (fun v a w' hf hr => ?_)
    obtain ⟨y7, y7A, y7C, rfl, h2, hs2⟩ := hr
    replace h := h2; replace hs := hs.call hs2; clear h2 hs2
    refine S.call hf rfl rfl rfl (call_fn (vs := [.slice lA l.length lC, .slice y7A y7.length y7C]) rfl rfl rfl Try.call12) (R_mount_Makespan l y7 _ lA lC ((Ag.args _ _ _).view hv_l hs) y7A y7C (hs.ownView 0 rfl) _ h) (fun v a w' hf hr => ?_)
    obtain ⟨y8, y9, rfl, h2, hs2⟩ := hr
    replace h := h2; replace hs := hs.call hs2; clear h2 hs2
    refine S.val hf hs (v := .tuple #[.int .i64 y8, .int .i64 y9]) rfl rfl rfl (V.pure rfl) (fun a hf => ?_)
    refine S.val hf hs (v := .int .i64 y8) rfl rfl rfl (V.pure rfl) (fun a hf => ?_)
    refine S.val hf hs (v := .int .i64 y9) rfl rfl rfl (V.pure rfl) (fun a hf => ?_)
    refine S.val hf hs (v := .int .i64 y8) rfl rfl rfl (V.pure rfl) (fun a hf => ?_)
    refine S.val hf hs (v := .int .i64 y9) rfl rfl rfl (V.pure rfl) (fun a hf => ?_)
    refine R.nil ?_
    refine X.then_ ?_
    refine wp_seq ?_
    refine wp_seq ?_
    refine C.cut (J := fun a w => ∃ (c1 : Bool), M_law_Johnson_k1 l order Q y2 c1 ∧ FrOk 76 [(0, .slice lA l.length lC), (1, .slice orderA order.length orderC), (6, .int .i64 y2), (62, .bool c1)] a ∧ Sat w0 none_ [hown 3 y7A y7C y7, hown 3 y1A y1C y1] w) ?_ ?_
    · rintro a w ⟨c1, h, hf, hs⟩
      unfold M_law_Johnson_k1 at h
      refine C.cond hf (b := c1) rfl (fun hc => ?_) (fun hc => ?_)
      · replace h := h.1 hc
        refine wp_seq ?_
        refine R.list ?_
        refine S.val hf hs (v := .bool false) rfl rfl rfl (V.pure rfl) (fun a hf => ?_)
        refine R.nil ?_
        refine X.then_ ?_
        refine wp_ret ?_
        refine X.then_ret ?_
        exact L.ret hf (run_results1 Try.results6 (ResIs.tmp hf rfl)) ⟨false, rfl, h, hs.nil⟩
      · replace h := h.2 hc
        refine wp_skip ?_
        refine X.then_ ?_
        refine wp_seq ?_
        refine R.list ?_
        refine S.val hf hs (v := .slice lA l.length lC) rfl rfl rfl (V.pure rfl) (fun a hf => ?_)
        refine S.val hf hs (v := .slice orderA order.length orderC) rfl rfl rfl (V.pure rfl) (fun a hf => ?_)
        refine S.call hf rfl rfl rfl (call_fn (vs := [.slice lA l.length lC, .slice orderA order.length orderC]) rfl rfl rfl Try.call12) (R_mount_Makespan l order _ lA lC ((Ag.args _ _ _).view hv_l hs) orderA orderC ((Ag.args _ _ _).view hv_order hs) _ h) (fun v a w' hf hr => ?_)
        obtain ⟨y10, y11, rfl, h2, hs2⟩ := hr
        replace h := h2; replace hs := hs.call hs2; clear h2 hs2
        refine S.val hf hs (v := .tuple #[.int .i64 y10, .int .i64 y11]) rfl rfl rfl (V.pure rfl) (fun a hf => ?_)
        refine S.val hf hs (v := .int .i64 y10) rfl rfl rfl (V.pure rfl) (fun a hf => ?_)
        refine S.val hf hs (v := .int .i64 y11) rfl rfl rfl (V.pure rfl) (fun a hf => ?_)
        refine S.val hf hs (v := .int .i64 y10) rfl rfl rfl (V.pure rfl) (fun a hf => ?_)
        refine S.val hf hs (v := .int .i64 y11) rfl rfl rfl (V.pure rfl) (fun a hf => ?_)
        refine R.nil ?_
        refine X.then_ ?_
        refine wp_seq ?_
        refine R.list ?_
        refine S.val hf hs (v := .int .i64 y11) rfl rfl rfl (V.pure rfl) (fun a hf => ?_)
        refine S.val hf hs (v := .bool (y11 != 0)) rfl rfl rfl (V.pure rfl) (fun a hf => ?_)
        refine S.split hf hs (b := y11 != 0) rfl rfl rfl (V.pure rfl) (fun hc a hf => ?_) (fun hc a hf => ?_)
        · replace h := h.1 hc
          refine S.skip hf rfl rfl rfl (fun a hf => ?_)
          refine S.skip hf rfl rfl rfl (fun a hf => ?_)
          refine S.skip hf rfl rfl rfl (fun a hf => ?_)
          refine S.val hf hs (v := .bool true) rfl rfl rfl (V.pure rfl) (fun a hf => ?_)
          refine S.val hf hs (v := .bool true) rfl rfl rfl (V.pure rfl) (fun a hf => ?_)
          refine R.nil ?_
          refine X.then_ ?_
          refine wp_ret ?_
          exact L.ret hf (run_results1 Try.results6 (ResIs.tmp hf rfl)) ⟨true, rfl, h, hs.nil⟩
        · replace h := h.2 hc
          refine S.val hf hs (v := .int .i64 y2) rfl rfl rfl (V.pure rfl) (fun a hf => ?_)
          refine S.val hf hs (v := .int .i64 y10) rfl rfl rfl (V.pure rfl) (fun a hf => ?_)
          refine S.val hf hs (v := .bool (decide (y2 ≤ y10))) rfl rfl rfl (V.pure rfl) (fun a hf => ?_)
          refine S.val hf hs (v := .bool (decide (y2 ≤ y10))) rfl rfl rfl (V.pure rfl) (fun a hf => ?_)
          refine S.val hf hs (v := .bool (decide (y2 ≤ y10))) rfl rfl rfl (V.pure rfl) (fun a hf => ?_)
          refine R.nil ?_
          refine X.then_ ?_
          refine wp_ret ?_
          exact L.ret hf (run_results1 Try.results6 (ResIs.tmp hf rfl)) ⟨(decide (y2 ≤ y10)), rfl, h, hs.nil⟩
    · skip
      refine R.list ?_
      refine S.val hf hs (v := .int .i64 y6) rfl rfl rfl (V.pure rfl) (fun a hf => ?_)
      refine S.val hf hs (v := .bool (y6 != 0)) rfl rfl rfl (V.pure rfl) (fun a hf => ?_)
      refine S.split hf hs (b := y6 != 0) rfl rfl rfl (V.pure rfl) (fun hc a hf => ?_) (fun hc a hf => ?_)
      · replace h := h.1 hc
        refine S.skip hf rfl rfl rfl (fun a hf => ?_)
        refine S.skip hf rfl rfl rfl (fun a hf => ?_)
        refine S.val hf hs (v := .bool true) rfl rfl rfl (V.pure rfl) (fun a hf => ?_)
        refine S.val hf hs (v := .bool true) rfl rfl rfl (V.pure rfl) (fun a hf => ?_)
        refine S.skip hf rfl rfl rfl (fun a hf => ?_)
        refine S.skip hf rfl rfl rfl (fun a hf => ?_)
        refine S.skip hf rfl rfl rfl (fun a hf => ?_)
        refine S.val hf hs (v := .bool true) rfl rfl rfl (V.pure rfl) (fun a hf => ?_)
        refine S.val hf hs (v := .bool true) rfl rfl rfl (V.pure rfl) (fun a hf => ?_)
        refine S.skip hf rfl rfl rfl (fun a hf => ?_)
        refine S.skip hf rfl rfl rfl (fun a hf => ?_)
        refine S.skip hf rfl rfl rfl (fun a hf => ?_)
        refine S.val hf hs (v := .bool true) rfl rfl rfl (V.pure rfl) (fun a hf => ?_)
        refine S.val hf hs (v := .bool true) rfl rfl rfl (V.pure rfl) (fun a hf => ?_)
        refine S.skip hf rfl rfl rfl (fun a hf => ?_)
        refine S.skip hf rfl rfl rfl (fun a hf => ?_)
        refine S.val hf hs (v := .bool true) rfl rfl rfl (V.pure rfl) (fun a hf => ?_)
        refine R.nil ?_
        refine X.then_ ?_
        exact ⟨true, h, ((((hf.nil.cons (hf.get 62 _ rfl)).cons (hf.get 6 _ rfl)).cons (hf.get 1 _ rfl)).cons (hf.get 0 _ rfl)), hs⟩
      · replace h := h.2 hc
        refine S.val hf hs (v := .int .i64 y9) rfl rfl rfl (V.pure rfl) (fun a hf => ?_)
        refine S.val hf hs (v := .bool (y9 != 0)) rfl rfl rfl (V.pure rfl) (fun a hf => ?_)
        refine S.val hf hs (v := .bool (y9 != 0)) rfl rfl rfl (V.pure rfl) (fun a hf => ?_)
        refine S.split hf hs (b := y9 != 0) rfl rfl rfl (V.pure rfl) (fun hc a hf => ?_) (fun hc a hf => ?_)
        · replace h := h.1 hc
          refine S.skip hf rfl rfl rfl (fun a hf => ?_)
          refine S.skip hf rfl rfl rfl (fun a hf => ?_)
          refine S.skip hf rfl rfl rfl (fun a hf => ?_)
          refine S.val hf hs (v := .bool true) rfl rfl rfl (V.pure rfl) (fun a hf => ?_)
          refine S.val hf hs (v := .bool true) rfl rfl rfl (V.pure rfl) (fun a hf => ?_)
          refine S.skip hf rfl rfl rfl (fun a hf => ?_)
          refine S.skip hf rfl rfl rfl (fun a hf => ?_)
          refine S.skip hf rfl rfl rfl (fun a hf => ?_)
          refine S.val hf hs (v := .bool true) rfl rfl rfl (V.pure rfl) (fun a hf => ?_)
          refine S.val hf hs (v := .bool true) rfl rfl rfl (V.pure rfl) (fun a hf => ?_)
          refine S.skip hf rfl rfl rfl (fun a hf => ?_)
          refine S.skip hf rfl rfl rfl (fun a hf => ?_)
          refine S.val hf hs (v := .bool true) rfl rfl rfl (V.pure rfl) (fun a hf => ?_)
          refine R.nil ?_
          refine X.then_ ?_
          exact ⟨true, h, ((((hf.nil.cons (hf.get 62 _ rfl)).cons (hf.get 6 _ rfl)).cons (hf.get 1 _ rfl)).cons (hf.get 0 _ rfl)), hs⟩
        · replace h := h.2 hc
          refine S.val hf hs (v := .int .i64 y2) rfl rfl rfl (V.pure rfl) (fun a hf => ?_)
          refine S.val hf hs (v := .int .i64 y5) rfl rfl rfl (V.pure rfl) (fun a hf => ?_)
          refine S.val hf hs (v := .bool (y2 != y5)) rfl rfl rfl (V.pure rfl) (fun a hf => ?_)
          refine S.val hf hs (v := .bool (y2 != y5)) rfl rfl rfl (V.pure rfl) (fun a hf => ?_)
          refine S.split hf hs (b := y2 != y5) rfl rfl rfl (V.pure rfl) (fun hc a hf => ?_) (fun hc a hf => ?_)
          · replace h := h.1 hc
            refine S.skip hf rfl rfl rfl (fun a hf => ?_)
            refine S.skip hf rfl rfl rfl (fun a hf => ?_)
            refine S.skip hf rfl rfl rfl (fun a hf => ?_)
            refine S.val hf hs (v := .bool true) rfl rfl rfl (V.pure rfl) (fun a hf => ?_)
            refine S.val hf hs (v := .bool true) rfl rfl rfl (V.pure rfl) (fun a hf => ?_)
            refine S.skip hf rfl rfl rfl (fun a hf => ?_)
            refine S.skip hf rfl rfl rfl (fun a hf => ?_)
            refine S.val hf hs (v := .bool true) rfl rfl rfl (V.pure rfl) (fun a hf => ?_)
            refine R.nil ?_
            refine X.then_ ?_
            exact ⟨true, h, ((((hf.nil.cons (hf.get 62 _ rfl)).cons (hf.get 6 _ rfl)).cons (hf.get 1 _ rfl)).cons (hf.get 0 _ rfl)), hs⟩
          · replace h := h.2 hc
            refine S.val hf hs (v := .int .i64 y2) rfl rfl rfl (V.pure rfl) (fun a hf => ?_)
            refine S.val hf hs (v := .int .i64 y8) rfl rfl rfl (V.pure rfl) (fun a hf => ?_)
            refine S.val hf hs (v := .bool (y2 != y8)) rfl rfl rfl (V.pure rfl) (fun a hf => ?_)
            refine S.val hf hs (v := .bool (y2 != y8)) rfl rfl rfl (V.pure rfl) (fun a hf => ?_)
            refine S.split hf hs (b := y2 != y8) rfl rfl rfl (V.pure rfl) (fun hc a hf => ?_) (fun hc a hf => ?_)
            · replace h := h.1 hc
              refine S.skip hf rfl rfl rfl (fun a hf => ?_)
              refine S.skip hf rfl rfl rfl (fun a hf => ?_)
              refine S.val hf hs (v := .bool true) rfl rfl rfl (V.pure rfl) (fun a hf => ?_)
              refine R.nil ?_
              refine X.then_ ?_
              exact ⟨true, h, ((((hf.nil.cons (hf.get 62 _ rfl)).cons (hf.get 6 _ rfl)).cons (hf.get 1 _ rfl)).cons (hf.get 0 _ rfl)), hs⟩
            · replace h := h.2 hc
              refine S.call hf rfl rfl rfl (call_fn (vs := []) rfl rfl rfl Try.call10) (R_awake  _  _ h) (fun v a w' hf hr => ?_)
              obtain ⟨y12, rfl, h2, hs2⟩ := hr
              replace h := h2; replace hs := hs.call hs2; clear h2 hs2
              refine S.val hf hs (v := .bool (!y12)) rfl rfl rfl (V.pure rfl) (fun a hf => ?_)
              refine S.val hf hs (v := .bool (!y12)) rfl rfl rfl (V.pure rfl) (fun a hf => ?_)
              refine R.nil ?_
              refine X.then_ ?_
              exact ⟨(!y12), h, ((((hf.nil.cons (hf.get 62 _ rfl)).cons (hf.get 6 _ rfl)).cons (hf.get 1 _ rfl)).cons (hf.get 0 _ rfl)), hs⟩

end Go.Proofs.Ytcmlcgjjkccaeaa
