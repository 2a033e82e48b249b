/- Chapter 4: sheets of glue: the walks. -/
import Derived.Test.YtjkkefhfbcgahaaStackB
import Derived.Test.YtjkkefhfbcgahaaNear
namespace Go.Proofs.Ytjkkefhfbcgahaa
open Go Go.RowKit
set_option linter.unusedVariables false

set_option linter.unusedVariables false
def M_stack_fewest_k5 (x3 : Int) (k3 : Nat) (xk3 : I16) (l8 : List I16) (n6 : Int) (again4 : List I16 → Int → Prop) (c1 : Bool) : Prop :=
  cnd c1 (again4 (l8.set ((w64 ((k3 : Int) + (w64 (n6 * x3)))).toNat) (⟨cvt .i16 (xk3.v + (cvt .i16 n6))⟩ : I16)) (w64 (n6 + 1))) (again4 l8 (w64 (n6 + 1)))
def M_stack_fewest_L4 (most : Int) (x3 : Int) (k3 : Nat) (xk3 : I16) (next3 : List I16 → Prop) (again4 : List I16 → Int → Prop) (l8 : List I16) (n6 : Int) : Prop :=
  cnd (decide (n6 ≤ most)) (idx l8 (w64 ((k3 : Int) + (w64 (n6 * x3)))) fun x6 => cnd (decide (x6.v < 0)) (M_stack_fewest_k5 x3 k3 xk3 l8 n6 again4 true) (M_stack_fewest_k5 x3 k3 xk3 l8 n6 again4 (decide (cvt .i16 (xk3.v + (cvt .i16 n6)) < x6.v)))) (next3 l8)
def M_stack_fewest_L3 (most : Int) (x3 : Int) (k3 : Nat) (xk3 : I16) (l6 : List I16) (next3 : List I16 → Prop) : Prop :=
  cnd (decide (xk3.v < 0)) (next3 l6) (lp (fun again (s : List I16 × Int) => M_stack_fewest_L4 most x3 k3 xk3 next3 (fun l8 n6 => again (l8, n6)) s.1 s.2) (l6, 1))
def M_stack_fewest_L2 (most : Int) (l2 : List (List I16)) (n2 : Int) (again1 : List (List I16) → Int → Prop) (x2 : (List I16)) (x3 : Int) (again2 : List I16 → Int → Prop) (l4 : List I16) (n4 : Int) : Prop :=
  cnd (decide (n4 < ((List.replicate ((w64 ((x2.length : Int) + (w64 (most * x3)))).toNat) (⟨0⟩ : I16)).length : Int))) (idx l4 n4 fun x4 => again2 (l4.set n4.toNat (⟨(-1)⟩ : I16)) (w64 (n4 + 1))) (forIn' (fun k x (s : List I16) next => M_stack_fewest_L3 most x3 k x s (fun l6 => next l6)) (fun (s : List I16) => (fun (l6 : List I16) => idx l2 n2 fun x5 => again1 (l2.set n2.toNat l6) (w64 (n2 - 1))) s) x2 0 l4)
def M_stack_fewest_L1 (glues : (List Int)) (most : Int) (Q : (List (List I16)) → Prop) (again1 : List (List I16) → Int → Prop) (l2 : List (List I16)) (n2 : Int) : Prop :=
  cnd (decide (n2 ≥ 0)) (idx l2 (w64 (n2 + 1)) fun x2 => idx glues n2 fun x3 => must (0 ≤ w64 ((x2.length : Int) + (w64 (most * x3))) ∧ w64 ((x2.length : Int) + (w64 (most * x3))) * 2 ≤ 281474976710656) (lp (fun again (s : List I16 × Int) => M_stack_fewest_L2 most l2 n2 again1 x2 x3 (fun l4 n4 => again (l4, n4)) s.1 s.2) ((List.replicate ((w64 ((x2.length : Int) + (w64 (most * x3)))).toNat) (⟨0⟩ : I16)), 0))) (Q l2)
def M_stack_fewest (glues : (List Int)) (most : Int) (Q : (List (List I16)) → Prop) : Prop :=
  must (0 ≤ w64 ((glues.length : Int) + 1) ∧ w64 ((glues.length : Int) + 1) * 24 ≤ 281474976710656) (idx (List.replicate ((w64 ((glues.length : Int) + 1)).toNat) ([] : (List I16))) (glues.length : Int) fun x1 => lp (fun again (s : List (List I16) × Int) => M_stack_fewest_L1 glues most Q (fun l2 n2 => again (l2, n2)) s.1 s.2) (((List.replicate ((w64 ((glues.length : Int) + 1)).toNat) ([] : (List I16))).set glues.length [(⟨0⟩ : I16)]), w64 ((glues.length : Int) - 1)))
set_option maxHeartbeats 1000000 in
theorem R_stack_fewest (glues : (List Int)) (most : Int) (w0 : World) (gluesA : Option Addr) (gluesC : Nat) (hv_glues : View w0 (old w0 none_) gluesA gluesC glues) (Q : (List (List I16)) → Prop) (h : M_stack_fewest glues most Q) :
    Ret Try.prog 71 #[.slice gluesA glues.length gluesC, .int .i64 most] w0 fun v w' => ∃ (r0 : (List (List I16))) (r0A : Option Addr) (r0C : Nat) (r0as : List (Option Addr × Nat)), v = .slice r0A r0.length r0C ∧ Q r0 ∧ Sat w0 none_ [hrows 93 94 r0A r0C r0as r0] w' := by
  refine fn_enter Try.func71 rfl Try.ntmps71 rfl (fs := [(0, .slice gluesA glues.length gluesC), (1, .int .i64 most)]) rfl (fun a hf => ?_)
  have hs := Sat.start w0 none_
  unfold M_stack_fewest at h
  refine wp_seq ?_
  refine R.list ?_
  refine S.val hf hs (v := .slice none 0 0) rfl rfl rfl (V.pure rfl) (fun a hf => ?_)
  refine R.nil ?_
  refine X.then_ ?_
  refine wp_seq ?_
  refine R.list ?_
  refine S.val hf hs (v := .slice gluesA glues.length gluesC) rfl rfl rfl (V.pure rfl) (fun a hf => ?_)
  refine S.val hf hs (v := .int .i64 (glues.length : Int)) rfl rfl rfl (V.len rfl rfl Try.runUnderlying43) (fun a hf => ?_)
  refine S.val hf hs (v := .int .i64 (w64 ((glues.length : Int) + 1))) rfl rfl rfl (V.pure rfl) (fun a hf => ?_)
  obtain ⟨hmk, h⟩ := h
  refine S.makeRows hf hs rfl rfl rfl ([] : (List I16)) (z := (w64 ((glues.length : Int) + 1))) (N := (w64 ((glues.length : Int) + 1)).toNat) 94 rfl rfl rfl rfl Try.underlying91 info93 hmk rfl (by have := hmk.2; omega) (fun A1 a w hf hs => ?_)
  refine S.val hf hs (v := .slice A1 (List.replicate ((w64 ((glues.length : Int) + 1)).toNat) ([] : (List I16))).length ((w64 ((glues.length : Int) + 1)).toNat)) rfl rfl rfl (V.pure rfl) (fun a hf => ?_)
  refine R.nil ?_
  refine X.then_ ?_
  refine wp_seq ?_
  refine R.list ?_
  refine S.val hf hs (v := .slice A1 (List.replicate ((w64 ((glues.length : Int) + 1)).toNat) ([] : (List I16))).length ((w64 ((glues.length : Int) + 1)).toNat)) rfl rfl rfl (V.pure rfl) (fun a hf => ?_)
  refine S.val hf hs (v := .slice gluesA glues.length gluesC) rfl rfl rfl (V.pure rfl) (fun a hf => ?_)
  refine S.val hf hs (v := .int .i64 (glues.length : Int)) rfl rfl rfl (V.len rfl rfl Try.runUnderlying43) (fun a hf => ?_)
  refine S.build1 hf hs rfl rfl rfl (α := I16) (⟨0⟩ : I16) rfl rfl rfl Try.runUnderlying93 Try.sizeOf94 Try.zeroValue94 rfl (by decide) (fun A2 a w hf hs => ?_)
  obtain ⟨h0x1, x1, hx1, h⟩ := h
  refine S.val hf hs (v := elemPtr A1 (glues.length * 1)) rfl rfl rfl (V.index rfl rfl rfl Try.runUnderlying91 Try.sizeOf93 (hs.rowsSome 1 rfl hx1) (Int.natCast_nonneg _) (lt_of_get hx1) rfl) (fun a hf => ?_)
  obtain ⟨B1, D1, hrB1⟩ := hs.rowAt 1 rfl hx1
  refine S.putRow (off := 0) 0 hf hs rfl rfl [(⟨0⟩ : I16)] [.slice A2 [(⟨0⟩ : I16)].length 1] rfl hx1 hrB1 rfl rfl rfl rfl rfl rfl Try.sizeOf93 rfl (by decide) rfl rfl (fun a w hf hs => ?_)
  replace hf := hf.tell 5 (v := .slice A1 ((List.replicate ((w64 ((glues.length : Int) + 1)).toNat) ([] : (List I16))).set glues.length [(⟨0⟩ : I16)]).length ((w64 ((glues.length : Int) + 1)).toNat)) ((hf.get 5 (.slice A1 (List.replicate ((w64 ((glues.length : Int) + 1)).toNat) ([] : (List I16))).length ((w64 ((glues.length : Int) + 1)).toNat)) rfl).trans (congrArg (fun n => Value.slice A1 n ((w64 ((glues.length : Int) + 1)).toNat)) List.length_set.symm))
  replace hf := hf.tell 17 (v := .slice A1 ((List.replicate ((w64 ((glues.length : Int) + 1)).toNat) ([] : (List I16))).set glues.length [(⟨0⟩ : I16)]).length ((w64 ((glues.length : Int) + 1)).toNat)) ((hf.get 17 (.slice A1 (List.replicate ((w64 ((glues.length : Int) + 1)).toNat) ([] : (List I16))).length ((w64 ((glues.length : Int) + 1)).toNat)) rfl).trans (congrArg (fun n => Value.slice A1 n ((w64 ((glues.length : Int) + 1)).toNat)) List.length_set.symm))
  replace hf := hf.tell 18 (v := .slice A1 ((List.replicate ((w64 ((glues.length : Int) + 1)).toNat) ([] : (List I16))).set glues.length [(⟨0⟩ : I16)]).length ((w64 ((glues.length : Int) + 1)).toNat)) ((hf.get 18 (.slice A1 (List.replicate ((w64 ((glues.length : Int) + 1)).toNat) ([] : (List I16))).length ((w64 ((glues.length : Int) + 1)).toNat)) rfl).trans (congrArg (fun n => Value.slice A1 n ((w64 ((glues.length : Int) + 1)).toNat)) List.length_set.symm))
  have hx1 : ((List.replicate ((w64 ((glues.length : Int) + 1)).toNat) ([] : (List I16))).set glues.length [(⟨0⟩ : I16)])[glues.length]? = some [(⟨0⟩ : I16)] := List.getElem?_set_self (lt_of_get hx1)
  have hr1 : ((List.replicate ((w64 ((glues.length : Int) + 1)).toNat) ((none : Option Addr), 0)).set glues.length (A2, 1))[glues.length]? = some (A2, 1) := List.getElem?_set_self (lt_of_get hrB1)
  refine R.nil ?_
  refine X.then_ ?_
  refine wp_seq ?_
  refine wp_seq ?_
  refine R.list ?_
  refine S.val hf hs (v := .slice gluesA glues.length gluesC) rfl rfl rfl (V.pure rfl) (fun a hf => ?_)
  refine S.val hf hs (v := .int .i64 (glues.length : Int)) rfl rfl rfl (V.len rfl rfl Try.runUnderlying43) (fun a hf => ?_)
  refine S.val hf hs (v := .int .i64 (w64 ((glues.length : Int) - 1))) rfl rfl rfl (V.pure rfl) (fun a hf => ?_)
  refine S.val hf hs (v := .int .i64 (w64 ((glues.length : Int) - 1))) rfl rfl rfl (V.pure rfl) (fun a hf => ?_)
  refine R.nil ?_
  refine X.then_ ?_
  refine wp_block ?_
  obtain ⟨kk, h⟩ := h
  refine C.loop (fun kk a w => ∃ (l2 : List (List I16)) (l2A : Option Addr) (l2C : Nat) (l2as : List (Option Addr × Nat)) (n2 : Int), iterF (fun again (s : List (List I16) × Int) => M_stack_fewest_L1 glues most Q (fun l2 n2 => again (l2, n2)) s.1 s.2) kk (l2, n2) ∧ FrOk 104 [(0, .slice gluesA glues.length gluesC), (1, .int .i64 most), (5, .slice l2A l2.length l2C), (6, .int .i64 n2)] a ∧ Sat w0 none_ [hrows 93 94 l2A l2C l2as l2] w) kk ⟨((List.replicate ((w64 ((glues.length : Int) + 1)).toNat) ([] : (List I16))).set glues.length [(⟨0⟩ : I16)]), A1, ((w64 ((glues.length : Int) + 1)).toNat), ((List.replicate ((w64 ((glues.length : Int) + 1)).toNat) ((none : Option Addr), 0)).set glues.length (A2, 1)), (w64 ((glues.length : Int) - 1)), h, ((((hf.nil.cons (hf.get 6 _ rfl)).cons (hf.get 5 _ rfl)).cons (hf.get 1 _ rfl)).cons (hf.get 0 _ rfl)), hs⟩ (fun a w ⟨_, _, _, _, _, h, _, _⟩ => h) ?_
  clear h hf hs
  rintro kk a w ⟨l2, l2A, l2C, l2as, n2, h, hf, hs⟩
  obtain ⟨again1, hagain1⟩ : ∃ X : List (List I16) → Int → Prop, X = (fun l2 n2 => iterF (fun again (s : List (List I16) × Int) => M_stack_fewest_L1 glues most Q (fun l2 n2 => again (l2, n2)) s.1 s.2) kk (l2, n2)) := ⟨_, rfl⟩
  replace h : M_stack_fewest_L1 glues most Q again1 l2 n2 := by rw [hagain1]; exact h
  unfold M_stack_fewest_L1 at h
  refine wp_seq ?_
  refine wp_seq ?_
  refine R.list ?_
  refine S.val hf hs (v := .int .i64 n2) rfl rfl rfl (V.pure rfl) (fun a hf => ?_)
  refine S.val hf hs (v := .bool (decide (n2 ≥ 0))) rfl rfl rfl (V.pure rfl) (fun a hf => ?_)
  refine R.nil ?_
  refine X.then_ ?_
  refine C.cond hf (b := decide (n2 ≥ 0)) rfl (fun hc => ?_) (fun hc => ?_)
  · replace h := h.1 hc
    refine wp_skip ?_
    refine X.then_ ?_
    refine wp_seq ?_
    refine wp_block ?_
    refine wp_seq ?_
    refine R.list ?_
    refine S.val hf hs (v := .slice l2A l2.length l2C) rfl rfl rfl (V.pure rfl) (fun a hf => ?_)
    refine S.val hf hs (v := .int .i64 n2) rfl rfl rfl (V.pure rfl) (fun a hf => ?_)
    refine S.val hf hs (v := .int .i64 (w64 (n2 + 1))) rfl rfl rfl (V.pure rfl) (fun a hf => ?_)
    obtain ⟨h0x2, x2, hx2, h⟩ := h
    refine S.val hf hs (v := elemPtr l2A ((w64 (n2 + 1)).toNat * 1)) rfl rfl rfl (V.index rfl rfl rfl Try.runUnderlying91 Try.sizeOf93 (hs.rowsSome 0 rfl hx2) h0x2 (lt_of_get hx2) rfl) (fun a hf => ?_)
    obtain ⟨B2, D2, hrB2⟩ := hs.rowAt 0 rfl hx2
    refine S.val hf hs (v := .slice B2 x2.length D2) rfl rfl rfl (V.loadRows (off := 0) 0 rfl hx2 hrB2 rfl rfl rfl Try.isAgg93 Try.sizeOf93 rfl rfl) (fun a hf => ?_)
    refine S.val hf hs (v := .slice B2 x2.length D2) rfl rfl rfl (V.pure rfl) (fun a hf => ?_)
    refine R.nil ?_
    refine X.then_ ?_
    refine wp_seq ?_
    refine R.list ?_
    refine S.val hf hs (v := .slice B2 x2.length D2) rfl rfl rfl (V.pure rfl) (fun a hf => ?_)
    refine S.val hf hs (v := .int .i64 (x2.length : Int)) rfl rfl rfl (V.len rfl rfl Try.runUnderlying93) (fun a hf => ?_)
    refine S.val hf hs (v := .int .i64 most) rfl rfl rfl (V.pure rfl) (fun a hf => ?_)
    refine S.val hf hs (v := .slice gluesA glues.length gluesC) rfl rfl rfl (V.pure rfl) (fun a hf => ?_)
    refine S.val hf hs (v := .int .i64 n2) rfl rfl rfl (V.pure rfl) (fun a hf => ?_)
    obtain ⟨h0x3, x3, hx3, h⟩ := h
    refine S.val hf hs (v := elemPtr gluesA (n2.toNat * 1)) rfl rfl rfl (V.index rfl rfl rfl Try.runUnderlying43 Try.sizeOf3 (hv_glues.some_ (lt_of_get hx3)) h0x3 (lt_of_get hx3) rfl) (fun a hf => ?_)
    refine S.val hf hs (v := .int .i64 x3) rfl rfl rfl (V.loadEl (off := 0) (Ag.args _ _ _) (hv_glues.flat hx3) rfl rfl rfl Try.isAgg3 Try.sizeOf3 rfl rfl) (fun a hf => ?_)
    refine S.val hf hs (v := .int .i64 (w64 (most * x3))) rfl rfl rfl (V.pure rfl) (fun a hf => ?_)
    refine S.val hf hs (v := .int .i64 (w64 ((x2.length : Int) + (w64 (most * x3))))) rfl rfl rfl (V.pure rfl) (fun a hf => ?_)
    obtain ⟨hmk, h⟩ := h
    refine S.make hf hs rfl rfl rfl (α := I16) (⟨0⟩ : I16) (z := (w64 ((x2.length : Int) + (w64 (most * x3))))) (N := (w64 ((x2.length : Int) + (w64 (most * x3)))).toNat) rfl rfl rfl Try.underlying93 info94 hmk rfl (by have := hmk.2; omega) (fun A3 a w hf hs => ?_)
    refine S.val hf hs (v := .slice A3 (List.replicate ((w64 ((x2.length : Int) + (w64 (most * x3)))).toNat) (⟨0⟩ : I16)).length ((w64 ((x2.length : Int) + (w64 (most * x3)))).toNat)) rfl rfl rfl (V.pure rfl) (fun a hf => ?_)
    refine R.nil ?_
    refine X.then_ ?_
    refine wp_seq ?_
    refine wp_seq ?_
    refine R.list ?_
    refine S.val hf hs (v := .slice A3 (List.replicate ((w64 ((x2.length : Int) + (w64 (most * x3)))).toNat) (⟨0⟩ : I16)).length ((w64 ((x2.length : Int) + (w64 (most * x3)))).toNat)) rfl rfl rfl (V.pure rfl) (fun a hf => ?_)
    refine S.val hf hs (v := .int .i64 ((List.replicate ((w64 ((x2.length : Int) + (w64 (most * x3)))).toNat) (⟨0⟩ : I16)).length : Int)) rfl rfl rfl (V.len rfl rfl Try.runUnderlying93) (fun a hf => ?_)
    refine S.val hf hs (v := .int .i64 0) rfl rfl rfl (V.pure rfl) (fun a hf => ?_)
    refine R.nil ?_
    refine X.then_ ?_
    refine wp_block ?_
    obtain ⟨kk, h⟩ := h
    refine C.loop (fun kk a w => ∃ (l4 : List I16) (l4A : Option Addr) (l4C : Nat) (n4 : Int), iterF (fun again (s : List I16 × Int) => M_stack_fewest_L2 most l2 n2 again1 x2 x3 (fun l4 n4 => again (l4, n4)) s.1 s.2) kk (l4, n4) ∧ FrOk 104 [(0, .slice gluesA glues.length gluesC), (1, .int .i64 most), (5, .slice l2A l2.length l2C), (6, .int .i64 n2), (7, .slice B2 x2.length D2), (8, .slice l4A l4.length l4C), (46, .int .i64 ((List.replicate ((w64 ((x2.length : Int) + (w64 (most * x3)))).toNat) (⟨0⟩ : I16)).length : Int)), (47, .int .i64 n4)] a ∧ Sat w0 none_ [hown 94 l4A l4C l4, hrows 93 94 l2A l2C l2as l2] w) kk ⟨(List.replicate ((w64 ((x2.length : Int) + (w64 (most * x3)))).toNat) (⟨0⟩ : I16)), A3, ((w64 ((x2.length : Int) + (w64 (most * x3)))).toNat), 0, h, ((((((((hf.nil.cons (hf.get 47 _ rfl)).cons (hf.get 46 _ rfl)).cons (hf.get 8 _ rfl)).cons (hf.get 7 _ rfl)).cons (hf.get 6 _ rfl)).cons (hf.get 5 _ rfl)).cons (hf.get 1 _ rfl)).cons (hf.get 0 _ rfl)), hs⟩ (fun a w ⟨_, _, _, _, h, _, _⟩ => h) ?_
    clear h hf hs
    rintro kk a w ⟨l4, l4A, l4C, n4, h, hf, hs⟩
    obtain ⟨again2, hagain2⟩ : ∃ X : List I16 → Int → Prop, X = (fun l4 n4 => iterF (fun again (s : List I16 × Int) => M_stack_fewest_L2 most l2 n2 again1 x2 x3 (fun l4 n4 => again (l4, n4)) s.1 s.2) kk (l4, n4)) := ⟨_, rfl⟩
    replace h : M_stack_fewest_L2 most l2 n2 again1 x2 x3 again2 l4 n4 := by rw [hagain2]; exact h
    unfold M_stack_fewest_L2 at h
    refine wp_seq ?_
    refine R.list ?_
    refine S.val hf hs (v := .bool (decide (n4 < ((List.replicate ((w64 ((x2.length : Int) + (w64 (most * x3)))).toNat) (⟨0⟩ : I16)).length : Int)))) rfl rfl rfl (V.pure rfl) (fun a hf => ?_)
    refine R.nil ?_
    refine X.then_ ?_
    refine wp_seq ?_
    refine C.cond hf (b := decide (n4 < ((List.replicate ((w64 ((x2.length : Int) + (w64 (most * x3)))).toNat) (⟨0⟩ : I16)).length : Int))) rfl (fun hc => ?_) (fun hc => ?_)
    · replace h := h.1 hc
      refine wp_skip ?_
      refine X.then_ ?_
      refine wp_seq ?_
      refine wp_block ?_
      refine wp_seq ?_
      refine R.list ?_
      refine S.val hf hs (v := .int .i64 n4) rfl rfl rfl (V.pure rfl) (fun a hf => ?_)
      refine S.val hf hs (v := .int .i64 n4) rfl rfl rfl (V.pure rfl) (fun a hf => ?_)
      refine R.nil ?_
      refine X.then_ ?_
      refine R.list ?_
      refine S.val hf hs (v := .slice l4A l4.length l4C) rfl rfl rfl (V.pure rfl) (fun a hf => ?_)
      refine S.val hf hs (v := .int .i64 n4) rfl rfl rfl (V.pure rfl) (fun a hf => ?_)
      obtain ⟨h0x4, x4, hx4, h⟩ := h
      refine S.val hf hs (v := elemPtr l4A (n4.toNat * 1)) rfl rfl rfl (V.index rfl rfl rfl Try.runUnderlying93 Try.sizeOf94 (hs.ownSome 0 rfl (lt_of_get hx4)) h0x4 (lt_of_get hx4) rfl) (fun a hf => ?_)
      refine S.storeOwn (off := 0) 0 hf hs rfl rfl (⟨(-1)⟩ : I16) [.int .i16 (-1)] rfl hx4 rfl rfl rfl rfl rfl Try.sizeOf94 rfl (by decide) rfl rfl (fun a w hf hs => ?_)
      replace hf := hf.tell 8 (v := .slice l4A (l4.set n4.toNat (⟨(-1)⟩ : I16)).length l4C) ((hf.get 8 (.slice l4A l4.length l4C) rfl).trans (congrArg (fun n => Value.slice l4A n l4C) List.length_set.symm))
      replace hf := hf.tell 50 (v := .slice l4A (l4.set n4.toNat (⟨(-1)⟩ : I16)).length l4C) ((hf.get 50 (.slice l4A l4.length l4C) rfl).trans (congrArg (fun n => Value.slice l4A n l4C) List.length_set.symm))
      refine R.nil ?_
      refine X.blk ?_
      refine X.then_ ?_
      refine R.list ?_
      refine S.val hf hs (v := .int .i64 (w64 (n4 + 1))) rfl rfl rfl (V.pure rfl) (fun a hf => ?_)
      refine S.val hf hs (v := .int .i64 (w64 (n4 + 1))) rfl rfl rfl (V.pure rfl) (fun a hf => ?_)
      refine R.nil ?_
      refine X.then_ ?_
      exact ⟨(l4.set n4.toNat (⟨(-1)⟩ : I16)), l4A, l4C, (w64 (n4 + 1)), (by rw [hagain2] at h; exact h), ((((((((hf.nil.cons (hf.get 47 _ rfl)).cons (hf.get 46 _ rfl)).cons (hf.get 8 _ rfl)).cons (hf.get 7 _ rfl)).cons (hf.get 6 _ rfl)).cons (hf.get 5 _ rfl)).cons (hf.get 1 _ rfl)).cons (hf.get 0 _ rfl)), hs⟩
    · replace h := h.2 hc
      refine wp_exit ?_
      refine X.then_exit ?_
      refine X.then_exit ?_
      refine X.blk_exit ?_
      refine X.then_ ?_
      refine wp_seq ?_
      refine wp_seq ?_
      refine R.list ?_
      refine S.val hf hs (v := .slice B2 x2.length D2) rfl rfl rfl (V.pure rfl) (fun a hf => ?_)
      refine S.val hf hs (v := .int .i64 (x2.length : Int)) rfl rfl rfl (V.len rfl rfl Try.runUnderlying93) (fun a hf => ?_)
      refine S.val hf hs (v := .int .i64 0) rfl rfl rfl (V.pure rfl) (fun a hf => ?_)
      refine R.nil ?_
      refine X.then_ ?_
      refine wp_block ?_
      have hlenk3 := (hs.rowView 1 rfl hx2 hrB2).len64
      refine C.range (fun (ll : List I16) a w => ∃ (k3 : Nat) (l6 : List I16) (l6A : Option Addr) (l6C : Nat), x2.drop k3 = ll ∧ k3 + ll.length = x2.length ∧ forIn' (fun k x (s : List I16) next => M_stack_fewest_L3 most x3 k x s (fun l6 => next l6)) (fun (s : List I16) => (fun (l6 : List I16) => idx l2 n2 fun x5 => again1 (l2.set n2.toNat l6) (w64 (n2 - 1))) s) ll k3 l6 ∧ FrOk 104 [(56, .int .i64 (k3 : Int)), (0, .slice gluesA glues.length gluesC), (1, .int .i64 most), (5, .slice l2A l2.length l2C), (6, .int .i64 n2), (8, .slice l6A l6.length l6C), (54, .slice B2 x2.length D2), (55, .int .i64 (x2.length : Int))] a ∧ Sat w0 none_ [hown 94 l6A l6C l6, hrows 93 94 l2A l2C l2as l2] w) x2 ⟨0, l4, l4A, l4C, rfl, Nat.zero_add _, h, ((((((((hf.nil.cons (hf.get 55 _ rfl)).cons (hf.get 54 _ rfl)).cons (hf.get 8 _ rfl)).cons (hf.get 6 _ rfl)).cons (hf.get 5 _ rfl)).cons (hf.get 1 _ rfl)).cons (hf.get 0 _ rfl)).cons (hf.get 56 _ rfl)), hs⟩ ?_
      clear h hf hs
      rintro llk3 a w ⟨k3, l6, l6A, l6C, hlk3, hkk3, h, hf, hs⟩
      cases llk3 with
      | nil =>
        have hc := range_done hkk3
        replace h : (fun (l6 : List I16) => idx l2 n2 fun x5 => again1 (l2.set n2.toNat l6) (w64 (n2 - 1))) l6 := h
        refine wp_seq ?_
        refine R.list ?_
        refine S.val hf hs (v := .bool false) rfl rfl rfl (V.cmp false rfl rfl rfl rfl hc) (fun a hf => ?_)
        refine R.nil ?_
        refine X.then_ ?_
        refine wp_seq ?_
        refine C.no hf rfl ?_
        refine wp_exit ?_
        refine X.then_exit ?_
        refine X.then_exit ?_
        refine X.blk_exit ?_
        refine X.then_ ?_
        refine R.list ?_
        refine S.val hf hs (v := .slice l2A l2.length l2C) rfl rfl rfl (V.pure rfl) (fun a hf => ?_)
        refine S.val hf hs (v := .int .i64 n2) rfl rfl rfl (V.pure rfl) (fun a hf => ?_)
        refine S.val hf hs (v := .slice l6A l6.length l6C) rfl rfl rfl (V.pure rfl) (fun a hf => ?_)
        obtain ⟨h0x5, x5, hx5, h⟩ := h
        refine S.val hf hs (v := elemPtr l2A (n2.toNat * 1)) rfl rfl rfl (V.index rfl rfl rfl Try.runUnderlying91 Try.sizeOf93 (hs.rowsSome 1 rfl hx5) h0x5 (lt_of_get hx5) rfl) (fun a hf => ?_)
        obtain ⟨B3, D3, hrB3⟩ := hs.rowAt 1 rfl hx5
        refine S.putRow (off := 0) 0 hf hs rfl rfl l6 [.slice l6A l6.length l6C] rfl hx5 hrB3 rfl rfl rfl rfl rfl rfl Try.sizeOf93 rfl (by decide) rfl rfl (fun a w hf hs => ?_)
        replace hf := hf.tell 5 (v := .slice l2A (l2.set n2.toNat l6).length l2C) ((hf.get 5 (.slice l2A l2.length l2C) rfl).trans (congrArg (fun n => Value.slice l2A n l2C) List.length_set.symm))
        replace hf := hf.tell 99 (v := .slice l2A (l2.set n2.toNat l6).length l2C) ((hf.get 99 (.slice l2A l2.length l2C) rfl).trans (congrArg (fun n => Value.slice l2A n l2C) List.length_set.symm))
        have hx2 : (l2.set n2.toNat l6)[n2.toNat]? = some l6 := List.getElem?_set_self (lt_of_get hx5)
        have hr2 : (l2as.set n2.toNat (l6A, l6C))[n2.toNat]? = some (l6A, l6C) := List.getElem?_set_self (lt_of_get hrB3)
        refine R.nil ?_
        refine X.blk ?_
        refine X.then_ ?_
        refine R.list ?_
        refine S.val hf hs (v := .int .i64 n2) rfl rfl rfl (V.pure rfl) (fun a hf => ?_)
        refine S.val hf hs (v := .int .i64 (w64 (n2 - 1))) rfl rfl rfl (V.pure rfl) (fun a hf => ?_)
        refine S.val hf hs (v := .int .i64 (w64 (n2 - 1))) rfl rfl rfl (V.pure rfl) (fun a hf => ?_)
        refine R.nil ?_
        refine X.then_ ?_
        exact ⟨(l2.set n2.toNat l6), l2A, l2C, (l2as.set n2.toNat (l6A, l6C)), (w64 (n2 - 1)), (by rw [hagain1] at h; exact h), ((((hf.nil.cons (hf.get 6 _ rfl)).cons (hf.get 5 _ rfl)).cons (hf.get 1 _ rfl)).cons (hf.get 0 _ rfl)), hs⟩
      | cons xk3 llk3 =>
        have hltk3 := range_lt hkk3; have hc := range_go hkk3; have hxk3 := range_get hlk3
        obtain ⟨next3, hnext3⟩ : ∃ X : List I16 → Prop, X = (fun l6 => forIn' (fun k x (s : List I16) next => M_stack_fewest_L3 most x3 k x s (fun l6 => next l6)) (fun (s : List I16) => (fun (l6 : List I16) => idx l2 n2 fun x5 => again1 (l2.set n2.toNat l6) (w64 (n2 - 1))) s) llk3 (k3 + 1) l6) := ⟨_, rfl⟩
        replace h : M_stack_fewest_L3 most x3 k3 xk3 l6 next3 := by rw [hnext3]; exact h
        unfold M_stack_fewest_L3 at h
        refine wp_seq ?_
        refine R.list ?_
        refine S.val hf hs (v := .bool true) rfl rfl rfl (V.cmp true rfl rfl rfl rfl hc) (fun a hf => ?_)
        refine R.nil ?_
        refine X.then_ ?_
        refine wp_seq ?_
        refine C.yes hf rfl ?_
        refine wp_skip ?_
        refine X.then_ ?_
        refine wp_seq ?_
        refine wp_block ?_
        refine wp_seq ?_
        refine R.list ?_
        refine S.val hf hs (v := .int .i64 (k3 : Int)) rfl rfl rfl (V.pure rfl) (fun a hf => ?_)
        refine S.val hf hs (v := elemPtr B2 (k3 * 1)) rfl rfl rfl (V.index rfl rfl rfl Try.runUnderlying93 Try.sizeOf94 ((hs.rowView 1 rfl hx2 hrB2).some_ (lt_of_get hxk3)) (Int.natCast_nonneg _) (lt_of_get hxk3) rfl) (fun a hf => ?_)
        refine S.val hf hs (v := .int .i16 xk3.v) rfl rfl rfl (V.loadRowEl (off := 0) 1 rfl hx2 hrB2 hxk3 rfl rfl rfl Try.isAgg94 Try.sizeOf94 rfl rfl) (fun a hf => ?_)
        refine S.val hf hs (v := .int .i64 (k3 : Int)) rfl rfl rfl (V.pure rfl) (fun a hf => ?_)
        refine S.val hf hs (v := .int .i16 xk3.v) rfl rfl rfl (V.pure rfl) (fun a hf => ?_)
        refine R.nil ?_
        refine X.then_ ?_
        refine wp_seq ?_
        refine wp_seq ?_
        refine R.list ?_
        refine S.val hf hs (v := .int .i16 xk3.v) rfl rfl rfl (V.pure rfl) (fun a hf => ?_)
        refine S.val hf hs (v := .bool (decide (xk3.v < 0))) rfl rfl rfl (V.pure rfl) (fun a hf => ?_)
        refine R.nil ?_
        refine X.then_ ?_
        refine C.cond hf (b := decide (xk3.v < 0)) rfl (fun hc => ?_) (fun hc => ?_)
        · replace h := h.1 hc
          refine wp_exit ?_
          refine X.then_exit ?_
          refine X.blk_exit ?_
          refine X.then_ ?_
          refine R.list ?_
          refine S.val hf hs (v := .int .i64 ((k3 + 1 : Nat) : Int)) rfl rfl rfl (V.incr rfl rfl rfl hltk3 hlenk3) (fun a hf => ?_)
          refine S.val hf hs (v := .int .i64 ((k3 + 1 : Nat) : Int)) rfl rfl rfl (V.pure rfl) (fun a hf => ?_)
          refine R.nil ?_
          refine X.then_ ?_
          exact ⟨xk3, llk3, rfl, k3 + 1, l6, l6A, l6C, range_drop hlk3, range_len hkk3, (by rw [hnext3] at h; exact h), ((((((((hf.nil.cons (hf.get 55 _ rfl)).cons (hf.get 54 _ rfl)).cons (hf.get 8 _ rfl)).cons (hf.get 6 _ rfl)).cons (hf.get 5 _ rfl)).cons (hf.get 1 _ rfl)).cons (hf.get 0 _ rfl)).cons (hf.get 56 _ rfl)), hs⟩
        · replace h := h.2 hc
          refine wp_skip ?_
          refine X.then_ ?_
          refine wp_seq ?_
          refine R.list ?_
          refine S.val hf hs (v := .int .i64 1) rfl rfl rfl (V.pure rfl) (fun a hf => ?_)
          refine R.nil ?_
          refine X.then_ ?_
          refine wp_block ?_
          obtain ⟨kk, h⟩ := h
          refine C.loop (fun kk a w => ∃ (l8 : List I16) (l8A : Option Addr) (l8C : Nat) (n6 : Int), iterF (fun again (s : List I16 × Int) => M_stack_fewest_L4 most x3 k3 xk3 next3 (fun l8 n6 => again (l8, n6)) s.1 s.2) kk (l8, n6) ∧ FrOk 104 [(0, .slice gluesA glues.length gluesC), (1, .int .i64 most), (5, .slice l2A l2.length l2C), (6, .int .i64 n2), (8, .slice l8A l8.length l8C), (10, .int .i64 (k3 : Int)), (11, .int .i16 xk3.v), (12, .int .i64 n6), (54, .slice B2 x2.length D2), (55, .int .i64 (x2.length : Int)), (56, .int .i64 (k3 : Int))] a ∧ Sat w0 none_ [hown 94 l8A l8C l8, hrows 93 94 l2A l2C l2as l2] w) kk ⟨l6, l6A, l6C, 1, h, (((((((((((hf.nil.cons (hf.get 56 _ rfl)).cons (hf.get 55 _ rfl)).cons (hf.get 54 _ rfl)).cons (hf.get 12 _ rfl)).cons (hf.get 11 _ rfl)).cons (hf.get 10 _ rfl)).cons (hf.get 8 _ rfl)).cons (hf.get 6 _ rfl)).cons (hf.get 5 _ rfl)).cons (hf.get 1 _ rfl)).cons (hf.get 0 _ rfl)), hs⟩ (fun a w ⟨_, _, _, _, h, _, _⟩ => h) ?_
          clear h hf hs
          rintro kk a w ⟨l8, l8A, l8C, n6, h, hf, hs⟩
          obtain ⟨again4, hagain4⟩ : ∃ X : List I16 → Int → Prop, X = (fun l8 n6 => iterF (fun again (s : List I16 × Int) => M_stack_fewest_L4 most x3 k3 xk3 next3 (fun l8 n6 => again (l8, n6)) s.1 s.2) kk (l8, n6)) := ⟨_, rfl⟩
          replace h : M_stack_fewest_L4 most x3 k3 xk3 next3 again4 l8 n6 := by rw [hagain4]; exact h
          unfold M_stack_fewest_L4 at h
          refine wp_seq ?_
          refine wp_seq ?_
          refine R.list ?_
          refine S.val hf hs (v := .int .i64 n6) rfl rfl rfl (V.pure rfl) (fun a hf => ?_)
          refine S.val hf hs (v := .int .i64 most) rfl rfl rfl (V.pure rfl) (fun a hf => ?_)
          refine S.val hf hs (v := .bool (decide (n6 ≤ most))) rfl rfl rfl (V.pure rfl) (fun a hf => ?_)
          refine R.nil ?_
          refine X.then_ ?_
          refine C.cond hf (b := decide (n6 ≤ most)) rfl (fun hc => ?_) (fun hc => ?_)
          · replace h := h.1 hc
            refine wp_skip ?_
            refine X.then_ ?_
            refine wp_seq ?_
            refine wp_block ?_
            refine wp_seq ?_
            refine R.list ?_
            refine S.val hf hs (v := .slice l8A l8.length l8C) rfl rfl rfl (V.pure rfl) (fun a hf => ?_)
            refine S.val hf hs (v := .int .i64 (k3 : Int)) rfl rfl rfl (V.pure rfl) (fun a hf => ?_)
            refine S.val hf hs (v := .int .i64 n6) rfl rfl rfl (V.pure rfl) (fun a hf => ?_)
            refine S.val hf hs (v := .slice gluesA glues.length gluesC) rfl rfl rfl (V.pure rfl) (fun a hf => ?_)
            refine S.val hf hs (v := .int .i64 n2) rfl rfl rfl (V.pure rfl) (fun a hf => ?_)
            refine S.val hf hs (v := elemPtr gluesA (n2.toNat * 1)) rfl rfl rfl (V.index rfl rfl rfl Try.runUnderlying43 Try.sizeOf3 (hv_glues.some_ (lt_of_get hx3)) h0x3 (lt_of_get hx3) rfl) (fun a hf => ?_)
            refine S.val hf hs (v := .int .i64 x3) rfl rfl rfl (V.loadEl (off := 0) (Ag.args _ _ _) (hv_glues.flat hx3) rfl rfl rfl Try.isAgg3 Try.sizeOf3 rfl rfl) (fun a hf => ?_)
            refine S.val hf hs (v := .int .i64 (w64 (n6 * x3))) rfl rfl rfl (V.pure rfl) (fun a hf => ?_)
            refine S.val hf hs (v := .int .i64 (w64 ((k3 : Int) + (w64 (n6 * x3))))) rfl rfl rfl (V.pure rfl) (fun a hf => ?_)
            obtain ⟨h0x6, x6, hx6, h⟩ := h
            refine S.val hf hs (v := elemPtr l8A ((w64 ((k3 : Int) + (w64 (n6 * x3)))).toNat * 1)) rfl rfl rfl (V.index rfl rfl rfl Try.runUnderlying93 Try.sizeOf94 (hs.ownSome 0 rfl (lt_of_get hx6)) h0x6 (lt_of_get hx6) rfl) (fun a hf => ?_)
            refine S.val hf hs (v := elemPtr l8A ((w64 ((k3 : Int) + (w64 (n6 * x3)))).toNat * 1)) rfl rfl rfl (V.pure rfl) (fun a hf => ?_)
            refine R.nil ?_
            refine X.then_ ?_
            refine wp_seq ?_
            refine C.cut (J := fun a w => ∃ (c1 : Bool), M_stack_fewest_k5 x3 k3 xk3 l8 n6 again4 c1 ∧ FrOk 104 [(0, .slice gluesA glues.length gluesC), (1, .int .i64 most), (5, .slice l2A l2.length l2C), (6, .int .i64 n2), (8, .slice l8A l8.length l8C), (10, .int .i64 (k3 : Int)), (11, .int .i16 xk3.v), (12, .int .i64 n6), (13, elemPtr l8A ((w64 ((k3 : Int) + (w64 (n6 * x3)))).toNat * 1)), (54, .slice B2 x2.length D2), (55, .int .i64 (x2.length : Int)), (56, .int .i64 (k3 : Int)), (91, .bool c1)] a ∧ Sat w0 none_ [hown 94 l8A l8C l8, hrows 93 94 l2A l2C l2as l2] w) ?_ ?_
            · rintro a w ⟨c1, h, hf, hs⟩
              unfold M_stack_fewest_k5 at h
              refine C.cond hf (b := c1) rfl (fun hc => ?_) (fun hc => ?_)
              · replace h := h.1 hc
                refine R.list ?_
                refine S.val hf hs (v := elemPtr l8A ((w64 ((k3 : Int) + (w64 (n6 * x3)))).toNat * 1)) rfl rfl rfl (V.pure rfl) (fun a hf => ?_)
                refine S.val hf hs (v := .int .i16 xk3.v) rfl rfl rfl (V.pure rfl) (fun a hf => ?_)
                refine S.val hf hs (v := .int .i64 n6) rfl rfl rfl (V.pure rfl) (fun a hf => ?_)
                refine S.val hf hs (v := .int .i16 (cvt .i16 n6)) rfl rfl rfl (V.conv rfl rfl Try.runUnderlying3 Try.runUnderlying94) (fun a hf => ?_)
                refine S.val hf hs (v := .int .i16 (cvt .i16 (xk3.v + (cvt .i16 n6)))) rfl rfl rfl (V.pure rfl) (fun a hf => ?_)
                refine S.val hf hs (v := elemPtr l8A ((w64 ((k3 : Int) + (w64 (n6 * x3)))).toNat * 1)) rfl rfl rfl (V.nilCheckEl rfl rfl (hs.ownSome 0 rfl (lt_of_get hx6))) (fun a hf => ?_)
                refine S.storeOwn (off := 0) 0 hf hs rfl rfl (⟨cvt .i16 (xk3.v + (cvt .i16 n6))⟩ : I16) [.int .i16 (cvt .i16 (xk3.v + (cvt .i16 n6)))] rfl hx6 rfl rfl rfl rfl rfl Try.sizeOf94 rfl (by decide) rfl rfl (fun a w hf hs => ?_)
                replace hf := hf.tell 8 (v := .slice l8A (l8.set ((w64 ((k3 : Int) + (w64 (n6 * x3)))).toNat) (⟨cvt .i16 (xk3.v + (cvt .i16 n6))⟩ : I16)).length l8C) ((hf.get 8 (.slice l8A l8.length l8C) rfl).trans (congrArg (fun n => Value.slice l8A n l8C) List.length_set.symm))
                refine R.nil ?_
                refine X.blk ?_
                refine X.then_ ?_
                refine R.list ?_
                refine S.val hf hs (v := .int .i64 n6) rfl rfl rfl (V.pure rfl) (fun a hf => ?_)
                refine S.val hf hs (v := .int .i64 (w64 (n6 + 1))) rfl rfl rfl (V.pure rfl) (fun a hf => ?_)
                refine S.val hf hs (v := .int .i64 (w64 (n6 + 1))) rfl rfl rfl (V.pure rfl) (fun a hf => ?_)
                refine R.nil ?_
                refine X.then_ ?_
                exact ⟨(l8.set ((w64 ((k3 : Int) + (w64 (n6 * x3)))).toNat) (⟨cvt .i16 (xk3.v + (cvt .i16 n6))⟩ : I16)), l8A, l8C, (w64 (n6 + 1)), (by rw [hagain4] at h; exact h), (((((((((((hf.nil.cons (hf.get 56 _ rfl)).cons (hf.get 55 _ rfl)).cons (hf.get 54 _ rfl)).cons (hf.get 12 _ rfl)).cons (hf.get 11 _ rfl)).cons (hf.get 10 _ rfl)).cons (hf.get 8 _ rfl)).cons (hf.get 6 _ rfl)).cons (hf.get 5 _ rfl)).cons (hf.get 1 _ rfl)).cons (hf.get 0 _ rfl)), hs⟩
              · replace h := h.2 hc
                refine wp_skip ?_
                refine X.blk ?_
                refine X.then_ ?_
                refine R.list ?_
                refine S.val hf hs (v := .int .i64 n6) rfl rfl rfl (V.pure rfl) (fun a hf => ?_)
                refine S.val hf hs (v := .int .i64 (w64 (n6 + 1))) rfl rfl rfl (V.pure rfl) (fun a hf => ?_)
                refine S.val hf hs (v := .int .i64 (w64 (n6 + 1))) rfl rfl rfl (V.pure rfl) (fun a hf => ?_)
                refine R.nil ?_
                refine X.then_ ?_
                exact ⟨l8, l8A, l8C, (w64 (n6 + 1)), (by rw [hagain4] at h; exact h), (((((((((((hf.nil.cons (hf.get 56 _ rfl)).cons (hf.get 55 _ rfl)).cons (hf.get 54 _ rfl)).cons (hf.get 12 _ rfl)).cons (hf.get 11 _ rfl)).cons (hf.get 10 _ rfl)).cons (hf.get 8 _ rfl)).cons (hf.get 6 _ rfl)).cons (hf.get 5 _ rfl)).cons (hf.get 1 _ rfl)).cons (hf.get 0 _ rfl)), hs⟩
            · skip
              refine R.list ?_
              refine S.val hf hs (v := elemPtr l8A ((w64 ((k3 : Int) + (w64 (n6 * x3)))).toNat * 1)) rfl rfl rfl (V.pure rfl) (fun a hf => ?_)
              refine S.val hf hs (v := elemPtr l8A ((w64 ((k3 : Int) + (w64 (n6 * x3)))).toNat * 1)) rfl rfl rfl (V.nilCheckEl rfl rfl (hs.ownSome 0 rfl (lt_of_get hx6))) (fun a hf => ?_)
              refine S.val hf hs (v := .int .i16 x6.v) rfl rfl rfl (V.loadOwn (off := 0) 0 rfl hx6 rfl rfl rfl Try.isAgg94 Try.sizeOf94 rfl rfl) (fun a hf => ?_)
              refine S.val hf hs (v := .bool (decide (x6.v < 0))) rfl rfl rfl (V.pure rfl) (fun a hf => ?_)
              refine S.split hf hs (b := decide (x6.v < 0)) rfl rfl rfl (V.pure rfl) (fun hc a hf => ?_) (fun hc a hf => ?_)
              · replace h := h.1 hc
                refine S.skip hf rfl rfl rfl (fun a hf => ?_)
                refine S.skip hf rfl rfl rfl (fun a hf => ?_)
                refine S.skip hf rfl rfl rfl (fun a hf => ?_)
                refine S.skip hf rfl rfl rfl (fun a hf => ?_)
                refine S.skip hf rfl rfl rfl (fun a hf => ?_)
                refine S.skip hf rfl rfl rfl (fun a hf => ?_)
                refine S.skip hf rfl rfl rfl (fun a hf => ?_)
                refine S.skip hf rfl rfl rfl (fun a hf => ?_)
                refine S.val hf hs (v := .bool true) rfl rfl rfl (V.pure rfl) (fun a hf => ?_)
                refine R.nil ?_
                refine X.then_ ?_
                exact ⟨true, h, (((((((((((((hf.nil.cons (hf.get 91 _ rfl)).cons (hf.get 56 _ rfl)).cons (hf.get 55 _ rfl)).cons (hf.get 54 _ rfl)).cons (hf.get 13 _ rfl)).cons (hf.get 12 _ rfl)).cons (hf.get 11 _ rfl)).cons (hf.get 10 _ rfl)).cons (hf.get 8 _ rfl)).cons (hf.get 6 _ rfl)).cons (hf.get 5 _ rfl)).cons (hf.get 1 _ rfl)).cons (hf.get 0 _ rfl)), hs⟩
              · replace h := h.2 hc
                refine S.val hf hs (v := .int .i16 xk3.v) rfl rfl rfl (V.pure rfl) (fun a hf => ?_)
                refine S.val hf hs (v := .int .i64 n6) rfl rfl rfl (V.pure rfl) (fun a hf => ?_)
                refine S.val hf hs (v := .int .i16 (cvt .i16 n6)) rfl rfl rfl (V.conv rfl rfl Try.runUnderlying3 Try.runUnderlying94) (fun a hf => ?_)
                refine S.val hf hs (v := .int .i16 (cvt .i16 (xk3.v + (cvt .i16 n6)))) rfl rfl rfl (V.pure rfl) (fun a hf => ?_)
                refine S.val hf hs (v := elemPtr l8A ((w64 ((k3 : Int) + (w64 (n6 * x3)))).toNat * 1)) rfl rfl rfl (V.pure rfl) (fun a hf => ?_)
                refine S.val hf hs (v := elemPtr l8A ((w64 ((k3 : Int) + (w64 (n6 * x3)))).toNat * 1)) rfl rfl rfl (V.nilCheckEl rfl rfl (hs.ownSome 0 rfl (lt_of_get hx6))) (fun a hf => ?_)
                refine S.val hf hs (v := .int .i16 x6.v) rfl rfl rfl (V.loadOwn (off := 0) 0 rfl hx6 rfl rfl rfl Try.isAgg94 Try.sizeOf94 rfl rfl) (fun a hf => ?_)
                refine S.val hf hs (v := .bool (decide (cvt .i16 (xk3.v + (cvt .i16 n6)) < x6.v))) rfl rfl rfl (V.pure rfl) (fun a hf => ?_)
                refine S.val hf hs (v := .bool (decide (cvt .i16 (xk3.v + (cvt .i16 n6)) < x6.v))) rfl rfl rfl (V.pure rfl) (fun a hf => ?_)
                refine R.nil ?_
                refine X.then_ ?_
                exact ⟨(decide (cvt .i16 (xk3.v + (cvt .i16 n6)) < x6.v)), h, (((((((((((((hf.nil.cons (hf.get 91 _ rfl)).cons (hf.get 56 _ rfl)).cons (hf.get 55 _ rfl)).cons (hf.get 54 _ rfl)).cons (hf.get 13 _ rfl)).cons (hf.get 12 _ rfl)).cons (hf.get 11 _ rfl)).cons (hf.get 10 _ rfl)).cons (hf.get 8 _ rfl)).cons (hf.get 6 _ rfl)).cons (hf.get 5 _ rfl)).cons (hf.get 1 _ rfl)).cons (hf.get 0 _ rfl)), hs⟩
          · replace h := h.2 hc
            refine wp_exit ?_
            refine X.then_exit ?_
            refine X.then_exit ?_
            refine X.blk_exit ?_
            refine X.blk ?_
            refine X.then_ ?_
            refine R.list ?_
            refine S.val hf hs (v := .int .i64 ((k3 + 1 : Nat) : Int)) rfl rfl rfl (V.incr rfl rfl rfl hltk3 hlenk3) (fun a hf => ?_)
            refine S.val hf hs (v := .int .i64 ((k3 + 1 : Nat) : Int)) rfl rfl rfl (V.pure rfl) (fun a hf => ?_)
            refine R.nil ?_
            refine X.then_ ?_
            exact ⟨xk3, llk3, rfl, k3 + 1, l8, l8A, l8C, range_drop hlk3, range_len hkk3, (by rw [hnext3] at h; exact h), ((((((((hf.nil.cons (hf.get 55 _ rfl)).cons (hf.get 54 _ rfl)).cons (hf.get 8 _ rfl)).cons (hf.get 6 _ rfl)).cons (hf.get 5 _ rfl)).cons (hf.get 1 _ rfl)).cons (hf.get 0 _ rfl)).cons (hf.get 56 _ rfl)), hs⟩
  · replace h := h.2 hc
    refine wp_exit ?_
    refine X.then_exit ?_
    refine X.then_exit ?_
    refine X.blk_exit ?_
    refine X.then_ ?_
    refine wp_seq ?_
    refine R.list ?_
    refine S.val hf hs (v := .slice l2A l2.length l2C) rfl rfl rfl (V.pure rfl) (fun a hf => ?_)
    refine S.val hf hs (v := .slice l2A l2.length l2C) rfl rfl rfl (V.pure rfl) (fun a hf => ?_)
    refine R.nil ?_
    refine X.then_ ?_
    refine wp_ret ?_
    replace hs := hs.take 1
    exact L.ret hf (run_results1 Try.results71 (ResIs.tmp hf rfl)) ⟨l2, l2A, l2C, l2as, rfl, h, hs⟩

set_option linter.unusedVariables false
def M_Nearest1 (t : Int) (base : Int) (target : Int) (Q : Int → Prop) : Prop :=
  Q (max (w64 ((w64 (base + t)) - target)) (w64 ((w64 (target - base)) - t)))
set_option maxHeartbeats 1000000 in
theorem R_Nearest1 (t : Int) (base : Int) (target : Int) (w0 : World) (baseg : Nat) (hb_base : ElemAt w0 (old w0 none_) (some ⟨baseg, 0, none⟩) 0 [.int .i64 base]) (targetg : Nat) (hb_target : ElemAt w0 (old w0 none_) (some ⟨targetg, 0, none⟩) 0 [.int .i64 target]) (Q : Int → Prop) (h : M_Nearest1 t base target Q) :
    Ret Try.prog 72 #[.int .i64 t, .pointer (some ⟨baseg, 0, none⟩), .pointer (some ⟨targetg, 0, none⟩)] w0 fun v w' => ∃ (r0 : Int), v = .int .i64 r0 ∧ Q r0 ∧ Sat w0 none_ [] w' := by
  refine fn_enter Try.func72 rfl Try.ntmps72 rfl (fs := [(0, .int .i64 t), (1, .pointer (some ⟨baseg, 0, none⟩)), (2, .pointer (some ⟨targetg, 0, none⟩))]) rfl (fun a hf => ?_)
  have hs := Sat.start w0 none_
  unfold M_Nearest1 at h
  refine wp_seq ?_
  refine R.list ?_
  refine S.val hf hs (v := .int .i64 0) rfl rfl rfl (V.pure rfl) (fun a hf => ?_)
  refine R.nil ?_
  refine X.then_ ?_
  refine wp_seq ?_
  refine R.list ?_
  refine S.val hf hs (v := .int .i64 base) rfl rfl rfl (V.loadAt0 (off := 0) (Ag.args _ _ _) hb_base rfl rfl Try.isAgg3 Try.sizeOf3 rfl rfl) (fun a hf => ?_)
  refine S.val hf hs (v := .int .i64 t) rfl rfl rfl (V.pure rfl) (fun a hf => ?_)
  refine S.val hf hs (v := .int .i64 (w64 (base + t))) rfl rfl rfl (V.pure rfl) (fun a hf => ?_)
  refine S.val hf hs (v := .int .i64 target) rfl rfl rfl (V.loadAt0 (off := 0) (Ag.args _ _ _) hb_target rfl rfl Try.isAgg3 Try.sizeOf3 rfl rfl) (fun a hf => ?_)
  refine S.val hf hs (v := .int .i64 (w64 ((w64 (base + t)) - target))) rfl rfl rfl (V.pure rfl) (fun a hf => ?_)
  refine S.val hf hs (v := .int .i64 target) rfl rfl rfl (V.loadAt0 (off := 0) (Ag.args _ _ _) hb_target rfl rfl Try.isAgg3 Try.sizeOf3 rfl rfl) (fun a hf => ?_)
  refine S.val hf hs (v := .int .i64 base) rfl rfl rfl (V.loadAt0 (off := 0) (Ag.args _ _ _) hb_base rfl rfl Try.isAgg3 Try.sizeOf3 rfl rfl) (fun a hf => ?_)
  refine S.val hf hs (v := .int .i64 (w64 (target - base))) rfl rfl rfl (V.pure rfl) (fun a hf => ?_)
  refine S.val hf hs (v := .int .i64 t) rfl rfl rfl (V.pure rfl) (fun a hf => ?_)
  refine S.val hf hs (v := .int .i64 (w64 ((w64 (target - base)) - t))) rfl rfl rfl (V.pure rfl) (fun a hf => ?_)
  refine S.val hf hs (v := .int .i64 (max (w64 ((w64 (base + t)) - target)) (w64 ((w64 (target - base)) - t)))) rfl rfl rfl (V.max2 rfl rfl rfl) (fun a hf => ?_)
  refine S.val hf hs (v := .int .i64 (max (w64 ((w64 (base + t)) - target)) (w64 ((w64 (target - base)) - t)))) rfl rfl rfl (V.pure rfl) (fun a hf => ?_)
  refine R.nil ?_
  refine X.then_ ?_
  refine wp_ret ?_
  exact L.ret hf (run_results1 Try.results72 (ResIs.tmp hf rfl)) ⟨(max (w64 ((w64 (base + t)) - target)) (w64 ((w64 (target - base)) - t))), rfl, h, hs.nil⟩

set_option linter.unusedVariables false
def M_stack_Nearest_k6 (xk4 : Int) (l4 : List Int) (n4 : Int) (next3 : List Int → Int → Prop) (n6 : Int) (again4 : Int → Prop) (c2 : Bool) : Prop :=
  cnd c2 (again4 (w64 (n6 + 1))) (must (room (l4 ++ [n6]).length 8) (next3 (l4 ++ [n6]) (w64 (n4 - (w64 (n6 * xk4))))))
def M_stack_Nearest_L4 (y2 : (List (List I16))) (k4 : Nat) (xk4 : Int) (l4 : List Int) (n4 : Int) (next3 : List Int → Int → Prop) (again4 : Int → Prop) (n6 : Int) : Prop :=
  cnd (decide (n4 < w64 (n6 * xk4))) (M_stack_Nearest_k6 xk4 l4 n4 next3 n6 again4 true) (idx y2 ((k4 + 1 : Nat) : Int) fun x2 => cnd (decide (w64 (n4 - (w64 (n6 * xk4))) ≥ (x2.length : Int))) (M_stack_Nearest_k6 xk4 l4 n4 next3 n6 again4 true) (idx x2 (w64 (n4 - (w64 (n6 * xk4)))) fun x3 => idx y2 (k4 : Int) fun x4 => idx x4 n4 fun x5 => M_stack_Nearest_k6 xk4 l4 n4 next3 n6 again4 (x3.v != (cvt .i16 (x5.v - (cvt .i16 n6))))))
def M_stack_Nearest_L3 (y2 : (List (List I16))) (k4 : Nat) (xk4 : Int) (l4 : List Int) (n4 : Int) (next3 : List Int → Int → Prop) : Prop :=
  lp (fun again (s : Int) => M_stack_Nearest_L4 y2 k4 xk4 l4 n4 next3 (fun n6 => again n6) s) 1
def M_stack_Nearest_k7 (k3 : Nat) (n2 : Int) (next2 : Int → Prop) (c3 : Bool) : Prop :=
  cnd c3 (next2 (k3 : Int)) (next2 n2)
def M_stack_Nearest_L2 (target : Int) (b2 : Int) (k3 : Nat) (xk3 : I16) (n2 : Int) (next2 : Int → Prop) : Prop :=
  cnd (decide (xk3.v ≥ 0)) (cnd (decide (n2 < 0)) (M_stack_Nearest_k7 k3 n2 next2 true) (M_Nearest1 (k3 : Int) b2 target fun y3 => M_Nearest1 n2 b2 target fun y4 => M_stack_Nearest_k7 k3 n2 next2 (decide (y3 < y4)))) (M_stack_Nearest_k7 k3 n2 next2 false)
def M_stack_Nearest_L1 (m : (List Material)) (k2 : Nat) (xk2 : Layer) (l2 : List Int) (b2 : Int) (next1 : List Int → Int → Prop) : Prop :=
  M_stack_materialOf m xk2.Material fun y5 y6 => cnd (y5.Kind == 3) (must (room (l2 ++ [y5.Thick]).length 8) (next1 (l2 ++ [y5.Thick]) b2)) (next1 l2 (w64 (b2 + y5.Thick)))
def M_stack_Nearest_k1 (m : (List Material)) (s_ : (List Layer)) (most : Int) (target : Int) (Q : (List Int) → Int → Int → Prop) (c1 : Bool) : Prop :=
  cnd c1 (Q ([] : List Int) 0 1) (forIn' (fun k x (s : List Int × Int) next => M_stack_Nearest_L1 m k x s.1 s.2 (fun l2 b2 => next (l2, b2))) (fun (s : List Int × Int) => (fun (l2 : List Int) (b2 : Int) => M_stack_fewest l2 most fun y2 => idx y2 0 fun x1 => forIn' (fun k x (s : Int) next => M_stack_Nearest_L2 target b2 k x s (fun n2 => next n2)) (fun (s : Int) => (fun (n2 : Int) => forIn' (fun k x (s : List Int × Int) next => M_stack_Nearest_L3 y2 k x s.1 s.2 (fun l4 n4 => next (l4, n4))) (fun (s : List Int × Int) => (fun (l4 : List Int) (n4 : Int) => Q l4 (w64 (b2 + n2)) 0) s.1 s.2) l2 0 ((([] : List Int)), n2)) s) x1 0 (-1)) s.1 s.2) s_ 0 (([] : List Int), 0))
def M_stack_Nearest (m : (List Material)) (s_ : (List Layer)) (most : Int) (target : Int) (Q : (List Int) → Int → Int → Prop) : Prop :=
  M_stack_CheckStack m s_ fun y1 => cnd (y1 != 0) (Q ([] : List Int) 0 y1) (cnd (!(within most 1 8)) (M_stack_Nearest_k1 m s_ most target Q true) (M_stack_Nearest_k1 m s_ most target Q (!(within target 0 1000000))))
set_option maxHeartbeats 1000000 in
theorem R_stack_Nearest (m : (List Material)) (s_ : (List Layer)) (most : Int) (target : Int) (w0 : World) (mA : Option Addr) (mC : Nat) (hv_m : View w0 (old w0 none_) mA mC m) (s_A : Option Addr) (s_C : Nat) (hv_s_ : View w0 (old w0 none_) s_A s_C s_) (Q : (List Int) → Int → Int → Prop) (h : M_stack_Nearest m s_ most target Q) :
    Ret Try.prog 32 #[.slice mA m.length mC, .slice s_A s_.length s_C, .int .i64 most, .int .i64 target] w0 fun v w' => ∃ (r0 : (List Int)) (r0A : Option Addr) (r0C : Nat) (r1 : Int) (r2 : Int), v = .tuple #[.slice r0A r0.length r0C, .int .i64 r1, .int .i64 r2] ∧ Q r0 r1 r2 ∧ Sat w0 none_ [hown 3 r0A r0C r0] w' := by
  refine fn_enter Try.func32 rfl Try.ntmps32 rfl (fs := [(0, .slice mA m.length mC), (1, .slice s_A s_.length s_C), (2, .int .i64 most), (3, .int .i64 target)]) rfl (fun a hf => ?_)
  have hs := Sat.start w0 none_
  unfold M_stack_Nearest at h
  refine wp_seq ?_
  refine R.list ?_
  refine S.box hf hs rfl rfl rfl [.int .i64 target] rfl rfl rfl (fun g1 a w hf hs => ?_)
  refine S.val hf hs (v := .slice none 0 0) rfl rfl rfl (V.pure rfl) (fun a hf => ?_)
  refine S.val hf hs (v := .int .i64 0) rfl rfl rfl (V.pure rfl) (fun a hf => ?_)
  refine S.val hf hs (v := .int .i64 0) rfl rfl rfl (V.pure rfl) (fun a hf => ?_)
  refine R.nil ?_
  refine X.then_ ?_
  refine wp_seq ?_
  refine wp_seq ?_
  refine R.list ?_
  refine S.val hf hs (v := .slice mA m.length mC) rfl rfl rfl (V.pure rfl) (fun a hf => ?_)
  refine S.val hf hs (v := .slice s_A s_.length s_C) rfl rfl rfl (V.pure rfl) (fun a hf => ?_)
  refine S.call hf rfl rfl rfl (call_fn (vs := [.slice mA m.length mC, .slice s_A s_.length s_C]) rfl rfl rfl Try.call18) (R_stack_CheckStack m s_ _ mA mC ((Ag.args _ _ _).view hv_m hs) s_A s_C ((Ag.args _ _ _).view hv_s_ hs) _ h) (fun v a w' hf hr => ?_)
  obtain ⟨y1, rfl, h2, hs2⟩ := hr
  replace h := h2; replace hs := hs.call hs2; clear h2 hs2
  refine S.val hf hs (v := .int .i64 y1) rfl rfl rfl (V.pure rfl) (fun a hf => ?_)
  refine R.nil ?_
  refine X.then_ ?_
  refine wp_seq ?_
  refine R.list ?_
  refine S.val hf hs (v := .int .i64 y1) rfl rfl rfl (V.pure rfl) (fun a hf => ?_)
  refine S.val hf hs (v := .bool (y1 != 0)) rfl rfl rfl (V.pure rfl) (fun a hf => ?_)
  refine R.nil ?_
  refine X.then_ ?_
  refine C.cond hf (b := y1 != 0) rfl (fun hc => ?_) (fun hc => ?_)
  · replace h := h.1 hc
    refine wp_seq ?_
    refine R.list ?_
    refine S.val hf hs (v := .int .i64 y1) rfl rfl rfl (V.pure rfl) (fun a hf => ?_)
    refine S.val hf hs (v := .slice none 0 0) rfl rfl rfl (V.pure rfl) (fun a hf => ?_)
    refine S.val hf hs (v := .int .i64 0) rfl rfl rfl (V.pure rfl) (fun a hf => ?_)
    refine S.val hf hs (v := .int .i64 y1) rfl rfl rfl (V.pure rfl) (fun a hf => ?_)
    refine R.nil ?_
    refine X.then_ ?_
    refine wp_ret ?_
    refine X.then_ret ?_
    replace hs := hs.nilOwn (α := Int) 3
    replace hs := hs.take 1
    exact L.ret hf (run_results3 Try.results32 (ResIs.tmp hf rfl) (ResIs.tmp hf rfl) (ResIs.tmp hf rfl)) ⟨([] : List Int), none, 0, 0, y1, rfl, h, hs⟩
  · replace h := h.2 hc
    refine wp_skip ?_
    refine X.then_ ?_
    refine wp_seq ?_
    refine wp_seq ?_
    refine C.cut (J := fun a w => ∃ (c1 : Bool), M_stack_Nearest_k1 m s_ most target Q c1 ∧ FrOk 166 [(0, .slice mA m.length mC), (1, .slice s_A s_.length s_C), (2, .int .i64 most), (7, .pointer (some ⟨g1, 0, none⟩)), (41, .bool c1)] a ∧ Sat w0 none_ [hbox g1 3 [.int .i64 target]] w) ?_ ?_
    · rintro a w ⟨c1, h, hf, hs⟩
      unfold M_stack_Nearest_k1 at h
      refine C.cond hf (b := c1) rfl (fun hc => ?_) (fun hc => ?_)
      · replace h := h.1 hc
        refine wp_seq ?_
        refine R.list ?_
        refine S.val hf hs (v := .slice none 0 0) rfl rfl rfl (V.pure rfl) (fun a hf => ?_)
        refine S.val hf hs (v := .int .i64 0) rfl rfl rfl (V.pure rfl) (fun a hf => ?_)
        refine S.val hf hs (v := .int .i64 1) rfl rfl rfl (V.pure rfl) (fun a hf => ?_)
        refine R.nil ?_
        refine X.then_ ?_
        refine wp_ret ?_
        refine X.then_ret ?_
        replace hs := hs.nilOwn (α := Int) 3
        replace hs := hs.take 1
        exact L.ret hf (run_results3 Try.results32 (ResIs.tmp hf rfl) (ResIs.tmp hf rfl) (ResIs.tmp hf rfl)) ⟨([] : List Int), none, 0, 0, 1, rfl, h, hs⟩
      · replace h := h.2 hc
        refine wp_skip ?_
        refine X.then_ ?_
        refine wp_seq ?_
        refine R.list ?_
        refine S.val hf hs (v := .slice none 0 0) rfl rfl rfl (V.pure rfl) (fun a hf => ?_)
        refine R.nil ?_
        refine X.then_ ?_
        refine wp_seq ?_
        refine R.list ?_
        refine S.alloc hf hs rfl rfl rfl [.int .i64 0] rfl Try.zeroValue3 rfl (fun g2 a w hf hs => ?_)
        refine S.storeBox 0 hf hs rfl rfl [.int .i64 0] [.int .i64 0] rfl rfl rfl rfl rfl Try.sizeOf3 rfl rfl rfl rfl (fun a w hf hs => ?_)
        refine R.nil ?_
        refine X.then_ ?_
        refine wp_seq ?_
        refine wp_seq ?_
        refine R.list ?_
        refine S.val hf hs (v := .slice s_A s_.length s_C) rfl rfl rfl (V.pure rfl) (fun a hf => ?_)
        refine S.val hf hs (v := .int .i64 (s_.length : Int)) rfl rfl rfl (V.len rfl rfl Try.runUnderlying23) (fun a hf => ?_)
        refine S.val hf hs (v := .int .i64 0) rfl rfl rfl (V.pure rfl) (fun a hf => ?_)
        refine R.nil ?_
        refine X.then_ ?_
        refine wp_block ?_
        replace hs := hs.nilOwn (α := Int) 3
        have hlenk2 := hv_s_.len64
        refine C.range (fun (ll : List Layer) a w => ∃ (k2 : Nat) (l2 : List Int) (l2A : Option Addr) (l2C : Nat) (b2 : Int), s_.drop k2 = ll ∧ k2 + ll.length = s_.length ∧ forIn' (fun k x (s : List Int × Int) next => M_stack_Nearest_L1 m k x s.1 s.2 (fun l2 b2 => next (l2, b2))) (fun (s : List Int × Int) => (fun (l2 : List Int) (b2 : Int) => M_stack_fewest l2 most fun y2 => idx y2 0 fun x1 => forIn' (fun k x (s : Int) next => M_stack_Nearest_L2 target b2 k x s (fun n2 => next n2)) (fun (s : Int) => (fun (n2 : Int) => forIn' (fun k x (s : List Int × Int) next => M_stack_Nearest_L3 y2 k x s.1 s.2 (fun l4 n4 => next (l4, n4))) (fun (s : List Int × Int) => (fun (l4 : List Int) (n4 : Int) => Q l4 (w64 (b2 + n2)) 0) s.1 s.2) l2 0 ((([] : List Int)), n2)) s) x1 0 (-1)) s.1 s.2) ll k2 (l2, b2) ∧ FrOk 166 [(44, .int .i64 (k2 : Int)), (0, .slice mA m.length mC), (2, .int .i64 most), (7, .pointer (some ⟨g1, 0, none⟩)), (12, .slice l2A l2.length l2C), (13, .pointer (some ⟨g2, 0, none⟩)), (42, .slice s_A s_.length s_C), (43, .int .i64 (s_.length : Int))] a ∧ Sat w0 none_ [hown 3 l2A l2C l2, hbox g2 3 [.int .i64 b2], hbox g1 3 [.int .i64 target]] w) s_ ⟨0, ([] : List Int), none, 0, 0, rfl, Nat.zero_add _, h, ((((((((hf.nil.cons (hf.get 43 _ rfl)).cons (hf.get 42 _ rfl)).cons (hf.get 13 _ rfl)).cons (hf.get 12 _ rfl)).cons (hf.get 7 _ rfl)).cons (hf.get 2 _ rfl)).cons (hf.get 0 _ rfl)).cons (hf.get 44 _ rfl)), hs⟩ ?_
        clear h hf hs
        rintro llk2 a w ⟨k2, l2, l2A, l2C, b2, hlk2, hkk2, h, hf, hs⟩
        cases llk2 with
        | nil =>
          have hc := range_done hkk2
          replace h : (fun (l2 : List Int) (b2 : Int) => M_stack_fewest l2 most fun y2 => idx y2 0 fun x1 => forIn' (fun k x (s : Int) next => M_stack_Nearest_L2 target b2 k x s (fun n2 => next n2)) (fun (s : Int) => (fun (n2 : Int) => forIn' (fun k x (s : List Int × Int) next => M_stack_Nearest_L3 y2 k x s.1 s.2 (fun l4 n4 => next (l4, n4))) (fun (s : List Int × Int) => (fun (l4 : List Int) (n4 : Int) => Q l4 (w64 (b2 + n2)) 0) s.1 s.2) l2 0 ((([] : List Int)), n2)) s) x1 0 (-1)) l2 b2 := h
          refine wp_seq ?_
          refine R.list ?_
          refine S.val hf hs (v := .bool false) rfl rfl rfl (V.cmp false rfl rfl rfl rfl hc) (fun a hf => ?_)
          refine R.nil ?_
          refine X.then_ ?_
          refine wp_seq ?_
          refine C.no hf rfl ?_
          refine wp_exit ?_
          refine X.then_exit ?_
          refine X.then_exit ?_
          refine X.blk_exit ?_
          refine X.then_ ?_
          refine wp_seq ?_
          refine R.list ?_
          refine S.val hf hs (v := .slice l2A l2.length l2C) rfl rfl rfl (V.pure rfl) (fun a hf => ?_)
          refine S.val hf hs (v := .int .i64 most) rfl rfl rfl (V.pure rfl) (fun a hf => ?_)
          refine S.call hf rfl rfl rfl (call_fn (vs := [.slice l2A l2.length l2C, .int .i64 most]) rfl rfl rfl Try.call71) (R_stack_fewest l2 most _ l2A l2C (hs.ownView 0 rfl) _ h) (fun v a w' hf hr => ?_)
          obtain ⟨y2, y2A, y2C, y2as, rfl, h2, hs2⟩ := hr
          replace h := h2; replace hs := hs.call hs2; clear h2 hs2
          refine S.val hf hs (v := .slice y2A y2.length y2C) rfl rfl rfl (V.pure rfl) (fun a hf => ?_)
          refine R.nil ?_
          refine X.then_ ?_
          refine wp_seq ?_
          refine R.list ?_
          refine S.val hf hs (v := .int .i64 (-1)) rfl rfl rfl (V.pure rfl) (fun a hf => ?_)
          refine R.nil ?_
          refine X.then_ ?_
          refine wp_seq ?_
          refine wp_seq ?_
          refine R.list ?_
          refine S.val hf hs (v := .slice y2A y2.length y2C) rfl rfl rfl (V.pure rfl) (fun a hf => ?_)
          obtain ⟨h0x1, x1, hx1, h⟩ := h
          refine S.val hf hs (v := elemPtr y2A (0 * 1)) rfl rfl rfl (V.index rfl rfl rfl Try.runUnderlying91 Try.sizeOf93 (hs.rowsSome 0 rfl hx1) h0x1 (lt_of_get hx1) rfl) (fun a hf => ?_)
          obtain ⟨B1, D1, hrB1⟩ := hs.rowAt 0 rfl hx1
          refine S.val hf hs (v := .slice B1 x1.length D1) rfl rfl rfl (V.loadRows (off := 0) 0 rfl hx1 hrB1 rfl rfl rfl Try.isAgg93 Try.sizeOf93 rfl rfl) (fun a hf => ?_)
          refine S.val hf hs (v := .int .i64 (x1.length : Int)) rfl rfl rfl (V.len rfl rfl Try.runUnderlying93) (fun a hf => ?_)
          refine S.val hf hs (v := .int .i64 0) rfl rfl rfl (V.pure rfl) (fun a hf => ?_)
          refine R.nil ?_
          refine X.then_ ?_
          refine wp_block ?_
          have hlenk3 := (hs.rowView 0 rfl hx1 hrB1).len64
          refine C.range (fun (ll : List I16) a w => ∃ (k3 : Nat) (n2 : Int), x1.drop k3 = ll ∧ k3 + ll.length = x1.length ∧ forIn' (fun k x (s : Int) next => M_stack_Nearest_L2 target b2 k x s (fun n2 => next n2)) (fun (s : Int) => (fun (n2 : Int) => forIn' (fun k x (s : List Int × Int) next => M_stack_Nearest_L3 y2 k x s.1 s.2 (fun l4 n4 => next (l4, n4))) (fun (s : List Int × Int) => (fun (l4 : List Int) (n4 : Int) => Q l4 (w64 (b2 + n2)) 0) s.1 s.2) l2 0 ((([] : List Int)), n2)) s) ll k3 n2 ∧ FrOk 166 [(75, .int .i64 (k3 : Int)), (7, .pointer (some ⟨g1, 0, none⟩)), (12, .slice l2A l2.length l2C), (13, .pointer (some ⟨g2, 0, none⟩)), (18, .slice y2A y2.length y2C), (19, .int .i64 n2), (73, .slice B1 x1.length D1), (74, .int .i64 (x1.length : Int))] a ∧ Sat w0 none_ [hrows 93 94 y2A y2C y2as y2, hown 3 l2A l2C l2, hbox g2 3 [.int .i64 b2], hbox g1 3 [.int .i64 target]] w) x1 ⟨0, (-1), rfl, Nat.zero_add _, h, ((((((((hf.nil.cons (hf.get 74 _ rfl)).cons (hf.get 73 _ rfl)).cons (hf.get 19 _ rfl)).cons (hf.get 18 _ rfl)).cons (hf.get 13 _ rfl)).cons (hf.get 12 _ rfl)).cons (hf.get 7 _ rfl)).cons (hf.get 75 _ rfl)), hs⟩ ?_
          clear h hf hs
          rintro llk3 a w ⟨k3, n2, hlk3, hkk3, h, hf, hs⟩
          cases llk3 with
          | nil =>
            have hc := range_done hkk3
            replace h : (fun (n2 : Int) => forIn' (fun k x (s : List Int × Int) next => M_stack_Nearest_L3 y2 k x s.1 s.2 (fun l4 n4 => next (l4, n4))) (fun (s : List Int × Int) => (fun (l4 : List Int) (n4 : Int) => Q l4 (w64 (b2 + n2)) 0) s.1 s.2) l2 0 ((([] : List Int)), n2)) n2 := h
            refine wp_seq ?_
            refine R.list ?_
            refine S.val hf hs (v := .bool false) rfl rfl rfl (V.cmp false rfl rfl rfl rfl hc) (fun a hf => ?_)
            refine R.nil ?_
            refine X.then_ ?_
            refine wp_seq ?_
            refine C.no hf rfl ?_
            refine wp_exit ?_
            refine X.then_exit ?_
            refine X.then_exit ?_
            refine X.blk_exit ?_
            refine X.then_ ?_
            refine wp_seq ?_
            refine R.list ?_
            refine S.val hf hs (v := .int .i64 n2) rfl rfl rfl (V.pure rfl) (fun a hf => ?_)
            refine S.val hf hs (v := .slice none 0 0) rfl rfl rfl (V.pure rfl) (fun a hf => ?_)
            refine S.val hf hs (v := .int .i64 n2) rfl rfl rfl (V.pure rfl) (fun a hf => ?_)
            refine R.nil ?_
            refine X.then_ ?_
            refine wp_seq ?_
            refine wp_seq ?_
            refine R.list ?_
            refine S.val hf hs (v := .slice l2A l2.length l2C) rfl rfl rfl (V.pure rfl) (fun a hf => ?_)
            refine S.val hf hs (v := .int .i64 (l2.length : Int)) rfl rfl rfl (V.len rfl rfl Try.runUnderlying43) (fun a hf => ?_)
            refine S.val hf hs (v := .int .i64 0) rfl rfl rfl (V.pure rfl) (fun a hf => ?_)
            refine R.nil ?_
            refine X.then_ ?_
            refine wp_block ?_
            replace hs := hs.nilOwn (α := Int) 3
            have hlenk4 := (hs.ownView 2 rfl).len64
            refine C.range (fun (ll : List Int) a w => ∃ (k4 : Nat) (l4 : List Int) (l4A : Option Addr) (l4C : Nat) (n4 : Int), l2.drop k4 = ll ∧ k4 + ll.length = l2.length ∧ forIn' (fun k x (s : List Int × Int) next => M_stack_Nearest_L3 y2 k x s.1 s.2 (fun l4 n4 => next (l4, n4))) (fun (s : List Int × Int) => (fun (l4 : List Int) (n4 : Int) => Q l4 (w64 (b2 + n2)) 0) s.1 s.2) ll k4 (l4, n4) ∧ FrOk 166 [(101, .int .i64 (k4 : Int)), (13, .pointer (some ⟨g2, 0, none⟩)), (18, .slice y2A y2.length y2C), (19, .int .i64 n2), (23, .slice l4A l4.length l4C), (24, .int .i64 n4), (99, .slice l2A l2.length l2C), (100, .int .i64 (l2.length : Int))] a ∧ Sat w0 none_ [hown 3 l4A l4C l4, hrows 93 94 y2A y2C y2as y2, hown 3 l2A l2C l2, hbox g2 3 [.int .i64 b2], hbox g1 3 [.int .i64 target]] w) l2 ⟨0, (([] : List Int)), none, 0, n2, rfl, Nat.zero_add _, h, ((((((((hf.nil.cons (hf.get 100 _ rfl)).cons (hf.get 99 _ rfl)).cons (hf.get 24 _ rfl)).cons (hf.get 23 _ rfl)).cons (hf.get 19 _ rfl)).cons (hf.get 18 _ rfl)).cons (hf.get 13 _ rfl)).cons (hf.get 101 _ rfl)), hs⟩ ?_
            clear h hf hs
            rintro llk4 a w ⟨k4, l4, l4A, l4C, n4, hlk4, hkk4, h, hf, hs⟩
            cases llk4 with
            | nil =>
              have hc := range_done hkk4
              replace h : (fun (l4 : List Int) (n4 : Int) => Q l4 (w64 (b2 + n2)) 0) l4 n4 := h
              refine wp_seq ?_
              refine R.list ?_
              refine S.val hf hs (v := .bool false) rfl rfl rfl (V.cmp false rfl rfl rfl rfl hc) (fun a hf => ?_)
              refine R.nil ?_
              refine X.then_ ?_
              refine wp_seq ?_
              refine C.no hf rfl ?_
              refine wp_exit ?_
              refine X.then_exit ?_
              refine X.then_exit ?_
              refine X.blk_exit ?_
              refine X.then_ ?_
              refine wp_seq ?_
              refine R.draw mo (by kernel_rfl) hs ?_
              refine D.val hf (v := .slice l4A l4.length l4C) rfl rfl rfl (V.pure rfl) (fun a hf => ?_)
              refine D.val hf (v := .int .i64 b2) rfl rfl rfl (V.loadBox 3 rfl rfl rfl Try.isAgg3 Try.sizeOf3 rfl rfl) (fun a hf => ?_)
              refine D.val hf (v := .int .i64 n2) rfl rfl rfl (V.pure rfl) (fun a hf => ?_)
              refine D.val hf (v := .int .i64 (w64 (b2 + n2))) rfl rfl rfl (V.pure rfl) (fun a hf => ?_)
              refine D.val hf (v := .slice l4A l4.length l4C) rfl rfl rfl (V.pure rfl) (fun a hf => ?_)
              refine D.val hf (v := .int .i64 (w64 (b2 + n2))) rfl rfl rfl (V.pure rfl) (fun a hf => ?_)
              refine D.val hf (v := .int .i64 0) rfl rfl rfl (V.pure rfl) (fun a hf => ?_)
              refine D.done (fun w hs => ?_)
              refine X.then_ ?_
              refine wp_ret ?_
              replace hs := hs.take 1
              exact L.ret hf (run_results3 Try.results32 (ResIs.tmp hf rfl) (ResIs.tmp hf rfl) (ResIs.tmp hf rfl)) ⟨l4, l4A, l4C, (w64 (b2 + n2)), 0, rfl, h, hs⟩
            | cons xk4 llk4 =>
              have hltk4 := range_lt hkk4; have hc := range_go hkk4; have hxk4 := range_get hlk4
              obtain ⟨next3, hnext3⟩ : ∃ X : List Int → Int → Prop, X = (fun l4 n4 => forIn' (fun k x (s : List Int × Int) next => M_stack_Nearest_L3 y2 k x s.1 s.2 (fun l4 n4 => next (l4, n4))) (fun (s : List Int × Int) => (fun (l4 : List Int) (n4 : Int) => Q l4 (w64 (b2 + n2)) 0) s.1 s.2) llk4 (k4 + 1) (l4, n4)) := ⟨_, rfl⟩
              replace h : M_stack_Nearest_L3 y2 k4 xk4 l4 n4 next3 := by rw [hnext3]; exact h
              unfold M_stack_Nearest_L3 at h
              refine wp_seq ?_
              refine R.list ?_
              refine S.val hf hs (v := .bool true) rfl rfl rfl (V.cmp true rfl rfl rfl rfl hc) (fun a hf => ?_)
              refine R.nil ?_
              refine X.then_ ?_
              refine wp_seq ?_
              refine C.yes hf rfl ?_
              refine wp_skip ?_
              refine X.then_ ?_
              refine wp_seq ?_
              refine wp_block ?_
              refine wp_seq ?_
              refine R.list ?_
              refine S.val hf hs (v := .int .i64 (k4 : Int)) rfl rfl rfl (V.pure rfl) (fun a hf => ?_)
              refine S.val hf hs (v := elemPtr l2A (k4 * 1)) rfl rfl rfl (V.index rfl rfl rfl Try.runUnderlying43 Try.sizeOf3 (hs.ownSome 2 rfl (lt_of_get hxk4)) (Int.natCast_nonneg _) (lt_of_get hxk4) rfl) (fun a hf => ?_)
              refine S.val hf hs (v := .int .i64 xk4) rfl rfl rfl (V.loadOwn (off := 0) 2 rfl hxk4 rfl rfl rfl Try.isAgg3 Try.sizeOf3 rfl rfl) (fun a hf => ?_)
              refine S.val hf hs (v := .int .i64 (k4 : Int)) rfl rfl rfl (V.pure rfl) (fun a hf => ?_)
              refine S.val hf hs (v := .int .i64 xk4) rfl rfl rfl (V.pure rfl) (fun a hf => ?_)
              refine R.nil ?_
              refine X.then_ ?_
              refine wp_seq ?_
              refine R.list ?_
              refine S.val hf hs (v := .int .i64 1) rfl rfl rfl (V.pure rfl) (fun a hf => ?_)
              refine R.nil ?_
              refine X.then_ ?_
              refine wp_seq ?_
              refine wp_block ?_
              obtain ⟨kk, h⟩ := h
              refine C.loop (fun kk a w => ∃ (n6 : Int), iterF (fun again (s : Int) => M_stack_Nearest_L4 y2 k4 xk4 l4 n4 next3 (fun n6 => again n6) s) kk n6 ∧ FrOk 166 [(13, .pointer (some ⟨g2, 0, none⟩)), (18, .slice y2A y2.length y2C), (19, .int .i64 n2), (23, .slice l4A l4.length l4C), (24, .int .i64 n4), (25, .int .i64 (k4 : Int)), (26, .int .i64 xk4), (27, .int .i64 n6), (99, .slice l2A l2.length l2C), (100, .int .i64 (l2.length : Int)), (101, .int .i64 (k4 : Int))] a ∧ Sat w0 none_ [hown 3 l4A l4C l4, hrows 93 94 y2A y2C y2as y2, hown 3 l2A l2C l2, hbox g2 3 [.int .i64 b2], hbox g1 3 [.int .i64 target]] w) kk ⟨1, h, (((((((((((hf.nil.cons (hf.get 101 _ rfl)).cons (hf.get 100 _ rfl)).cons (hf.get 99 _ rfl)).cons (hf.get 27 _ rfl)).cons (hf.get 26 _ rfl)).cons (hf.get 25 _ rfl)).cons (hf.get 24 _ rfl)).cons (hf.get 23 _ rfl)).cons (hf.get 19 _ rfl)).cons (hf.get 18 _ rfl)).cons (hf.get 13 _ rfl)), hs⟩ (fun a w ⟨_, h, _, _⟩ => h) ?_
              clear h hf hs
              rintro kk a w ⟨n6, h, hf, hs⟩
              obtain ⟨again4, hagain4⟩ : ∃ X : Int → Prop, X = (fun n6 => iterF (fun again (s : Int) => M_stack_Nearest_L4 y2 k4 xk4 l4 n4 next3 (fun n6 => again n6) s) kk n6) := ⟨_, rfl⟩
              replace h : M_stack_Nearest_L4 y2 k4 xk4 l4 n4 next3 again4 n6 := by rw [hagain4]; exact h
              unfold M_stack_Nearest_L4 at h
              refine wp_seq ?_
              refine wp_seq ?_
              refine C.cut (J := fun a w => ∃ (c2 : Bool), M_stack_Nearest_k6 xk4 l4 n4 next3 n6 again4 c2 ∧ FrOk 166 [(13, .pointer (some ⟨g2, 0, none⟩)), (18, .slice y2A y2.length y2C), (19, .int .i64 n2), (23, .slice l4A l4.length l4C), (24, .int .i64 n4), (25, .int .i64 (k4 : Int)), (26, .int .i64 xk4), (27, .int .i64 n6), (99, .slice l2A l2.length l2C), (100, .int .i64 (l2.length : Int)), (101, .int .i64 (k4 : Int)), (149, .bool c2)] a ∧ Sat w0 none_ [hown 3 l4A l4C l4, hrows 93 94 y2A y2C y2as y2, hown 3 l2A l2C l2, hbox g2 3 [.int .i64 b2], hbox g1 3 [.int .i64 target]] w) ?_ ?_
              · rintro a w ⟨c2, h, hf, hs⟩
                unfold M_stack_Nearest_k6 at h
                refine C.cond hf (b := c2) rfl (fun hc => ?_) (fun hc => ?_)
                · replace h := h.1 hc
                  refine wp_skip ?_
                  refine X.then_ ?_
                  refine wp_block ?_
                  refine R.list ?_
                  refine S.val hf hs (v := .int .i64 n6) rfl rfl rfl (V.pure rfl) (fun a hf => ?_)
                  refine S.val hf hs (v := .int .i64 (w64 (n6 + 1))) rfl rfl rfl (V.pure rfl) (fun a hf => ?_)
                  refine S.val hf hs (v := .int .i64 (w64 (n6 + 1))) rfl rfl rfl (V.pure rfl) (fun a hf => ?_)
                  refine R.nil ?_
                  refine X.blk ?_
                  refine X.then_ ?_
                  exact ⟨(w64 (n6 + 1)), (by rw [hagain4] at h; exact h), (((((((((((hf.nil.cons (hf.get 101 _ rfl)).cons (hf.get 100 _ rfl)).cons (hf.get 99 _ rfl)).cons (hf.get 27 _ rfl)).cons (hf.get 26 _ rfl)).cons (hf.get 25 _ rfl)).cons (hf.get 24 _ rfl)).cons (hf.get 23 _ rfl)).cons (hf.get 19 _ rfl)).cons (hf.get 18 _ rfl)).cons (hf.get 13 _ rfl)), hs⟩
                · replace h := h.2 hc
                  refine wp_exit ?_
                  refine X.then_exit ?_
                  refine X.then_exit ?_
                  refine X.blk_exit ?_
                  refine X.then_ ?_
                  refine R.list ?_
                  refine S.val hf hs (v := .slice l4A l4.length l4C) rfl rfl rfl (V.pure rfl) (fun a hf => ?_)
                  refine S.val hf hs (v := .int .i64 n6) rfl rfl rfl (V.pure rfl) (fun a hf => ?_)
                  refine S.build1 hf hs rfl rfl rfl (α := Int) n6 rfl rfl rfl Try.runUnderlying43 Try.sizeOf3 Try.zeroValue3 rfl (by decide) (fun A1 a w hf hs => ?_)
                  obtain ⟨hroom, h⟩ := h
                  refine S.appendCells 1 hf hs rfl rfl rfl rfl rfl rfl rfl Try.underlying43 info3 rfl hroom ((hs.ownView 0 rfl).some_ (i := 0) (by simp)) (hs.ownView 0 rfl) (fun A2 C1 a w hf hs => ?_)
                  replace hs := hs.drop
                  refine S.val hf hs (v := .int .i64 n4) rfl rfl rfl (V.pure rfl) (fun a hf => ?_)
                  refine S.val hf hs (v := .int .i64 n6) rfl rfl rfl (V.pure rfl) (fun a hf => ?_)
                  refine S.val hf hs (v := .int .i64 xk4) rfl rfl rfl (V.pure rfl) (fun a hf => ?_)
                  refine S.val hf hs (v := .int .i64 (w64 (n6 * xk4))) rfl rfl rfl (V.pure rfl) (fun a hf => ?_)
                  refine S.val hf hs (v := .int .i64 (w64 (n4 - (w64 (n6 * xk4))))) rfl rfl rfl (V.pure rfl) (fun a hf => ?_)
                  refine S.val hf hs (v := .slice A2 (l4 ++ [n6]).length C1) rfl rfl rfl (V.pure rfl) (fun a hf => ?_)
                  refine S.val hf hs (v := .int .i64 (w64 (n4 - (w64 (n6 * xk4))))) rfl rfl rfl (V.pure rfl) (fun a hf => ?_)
                  refine R.nil ?_
                  refine X.blk ?_
                  refine X.then_ ?_
                  refine R.list ?_
                  refine S.val hf hs (v := .int .i64 ((k4 + 1 : Nat) : Int)) rfl rfl rfl (V.incr rfl rfl rfl hltk4 hlenk4) (fun a hf => ?_)
                  refine S.val hf hs (v := .int .i64 ((k4 + 1 : Nat) : Int)) rfl rfl rfl (V.pure rfl) (fun a hf => ?_)
                  refine R.nil ?_
                  refine X.then_ ?_
                  exact ⟨xk4, llk4, rfl, k4 + 1, (l4 ++ [n6]), A2, C1, (w64 (n4 - (w64 (n6 * xk4)))), range_drop hlk4, range_len hkk4, (by rw [hnext3] at h; exact h), ((((((((hf.nil.cons (hf.get 100 _ rfl)).cons (hf.get 99 _ rfl)).cons (hf.get 24 _ rfl)).cons (hf.get 23 _ rfl)).cons (hf.get 19 _ rfl)).cons (hf.get 18 _ rfl)).cons (hf.get 13 _ rfl)).cons (hf.get 101 _ rfl)), hs⟩
              · skip
                refine R.draw mo (by kernel_rfl) hs ?_
                refine D.val hf (v := .int .i64 n4) rfl rfl rfl (V.pure rfl) (fun a hf => ?_)
                refine D.val hf (v := .int .i64 n6) rfl rfl rfl (V.pure rfl) (fun a hf => ?_)
                refine D.val hf (v := .int .i64 xk4) rfl rfl rfl (V.pure rfl) (fun a hf => ?_)
                refine D.val hf (v := .int .i64 (w64 (n6 * xk4))) rfl rfl rfl (V.pure rfl) (fun a hf => ?_)
                refine D.val hf (v := .bool (decide (n4 < w64 (n6 * xk4)))) rfl rfl rfl (V.pure rfl) (fun a hf => ?_)
                refine D.split hf (b := decide (n4 < w64 (n6 * xk4))) rfl rfl rfl (V.pure rfl) (fun hc a hf => ?_) (fun hc a hf => ?_)
                · replace h := h.1 hc
                  refine D.skip hf rfl rfl rfl (fun a hf => ?_)
                  refine D.skip hf rfl rfl rfl (fun a hf => ?_)
                  refine D.skip hf rfl rfl rfl (fun a hf => ?_)
                  refine D.skip hf rfl rfl rfl (fun a hf => ?_)
                  refine D.skip hf rfl rfl rfl (fun a hf => ?_)
                  refine D.skip hf rfl rfl rfl (fun a hf => ?_)
                  refine D.skip hf rfl rfl rfl (fun a hf => ?_)
                  refine D.skip hf rfl rfl rfl (fun a hf => ?_)
                  refine D.skip hf rfl rfl rfl (fun a hf => ?_)
                  refine D.skip hf rfl rfl rfl (fun a hf => ?_)
                  refine D.skip hf rfl rfl rfl (fun a hf => ?_)
                  refine D.skip hf rfl rfl rfl (fun a hf => ?_)
                  refine D.val hf (v := .bool true) rfl rfl rfl (V.pure rfl) (fun a hf => ?_)
                  refine D.val hf (v := .bool true) rfl rfl rfl (V.pure rfl) (fun a hf => ?_)
                  refine D.skip hf rfl rfl rfl (fun a hf => ?_)
                  refine D.skip hf rfl rfl rfl (fun a hf => ?_)
                  refine D.skip hf rfl rfl rfl (fun a hf => ?_)
                  refine D.skip hf rfl rfl rfl (fun a hf => ?_)
                  refine D.skip hf rfl rfl rfl (fun a hf => ?_)
                  refine D.skip hf rfl rfl rfl (fun a hf => ?_)
                  refine D.skip hf rfl rfl rfl (fun a hf => ?_)
                  refine D.skip hf rfl rfl rfl (fun a hf => ?_)
                  refine D.skip hf rfl rfl rfl (fun a hf => ?_)
                  refine D.skip hf rfl rfl rfl (fun a hf => ?_)
                  refine D.skip hf rfl rfl rfl (fun a hf => ?_)
                  refine D.skip hf rfl rfl rfl (fun a hf => ?_)
                  refine D.skip hf rfl rfl rfl (fun a hf => ?_)
                  refine D.skip hf rfl rfl rfl (fun a hf => ?_)
                  refine D.skip hf rfl rfl rfl (fun a hf => ?_)
                  refine D.skip hf rfl rfl rfl (fun a hf => ?_)
                  refine D.skip hf rfl rfl rfl (fun a hf => ?_)
                  refine D.skip hf rfl rfl rfl (fun a hf => ?_)
                  refine D.skip hf rfl rfl rfl (fun a hf => ?_)
                  refine D.skip hf rfl rfl rfl (fun a hf => ?_)
                  refine D.skip hf rfl rfl rfl (fun a hf => ?_)
                  refine D.skip hf rfl rfl rfl (fun a hf => ?_)
                  refine D.skip hf rfl rfl rfl (fun a hf => ?_)
                  refine D.val hf (v := .bool true) rfl rfl rfl (V.pure rfl) (fun a hf => ?_)
                  refine D.done (fun w hs => ?_)
                  refine X.then_ ?_
                  exact ⟨true, h, ((((((((((((hf.nil.cons (hf.get 149 _ rfl)).cons (hf.get 101 _ rfl)).cons (hf.get 100 _ rfl)).cons (hf.get 99 _ rfl)).cons (hf.get 27 _ rfl)).cons (hf.get 26 _ rfl)).cons (hf.get 25 _ rfl)).cons (hf.get 24 _ rfl)).cons (hf.get 23 _ rfl)).cons (hf.get 19 _ rfl)).cons (hf.get 18 _ rfl)).cons (hf.get 13 _ rfl)), hs⟩
                · replace h := h.2 hc
                  refine D.val hf (v := .int .i64 n4) rfl rfl rfl (V.pure rfl) (fun a hf => ?_)
                  refine D.val hf (v := .int .i64 n6) rfl rfl rfl (V.pure rfl) (fun a hf => ?_)
                  refine D.val hf (v := .int .i64 xk4) rfl rfl rfl (V.pure rfl) (fun a hf => ?_)
                  refine D.val hf (v := .int .i64 (w64 (n6 * xk4))) rfl rfl rfl (V.pure rfl) (fun a hf => ?_)
                  refine D.val hf (v := .int .i64 (w64 (n4 - (w64 (n6 * xk4))))) rfl rfl rfl (V.pure rfl) (fun a hf => ?_)
                  refine D.val hf (v := .slice y2A y2.length y2C) rfl rfl rfl (V.pure rfl) (fun a hf => ?_)
                  refine D.val hf (v := .int .i64 (k4 : Int)) rfl rfl rfl (V.pure rfl) (fun a hf => ?_)
                  refine D.val hf (v := .int .i64 ((k4 + 1 : Nat) : Int)) rfl rfl rfl (V.incr rfl rfl rfl hltk4 hlenk4) (fun a hf => ?_)
                  obtain ⟨h0x2, x2, hx2, h⟩ := h
                  refine D.val hf (v := elemPtr y2A ((k4 + 1) * 1)) rfl rfl rfl (V.index rfl rfl rfl Try.runUnderlying91 Try.sizeOf93 (hs.rowsSome 1 rfl hx2) (Int.natCast_nonneg _) (lt_of_get hx2) rfl) (fun a hf => ?_)
                  obtain ⟨B2, D2, hrB2⟩ := hs.rowAt 1 rfl hx2
                  refine D.val hf (v := .slice B2 x2.length D2) rfl rfl rfl (V.loadRows (off := 0) 1 rfl hx2 hrB2 rfl rfl rfl Try.isAgg93 Try.sizeOf93 rfl rfl) (fun a hf => ?_)
                  refine D.val hf (v := .int .i64 (x2.length : Int)) rfl rfl rfl (V.len rfl rfl Try.runUnderlying93) (fun a hf => ?_)
                  refine D.val hf (v := .bool (decide (w64 (n4 - (w64 (n6 * xk4))) ≥ (x2.length : Int)))) rfl rfl rfl (V.pure rfl) (fun a hf => ?_)
                  refine D.val hf (v := .bool (decide (w64 (n4 - (w64 (n6 * xk4))) ≥ (x2.length : Int)))) rfl rfl rfl (V.pure rfl) (fun a hf => ?_)
                  refine D.split hf (b := decide (w64 (n4 - (w64 (n6 * xk4))) ≥ (x2.length : Int))) rfl rfl rfl (V.pure rfl) (fun hc a hf => ?_) (fun hc a hf => ?_)
                  · replace h := h.1 hc
                    refine D.skip hf rfl rfl rfl (fun a hf => ?_)
                    refine D.skip hf rfl rfl rfl (fun a hf => ?_)
                    refine D.skip hf rfl rfl rfl (fun a hf => ?_)
                    refine D.skip hf rfl rfl rfl (fun a hf => ?_)
                    refine D.skip hf rfl rfl rfl (fun a hf => ?_)
                    refine D.skip hf rfl rfl rfl (fun a hf => ?_)
                    refine D.skip hf rfl rfl rfl (fun a hf => ?_)
                    refine D.skip hf rfl rfl rfl (fun a hf => ?_)
                    refine D.skip hf rfl rfl rfl (fun a hf => ?_)
                    refine D.skip hf rfl rfl rfl (fun a hf => ?_)
                    refine D.skip hf rfl rfl rfl (fun a hf => ?_)
                    refine D.skip hf rfl rfl rfl (fun a hf => ?_)
                    refine D.skip hf rfl rfl rfl (fun a hf => ?_)
                    refine D.skip hf rfl rfl rfl (fun a hf => ?_)
                    refine D.skip hf rfl rfl rfl (fun a hf => ?_)
                    refine D.skip hf rfl rfl rfl (fun a hf => ?_)
                    refine D.skip hf rfl rfl rfl (fun a hf => ?_)
                    refine D.skip hf rfl rfl rfl (fun a hf => ?_)
                    refine D.skip hf rfl rfl rfl (fun a hf => ?_)
                    refine D.skip hf rfl rfl rfl (fun a hf => ?_)
                    refine D.skip hf rfl rfl rfl (fun a hf => ?_)
                    refine D.skip hf rfl rfl rfl (fun a hf => ?_)
                    refine D.skip hf rfl rfl rfl (fun a hf => ?_)
                    refine D.val hf (v := .bool true) rfl rfl rfl (V.pure rfl) (fun a hf => ?_)
                    refine D.done (fun w hs => ?_)
                    refine X.then_ ?_
                    exact ⟨true, h, ((((((((((((hf.nil.cons (hf.get 149 _ rfl)).cons (hf.get 101 _ rfl)).cons (hf.get 100 _ rfl)).cons (hf.get 99 _ rfl)).cons (hf.get 27 _ rfl)).cons (hf.get 26 _ rfl)).cons (hf.get 25 _ rfl)).cons (hf.get 24 _ rfl)).cons (hf.get 23 _ rfl)).cons (hf.get 19 _ rfl)).cons (hf.get 18 _ rfl)).cons (hf.get 13 _ rfl)), hs⟩
                  · replace h := h.2 hc
                    refine D.val hf (v := .slice y2A y2.length y2C) rfl rfl rfl (V.pure rfl) (fun a hf => ?_)
                    refine D.val hf (v := .int .i64 (k4 : Int)) rfl rfl rfl (V.pure rfl) (fun a hf => ?_)
                    refine D.val hf (v := .int .i64 ((k4 + 1 : Nat) : Int)) rfl rfl rfl (V.incr rfl rfl rfl hltk4 hlenk4) (fun a hf => ?_)
                    refine D.val hf (v := elemPtr y2A ((k4 + 1) * 1)) rfl rfl rfl (V.index rfl rfl rfl Try.runUnderlying91 Try.sizeOf93 (hs.rowsSome 1 rfl hx2) (Int.natCast_nonneg _) (lt_of_get hx2) rfl) (fun a hf => ?_)
                    refine D.val hf (v := .slice B2 x2.length D2) rfl rfl rfl (V.loadRows (off := 0) 1 rfl hx2 hrB2 rfl rfl rfl Try.isAgg93 Try.sizeOf93 rfl rfl) (fun a hf => ?_)
                    refine D.val hf (v := .int .i64 n4) rfl rfl rfl (V.pure rfl) (fun a hf => ?_)
                    refine D.val hf (v := .int .i64 n6) rfl rfl rfl (V.pure rfl) (fun a hf => ?_)
                    refine D.val hf (v := .int .i64 xk4) rfl rfl rfl (V.pure rfl) (fun a hf => ?_)
                    refine D.val hf (v := .int .i64 (w64 (n6 * xk4))) rfl rfl rfl (V.pure rfl) (fun a hf => ?_)
                    refine D.val hf (v := .int .i64 (w64 (n4 - (w64 (n6 * xk4))))) rfl rfl rfl (V.pure rfl) (fun a hf => ?_)
                    obtain ⟨h0x3, x3, hx3, h⟩ := h
                    refine D.val hf (v := elemPtr B2 ((w64 (n4 - (w64 (n6 * xk4)))).toNat * 1)) rfl rfl rfl (V.index rfl rfl rfl Try.runUnderlying93 Try.sizeOf94 ((hs.rowView 1 rfl hx2 hrB2).some_ (lt_of_get hx3)) h0x3 (lt_of_get hx3) rfl) (fun a hf => ?_)
                    refine D.val hf (v := .int .i16 x3.v) rfl rfl rfl (V.loadRowEl (off := 0) 1 rfl hx2 hrB2 hx3 rfl rfl rfl Try.isAgg94 Try.sizeOf94 rfl rfl) (fun a hf => ?_)
                    refine D.val hf (v := .slice y2A y2.length y2C) rfl rfl rfl (V.pure rfl) (fun a hf => ?_)
                    refine D.val hf (v := .int .i64 (k4 : Int)) rfl rfl rfl (V.pure rfl) (fun a hf => ?_)
                    obtain ⟨h0x4, x4, hx4, h⟩ := h
                    refine D.val hf (v := elemPtr y2A (k4 * 1)) rfl rfl rfl (V.index rfl rfl rfl Try.runUnderlying91 Try.sizeOf93 (hs.rowsSome 1 rfl hx4) (Int.natCast_nonneg _) (lt_of_get hx4) rfl) (fun a hf => ?_)
                    obtain ⟨B3, D3, hrB3⟩ := hs.rowAt 1 rfl hx4
                    refine D.val hf (v := .slice B3 x4.length D3) rfl rfl rfl (V.loadRows (off := 0) 1 rfl hx4 hrB3 rfl rfl rfl Try.isAgg93 Try.sizeOf93 rfl rfl) (fun a hf => ?_)
                    refine D.val hf (v := .int .i64 n4) rfl rfl rfl (V.pure rfl) (fun a hf => ?_)
                    obtain ⟨h0x5, x5, hx5, h⟩ := h
                    refine D.val hf (v := elemPtr B3 (n4.toNat * 1)) rfl rfl rfl (V.index rfl rfl rfl Try.runUnderlying93 Try.sizeOf94 ((hs.rowView 1 rfl hx4 hrB3).some_ (lt_of_get hx5)) h0x5 (lt_of_get hx5) rfl) (fun a hf => ?_)
                    refine D.val hf (v := .int .i16 x5.v) rfl rfl rfl (V.loadRowEl (off := 0) 1 rfl hx4 hrB3 hx5 rfl rfl rfl Try.isAgg94 Try.sizeOf94 rfl rfl) (fun a hf => ?_)
                    refine D.val hf (v := .int .i64 n6) rfl rfl rfl (V.pure rfl) (fun a hf => ?_)
                    refine D.val hf (v := .int .i16 (cvt .i16 n6)) rfl rfl rfl (V.conv rfl rfl Try.runUnderlying3 Try.runUnderlying94) (fun a hf => ?_)
                    refine D.val hf (v := .int .i16 (cvt .i16 (x5.v - (cvt .i16 n6)))) rfl rfl rfl (V.pure rfl) (fun a hf => ?_)
                    refine D.val hf (v := .bool (x3.v != (cvt .i16 (x5.v - (cvt .i16 n6))))) rfl rfl rfl (V.pure rfl) (fun a hf => ?_)
                    refine D.val hf (v := .bool (x3.v != (cvt .i16 (x5.v - (cvt .i16 n6))))) rfl rfl rfl (V.pure rfl) (fun a hf => ?_)
                    refine D.done (fun w hs => ?_)
                    refine X.then_ ?_
                    exact ⟨(x3.v != (cvt .i16 (x5.v - (cvt .i16 n6)))), h, ((((((((((((hf.nil.cons (hf.get 149 _ rfl)).cons (hf.get 101 _ rfl)).cons (hf.get 100 _ rfl)).cons (hf.get 99 _ rfl)).cons (hf.get 27 _ rfl)).cons (hf.get 26 _ rfl)).cons (hf.get 25 _ rfl)).cons (hf.get 24 _ rfl)).cons (hf.get 23 _ rfl)).cons (hf.get 19 _ rfl)).cons (hf.get 18 _ rfl)).cons (hf.get 13 _ rfl)), hs⟩
          | cons xk3 llk3 =>
            have hltk3 := range_lt hkk3; have hc := range_go hkk3; have hxk3 := range_get hlk3
            obtain ⟨next2, hnext2⟩ : ∃ X : Int → Prop, X = (fun n2 => forIn' (fun k x (s : Int) next => M_stack_Nearest_L2 target b2 k x s (fun n2 => next n2)) (fun (s : Int) => (fun (n2 : Int) => forIn' (fun k x (s : List Int × Int) next => M_stack_Nearest_L3 y2 k x s.1 s.2 (fun l4 n4 => next (l4, n4))) (fun (s : List Int × Int) => (fun (l4 : List Int) (n4 : Int) => Q l4 (w64 (b2 + n2)) 0) s.1 s.2) l2 0 ((([] : List Int)), n2)) s) llk3 (k3 + 1) n2) := ⟨_, rfl⟩
            replace h : M_stack_Nearest_L2 target b2 k3 xk3 n2 next2 := by rw [hnext2]; exact h
            unfold M_stack_Nearest_L2 at h
            refine wp_seq ?_
            refine R.list ?_
            refine S.val hf hs (v := .bool true) rfl rfl rfl (V.cmp true rfl rfl rfl rfl hc) (fun a hf => ?_)
            refine R.nil ?_
            refine X.then_ ?_
            refine wp_seq ?_
            refine C.yes hf rfl ?_
            refine wp_skip ?_
            refine X.then_ ?_
            refine wp_seq ?_
            refine wp_block ?_
            refine wp_seq ?_
            refine R.list ?_
            refine S.val hf hs (v := .int .i64 (k3 : Int)) rfl rfl rfl (V.pure rfl) (fun a hf => ?_)
            refine S.val hf hs (v := elemPtr B1 (k3 * 1)) rfl rfl rfl (V.index rfl rfl rfl Try.runUnderlying93 Try.sizeOf94 ((hs.rowView 0 rfl hx1 hrB1).some_ (lt_of_get hxk3)) (Int.natCast_nonneg _) (lt_of_get hxk3) rfl) (fun a hf => ?_)
            refine S.val hf hs (v := .int .i16 xk3.v) rfl rfl rfl (V.loadRowEl (off := 0) 0 rfl hx1 hrB1 hxk3 rfl rfl rfl Try.isAgg94 Try.sizeOf94 rfl rfl) (fun a hf => ?_)
            refine S.val hf hs (v := .int .i64 (k3 : Int)) rfl rfl rfl (V.pure rfl) (fun a hf => ?_)
            refine S.val hf hs (v := .int .i16 xk3.v) rfl rfl rfl (V.pure rfl) (fun a hf => ?_)
            refine R.nil ?_
            refine X.then_ ?_
            refine wp_seq ?_
            refine R.list ?_
            refine S.val hf hs (v := .func (.func 72) #[] #[.pointer (some ⟨g2, 0, none⟩), .pointer (some ⟨g1, 0, none⟩)]) rfl rfl rfl (V.pure rfl) (fun a hf => ?_)
            refine S.val hf hs (v := .func (.func 72) #[] #[.pointer (some ⟨g2, 0, none⟩), .pointer (some ⟨g1, 0, none⟩)]) rfl rfl rfl (V.pure rfl) (fun a hf => ?_)
            refine R.nil ?_
            refine X.then_ ?_
            refine wp_seq ?_
            refine C.cut (J := fun a w => ∃ (c3 : Bool), M_stack_Nearest_k7 k3 n2 next2 c3 ∧ FrOk 166 [(7, .pointer (some ⟨g1, 0, none⟩)), (12, .slice l2A l2.length l2C), (13, .pointer (some ⟨g2, 0, none⟩)), (18, .slice y2A y2.length y2C), (19, .int .i64 n2), (20, .int .i64 (k3 : Int)), (73, .slice B1 x1.length D1), (74, .int .i64 (x1.length : Int)), (75, .int .i64 (k3 : Int)), (95, .bool c3)] a ∧ Sat w0 none_ [hrows 93 94 y2A y2C y2as y2, hown 3 l2A l2C l2, hbox g2 3 [.int .i64 b2], hbox g1 3 [.int .i64 target]] w) ?_ ?_
            · rintro a w ⟨c3, h, hf, hs⟩
              unfold M_stack_Nearest_k7 at h
              refine C.cond hf (b := c3) rfl (fun hc => ?_) (fun hc => ?_)
              · replace h := h.1 hc
                refine R.list ?_
                refine S.val hf hs (v := .int .i64 (k3 : Int)) rfl rfl rfl (V.pure rfl) (fun a hf => ?_)
                refine S.val hf hs (v := .int .i64 (k3 : Int)) rfl rfl rfl (V.pure rfl) (fun a hf => ?_)
                refine R.nil ?_
                refine X.blk ?_
                refine X.then_ ?_
                refine R.list ?_
                refine S.val hf hs (v := .int .i64 ((k3 + 1 : Nat) : Int)) rfl rfl rfl (V.incr rfl rfl rfl hltk3 hlenk3) (fun a hf => ?_)
                refine S.val hf hs (v := .int .i64 ((k3 + 1 : Nat) : Int)) rfl rfl rfl (V.pure rfl) (fun a hf => ?_)
                refine R.nil ?_
                refine X.then_ ?_
                exact ⟨xk3, llk3, rfl, k3 + 1, (k3 : Int), range_drop hlk3, range_len hkk3, (by rw [hnext2] at h; exact h), ((((((((hf.nil.cons (hf.get 74 _ rfl)).cons (hf.get 73 _ rfl)).cons (hf.get 19 _ rfl)).cons (hf.get 18 _ rfl)).cons (hf.get 13 _ rfl)).cons (hf.get 12 _ rfl)).cons (hf.get 7 _ rfl)).cons (hf.get 75 _ rfl)), hs⟩
              · replace h := h.2 hc
                refine wp_skip ?_
                refine X.blk ?_
                refine X.then_ ?_
                refine R.list ?_
                refine S.val hf hs (v := .int .i64 ((k3 + 1 : Nat) : Int)) rfl rfl rfl (V.incr rfl rfl rfl hltk3 hlenk3) (fun a hf => ?_)
                refine S.val hf hs (v := .int .i64 ((k3 + 1 : Nat) : Int)) rfl rfl rfl (V.pure rfl) (fun a hf => ?_)
                refine R.nil ?_
                refine X.then_ ?_
                exact ⟨xk3, llk3, rfl, k3 + 1, n2, range_drop hlk3, range_len hkk3, (by rw [hnext2] at h; exact h), ((((((((hf.nil.cons (hf.get 74 _ rfl)).cons (hf.get 73 _ rfl)).cons (hf.get 19 _ rfl)).cons (hf.get 18 _ rfl)).cons (hf.get 13 _ rfl)).cons (hf.get 12 _ rfl)).cons (hf.get 7 _ rfl)).cons (hf.get 75 _ rfl)), hs⟩
            · skip
              refine R.list ?_
              refine S.val hf hs (v := .int .i16 xk3.v) rfl rfl rfl (V.pure rfl) (fun a hf => ?_)
              refine S.val hf hs (v := .bool (decide (xk3.v ≥ 0))) rfl rfl rfl (V.pure rfl) (fun a hf => ?_)
              refine S.split hf hs (b := decide (xk3.v ≥ 0)) rfl rfl rfl (V.pure rfl) (fun hc a hf => ?_) (fun hc a hf => ?_)
              · replace h := h.1 hc
                refine S.val hf hs (v := .int .i64 n2) rfl rfl rfl (V.pure rfl) (fun a hf => ?_)
                refine S.val hf hs (v := .bool (decide (n2 < 0))) rfl rfl rfl (V.pure rfl) (fun a hf => ?_)
                refine S.split hf hs (b := decide (n2 < 0)) rfl rfl rfl (V.pure rfl) (fun hc a hf => ?_) (fun hc a hf => ?_)
                · replace h := h.1 hc
                  refine S.skip hf rfl rfl rfl (fun a hf => ?_)
                  refine S.skip hf rfl rfl rfl (fun a hf => ?_)
                  refine S.skip hf rfl rfl rfl (fun a hf => ?_)
                  refine S.skip hf rfl rfl rfl (fun a hf => ?_)
                  refine S.skip hf rfl rfl rfl (fun a hf => ?_)
                  refine S.skip hf rfl rfl rfl (fun a hf => ?_)
                  refine S.skip hf rfl rfl rfl (fun a hf => ?_)
                  refine S.val hf hs (v := .bool true) rfl rfl rfl (V.pure rfl) (fun a hf => ?_)
                  refine S.val hf hs (v := .bool true) rfl rfl rfl (V.pure rfl) (fun a hf => ?_)
                  refine R.nil ?_
                  refine X.then_ ?_
                  exact ⟨true, h, ((((((((((hf.nil.cons (hf.get 95 _ rfl)).cons (hf.get 75 _ rfl)).cons (hf.get 74 _ rfl)).cons (hf.get 73 _ rfl)).cons (hf.get 20 _ rfl)).cons (hf.get 19 _ rfl)).cons (hf.get 18 _ rfl)).cons (hf.get 13 _ rfl)).cons (hf.get 12 _ rfl)).cons (hf.get 7 _ rfl)), hs⟩
                · replace h := h.2 hc
                  refine S.val hf hs (v := .func (.func 72) #[] #[.pointer (some ⟨g2, 0, none⟩), .pointer (some ⟨g1, 0, none⟩)]) rfl rfl rfl (V.pure rfl) (fun a hf => ?_)
                  refine S.val hf hs (v := .int .i64 (k3 : Int)) rfl rfl rfl (V.pure rfl) (fun a hf => ?_)
                  refine S.call hf rfl rfl rfl (call_run (args := #[.int .i64 (k3 : Int), .pointer (some ⟨g2, 0, none⟩), .pointer (some ⟨g1, 0, none⟩)]) rfl rfl rfl Try.call72 (by simp)) (R_Nearest1 (k3 : Int) b2 target _ g2 (hs.boxAt 2 rfl) g1 (hs.boxAt 3 rfl) _ h) (fun v a w' hf hr => ?_)
                  obtain ⟨y3, rfl, h2, hs2⟩ := hr
                  replace h := h2; replace hs := hs.call hs2; clear h2 hs2
                  refine S.val hf hs (v := .func (.func 72) #[] #[.pointer (some ⟨g2, 0, none⟩), .pointer (some ⟨g1, 0, none⟩)]) rfl rfl rfl (V.pure rfl) (fun a hf => ?_)
                  refine S.val hf hs (v := .int .i64 n2) rfl rfl rfl (V.pure rfl) (fun a hf => ?_)
                  refine S.call hf rfl rfl rfl (call_run (args := #[.int .i64 n2, .pointer (some ⟨g2, 0, none⟩), .pointer (some ⟨g1, 0, none⟩)]) rfl rfl rfl Try.call72 (by simp)) (R_Nearest1 n2 b2 target _ g2 (hs.boxAt 2 rfl) g1 (hs.boxAt 3 rfl) _ h) (fun v a w' hf hr => ?_)
                  obtain ⟨y4, rfl, h2, hs2⟩ := hr
                  replace h := h2; replace hs := hs.call hs2; clear h2 hs2
                  refine S.val hf hs (v := .bool (decide (y3 < y4))) rfl rfl rfl (V.pure rfl) (fun a hf => ?_)
                  refine S.val hf hs (v := .bool (decide (y3 < y4))) rfl rfl rfl (V.pure rfl) (fun a hf => ?_)
                  refine S.val hf hs (v := .bool (decide (y3 < y4))) rfl rfl rfl (V.pure rfl) (fun a hf => ?_)
                  refine R.nil ?_
                  refine X.then_ ?_
                  exact ⟨(decide (y3 < y4)), h, ((((((((((hf.nil.cons (hf.get 95 _ rfl)).cons (hf.get 75 _ rfl)).cons (hf.get 74 _ rfl)).cons (hf.get 73 _ rfl)).cons (hf.get 20 _ rfl)).cons (hf.get 19 _ rfl)).cons (hf.get 18 _ rfl)).cons (hf.get 13 _ rfl)).cons (hf.get 12 _ rfl)).cons (hf.get 7 _ rfl)), hs⟩
              · replace h := h.2 hc
                refine S.skip hf rfl rfl rfl (fun a hf => ?_)
                refine S.skip hf rfl rfl rfl (fun a hf => ?_)
                refine S.skip hf rfl rfl rfl (fun a hf => ?_)
                refine S.skip hf rfl rfl rfl (fun a hf => ?_)
                refine S.skip hf rfl rfl rfl (fun a hf => ?_)
                refine S.skip hf rfl rfl rfl (fun a hf => ?_)
                refine S.skip hf rfl rfl rfl (fun a hf => ?_)
                refine S.skip hf rfl rfl rfl (fun a hf => ?_)
                refine S.skip hf rfl rfl rfl (fun a hf => ?_)
                refine S.skip hf rfl rfl rfl (fun a hf => ?_)
                refine S.skip hf rfl rfl rfl (fun a hf => ?_)
                refine S.val hf hs (v := .bool false) rfl rfl rfl (V.pure rfl) (fun a hf => ?_)
                refine R.nil ?_
                refine X.then_ ?_
                exact ⟨false, h, ((((((((((hf.nil.cons (hf.get 95 _ rfl)).cons (hf.get 75 _ rfl)).cons (hf.get 74 _ rfl)).cons (hf.get 73 _ rfl)).cons (hf.get 20 _ rfl)).cons (hf.get 19 _ rfl)).cons (hf.get 18 _ rfl)).cons (hf.get 13 _ rfl)).cons (hf.get 12 _ rfl)).cons (hf.get 7 _ rfl)), hs⟩
        | cons xk2 llk2 =>
          have hltk2 := range_lt hkk2; have hc := range_go hkk2; have hxk2 := range_get hlk2
          obtain ⟨next1, hnext1⟩ : ∃ X : List Int → Int → Prop, X = (fun l2 b2 => forIn' (fun k x (s : List Int × Int) next => M_stack_Nearest_L1 m k x s.1 s.2 (fun l2 b2 => next (l2, b2))) (fun (s : List Int × Int) => (fun (l2 : List Int) (b2 : Int) => M_stack_fewest l2 most fun y2 => idx y2 0 fun x1 => forIn' (fun k x (s : Int) next => M_stack_Nearest_L2 target b2 k x s (fun n2 => next n2)) (fun (s : Int) => (fun (n2 : Int) => forIn' (fun k x (s : List Int × Int) next => M_stack_Nearest_L3 y2 k x s.1 s.2 (fun l4 n4 => next (l4, n4))) (fun (s : List Int × Int) => (fun (l4 : List Int) (n4 : Int) => Q l4 (w64 (b2 + n2)) 0) s.1 s.2) l2 0 ((([] : List Int)), n2)) s) x1 0 (-1)) s.1 s.2) llk2 (k2 + 1) (l2, b2)) := ⟨_, rfl⟩
          replace h : M_stack_Nearest_L1 m k2 xk2 l2 b2 next1 := by rw [hnext1]; exact h
          unfold M_stack_Nearest_L1 at h
          refine wp_seq ?_
          refine R.list ?_
          refine S.val hf hs (v := .bool true) rfl rfl rfl (V.cmp true rfl rfl rfl rfl hc) (fun a hf => ?_)
          refine R.nil ?_
          refine X.then_ ?_
          refine wp_seq ?_
          refine C.yes hf rfl ?_
          refine wp_skip ?_
          refine X.then_ ?_
          refine wp_seq ?_
          refine wp_block ?_
          refine wp_seq ?_
          refine R.list ?_
          refine S.val hf hs (v := elemPtr s_A (k2 * 2)) rfl rfl rfl (V.index rfl rfl rfl Try.runUnderlying23 Try.sizeOf35 (hv_s_.some_ (lt_of_get hxk2)) (Int.natCast_nonneg _) (lt_of_get hxk2) rfl) (fun a hf => ?_)
          refine S.val hf hs (v := .agg #[.string (ba xk2.Name), .string (ba xk2.Material)]) rfl rfl rfl (V.loadEl (off := 0) (Ag.args _ _ _) (hv_s_.flat hxk2) rfl rfl rfl Try.isAgg35 Try.sizeOf35 rfl rfl) (fun a hf => ?_)
          refine S.alloc hf hs rfl rfl rfl [.string (ba []), .string (ba [])] rfl Try.zeroValue35 rfl (fun g3 a w hf hs => ?_)
          refine S.storeBox 0 hf hs rfl rfl [.string (ba xk2.Name), .string (ba xk2.Material)] [.string (ba xk2.Name), .string (ba xk2.Material)] rfl rfl rfl rfl rfl Try.sizeOf35 rfl rfl rfl rfl (fun a w hf hs => ?_)
          refine R.nil ?_
          refine X.then_ ?_
          refine wp_seq ?_
          refine R.list ?_
          refine S.val hf hs (v := .slice mA m.length mC) rfl rfl rfl (V.pure rfl) (fun a hf => ?_)
          refine S.val hf hs (v := .pointer (some ⟨g3, 1, none⟩)) rfl rfl rfl (V.fieldBox rfl rfl Try.runUnderlying35 rfl Try.sizeOf9 rfl rfl) (fun a hf => ?_)
          refine S.val hf hs (v := .string (ba xk2.Material)) rfl rfl rfl (V.loadBox 0 rfl rfl rfl Try.isAgg9 Try.sizeOf9 rfl rfl) (fun a hf => ?_)
          refine S.call hf rfl rfl rfl (call_fn (vs := [.slice mA m.length mC, .string (ba xk2.Material)]) rfl rfl rfl Try.call60) (R_stack_materialOf m xk2.Material _ mA mC ((Ag.args _ _ _).view hv_m hs) _ h) (fun v a w' hf hr => ?_)
          obtain ⟨y5, y6, rfl, h2, hs2⟩ := hr
          replace h := h2; replace hs := hs.call hs2; clear h2 hs2
          refine S.val hf hs (v := .tuple #[.agg #[.string (ba y5.Name), .int .i64 y5.Kind, .int .i64 y5.Thick, .int .i64 y5.Grow], .bool y6]) rfl rfl rfl (V.pure rfl) (fun a hf => ?_)
          refine S.val hf hs (v := .agg #[.string (ba y5.Name), .int .i64 y5.Kind, .int .i64 y5.Thick, .int .i64 y5.Grow]) rfl rfl rfl (V.pure rfl) (fun a hf => ?_)
          refine S.val hf hs (v := .bool y6) rfl rfl rfl (V.pure rfl) (fun a hf => ?_)
          refine S.alloc hf hs rfl rfl rfl [.string (ba []), .int .i64 0, .int .i64 0, .int .i64 0] rfl Try.zeroValue37 rfl (fun g4 a w hf hs => ?_)
          refine S.storeBox 0 hf hs rfl rfl [.string (ba y5.Name), .int .i64 y5.Kind, .int .i64 y5.Thick, .int .i64 y5.Grow] [.string (ba y5.Name), .int .i64 y5.Kind, .int .i64 y5.Thick, .int .i64 y5.Grow] rfl rfl rfl rfl rfl Try.sizeOf37 rfl rfl rfl rfl (fun a w hf hs => ?_)
          refine S.val hf hs (v := .bool y6) rfl rfl rfl (V.pure rfl) (fun a hf => ?_)
          refine R.nil ?_
          refine X.then_ ?_
          refine wp_seq ?_
          refine R.list ?_
          refine S.val hf hs (v := .pointer (some ⟨g4, 1, none⟩)) rfl rfl rfl (V.fieldBox rfl rfl Try.runUnderlying37 rfl Try.sizeOf3 rfl rfl) (fun a hf => ?_)
          refine S.val hf hs (v := .int .i64 y5.Kind) rfl rfl rfl (V.loadBox 0 rfl rfl rfl Try.isAgg3 Try.sizeOf3 rfl rfl) (fun a hf => ?_)
          refine S.val hf hs (v := .bool (y5.Kind == 3)) rfl rfl rfl (V.pure rfl) (fun a hf => ?_)
          refine R.nil ?_
          refine X.then_ ?_
          refine C.cond hf (b := y5.Kind == 3) rfl (fun hc => ?_) (fun hc => ?_)
          · replace h := h.1 hc
            refine R.list ?_
            refine S.val hf hs (v := .slice l2A l2.length l2C) rfl rfl rfl (V.pure rfl) (fun a hf => ?_)
            refine S.val hf hs (v := .pointer (some ⟨g4, 2, none⟩)) rfl rfl rfl (V.fieldBox rfl rfl Try.runUnderlying37 rfl Try.sizeOf3 rfl rfl) (fun a hf => ?_)
            refine S.val hf hs (v := .int .i64 y5.Thick) rfl rfl rfl (V.loadBox 0 rfl rfl rfl Try.isAgg3 Try.sizeOf3 rfl rfl) (fun a hf => ?_)
            refine S.build1 hf hs rfl rfl rfl (α := Int) y5.Thick rfl rfl rfl Try.runUnderlying43 Try.sizeOf3 Try.zeroValue3 rfl (by decide) (fun A3 a w hf hs => ?_)
            obtain ⟨hroom, h⟩ := h
            refine S.appendCells 3 hf hs rfl rfl rfl rfl rfl rfl rfl Try.underlying43 info3 rfl hroom ((hs.ownView 0 rfl).some_ (i := 0) (by simp)) (hs.ownView 0 rfl) (fun A4 C2 a w hf hs => ?_)
            replace hs := hs.drop
            refine S.val hf hs (v := .slice A4 (l2 ++ [y5.Thick]).length C2) rfl rfl rfl (V.pure rfl) (fun a hf => ?_)
            refine R.nil ?_
            refine X.blk ?_
            refine X.then_ ?_
            refine R.list ?_
            refine S.val hf hs (v := .int .i64 ((k2 + 1 : Nat) : Int)) rfl rfl rfl (V.incr rfl rfl rfl hltk2 hlenk2) (fun a hf => ?_)
            refine S.val hf hs (v := .int .i64 ((k2 + 1 : Nat) : Int)) rfl rfl rfl (V.pure rfl) (fun a hf => ?_)
            refine R.nil ?_
            refine X.then_ ?_
            exact ⟨xk2, llk2, rfl, k2 + 1, (l2 ++ [y5.Thick]), A4, C2, b2, range_drop hlk2, range_len hkk2, (by rw [hnext1] at h; exact h), ((((((((hf.nil.cons (hf.get 43 _ rfl)).cons (hf.get 42 _ rfl)).cons (hf.get 13 _ rfl)).cons (hf.get 12 _ rfl)).cons (hf.get 7 _ rfl)).cons (hf.get 2 _ rfl)).cons (hf.get 0 _ rfl)).cons (hf.get 44 _ rfl)), hs.drop.drop⟩
          · replace h := h.2 hc
            refine R.list ?_
            refine S.val hf hs (v := .int .i64 b2) rfl rfl rfl (V.loadBox 3 rfl rfl rfl Try.isAgg3 Try.sizeOf3 rfl rfl) (fun a hf => ?_)
            refine S.val hf hs (v := .pointer (some ⟨g4, 2, none⟩)) rfl rfl rfl (V.fieldBox rfl rfl Try.runUnderlying37 rfl Try.sizeOf3 rfl rfl) (fun a hf => ?_)
            refine S.val hf hs (v := .int .i64 y5.Thick) rfl rfl rfl (V.loadBox 0 rfl rfl rfl Try.isAgg3 Try.sizeOf3 rfl rfl) (fun a hf => ?_)
            refine S.val hf hs (v := .int .i64 (w64 (b2 + y5.Thick))) rfl rfl rfl (V.pure rfl) (fun a hf => ?_)
            refine S.storeBox 3 hf hs rfl rfl [.int .i64 (w64 (b2 + y5.Thick))] [.int .i64 (w64 (b2 + y5.Thick))] rfl rfl rfl rfl rfl Try.sizeOf3 rfl rfl rfl rfl (fun a w hf hs => ?_)
            refine R.nil ?_
            refine X.blk ?_
            refine X.then_ ?_
            refine R.list ?_
            refine S.val hf hs (v := .int .i64 ((k2 + 1 : Nat) : Int)) rfl rfl rfl (V.incr rfl rfl rfl hltk2 hlenk2) (fun a hf => ?_)
            refine S.val hf hs (v := .int .i64 ((k2 + 1 : Nat) : Int)) rfl rfl rfl (V.pure rfl) (fun a hf => ?_)
            refine R.nil ?_
            refine X.then_ ?_
            exact ⟨xk2, llk2, rfl, k2 + 1, l2, l2A, l2C, (w64 (b2 + y5.Thick)), range_drop hlk2, range_len hkk2, (by rw [hnext1] at h; exact h), ((((((((hf.nil.cons (hf.get 43 _ rfl)).cons (hf.get 42 _ rfl)).cons (hf.get 13 _ rfl)).cons (hf.get 12 _ rfl)).cons (hf.get 7 _ rfl)).cons (hf.get 2 _ rfl)).cons (hf.get 0 _ rfl)).cons (hf.get 44 _ rfl)), hs.drop.drop⟩
    · skip
      refine R.list ?_
      refine S.val hf hs (v := .int .i64 most) rfl rfl rfl (V.pure rfl) (fun a hf => ?_)
      refine S.callv hf rfl rfl rfl (call_fn (vs := [.int .i64 most, .int .i64 1, .int .i64 8]) rfl rfl rfl Try.call57) (C_stack_within most 1 8 _ ) (fun a w hf hs' => ?_)
      replace hs := hs.call hs'; clear hs'
      refine S.val hf hs (v := .bool (!(within most 1 8))) rfl rfl rfl (V.pure rfl) (fun a hf => ?_)
      refine S.split hf hs (b := !(within most 1 8)) rfl rfl rfl (V.pure rfl) (fun hc a hf => ?_) (fun hc a hf => ?_)
      · replace h := h.1 hc
        refine S.skip hf rfl rfl rfl (fun a hf => ?_)
        refine S.skip hf rfl rfl rfl (fun a hf => ?_)
        refine S.skip hf rfl rfl rfl (fun a hf => ?_)
        refine S.val hf hs (v := .bool true) rfl rfl rfl (V.pure rfl) (fun a hf => ?_)
        refine R.nil ?_
        refine X.then_ ?_
        exact ⟨true, h, (((((hf.nil.cons (hf.get 41 _ rfl)).cons (hf.get 7 _ rfl)).cons (hf.get 2 _ rfl)).cons (hf.get 1 _ rfl)).cons (hf.get 0 _ rfl)), hs⟩
      · replace h := h.2 hc
        refine S.val hf hs (v := .int .i64 target) rfl rfl rfl (V.loadBox 0 rfl rfl rfl Try.isAgg3 Try.sizeOf3 rfl rfl) (fun a hf => ?_)
        refine S.callv hf rfl rfl rfl (call_fn (vs := [.int .i64 target, .int .i64 0, .int .i64 1000000]) rfl rfl rfl Try.call57) (C_stack_within target 0 1000000 _ ) (fun a w hf hs' => ?_)
        replace hs := hs.call hs'; clear hs'
        refine S.val hf hs (v := .bool (!(within target 0 1000000))) rfl rfl rfl (V.pure rfl) (fun a hf => ?_)
        refine S.val hf hs (v := .bool (!(within target 0 1000000))) rfl rfl rfl (V.pure rfl) (fun a hf => ?_)
        refine R.nil ?_
        refine X.then_ ?_
        exact ⟨(!(within target 0 1000000)), h, (((((hf.nil.cons (hf.get 41 _ rfl)).cons (hf.get 7 _ rfl)).cons (hf.get 2 _ rfl)).cons (hf.get 1 _ rfl)).cons (hf.get 0 _ rfl)), hs⟩

set_option linter.unusedVariables false
def M_ref4_glues_L1 (m : (List Material)) (k1 : Nat) (xk1 : Layer) (l2 : List Int) (n2 : Int) (next1 : List Int → Int → Prop) : Prop :=
  M_ref4_materialOf m xk1.Material fun y1 => cnd (y1.Kind == 3) (must (room (l2 ++ [y1.Thick]).length 8) (next1 (l2 ++ [y1.Thick]) n2)) (next1 l2 (w64 (n2 + y1.Thick)))
def M_ref4_glues (m : (List Material)) (s_ : (List Layer)) (Q : (List Int) → Int → Prop) : Prop :=
  forIn' (fun k x (s : List Int × Int) next => M_ref4_glues_L1 m k x s.1 s.2 (fun l2 n2 => next (l2, n2))) (fun (s : List Int × Int) => (fun (l2 : List Int) (n2 : Int) => Q l2 n2) s.1 s.2) s_ 0 (([] : List Int), 0)
set_option maxHeartbeats 1000000 in
theorem R_ref4_glues (m : (List Material)) (s_ : (List Layer)) (w0 : World) (mA : Option Addr) (mC : Nat) (hv_m : View w0 (old w0 none_) mA mC m) (s_A : Option Addr) (s_C : Nat) (hv_s_ : View w0 (old w0 none_) s_A s_C s_) (Q : (List Int) → Int → Prop) (h : M_ref4_glues m s_ Q) :
    Ret Try.prog 73 #[.slice mA m.length mC, .slice s_A s_.length s_C] w0 fun v w' => ∃ (r0 : (List Int)) (r0A : Option Addr) (r0C : Nat) (r1 : Int), v = .tuple #[.slice r0A r0.length r0C, .int .i64 r1] ∧ Q r0 r1 ∧ Sat w0 none_ [hown 3 r0A r0C r0] w' := by
  refine fn_enter Try.func73 rfl Try.ntmps73 rfl (fs := [(0, .slice mA m.length mC), (1, .slice s_A s_.length s_C)]) rfl (fun a hf => ?_)
  have hs := Sat.start w0 none_
  unfold M_ref4_glues at h
  refine wp_seq ?_
  refine R.list ?_
  refine S.val hf hs (v := .slice none 0 0) rfl rfl rfl (V.pure rfl) (fun a hf => ?_)
  refine S.val hf hs (v := .int .i64 0) rfl rfl rfl (V.pure rfl) (fun a hf => ?_)
  refine R.nil ?_
  refine X.then_ ?_
  refine wp_seq ?_
  refine R.list ?_
  refine S.val hf hs (v := .slice none 0 0) rfl rfl rfl (V.pure rfl) (fun a hf => ?_)
  refine R.nil ?_
  refine X.then_ ?_
  refine wp_seq ?_
  refine R.list ?_
  refine S.val hf hs (v := .int .i64 0) rfl rfl rfl (V.pure rfl) (fun a hf => ?_)
  refine R.nil ?_
  refine X.then_ ?_
  refine wp_seq ?_
  refine wp_seq ?_
  refine R.list ?_
  refine S.val hf hs (v := .slice s_A s_.length s_C) rfl rfl rfl (V.pure rfl) (fun a hf => ?_)
  refine S.val hf hs (v := .int .i64 (s_.length : Int)) rfl rfl rfl (V.len rfl rfl Try.runUnderlying23) (fun a hf => ?_)
  refine S.val hf hs (v := .int .i64 0) rfl rfl rfl (V.pure rfl) (fun a hf => ?_)
  refine R.nil ?_
  refine X.then_ ?_
  refine wp_block ?_
  replace hs := hs.nilOwn (α := Int) 3
  have hlenk1 := hv_s_.len64
  refine C.range (fun (ll : List Layer) a w => ∃ (k1 : Nat) (l2 : List Int) (l2A : Option Addr) (l2C : Nat) (n2 : Int), s_.drop k1 = ll ∧ k1 + ll.length = s_.length ∧ forIn' (fun k x (s : List Int × Int) next => M_ref4_glues_L1 m k x s.1 s.2 (fun l2 n2 => next (l2, n2))) (fun (s : List Int × Int) => (fun (l2 : List Int) (n2 : Int) => Q l2 n2) s.1 s.2) ll k1 (l2, n2) ∧ FrOk 36 [(13, .int .i64 (k1 : Int)), (0, .slice mA m.length mC), (6, .slice l2A l2.length l2C), (7, .int .i64 n2), (11, .slice s_A s_.length s_C), (12, .int .i64 (s_.length : Int))] a ∧ Sat w0 none_ [hown 3 l2A l2C l2] w) s_ ⟨0, ([] : List Int), none, 0, 0, rfl, Nat.zero_add _, h, ((((((hf.nil.cons (hf.get 12 _ rfl)).cons (hf.get 11 _ rfl)).cons (hf.get 7 _ rfl)).cons (hf.get 6 _ rfl)).cons (hf.get 0 _ rfl)).cons (hf.get 13 _ rfl)), hs⟩ ?_
  clear h hf hs
  rintro llk1 a w ⟨k1, l2, l2A, l2C, n2, hlk1, hkk1, h, hf, hs⟩
  cases llk1 with
  | nil =>
    have hc := range_done hkk1
    replace h : (fun (l2 : List Int) (n2 : Int) => Q l2 n2) l2 n2 := h
    refine wp_seq ?_
    refine R.list ?_
    refine S.val hf hs (v := .bool false) rfl rfl rfl (V.cmp false rfl rfl rfl rfl hc) (fun a hf => ?_)
    refine R.nil ?_
    refine X.then_ ?_
    refine wp_seq ?_
    refine C.no hf rfl ?_
    refine wp_exit ?_
    refine X.then_exit ?_
    refine X.then_exit ?_
    refine X.blk_exit ?_
    refine X.then_ ?_
    refine wp_seq ?_
    refine R.list ?_
    refine S.val hf hs (v := .slice l2A l2.length l2C) rfl rfl rfl (V.pure rfl) (fun a hf => ?_)
    refine S.val hf hs (v := .int .i64 n2) rfl rfl rfl (V.pure rfl) (fun a hf => ?_)
    refine S.val hf hs (v := .slice l2A l2.length l2C) rfl rfl rfl (V.pure rfl) (fun a hf => ?_)
    refine S.val hf hs (v := .int .i64 n2) rfl rfl rfl (V.pure rfl) (fun a hf => ?_)
    refine R.nil ?_
    refine X.then_ ?_
    refine wp_ret ?_
    replace hs := hs.take 1
    exact L.ret hf (run_results2 Try.results73 (ResIs.tmp hf rfl) (ResIs.tmp hf rfl)) ⟨l2, l2A, l2C, n2, rfl, h, hs⟩
  | cons xk1 llk1 =>
    have hltk1 := range_lt hkk1; have hc := range_go hkk1; have hxk1 := range_get hlk1
    obtain ⟨next1, hnext1⟩ : ∃ X : List Int → Int → Prop, X = (fun l2 n2 => forIn' (fun k x (s : List Int × Int) next => M_ref4_glues_L1 m k x s.1 s.2 (fun l2 n2 => next (l2, n2))) (fun (s : List Int × Int) => (fun (l2 : List Int) (n2 : Int) => Q l2 n2) s.1 s.2) llk1 (k1 + 1) (l2, n2)) := ⟨_, rfl⟩
    replace h : M_ref4_glues_L1 m k1 xk1 l2 n2 next1 := by rw [hnext1]; exact h
    unfold M_ref4_glues_L1 at h
    refine wp_seq ?_
    refine R.list ?_
    refine S.val hf hs (v := .bool true) rfl rfl rfl (V.cmp true rfl rfl rfl rfl hc) (fun a hf => ?_)
    refine R.nil ?_
    refine X.then_ ?_
    refine wp_seq ?_
    refine C.yes hf rfl ?_
    refine wp_skip ?_
    refine X.then_ ?_
    refine wp_seq ?_
    refine wp_block ?_
    refine wp_seq ?_
    refine R.list ?_
    refine S.val hf hs (v := elemPtr s_A (k1 * 2)) rfl rfl rfl (V.index rfl rfl rfl Try.runUnderlying23 Try.sizeOf35 (hv_s_.some_ (lt_of_get hxk1)) (Int.natCast_nonneg _) (lt_of_get hxk1) rfl) (fun a hf => ?_)
    refine S.val hf hs (v := .agg #[.string (ba xk1.Name), .string (ba xk1.Material)]) rfl rfl rfl (V.loadEl (off := 0) (Ag.args _ _ _) (hv_s_.flat hxk1) rfl rfl rfl Try.isAgg35 Try.sizeOf35 rfl rfl) (fun a hf => ?_)
    refine S.alloc hf hs rfl rfl rfl [.string (ba []), .string (ba [])] rfl Try.zeroValue35 rfl (fun g1 a w hf hs => ?_)
    refine S.storeBox 0 hf hs rfl rfl [.string (ba xk1.Name), .string (ba xk1.Material)] [.string (ba xk1.Name), .string (ba xk1.Material)] rfl rfl rfl rfl rfl Try.sizeOf35 rfl rfl rfl rfl (fun a w hf hs => ?_)
    refine R.nil ?_
    refine X.then_ ?_
    refine wp_seq ?_
    refine R.list ?_
    refine S.val hf hs (v := .slice mA m.length mC) rfl rfl rfl (V.pure rfl) (fun a hf => ?_)
    refine S.val hf hs (v := .pointer (some ⟨g1, 1, none⟩)) rfl rfl rfl (V.fieldBox rfl rfl Try.runUnderlying35 rfl Try.sizeOf9 rfl rfl) (fun a hf => ?_)
    refine S.val hf hs (v := .string (ba xk1.Material)) rfl rfl rfl (V.loadBox 0 rfl rfl rfl Try.isAgg9 Try.sizeOf9 rfl rfl) (fun a hf => ?_)
    refine S.call hf rfl rfl rfl (call_fn (vs := [.slice mA m.length mC, .string (ba xk1.Material)]) rfl rfl rfl Try.call70) (R_ref4_materialOf m xk1.Material _ mA mC ((Ag.args _ _ _).view hv_m hs) _ h) (fun v a w' hf hr => ?_)
    obtain ⟨y1, rfl, h2, hs2⟩ := hr
    replace h := h2; replace hs := hs.call hs2; clear h2 hs2
    refine S.alloc hf hs rfl rfl rfl [.string (ba []), .int .i64 0, .int .i64 0, .int .i64 0] rfl Try.zeroValue37 rfl (fun g2 a w hf hs => ?_)
    refine S.storeBox 0 hf hs rfl rfl [.string (ba y1.Name), .int .i64 y1.Kind, .int .i64 y1.Thick, .int .i64 y1.Grow] [.string (ba y1.Name), .int .i64 y1.Kind, .int .i64 y1.Thick, .int .i64 y1.Grow] rfl rfl rfl rfl rfl Try.sizeOf37 rfl rfl rfl rfl (fun a w hf hs => ?_)
    refine R.nil ?_
    refine X.then_ ?_
    refine wp_seq ?_
    refine R.list ?_
    refine S.val hf hs (v := .pointer (some ⟨g2, 1, none⟩)) rfl rfl rfl (V.fieldBox rfl rfl Try.runUnderlying37 rfl Try.sizeOf3 rfl rfl) (fun a hf => ?_)
    refine S.val hf hs (v := .int .i64 y1.Kind) rfl rfl rfl (V.loadBox 0 rfl rfl rfl Try.isAgg3 Try.sizeOf3 rfl rfl) (fun a hf => ?_)
    refine S.val hf hs (v := .bool (y1.Kind == 3)) rfl rfl rfl (V.pure rfl) (fun a hf => ?_)
    refine R.nil ?_
    refine X.then_ ?_
    refine C.cond hf (b := y1.Kind == 3) rfl (fun hc => ?_) (fun hc => ?_)
    · replace h := h.1 hc
      refine R.list ?_
      refine S.val hf hs (v := .slice l2A l2.length l2C) rfl rfl rfl (V.pure rfl) (fun a hf => ?_)
      refine S.val hf hs (v := .pointer (some ⟨g2, 2, none⟩)) rfl rfl rfl (V.fieldBox rfl rfl Try.runUnderlying37 rfl Try.sizeOf3 rfl rfl) (fun a hf => ?_)
      refine S.val hf hs (v := .int .i64 y1.Thick) rfl rfl rfl (V.loadBox 0 rfl rfl rfl Try.isAgg3 Try.sizeOf3 rfl rfl) (fun a hf => ?_)
      refine S.build1 hf hs rfl rfl rfl (α := Int) y1.Thick rfl rfl rfl Try.runUnderlying43 Try.sizeOf3 Try.zeroValue3 rfl (by decide) (fun A1 a w hf hs => ?_)
      obtain ⟨hroom, h⟩ := h
      refine S.appendCells 3 hf hs rfl rfl rfl rfl rfl rfl rfl Try.underlying43 info3 rfl hroom ((hs.ownView 0 rfl).some_ (i := 0) (by simp)) (hs.ownView 0 rfl) (fun A2 C1 a w hf hs => ?_)
      replace hs := hs.drop
      refine S.val hf hs (v := .slice A2 (l2 ++ [y1.Thick]).length C1) rfl rfl rfl (V.pure rfl) (fun a hf => ?_)
      refine R.nil ?_
      refine X.blk ?_
      refine X.then_ ?_
      refine R.list ?_
      refine S.val hf hs (v := .int .i64 ((k1 + 1 : Nat) : Int)) rfl rfl rfl (V.incr rfl rfl rfl hltk1 hlenk1) (fun a hf => ?_)
      refine S.val hf hs (v := .int .i64 ((k1 + 1 : Nat) : Int)) rfl rfl rfl (V.pure rfl) (fun a hf => ?_)
      refine R.nil ?_
      refine X.then_ ?_
      exact ⟨xk1, llk1, rfl, k1 + 1, (l2 ++ [y1.Thick]), A2, C1, n2, range_drop hlk1, range_len hkk1, (by rw [hnext1] at h; exact h), ((((((hf.nil.cons (hf.get 12 _ rfl)).cons (hf.get 11 _ rfl)).cons (hf.get 7 _ rfl)).cons (hf.get 6 _ rfl)).cons (hf.get 0 _ rfl)).cons (hf.get 13 _ rfl)), hs.drop.drop⟩
    · replace h := h.2 hc
      refine R.list ?_
      refine S.val hf hs (v := .int .i64 n2) rfl rfl rfl (V.pure rfl) (fun a hf => ?_)
      refine S.val hf hs (v := .pointer (some ⟨g2, 2, none⟩)) rfl rfl rfl (V.fieldBox rfl rfl Try.runUnderlying37 rfl Try.sizeOf3 rfl rfl) (fun a hf => ?_)
      refine S.val hf hs (v := .int .i64 y1.Thick) rfl rfl rfl (V.loadBox 0 rfl rfl rfl Try.isAgg3 Try.sizeOf3 rfl rfl) (fun a hf => ?_)
      refine S.val hf hs (v := .int .i64 (w64 (n2 + y1.Thick))) rfl rfl rfl (V.pure rfl) (fun a hf => ?_)
      refine S.val hf hs (v := .int .i64 (w64 (n2 + y1.Thick))) rfl rfl rfl (V.pure rfl) (fun a hf => ?_)
      refine R.nil ?_
      refine X.blk ?_
      refine X.then_ ?_
      refine R.list ?_
      refine S.val hf hs (v := .int .i64 ((k1 + 1 : Nat) : Int)) rfl rfl rfl (V.incr rfl rfl rfl hltk1 hlenk1) (fun a hf => ?_)
      refine S.val hf hs (v := .int .i64 ((k1 + 1 : Nat) : Int)) rfl rfl rfl (V.pure rfl) (fun a hf => ?_)
      refine R.nil ?_
      refine X.then_ ?_
      exact ⟨xk1, llk1, rfl, k1 + 1, l2, l2A, l2C, (w64 (n2 + y1.Thick)), range_drop hlk1, range_len hkk1, (by rw [hnext1] at h; exact h), ((((((hf.nil.cons (hf.get 12 _ rfl)).cons (hf.get 11 _ rfl)).cons (hf.get 7 _ rfl)).cons (hf.get 6 _ rfl)).cons (hf.get 0 _ rfl)).cons (hf.get 13 _ rfl)), hs.drop.drop⟩

set_option linter.unusedVariables false
def M_ref4_apart (a_ : Int) (b : Int) (Q : Int → Prop) : Prop :=
  Q (w64 ((max a_ b) - (min a_ b)))
set_option maxHeartbeats 1000000 in
theorem R_ref4_apart (a_ : Int) (b : Int) (w0 : World)  (Q : Int → Prop) (h : M_ref4_apart a_ b Q) :
    Ret Try.prog 74 #[.int .i64 a_, .int .i64 b] w0 fun v w' => ∃ (r0 : Int), v = .int .i64 r0 ∧ Q r0 ∧ Sat w0 none_ [] w' := by
  refine fn_enter Try.func74 rfl Try.ntmps74 rfl (fs := [(0, .int .i64 a_), (1, .int .i64 b)]) rfl (fun a hf => ?_)
  have hs := Sat.start w0 none_
  unfold M_ref4_apart at h
  refine wp_seq ?_
  refine R.list ?_
  refine S.val hf hs (v := .int .i64 0) rfl rfl rfl (V.pure rfl) (fun a hf => ?_)
  refine R.nil ?_
  refine X.then_ ?_
  refine wp_seq ?_
  refine R.list ?_
  refine S.val hf hs (v := .int .i64 a_) rfl rfl rfl (V.pure rfl) (fun a hf => ?_)
  refine S.val hf hs (v := .int .i64 b) rfl rfl rfl (V.pure rfl) (fun a hf => ?_)
  refine S.val hf hs (v := .int .i64 (max a_ b)) rfl rfl rfl (V.max2 rfl rfl rfl) (fun a hf => ?_)
  refine S.val hf hs (v := .int .i64 a_) rfl rfl rfl (V.pure rfl) (fun a hf => ?_)
  refine S.val hf hs (v := .int .i64 b) rfl rfl rfl (V.pure rfl) (fun a hf => ?_)
  refine S.val hf hs (v := .int .i64 (min a_ b)) rfl rfl rfl (V.min2 rfl rfl rfl) (fun a hf => ?_)
  refine S.val hf hs (v := .int .i64 (w64 ((max a_ b) - (min a_ b)))) rfl rfl rfl (V.pure rfl) (fun a hf => ?_)
  refine S.val hf hs (v := .int .i64 (w64 ((max a_ b) - (min a_ b)))) rfl rfl rfl (V.pure rfl) (fun a hf => ?_)
  refine R.nil ?_
  refine X.then_ ?_
  refine wp_ret ?_
  exact L.ret hf (run_results1 Try.results74 (ResIs.tmp hf rfl)) ⟨(w64 ((max a_ b) - (min a_ b))), rfl, h, hs.nil⟩

set_option linter.unusedVariables false
def M_ref4_fewest_k6 (n2 : Int) (x3 : Int) (k3 : Nat) (xk3 : Int) (l8 : List (List Int)) (n6 : Int) (again4 : List (List Int) → Int → Prop) (c2 : Bool) : Prop :=
  cnd c2 (idx l8 n2 fun x8 => idx x8 (w64 ((k3 : Int) + (w64 (n6 * x3)))) fun x9 => must (n2.toNat ≠ (w64 (n2 + 1)).toNat) (again4 (l8.set n2.toNat (x8.set ((w64 ((k3 : Int) + (w64 (n6 * x3)))).toNat) (w64 (xk3 + n6)))) (w64 (n6 + 1)))) (again4 l8 (w64 (n6 + 1)))
def M_ref4_fewest_k5 (n2 : Int) (x3 : Int) (k3 : Nat) (xk3 : Int) (next3 : List (List Int) → Prop) (l8 : List (List Int)) (n6 : Int) (again4 : List (List Int) → Int → Prop) (c1 : Bool) : Prop :=
  cnd c1 (idx l8 n2 fun x10 => idx x10 (w64 ((k3 : Int) + (w64 (n6 * x3)))) fun x11 => cnd (decide (x11 < 0)) (M_ref4_fewest_k6 n2 x3 k3 xk3 l8 n6 again4 true) (M_ref4_fewest_k6 n2 x3 k3 xk3 l8 n6 again4 (decide (w64 (xk3 + n6) < x11)))) (next3 l8)
def M_ref4_fewest_L4 (most : Int) (n2 : Int) (x3 : Int) (k3 : Nat) (xk3 : Int) (next3 : List (List Int) → Prop) (again4 : List (List Int) → Int → Prop) (l8 : List (List Int)) (n6 : Int) : Prop :=
  cnd (decide (xk3 ≥ 0)) (M_ref4_fewest_k5 n2 x3 k3 xk3 next3 l8 n6 again4 (decide (n6 ≤ most))) (M_ref4_fewest_k5 n2 x3 k3 xk3 next3 l8 n6 again4 false)
def M_ref4_fewest_L3 (most : Int) (n2 : Int) (x3 : Int) (k3 : Nat) (xk3 : Int) (l6 : List (List Int)) (next3 : List (List Int) → Prop) : Prop :=
  lp (fun again (s : List (List Int) × Int) => M_ref4_fewest_L4 most n2 x3 k3 xk3 next3 (fun l8 n6 => again (l8, n6)) s.1 s.2) (l6, 1)
def M_ref4_fewest_L2 (most : Int) (n2 : Int) (again1 : List (List Int) → Int → Prop) (x2 : (List Int)) (x3 : Int) (again2 : List (List Int) → Int → Prop) (l4 : List (List Int)) (n4 : Int) : Prop :=
  cnd (decide (n4 < ((List.replicate ((w64 ((x2.length : Int) + (w64 (most * x3)))).toNat) (0 : Int)).length : Int))) (idx l4 n2 fun x5 => idx x5 n4 fun x6 => again2 (l4.set n2.toNat (x5.set n4.toNat (-1))) (w64 (n4 + 1))) (idx l4 (w64 (n2 + 1)) fun x7 => forIn' (fun k x (s : List (List Int)) next => M_ref4_fewest_L3 most n2 x3 k x s (fun l6 => next l6)) (fun (s : List (List Int)) => (fun (l6 : List (List Int)) => again1 l6 (w64 (n2 - 1))) s) x7 0 l4)
def M_ref4_fewest_L1 (l : (List Int)) (most : Int) (Q : (List (List Int)) → Prop) (again1 : List (List Int) → Int → Prop) (l2 : List (List Int)) (n2 : Int) : Prop :=
  cnd (decide (n2 ≥ 0)) (idx l2 (w64 (n2 + 1)) fun x2 => idx l n2 fun x3 => must (0 ≤ w64 ((x2.length : Int) + (w64 (most * x3))) ∧ w64 ((x2.length : Int) + (w64 (most * x3))) * 8 ≤ 281474976710656) (idx l2 n2 fun x4 => lp (fun again (s : List (List Int) × Int) => M_ref4_fewest_L2 most n2 again1 x2 x3 (fun l4 n4 => again (l4, n4)) s.1 s.2) ((l2.set n2.toNat (List.replicate ((w64 ((x2.length : Int) + (w64 (most * x3)))).toNat) (0 : Int))), 0))) (Q l2)
def M_ref4_fewest (l : (List Int)) (most : Int) (Q : (List (List Int)) → Prop) : Prop :=
  must (0 ≤ w64 ((l.length : Int) + 1) ∧ w64 ((l.length : Int) + 1) * 24 ≤ 281474976710656) (idx (List.replicate ((w64 ((l.length : Int) + 1)).toNat) ([] : (List Int))) (l.length : Int) fun x1 => lp (fun again (s : List (List Int) × Int) => M_ref4_fewest_L1 l most Q (fun l2 n2 => again (l2, n2)) s.1 s.2) (((List.replicate ((w64 ((l.length : Int) + 1)).toNat) ([] : (List Int))).set l.length [0]), w64 ((l.length : Int) - 1)))
set_option maxHeartbeats 1000000 in
theorem R_ref4_fewest (l : (List Int)) (most : Int) (w0 : World) (lA : Option Addr) (lC : Nat) (hv_l : View w0 (old w0 none_) lA lC l) (Q : (List (List Int)) → Prop) (h : M_ref4_fewest l most Q) :
    Ret Try.prog 75 #[.slice lA l.length lC, .int .i64 most] w0 fun v w' => ∃ (r0 : (List (List Int))) (r0A : Option Addr) (r0C : Nat) (r0as : List (Option Addr × Nat)), v = .slice r0A r0.length r0C ∧ Q r0 ∧ Sat w0 none_ [hrows 43 3 r0A r0C r0as r0] w' := by
  refine fn_enter Try.func75 rfl Try.ntmps75 rfl (fs := [(0, .slice lA l.length lC), (1, .int .i64 most)]) rfl (fun a hf => ?_)
  have hs := Sat.start w0 none_
  unfold M_ref4_fewest at h
  refine wp_seq ?_
  refine R.list ?_
  refine S.val hf hs (v := .slice none 0 0) rfl rfl rfl (V.pure rfl) (fun a hf => ?_)
  refine R.nil ?_
  refine X.then_ ?_
  refine wp_seq ?_
  refine R.list ?_
  refine S.val hf hs (v := .slice lA l.length lC) rfl rfl rfl (V.pure rfl) (fun a hf => ?_)
  refine S.val hf hs (v := .int .i64 (l.length : Int)) rfl rfl rfl (V.len rfl rfl Try.runUnderlying43) (fun a hf => ?_)
  refine S.val hf hs (v := .int .i64 (w64 ((l.length : Int) + 1))) rfl rfl rfl (V.pure rfl) (fun a hf => ?_)
  obtain ⟨hmk, h⟩ := h
  refine S.makeRows hf hs rfl rfl rfl ([] : (List Int)) (z := (w64 ((l.length : Int) + 1))) (N := (w64 ((l.length : Int) + 1)).toNat) 3 rfl rfl rfl rfl Try.underlying98 info43 hmk rfl (by have := hmk.2; omega) (fun A1 a w hf hs => ?_)
  refine S.val hf hs (v := .slice A1 (List.replicate ((w64 ((l.length : Int) + 1)).toNat) ([] : (List Int))).length ((w64 ((l.length : Int) + 1)).toNat)) rfl rfl rfl (V.pure rfl) (fun a hf => ?_)
  refine R.nil ?_
  refine X.then_ ?_
  refine wp_seq ?_
  refine R.list ?_
  refine S.val hf hs (v := .slice A1 (List.replicate ((w64 ((l.length : Int) + 1)).toNat) ([] : (List Int))).length ((w64 ((l.length : Int) + 1)).toNat)) rfl rfl rfl (V.pure rfl) (fun a hf => ?_)
  refine S.val hf hs (v := .slice lA l.length lC) rfl rfl rfl (V.pure rfl) (fun a hf => ?_)
  refine S.val hf hs (v := .int .i64 (l.length : Int)) rfl rfl rfl (V.len rfl rfl Try.runUnderlying43) (fun a hf => ?_)
  refine S.build1 hf hs rfl rfl rfl (α := Int) 0 rfl rfl rfl Try.runUnderlying43 Try.sizeOf3 Try.zeroValue3 rfl (by decide) (fun A2 a w hf hs => ?_)
  obtain ⟨h0x1, x1, hx1, h⟩ := h
  refine S.val hf hs (v := elemPtr A1 (l.length * 1)) rfl rfl rfl (V.index rfl rfl rfl Try.runUnderlying98 Try.sizeOf43 (hs.rowsSome 1 rfl hx1) (Int.natCast_nonneg _) (lt_of_get hx1) rfl) (fun a hf => ?_)
  obtain ⟨B1, D1, hrB1⟩ := hs.rowAt 1 rfl hx1
  refine S.putRow (off := 0) 0 hf hs rfl rfl [0] [.slice A2 [0].length 1] rfl hx1 hrB1 rfl rfl rfl rfl rfl rfl Try.sizeOf43 rfl (by decide) rfl rfl (fun a w hf hs => ?_)
  replace hf := hf.tell 5 (v := .slice A1 ((List.replicate ((w64 ((l.length : Int) + 1)).toNat) ([] : (List Int))).set l.length [0]).length ((w64 ((l.length : Int) + 1)).toNat)) ((hf.get 5 (.slice A1 (List.replicate ((w64 ((l.length : Int) + 1)).toNat) ([] : (List Int))).length ((w64 ((l.length : Int) + 1)).toNat)) rfl).trans (congrArg (fun n => Value.slice A1 n ((w64 ((l.length : Int) + 1)).toNat)) List.length_set.symm))
  replace hf := hf.tell 15 (v := .slice A1 ((List.replicate ((w64 ((l.length : Int) + 1)).toNat) ([] : (List Int))).set l.length [0]).length ((w64 ((l.length : Int) + 1)).toNat)) ((hf.get 15 (.slice A1 (List.replicate ((w64 ((l.length : Int) + 1)).toNat) ([] : (List Int))).length ((w64 ((l.length : Int) + 1)).toNat)) rfl).trans (congrArg (fun n => Value.slice A1 n ((w64 ((l.length : Int) + 1)).toNat)) List.length_set.symm))
  replace hf := hf.tell 16 (v := .slice A1 ((List.replicate ((w64 ((l.length : Int) + 1)).toNat) ([] : (List Int))).set l.length [0]).length ((w64 ((l.length : Int) + 1)).toNat)) ((hf.get 16 (.slice A1 (List.replicate ((w64 ((l.length : Int) + 1)).toNat) ([] : (List Int))).length ((w64 ((l.length : Int) + 1)).toNat)) rfl).trans (congrArg (fun n => Value.slice A1 n ((w64 ((l.length : Int) + 1)).toNat)) List.length_set.symm))
  have hx1 : ((List.replicate ((w64 ((l.length : Int) + 1)).toNat) ([] : (List Int))).set l.length [0])[l.length]? = some [0] := List.getElem?_set_self (lt_of_get hx1)
  have hr1 : ((List.replicate ((w64 ((l.length : Int) + 1)).toNat) ((none : Option Addr), 0)).set l.length (A2, 1))[l.length]? = some (A2, 1) := List.getElem?_set_self (lt_of_get hrB1)
  refine R.nil ?_
  refine X.then_ ?_
  refine wp_seq ?_
  refine wp_seq ?_
  refine R.list ?_
  refine S.val hf hs (v := .slice lA l.length lC) rfl rfl rfl (V.pure rfl) (fun a hf => ?_)
  refine S.val hf hs (v := .int .i64 (l.length : Int)) rfl rfl rfl (V.len rfl rfl Try.runUnderlying43) (fun a hf => ?_)
  refine S.val hf hs (v := .int .i64 (w64 ((l.length : Int) - 1))) rfl rfl rfl (V.pure rfl) (fun a hf => ?_)
  refine S.val hf hs (v := .int .i64 (w64 ((l.length : Int) - 1))) rfl rfl rfl (V.pure rfl) (fun a hf => ?_)
  refine R.nil ?_
  refine X.then_ ?_
  refine wp_block ?_
  obtain ⟨kk, h⟩ := h
  refine C.loop (fun kk a w => ∃ (l2 : List (List Int)) (l2A : Option Addr) (l2C : Nat) (l2as : List (Option Addr × Nat)) (n2 : Int), iterF (fun again (s : List (List Int) × Int) => M_ref4_fewest_L1 l most Q (fun l2 n2 => again (l2, n2)) s.1 s.2) kk (l2, n2) ∧ FrOk 120 [(0, .slice lA l.length lC), (1, .int .i64 most), (5, .slice l2A l2.length l2C), (6, .int .i64 n2)] a ∧ Sat w0 none_ [hrows 43 3 l2A l2C l2as l2] w) kk ⟨((List.replicate ((w64 ((l.length : Int) + 1)).toNat) ([] : (List Int))).set l.length [0]), A1, ((w64 ((l.length : Int) + 1)).toNat), ((List.replicate ((w64 ((l.length : Int) + 1)).toNat) ((none : Option Addr), 0)).set l.length (A2, 1)), (w64 ((l.length : Int) - 1)), h, ((((hf.nil.cons (hf.get 6 _ rfl)).cons (hf.get 5 _ rfl)).cons (hf.get 1 _ rfl)).cons (hf.get 0 _ rfl)), hs⟩ (fun a w ⟨_, _, _, _, _, h, _, _⟩ => h) ?_
  clear h hf hs
  rintro kk a w ⟨l2, l2A, l2C, l2as, n2, h, hf, hs⟩
  obtain ⟨again1, hagain1⟩ : ∃ X : List (List Int) → Int → Prop, X = (fun l2 n2 => iterF (fun again (s : List (List Int) × Int) => M_ref4_fewest_L1 l most Q (fun l2 n2 => again (l2, n2)) s.1 s.2) kk (l2, n2)) := ⟨_, rfl⟩
  replace h : M_ref4_fewest_L1 l most Q again1 l2 n2 := by rw [hagain1]; exact h
  unfold M_ref4_fewest_L1 at h
  refine wp_seq ?_
  refine wp_seq ?_
  refine R.list ?_
  refine S.val hf hs (v := .int .i64 n2) rfl rfl rfl (V.pure rfl) (fun a hf => ?_)
  refine S.val hf hs (v := .bool (decide (n2 ≥ 0))) rfl rfl rfl (V.pure rfl) (fun a hf => ?_)
  refine R.nil ?_
  refine X.then_ ?_
  refine C.cond hf (b := decide (n2 ≥ 0)) rfl (fun hc => ?_) (fun hc => ?_)
  · replace h := h.1 hc
    refine wp_skip ?_
    refine X.then_ ?_
    refine wp_seq ?_
    refine wp_block ?_
    refine wp_seq ?_
    refine M.start 17 (Sat w0 none_ [hrows 43 3 l2A l2C l2as l2]) mo ?_
    replace hs := hs.drew
    refine M.val hf hs (v := .slice l2A l2.length l2C) (i := 0) rfl rfl rfl rfl (by kernel_rfl) (by kernel_rfl) (by kernel_rfl) (by kernel_rfl) (by kernel_rfl) rfl (V.pure rfl) (fun a hf => ?_)
    refine M.val hf hs (v := .int .i64 n2) (i := 1) rfl rfl rfl rfl (by kernel_rfl) (by kernel_rfl) (by kernel_rfl) (by kernel_rfl) (by kernel_rfl) rfl (V.pure rfl) (fun a hf => ?_)
    refine M.val hf hs (v := .slice l2A l2.length l2C) (i := 2) rfl rfl rfl rfl (by kernel_rfl) (by kernel_rfl) (by kernel_rfl) (by kernel_rfl) (by kernel_rfl) rfl (V.pure rfl) (fun a hf => ?_)
    refine M.val hf hs (v := .int .i64 n2) (i := 3) rfl rfl rfl rfl (by kernel_rfl) (by kernel_rfl) (by kernel_rfl) (by kernel_rfl) (by kernel_rfl) rfl (V.pure rfl) (fun a hf => ?_)
    refine M.val hf hs (v := .int .i64 (w64 (n2 + 1))) (i := 4) rfl rfl rfl rfl (by kernel_rfl) (by kernel_rfl) (by kernel_rfl) (by kernel_rfl) (by kernel_rfl) rfl (V.pure rfl) (fun a hf => ?_)
    obtain ⟨h0x2, x2, hx2, h⟩ := h
    refine M.val hf hs (v := elemPtr l2A ((w64 (n2 + 1)).toNat * 1)) (i := 5) rfl rfl rfl rfl (by kernel_rfl) (by kernel_rfl) (by kernel_rfl) (by kernel_rfl) (by kernel_rfl) rfl (V.index rfl rfl rfl Try.runUnderlying98 Try.sizeOf43 (hs.rowsSome 0 rfl hx2) h0x2 (lt_of_get hx2) rfl) (fun a hf => ?_)
    obtain ⟨B2, D2, hrB2⟩ := hs.rowAt 0 rfl hx2
    refine M.val hf hs (v := .slice B2 x2.length D2) (i := 6) rfl rfl rfl rfl (by kernel_rfl) (by kernel_rfl) (by kernel_rfl) (by kernel_rfl) (by kernel_rfl) rfl (V.loadRows (off := 0) 0 rfl hx2 hrB2 rfl rfl rfl Try.isAgg43 Try.sizeOf43 rfl rfl) (fun a hf => ?_)
    refine M.val hf hs (v := .int .i64 (x2.length : Int)) (i := 7) rfl rfl rfl rfl (by kernel_rfl) (by kernel_rfl) (by kernel_rfl) (by kernel_rfl) (by kernel_rfl) rfl (V.len rfl rfl Try.runUnderlying43) (fun a hf => ?_)
    refine M.val hf hs (v := .int .i64 most) (i := 8) rfl rfl rfl rfl (by kernel_rfl) (by kernel_rfl) (by kernel_rfl) (by kernel_rfl) (by kernel_rfl) rfl (V.pure rfl) (fun a hf => ?_)
    refine M.val hf hs (v := .slice lA l.length lC) (i := 9) rfl rfl rfl rfl (by kernel_rfl) (by kernel_rfl) (by kernel_rfl) (by kernel_rfl) (by kernel_rfl) rfl (V.pure rfl) (fun a hf => ?_)
    refine M.val hf hs (v := .int .i64 n2) (i := 10) rfl rfl rfl rfl (by kernel_rfl) (by kernel_rfl) (by kernel_rfl) (by kernel_rfl) (by kernel_rfl) rfl (V.pure rfl) (fun a hf => ?_)
    obtain ⟨h0x3, x3, hx3, h⟩ := h
    refine M.val hf hs (v := elemPtr lA (n2.toNat * 1)) (i := 11) rfl rfl rfl rfl (by kernel_rfl) (by kernel_rfl) (by kernel_rfl) (by kernel_rfl) (by kernel_rfl) rfl (V.index rfl rfl rfl Try.runUnderlying43 Try.sizeOf3 (hv_l.some_ (lt_of_get hx3)) h0x3 (lt_of_get hx3) rfl) (fun a hf => ?_)
    refine M.val hf hs (v := .int .i64 x3) (i := 12) rfl rfl rfl rfl (by kernel_rfl) (by kernel_rfl) (by kernel_rfl) (by kernel_rfl) (by kernel_rfl) rfl (V.loadEl (off := 0) (Ag.args _ _ _) (hv_l.flat hx3) rfl rfl rfl Try.isAgg3 Try.sizeOf3 rfl rfl) (fun a hf => ?_)
    refine M.val hf hs (v := .int .i64 (w64 (most * x3))) (i := 13) rfl rfl rfl rfl (by kernel_rfl) (by kernel_rfl) (by kernel_rfl) (by kernel_rfl) (by kernel_rfl) rfl (V.pure rfl) (fun a hf => ?_)
    refine M.val hf hs (v := .int .i64 (w64 ((x2.length : Int) + (w64 (most * x3))))) (i := 14) rfl rfl rfl rfl (by kernel_rfl) (by kernel_rfl) (by kernel_rfl) (by kernel_rfl) (by kernel_rfl) rfl (V.pure rfl) (fun a hf => ?_)
    refine M.one (i := 15) rfl (by kernel_rfl) ?_
    obtain ⟨hmk, h⟩ := h
    refine S.make hf hs rfl rfl rfl (α := Int) (0 : Int) (z := (w64 ((x2.length : Int) + (w64 (most * x3))))) (N := (w64 ((x2.length : Int) + (w64 (most * x3)))).toNat) rfl rfl rfl Try.underlying43 info3 hmk rfl (by have := hmk.2; omega) (fun A3 a w hf hs => ?_)
    refine R.nil ?_
    refine X.then_ ?_
    refine ⟨(hs.mask [false, true]), ?_⟩
    obtain ⟨h0x4, x4, hx4, h⟩ := h
    refine M.val hf (hs.mask [false, true]) (v := elemPtr l2A (n2.toNat * 1)) (i := 16) rfl rfl rfl rfl (by kernel_rfl) (by kernel_rfl) (by kernel_rfl) (by kernel_rfl) (by kernel_rfl) rfl (V.index rfl rfl rfl Try.runUnderlying98 Try.sizeOf43 (hs.rowsSome 1 rfl hx4) h0x4 (lt_of_get hx4) rfl) (fun a hf => ?_)
    refine M.last (i := 17) rfl (by kernel_rfl) (by kernel_rfl) ?_
    obtain ⟨B3, D3, hrB3⟩ := hs.rowAt 1 rfl hx4
    refine S.putRow (off := 0) 0 hf hs rfl rfl (List.replicate ((w64 ((x2.length : Int) + (w64 (most * x3)))).toNat) (0 : Int)) [.slice A3 (List.replicate ((w64 ((x2.length : Int) + (w64 (most * x3)))).toNat) (0 : Int)).length ((w64 ((x2.length : Int) + (w64 (most * x3)))).toNat)] rfl hx4 hrB3 rfl rfl rfl rfl rfl rfl Try.sizeOf43 rfl (by decide) rfl rfl (fun a w hf hs => ?_)
    replace hf := hf.tell 5 (v := .slice l2A (l2.set n2.toNat (List.replicate ((w64 ((x2.length : Int) + (w64 (most * x3)))).toNat) (0 : Int))).length l2C) ((hf.get 5 (.slice l2A l2.length l2C) rfl).trans (congrArg (fun n => Value.slice l2A n l2C) List.length_set.symm))
    replace hf := hf.tell 28 (v := .slice l2A (l2.set n2.toNat (List.replicate ((w64 ((x2.length : Int) + (w64 (most * x3)))).toNat) (0 : Int))).length l2C) ((hf.get 28 (.slice l2A l2.length l2C) rfl).trans (congrArg (fun n => Value.slice l2A n l2C) List.length_set.symm))
    replace hf := hf.tell 30 (v := .slice l2A (l2.set n2.toNat (List.replicate ((w64 ((x2.length : Int) + (w64 (most * x3)))).toNat) (0 : Int))).length l2C) ((hf.get 30 (.slice l2A l2.length l2C) rfl).trans (congrArg (fun n => Value.slice l2A n l2C) List.length_set.symm))
    have hx2 : (l2.set n2.toNat (List.replicate ((w64 ((x2.length : Int) + (w64 (most * x3)))).toNat) (0 : Int)))[n2.toNat]? = some (List.replicate ((w64 ((x2.length : Int) + (w64 (most * x3)))).toNat) (0 : Int)) := List.getElem?_set_self (lt_of_get hx4)
    have hr2 : (l2as.set n2.toNat (A3, (w64 ((x2.length : Int) + (w64 (most * x3)))).toNat))[n2.toNat]? = some (A3, (w64 ((x2.length : Int) + (w64 (most * x3)))).toNat) := List.getElem?_set_self (lt_of_get hrB3)
    refine R.nil ?_
    refine X.then_ ?_
    refine M.done (by kernel_rfl) ?_
    refine X.then_ ?_
    refine wp_seq ?_
    refine wp_seq ?_
    refine R.list ?_
    refine S.val hf hs (v := .slice l2A (l2.set n2.toNat (List.replicate ((w64 ((x2.length : Int) + (w64 (most * x3)))).toNat) (0 : Int))).length l2C) rfl rfl rfl (V.pure rfl) (fun a hf => ?_)
    refine S.val hf hs (v := .int .i64 n2) rfl rfl rfl (V.pure rfl) (fun a hf => ?_)
    refine S.val hf hs (v := elemPtr l2A (n2.toNat * 1)) rfl rfl rfl (V.index rfl rfl rfl Try.runUnderlying98 Try.sizeOf43 (hs.rowsSome 0 rfl hx2) h0x4 (lt_of_get hx2) rfl) (fun a hf => ?_)
    refine S.val hf hs (v := .slice A3 (List.replicate ((w64 ((x2.length : Int) + (w64 (most * x3)))).toNat) (0 : Int)).length ((w64 ((x2.length : Int) + (w64 (most * x3)))).toNat)) rfl rfl rfl (V.loadRows (off := 0) 0 rfl hx2 hr2 rfl rfl rfl Try.isAgg43 Try.sizeOf43 rfl rfl) (fun a hf => ?_)
    refine S.val hf hs (v := .int .i64 ((List.replicate ((w64 ((x2.length : Int) + (w64 (most * x3)))).toNat) (0 : Int)).length : Int)) rfl rfl rfl (V.len rfl rfl Try.runUnderlying43) (fun a hf => ?_)
    refine S.val hf hs (v := .int .i64 0) rfl rfl rfl (V.pure rfl) (fun a hf => ?_)
    refine R.nil ?_
    refine X.then_ ?_
    refine wp_block ?_
    obtain ⟨kk, h⟩ := h
    refine C.loop (fun kk a w => ∃ (l4 : List (List Int)) (l4A : Option Addr) (l4C : Nat) (l4as : List (Option Addr × Nat)) (n4 : Int), iterF (fun again (s : List (List Int) × Int) => M_ref4_fewest_L2 most n2 again1 x2 x3 (fun l4 n4 => again (l4, n4)) s.1 s.2) kk (l4, n4) ∧ FrOk 120 [(0, .slice lA l.length lC), (1, .int .i64 most), (5, .slice l4A l4.length l4C), (6, .int .i64 n2), (49, .int .i64 ((List.replicate ((w64 ((x2.length : Int) + (w64 (most * x3)))).toNat) (0 : Int)).length : Int)), (50, .int .i64 n4)] a ∧ Sat w0 none_ [hrows 43 3 l4A l4C l4as l4] w) kk ⟨(l2.set n2.toNat (List.replicate ((w64 ((x2.length : Int) + (w64 (most * x3)))).toNat) (0 : Int))), l2A, l2C, (l2as.set n2.toNat (A3, (w64 ((x2.length : Int) + (w64 (most * x3)))).toNat)), 0, h, ((((((hf.nil.cons (hf.get 50 _ rfl)).cons (hf.get 49 _ rfl)).cons (hf.get 6 _ rfl)).cons (hf.get 5 _ rfl)).cons (hf.get 1 _ rfl)).cons (hf.get 0 _ rfl)), hs⟩ (fun a w ⟨_, _, _, _, _, h, _, _⟩ => h) ?_
    clear h hf hs
    rintro kk a w ⟨l4, l4A, l4C, l4as, n4, h, hf, hs⟩
    obtain ⟨again2, hagain2⟩ : ∃ X : List (List Int) → Int → Prop, X = (fun l4 n4 => iterF (fun again (s : List (List Int) × Int) => M_ref4_fewest_L2 most n2 again1 x2 x3 (fun l4 n4 => again (l4, n4)) s.1 s.2) kk (l4, n4)) := ⟨_, rfl⟩
    replace h : M_ref4_fewest_L2 most n2 again1 x2 x3 again2 l4 n4 := by rw [hagain2]; exact h
    unfold M_ref4_fewest_L2 at h
    refine wp_seq ?_
    refine R.list ?_
    refine S.val hf hs (v := .bool (decide (n4 < ((List.replicate ((w64 ((x2.length : Int) + (w64 (most * x3)))).toNat) (0 : Int)).length : Int)))) rfl rfl rfl (V.pure rfl) (fun a hf => ?_)
    refine R.nil ?_
    refine X.then_ ?_
    refine wp_seq ?_
    refine C.cond hf (b := decide (n4 < ((List.replicate ((w64 ((x2.length : Int) + (w64 (most * x3)))).toNat) (0 : Int)).length : Int))) rfl (fun hc => ?_) (fun hc => ?_)
    · replace h := h.1 hc
      refine wp_skip ?_
      refine X.then_ ?_
      refine wp_seq ?_
      refine wp_block ?_
      refine wp_seq ?_
      refine R.list ?_
      refine S.val hf hs (v := .int .i64 n4) rfl rfl rfl (V.pure rfl) (fun a hf => ?_)
      refine S.val hf hs (v := .int .i64 n4) rfl rfl rfl (V.pure rfl) (fun a hf => ?_)
      refine R.nil ?_
      refine X.then_ ?_
      refine R.list ?_
      refine S.val hf hs (v := .slice l4A l4.length l4C) rfl rfl rfl (V.pure rfl) (fun a hf => ?_)
      refine S.val hf hs (v := .int .i64 n2) rfl rfl rfl (V.pure rfl) (fun a hf => ?_)
      obtain ⟨h0x5, x5, hx5, h⟩ := h
      refine S.val hf hs (v := elemPtr l4A (n2.toNat * 1)) rfl rfl rfl (V.index rfl rfl rfl Try.runUnderlying98 Try.sizeOf43 (hs.rowsSome 0 rfl hx5) h0x5 (lt_of_get hx5) rfl) (fun a hf => ?_)
      obtain ⟨B4, D4, hrB4⟩ := hs.rowAt 0 rfl hx5
      refine S.val hf hs (v := .slice B4 x5.length D4) rfl rfl rfl (V.loadRows (off := 0) 0 rfl hx5 hrB4 rfl rfl rfl Try.isAgg43 Try.sizeOf43 rfl rfl) (fun a hf => ?_)
      refine S.val hf hs (v := .int .i64 n4) rfl rfl rfl (V.pure rfl) (fun a hf => ?_)
      obtain ⟨h0x6, x6, hx6, h⟩ := h
      refine S.val hf hs (v := elemPtr B4 (n4.toNat * 1)) rfl rfl rfl (V.index rfl rfl rfl Try.runUnderlying43 Try.sizeOf3 ((hs.rowView 0 rfl hx5 hrB4).some_ (lt_of_get hx6)) h0x6 (lt_of_get hx6) rfl) (fun a hf => ?_)
      refine S.storeRowEl (off := 0) 0 hf hs rfl rfl (x5.set n4.toNat (-1)) (-1) [.int .i64 (-1)] rfl hx5 hrB4 hx6 rfl (row_same _ _ List.length_set _ _) rfl rfl rfl rfl rfl Try.sizeOf3 rfl (by decide) rfl rfl (fun a w hf hs => ?_)
      replace hf := hf.tell 5 (v := .slice l4A (l4.set n2.toNat (x5.set n4.toNat (-1))).length l4C) ((hf.get 5 (.slice l4A l4.length l4C) rfl).trans (congrArg (fun n => Value.slice l4A n l4C) List.length_set.symm))
      replace hf := hf.tell 53 (v := .slice l4A (l4.set n2.toNat (x5.set n4.toNat (-1))).length l4C) ((hf.get 53 (.slice l4A l4.length l4C) rfl).trans (congrArg (fun n => Value.slice l4A n l4C) List.length_set.symm))
      have hx3 : (l4.set n2.toNat (x5.set n4.toNat (-1)))[n2.toNat]? = some (x5.set n4.toNat (-1)) := List.getElem?_set_self (lt_of_get hx5)
      replace hf := hf.tell 56 (v := .slice B4 (x5.set n4.toNat (-1)).length D4) ((hf.get 56 (.slice B4 x5.length D4) rfl).trans (congrArg (fun n => Value.slice B4 n D4) List.length_set.symm))
      refine R.nil ?_
      refine X.blk ?_
      refine X.then_ ?_
      refine R.list ?_
      refine S.val hf hs (v := .int .i64 (w64 (n4 + 1))) rfl rfl rfl (V.pure rfl) (fun a hf => ?_)
      refine S.val hf hs (v := .int .i64 (w64 (n4 + 1))) rfl rfl rfl (V.pure rfl) (fun a hf => ?_)
      refine R.nil ?_
      refine X.then_ ?_
      exact ⟨(l4.set n2.toNat (x5.set n4.toNat (-1))), l4A, l4C, l4as, (w64 (n4 + 1)), (by rw [hagain2] at h; exact h), ((((((hf.nil.cons (hf.get 50 _ rfl)).cons (hf.get 49 _ rfl)).cons (hf.get 6 _ rfl)).cons (hf.get 5 _ rfl)).cons (hf.get 1 _ rfl)).cons (hf.get 0 _ rfl)), hs⟩
    · replace h := h.2 hc
      refine wp_exit ?_
      refine X.then_exit ?_
      refine X.then_exit ?_
      refine X.blk_exit ?_
      refine X.then_ ?_
      refine wp_seq ?_
      refine R.list ?_
      refine S.val hf hs (v := .slice l4A l4.length l4C) rfl rfl rfl (V.pure rfl) (fun a hf => ?_)
      refine S.val hf hs (v := .int .i64 n2) rfl rfl rfl (V.pure rfl) (fun a hf => ?_)
      refine S.val hf hs (v := .int .i64 (w64 (n2 + 1))) rfl rfl rfl (V.pure rfl) (fun a hf => ?_)
      obtain ⟨h0x7, x7, hx7, h⟩ := h
      refine S.val hf hs (v := elemPtr l4A ((w64 (n2 + 1)).toNat * 1)) rfl rfl rfl (V.index rfl rfl rfl Try.runUnderlying98 Try.sizeOf43 (hs.rowsSome 0 rfl hx7) h0x7 (lt_of_get hx7) rfl) (fun a hf => ?_)
      obtain ⟨B5, D5, hrB5⟩ := hs.rowAt 0 rfl hx7
      refine S.val hf hs (v := .slice B5 x7.length D5) rfl rfl rfl (V.loadRows (off := 0) 0 rfl hx7 hrB5 rfl rfl rfl Try.isAgg43 Try.sizeOf43 rfl rfl) (fun a hf => ?_)
      refine S.val hf hs (v := .int .i64 (x7.length : Int)) rfl rfl rfl (V.len rfl rfl Try.runUnderlying43) (fun a hf => ?_)
      refine S.val hf hs (v := .int .i64 0) rfl rfl rfl (V.pure rfl) (fun a hf => ?_)
      refine R.nil ?_
      refine X.then_ ?_
      refine wp_block ?_
      have hlenk3 := (hs.rowView 0 rfl hx7 hrB5).len64
      refine C.range (fun (ll : List Int) a w => ∃ (k3 : Nat) (l6 : List (List Int)) (l6A : Option Addr) (l6C : Nat) (l6as : List (Option Addr × Nat)) (hxj2 : l6[(w64 (n2 + 1)).toNat]? = some x7) (hrj2 : l6as[(w64 (n2 + 1)).toNat]? = some (B5, D5)), x7.drop k3 = ll ∧ k3 + ll.length = x7.length ∧ forIn' (fun k x (s : List (List Int)) next => M_ref4_fewest_L3 most n2 x3 k x s (fun l6 => next l6)) (fun (s : List (List Int)) => (fun (l6 : List (List Int)) => again1 l6 (w64 (n2 - 1))) s) ll k3 l6 ∧ FrOk 120 [(66, .int .i64 (k3 : Int)), (0, .slice lA l.length lC), (1, .int .i64 most), (5, .slice l6A l6.length l6C), (6, .int .i64 n2), (64, .slice B5 x7.length D5), (65, .int .i64 (x7.length : Int))] a ∧ Sat w0 none_ [hrows 43 3 l6A l6C l6as l6] w) x7 ⟨0, l4, l4A, l4C, l4as, hx7, hrB5, rfl, Nat.zero_add _, h, (((((((hf.nil.cons (hf.get 65 _ rfl)).cons (hf.get 64 _ rfl)).cons (hf.get 6 _ rfl)).cons (hf.get 5 _ rfl)).cons (hf.get 1 _ rfl)).cons (hf.get 0 _ rfl)).cons (hf.get 66 _ rfl)), hs⟩ ?_
      clear h hf hs
      rintro llk3 a w ⟨k3, l6, l6A, l6C, l6as, hxj2, hrj2, hlk3, hkk3, h, hf, hs⟩
      cases llk3 with
      | nil =>
        have hc := range_done hkk3
        replace h : (fun (l6 : List (List Int)) => again1 l6 (w64 (n2 - 1))) l6 := h
        refine wp_seq ?_
        refine R.list ?_
        refine S.val hf hs (v := .bool false) rfl rfl rfl (V.cmp false rfl rfl rfl rfl hc) (fun a hf => ?_)
        refine R.nil ?_
        refine X.then_ ?_
        refine wp_seq ?_
        refine C.no hf rfl ?_
        refine wp_exit ?_
        refine X.then_exit ?_
        refine X.then_exit ?_
        refine X.blk_exit ?_
        refine X.blk ?_
        refine X.then_ ?_
        refine R.list ?_
        refine S.val hf hs (v := .int .i64 n2) rfl rfl rfl (V.pure rfl) (fun a hf => ?_)
        refine S.val hf hs (v := .int .i64 (w64 (n2 - 1))) rfl rfl rfl (V.pure rfl) (fun a hf => ?_)
        refine S.val hf hs (v := .int .i64 (w64 (n2 - 1))) rfl rfl rfl (V.pure rfl) (fun a hf => ?_)
        refine R.nil ?_
        refine X.then_ ?_
        exact ⟨l6, l6A, l6C, l6as, (w64 (n2 - 1)), (by rw [hagain1] at h; exact h), ((((hf.nil.cons (hf.get 6 _ rfl)).cons (hf.get 5 _ rfl)).cons (hf.get 1 _ rfl)).cons (hf.get 0 _ rfl)), hs⟩
      | cons xk3 llk3 =>
        have hltk3 := range_lt hkk3; have hc := range_go hkk3; have hxk3 := range_get hlk3
        obtain ⟨next3, hnext3⟩ : ∃ X : List (List Int) → Prop, X = (fun l6 => forIn' (fun k x (s : List (List Int)) next => M_ref4_fewest_L3 most n2 x3 k x s (fun l6 => next l6)) (fun (s : List (List Int)) => (fun (l6 : List (List Int)) => again1 l6 (w64 (n2 - 1))) s) llk3 (k3 + 1) l6) := ⟨_, rfl⟩
        replace h : M_ref4_fewest_L3 most n2 x3 k3 xk3 l6 next3 := by rw [hnext3]; exact h
        unfold M_ref4_fewest_L3 at h
        refine wp_seq ?_
        refine R.list ?_
        refine S.val hf hs (v := .bool true) rfl rfl rfl (V.cmp true rfl rfl rfl rfl hc) (fun a hf => ?_)
        refine R.nil ?_
        refine X.then_ ?_
        refine wp_seq ?_
        refine C.yes hf rfl ?_
        refine wp_skip ?_
        refine X.then_ ?_
        refine wp_seq ?_
        refine wp_block ?_
        refine wp_seq ?_
        refine R.list ?_
        refine S.val hf hs (v := .int .i64 (k3 : Int)) rfl rfl rfl (V.pure rfl) (fun a hf => ?_)
        refine S.val hf hs (v := elemPtr B5 (k3 * 1)) rfl rfl rfl (V.index rfl rfl rfl Try.runUnderlying43 Try.sizeOf3 ((hs.rowView 0 rfl hxj2 hrj2).some_ (lt_of_get hxk3)) (Int.natCast_nonneg _) (lt_of_get hxk3) rfl) (fun a hf => ?_)
        refine S.val hf hs (v := .int .i64 xk3) rfl rfl rfl (V.loadRowEl (off := 0) 0 rfl hxj2 hrj2 hxk3 rfl rfl rfl Try.isAgg3 Try.sizeOf3 rfl rfl) (fun a hf => ?_)
        refine S.val hf hs (v := .int .i64 (k3 : Int)) rfl rfl rfl (V.pure rfl) (fun a hf => ?_)
        refine S.val hf hs (v := .int .i64 xk3) rfl rfl rfl (V.pure rfl) (fun a hf => ?_)
        refine R.nil ?_
        refine X.then_ ?_
        refine wp_seq ?_
        refine R.list ?_
        refine S.val hf hs (v := .int .i64 1) rfl rfl rfl (V.pure rfl) (fun a hf => ?_)
        refine R.nil ?_
        refine X.then_ ?_
        refine wp_block ?_
        obtain ⟨kk, h⟩ := h
        refine C.loop (fun kk a w => ∃ (l8 : List (List Int)) (l8A : Option Addr) (l8C : Nat) (l8as : List (Option Addr × Nat)) (n6 : Int) (hxj4 : l8[(w64 (n2 + 1)).toNat]? = some x7) (hrj4 : l8as[(w64 (n2 + 1)).toNat]? = some (B5, D5)), iterF (fun again (s : List (List Int) × Int) => M_ref4_fewest_L4 most n2 x3 k3 xk3 next3 (fun l8 n6 => again (l8, n6)) s.1 s.2) kk (l8, n6) ∧ FrOk 120 [(0, .slice lA l.length lC), (1, .int .i64 most), (5, .slice l8A l8.length l8C), (6, .int .i64 n2), (8, .int .i64 (k3 : Int)), (9, .int .i64 xk3), (10, .int .i64 n6), (64, .slice B5 x7.length D5), (65, .int .i64 (x7.length : Int)), (66, .int .i64 (k3 : Int))] a ∧ Sat w0 none_ [hrows 43 3 l8A l8C l8as l8] w) kk ⟨l6, l6A, l6C, l6as, 1, hxj2, hrj2, h, ((((((((((hf.nil.cons (hf.get 66 _ rfl)).cons (hf.get 65 _ rfl)).cons (hf.get 64 _ rfl)).cons (hf.get 10 _ rfl)).cons (hf.get 9 _ rfl)).cons (hf.get 8 _ rfl)).cons (hf.get 6 _ rfl)).cons (hf.get 5 _ rfl)).cons (hf.get 1 _ rfl)).cons (hf.get 0 _ rfl)), hs⟩ (fun a w ⟨_, _, _, _, _, _, _, h, _, _⟩ => h) ?_
        clear h hf hs
        rintro kk a w ⟨l8, l8A, l8C, l8as, n6, hxj4, hrj4, h, hf, hs⟩
        obtain ⟨again4, hagain4⟩ : ∃ X : List (List Int) → Int → Prop, X = (fun l8 n6 => iterF (fun again (s : List (List Int) × Int) => M_ref4_fewest_L4 most n2 x3 k3 xk3 next3 (fun l8 n6 => again (l8, n6)) s.1 s.2) kk (l8, n6)) := ⟨_, rfl⟩
        replace h : M_ref4_fewest_L4 most n2 x3 k3 xk3 next3 again4 l8 n6 := by rw [hagain4]; exact h
        unfold M_ref4_fewest_L4 at h
        refine wp_seq ?_
        refine wp_seq ?_
        refine C.cut (J := fun a w => ∃ (c1 : Bool), M_ref4_fewest_k5 n2 x3 k3 xk3 next3 l8 n6 again4 c1 ∧ FrOk 120 [(0, .slice lA l.length lC), (1, .int .i64 most), (5, .slice l8A l8.length l8C), (6, .int .i64 n2), (8, .int .i64 (k3 : Int)), (9, .int .i64 xk3), (10, .int .i64 n6), (64, .slice B5 x7.length D5), (65, .int .i64 (x7.length : Int)), (66, .int .i64 (k3 : Int)), (77, .bool c1)] a ∧ Sat w0 none_ [hrows 43 3 l8A l8C l8as l8] w) ?_ ?_
        · rintro a w ⟨c1, h, hf, hs⟩
          unfold M_ref4_fewest_k5 at h
          refine C.cond hf (b := c1) rfl (fun hc => ?_) (fun hc => ?_)
          · replace h := h.1 hc
            refine wp_skip ?_
            refine X.then_ ?_
            refine wp_seq ?_
            refine wp_block ?_
            refine wp_seq ?_
            refine R.list ?_
            refine S.val hf hs (v := .int .i64 (k3 : Int)) rfl rfl rfl (V.pure rfl) (fun a hf => ?_)
            refine S.val hf hs (v := .int .i64 n6) rfl rfl rfl (V.pure rfl) (fun a hf => ?_)
            refine S.val hf hs (v := .slice lA l.length lC) rfl rfl rfl (V.pure rfl) (fun a hf => ?_)
            refine S.val hf hs (v := .int .i64 n2) rfl rfl rfl (V.pure rfl) (fun a hf => ?_)
            refine S.val hf hs (v := elemPtr lA (n2.toNat * 1)) rfl rfl rfl (V.index rfl rfl rfl Try.runUnderlying43 Try.sizeOf3 (hv_l.some_ (lt_of_get hx3)) h0x3 (lt_of_get hx3) rfl) (fun a hf => ?_)
            refine S.val hf hs (v := .int .i64 x3) rfl rfl rfl (V.loadEl (off := 0) (Ag.args _ _ _) (hv_l.flat hx3) rfl rfl rfl Try.isAgg3 Try.sizeOf3 rfl rfl) (fun a hf => ?_)
            refine S.val hf hs (v := .int .i64 (w64 (n6 * x3))) rfl rfl rfl (V.pure rfl) (fun a hf => ?_)
            refine S.val hf hs (v := .int .i64 (w64 ((k3 : Int) + (w64 (n6 * x3))))) rfl rfl rfl (V.pure rfl) (fun a hf => ?_)
            refine S.val hf hs (v := .int .i64 (w64 ((k3 : Int) + (w64 (n6 * x3))))) rfl rfl rfl (V.pure rfl) (fun a hf => ?_)
            refine R.nil ?_
            refine X.then_ ?_
            refine wp_seq ?_
            refine C.cut (J := fun a w => ∃ (c2 : Bool), M_ref4_fewest_k6 n2 x3 k3 xk3 l8 n6 again4 c2 ∧ FrOk 120 [(0, .slice lA l.length lC), (1, .int .i64 most), (5, .slice l8A l8.length l8C), (6, .int .i64 n2), (8, .int .i64 (k3 : Int)), (9, .int .i64 xk3), (10, .int .i64 n6), (11, .int .i64 (w64 ((k3 : Int) + (w64 (n6 * x3))))), (64, .slice B5 x7.length D5), (65, .int .i64 (x7.length : Int)), (66, .int .i64 (k3 : Int)), (108, .bool c2)] a ∧ Sat w0 none_ [hrows 43 3 l8A l8C l8as l8] w) ?_ ?_
            · rintro a w ⟨c2, h, hf, hs⟩
              unfold M_ref4_fewest_k6 at h
              refine C.cond hf (b := c2) rfl (fun hc => ?_) (fun hc => ?_)
              · replace h := h.1 hc
                refine R.list ?_
                refine S.val hf hs (v := .slice l8A l8.length l8C) rfl rfl rfl (V.pure rfl) (fun a hf => ?_)
                refine S.val hf hs (v := .int .i64 n2) rfl rfl rfl (V.pure rfl) (fun a hf => ?_)
                obtain ⟨h0x8, x8, hx8, h⟩ := h
                refine S.val hf hs (v := elemPtr l8A (n2.toNat * 1)) rfl rfl rfl (V.index rfl rfl rfl Try.runUnderlying98 Try.sizeOf43 (hs.rowsSome 0 rfl hx8) h0x8 (lt_of_get hx8) rfl) (fun a hf => ?_)
                obtain ⟨B6, D6, hrB6⟩ := hs.rowAt 0 rfl hx8
                refine S.val hf hs (v := .slice B6 x8.length D6) rfl rfl rfl (V.loadRows (off := 0) 0 rfl hx8 hrB6 rfl rfl rfl Try.isAgg43 Try.sizeOf43 rfl rfl) (fun a hf => ?_)
                refine S.val hf hs (v := .int .i64 (w64 ((k3 : Int) + (w64 (n6 * x3))))) rfl rfl rfl (V.pure rfl) (fun a hf => ?_)
                refine S.val hf hs (v := .int .i64 xk3) rfl rfl rfl (V.pure rfl) (fun a hf => ?_)
                refine S.val hf hs (v := .int .i64 n6) rfl rfl rfl (V.pure rfl) (fun a hf => ?_)
                refine S.val hf hs (v := .int .i64 (w64 (xk3 + n6))) rfl rfl rfl (V.pure rfl) (fun a hf => ?_)
                obtain ⟨h0x9, x9, hx9, h⟩ := h
                refine S.val hf hs (v := elemPtr B6 ((w64 ((k3 : Int) + (w64 (n6 * x3)))).toNat * 1)) rfl rfl rfl (V.index rfl rfl rfl Try.runUnderlying43 Try.sizeOf3 ((hs.rowView 0 rfl hx8 hrB6).some_ (lt_of_get hx9)) h0x9 (lt_of_get hx9) rfl) (fun a hf => ?_)
                refine S.storeRowEl (off := 0) 0 hf hs rfl rfl (x8.set ((w64 ((k3 : Int) + (w64 (n6 * x3)))).toNat) (w64 (xk3 + n6))) (w64 (xk3 + n6)) [.int .i64 (w64 (xk3 + n6))] rfl hx8 hrB6 hx9 rfl (row_same _ _ List.length_set _ _) rfl rfl rfl rfl rfl Try.sizeOf3 rfl (by decide) rfl rfl (fun a w hf hs => ?_)
                replace hf := hf.tell 5 (v := .slice l8A (l8.set n2.toNat (x8.set ((w64 ((k3 : Int) + (w64 (n6 * x3)))).toNat) (w64 (xk3 + n6)))).length l8C) ((hf.get 5 (.slice l8A l8.length l8C) rfl).trans (congrArg (fun n => Value.slice l8A n l8C) List.length_set.symm))
                replace hf := hf.tell 109 (v := .slice l8A (l8.set n2.toNat (x8.set ((w64 ((k3 : Int) + (w64 (n6 * x3)))).toNat) (w64 (xk3 + n6)))).length l8C) ((hf.get 109 (.slice l8A l8.length l8C) rfl).trans (congrArg (fun n => Value.slice l8A n l8C) List.length_set.symm))
                have hx4 : (l8.set n2.toNat (x8.set ((w64 ((k3 : Int) + (w64 (n6 * x3)))).toNat) (w64 (xk3 + n6))))[n2.toNat]? = some (x8.set ((w64 ((k3 : Int) + (w64 (n6 * x3)))).toNat) (w64 (xk3 + n6))) := List.getElem?_set_self (lt_of_get hx8)
                obtain ⟨hne1, h⟩ := h
                have hx5 : (l8.set n2.toNat (x8.set ((w64 ((k3 : Int) + (w64 (n6 * x3)))).toNat) (w64 (xk3 + n6))))[(w64 (n2 + 1)).toNat]? = some x7 := (List.getElem?_set_ne hne1).trans hxj4
                replace hf := hf.tell 112 (v := .slice B6 (x8.set ((w64 ((k3 : Int) + (w64 (n6 * x3)))).toNat) (w64 (xk3 + n6))).length D6) ((hf.get 112 (.slice B6 x8.length D6) rfl).trans (congrArg (fun n => Value.slice B6 n D6) List.length_set.symm))
                refine R.nil ?_
                refine X.blk ?_
                refine X.then_ ?_
                refine R.list ?_
                refine S.val hf hs (v := .int .i64 n6) rfl rfl rfl (V.pure rfl) (fun a hf => ?_)
                refine S.val hf hs (v := .int .i64 (w64 (n6 + 1))) rfl rfl rfl (V.pure rfl) (fun a hf => ?_)
                refine S.val hf hs (v := .int .i64 (w64 (n6 + 1))) rfl rfl rfl (V.pure rfl) (fun a hf => ?_)
                refine R.nil ?_
                refine X.then_ ?_
                exact ⟨(l8.set n2.toNat (x8.set ((w64 ((k3 : Int) + (w64 (n6 * x3)))).toNat) (w64 (xk3 + n6)))), l8A, l8C, l8as, (w64 (n6 + 1)), hx5, hrj4, (by rw [hagain4] at h; exact h), ((((((((((hf.nil.cons (hf.get 66 _ rfl)).cons (hf.get 65 _ rfl)).cons (hf.get 64 _ rfl)).cons (hf.get 10 _ rfl)).cons (hf.get 9 _ rfl)).cons (hf.get 8 _ rfl)).cons (hf.get 6 _ rfl)).cons (hf.get 5 _ rfl)).cons (hf.get 1 _ rfl)).cons (hf.get 0 _ rfl)), hs⟩
              · replace h := h.2 hc
                refine wp_skip ?_
                refine X.blk ?_
                refine X.then_ ?_
                refine R.list ?_
                refine S.val hf hs (v := .int .i64 n6) rfl rfl rfl (V.pure rfl) (fun a hf => ?_)
                refine S.val hf hs (v := .int .i64 (w64 (n6 + 1))) rfl rfl rfl (V.pure rfl) (fun a hf => ?_)
                refine S.val hf hs (v := .int .i64 (w64 (n6 + 1))) rfl rfl rfl (V.pure rfl) (fun a hf => ?_)
                refine R.nil ?_
                refine X.then_ ?_
                exact ⟨l8, l8A, l8C, l8as, (w64 (n6 + 1)), hxj4, hrj4, (by rw [hagain4] at h; exact h), ((((((((((hf.nil.cons (hf.get 66 _ rfl)).cons (hf.get 65 _ rfl)).cons (hf.get 64 _ rfl)).cons (hf.get 10 _ rfl)).cons (hf.get 9 _ rfl)).cons (hf.get 8 _ rfl)).cons (hf.get 6 _ rfl)).cons (hf.get 5 _ rfl)).cons (hf.get 1 _ rfl)).cons (hf.get 0 _ rfl)), hs⟩
            · skip
              refine R.list ?_
              refine S.val hf hs (v := .slice l8A l8.length l8C) rfl rfl rfl (V.pure rfl) (fun a hf => ?_)
              refine S.val hf hs (v := .int .i64 n2) rfl rfl rfl (V.pure rfl) (fun a hf => ?_)
              obtain ⟨h0x10, x10, hx10, h⟩ := h
              refine S.val hf hs (v := elemPtr l8A (n2.toNat * 1)) rfl rfl rfl (V.index rfl rfl rfl Try.runUnderlying98 Try.sizeOf43 (hs.rowsSome 0 rfl hx10) h0x10 (lt_of_get hx10) rfl) (fun a hf => ?_)
              obtain ⟨B7, D7, hrB7⟩ := hs.rowAt 0 rfl hx10
              refine S.val hf hs (v := .slice B7 x10.length D7) rfl rfl rfl (V.loadRows (off := 0) 0 rfl hx10 hrB7 rfl rfl rfl Try.isAgg43 Try.sizeOf43 rfl rfl) (fun a hf => ?_)
              refine S.val hf hs (v := .int .i64 (w64 ((k3 : Int) + (w64 (n6 * x3))))) rfl rfl rfl (V.pure rfl) (fun a hf => ?_)
              obtain ⟨h0x11, x11, hx11, h⟩ := h
              refine S.val hf hs (v := elemPtr B7 ((w64 ((k3 : Int) + (w64 (n6 * x3)))).toNat * 1)) rfl rfl rfl (V.index rfl rfl rfl Try.runUnderlying43 Try.sizeOf3 ((hs.rowView 0 rfl hx10 hrB7).some_ (lt_of_get hx11)) h0x11 (lt_of_get hx11) rfl) (fun a hf => ?_)
              refine S.val hf hs (v := .int .i64 x11) rfl rfl rfl (V.loadRowEl (off := 0) 0 rfl hx10 hrB7 hx11 rfl rfl rfl Try.isAgg3 Try.sizeOf3 rfl rfl) (fun a hf => ?_)
              refine S.val hf hs (v := .bool (decide (x11 < 0))) rfl rfl rfl (V.pure rfl) (fun a hf => ?_)
              refine S.split hf hs (b := decide (x11 < 0)) rfl rfl rfl (V.pure rfl) (fun hc a hf => ?_) (fun hc a hf => ?_)
              · replace h := h.1 hc
                refine S.skip hf rfl rfl rfl (fun a hf => ?_)
                refine S.skip hf rfl rfl rfl (fun a hf => ?_)
                refine S.skip hf rfl rfl rfl (fun a hf => ?_)
                refine S.skip hf rfl rfl rfl (fun a hf => ?_)
                refine S.skip hf rfl rfl rfl (fun a hf => ?_)
                refine S.skip hf rfl rfl rfl (fun a hf => ?_)
                refine S.skip hf rfl rfl rfl (fun a hf => ?_)
                refine S.skip hf rfl rfl rfl (fun a hf => ?_)
                refine S.skip hf rfl rfl rfl (fun a hf => ?_)
                refine S.skip hf rfl rfl rfl (fun a hf => ?_)
                refine S.skip hf rfl rfl rfl (fun a hf => ?_)
                refine S.val hf hs (v := .bool true) rfl rfl rfl (V.pure rfl) (fun a hf => ?_)
                refine R.nil ?_
                refine X.then_ ?_
                exact ⟨true, h, ((((((((((((hf.nil.cons (hf.get 108 _ rfl)).cons (hf.get 66 _ rfl)).cons (hf.get 65 _ rfl)).cons (hf.get 64 _ rfl)).cons (hf.get 11 _ rfl)).cons (hf.get 10 _ rfl)).cons (hf.get 9 _ rfl)).cons (hf.get 8 _ rfl)).cons (hf.get 6 _ rfl)).cons (hf.get 5 _ rfl)).cons (hf.get 1 _ rfl)).cons (hf.get 0 _ rfl)), hs⟩
              · replace h := h.2 hc
                refine S.val hf hs (v := .int .i64 xk3) rfl rfl rfl (V.pure rfl) (fun a hf => ?_)
                refine S.val hf hs (v := .int .i64 n6) rfl rfl rfl (V.pure rfl) (fun a hf => ?_)
                refine S.val hf hs (v := .int .i64 (w64 (xk3 + n6))) rfl rfl rfl (V.pure rfl) (fun a hf => ?_)
                refine S.val hf hs (v := .slice l8A l8.length l8C) rfl rfl rfl (V.pure rfl) (fun a hf => ?_)
                refine S.val hf hs (v := .int .i64 n2) rfl rfl rfl (V.pure rfl) (fun a hf => ?_)
                refine S.val hf hs (v := elemPtr l8A (n2.toNat * 1)) rfl rfl rfl (V.index rfl rfl rfl Try.runUnderlying98 Try.sizeOf43 (hs.rowsSome 0 rfl hx10) h0x10 (lt_of_get hx10) rfl) (fun a hf => ?_)
                refine S.val hf hs (v := .slice B7 x10.length D7) rfl rfl rfl (V.loadRows (off := 0) 0 rfl hx10 hrB7 rfl rfl rfl Try.isAgg43 Try.sizeOf43 rfl rfl) (fun a hf => ?_)
                refine S.val hf hs (v := .int .i64 (w64 ((k3 : Int) + (w64 (n6 * x3))))) rfl rfl rfl (V.pure rfl) (fun a hf => ?_)
                refine S.val hf hs (v := elemPtr B7 ((w64 ((k3 : Int) + (w64 (n6 * x3)))).toNat * 1)) rfl rfl rfl (V.index rfl rfl rfl Try.runUnderlying43 Try.sizeOf3 ((hs.rowView 0 rfl hx10 hrB7).some_ (lt_of_get hx11)) h0x11 (lt_of_get hx11) rfl) (fun a hf => ?_)
                refine S.val hf hs (v := .int .i64 x11) rfl rfl rfl (V.loadRowEl (off := 0) 0 rfl hx10 hrB7 hx11 rfl rfl rfl Try.isAgg3 Try.sizeOf3 rfl rfl) (fun a hf => ?_)
                refine S.val hf hs (v := .bool (decide (w64 (xk3 + n6) < x11))) rfl rfl rfl (V.pure rfl) (fun a hf => ?_)
                refine S.val hf hs (v := .bool (decide (w64 (xk3 + n6) < x11))) rfl rfl rfl (V.pure rfl) (fun a hf => ?_)
                refine R.nil ?_
                refine X.then_ ?_
                exact ⟨(decide (w64 (xk3 + n6) < x11)), h, ((((((((((((hf.nil.cons (hf.get 108 _ rfl)).cons (hf.get 66 _ rfl)).cons (hf.get 65 _ rfl)).cons (hf.get 64 _ rfl)).cons (hf.get 11 _ rfl)).cons (hf.get 10 _ rfl)).cons (hf.get 9 _ rfl)).cons (hf.get 8 _ rfl)).cons (hf.get 6 _ rfl)).cons (hf.get 5 _ rfl)).cons (hf.get 1 _ rfl)).cons (hf.get 0 _ rfl)), hs⟩
          · replace h := h.2 hc
            refine wp_exit ?_
            refine X.then_exit ?_
            refine X.then_exit ?_
            refine X.blk_exit ?_
            refine X.blk ?_
            refine X.then_ ?_
            refine R.list ?_
            refine S.val hf hs (v := .int .i64 ((k3 + 1 : Nat) : Int)) rfl rfl rfl (V.incr rfl rfl rfl hltk3 hlenk3) (fun a hf => ?_)
            refine S.val hf hs (v := .int .i64 ((k3 + 1 : Nat) : Int)) rfl rfl rfl (V.pure rfl) (fun a hf => ?_)
            refine R.nil ?_
            refine X.then_ ?_
            exact ⟨xk3, llk3, rfl, k3 + 1, l8, l8A, l8C, l8as, hxj4, hrj4, range_drop hlk3, range_len hkk3, (by rw [hnext3] at h; exact h), (((((((hf.nil.cons (hf.get 65 _ rfl)).cons (hf.get 64 _ rfl)).cons (hf.get 6 _ rfl)).cons (hf.get 5 _ rfl)).cons (hf.get 1 _ rfl)).cons (hf.get 0 _ rfl)).cons (hf.get 66 _ rfl)), hs⟩
        · skip
          refine R.list ?_
          refine S.val hf hs (v := .int .i64 xk3) rfl rfl rfl (V.pure rfl) (fun a hf => ?_)
          refine S.val hf hs (v := .bool (decide (xk3 ≥ 0))) rfl rfl rfl (V.pure rfl) (fun a hf => ?_)
          refine S.split hf hs (b := decide (xk3 ≥ 0)) rfl rfl rfl (V.pure rfl) (fun hc a hf => ?_) (fun hc a hf => ?_)
          · replace h := h.1 hc
            refine S.val hf hs (v := .int .i64 n6) rfl rfl rfl (V.pure rfl) (fun a hf => ?_)
            refine S.val hf hs (v := .int .i64 most) rfl rfl rfl (V.pure rfl) (fun a hf => ?_)
            refine S.val hf hs (v := .bool (decide (n6 ≤ most))) rfl rfl rfl (V.pure rfl) (fun a hf => ?_)
            refine S.val hf hs (v := .bool (decide (n6 ≤ most))) rfl rfl rfl (V.pure rfl) (fun a hf => ?_)
            refine R.nil ?_
            refine X.then_ ?_
            exact ⟨(decide (n6 ≤ most)), h, (((((((((((hf.nil.cons (hf.get 77 _ rfl)).cons (hf.get 66 _ rfl)).cons (hf.get 65 _ rfl)).cons (hf.get 64 _ rfl)).cons (hf.get 10 _ rfl)).cons (hf.get 9 _ rfl)).cons (hf.get 8 _ rfl)).cons (hf.get 6 _ rfl)).cons (hf.get 5 _ rfl)).cons (hf.get 1 _ rfl)).cons (hf.get 0 _ rfl)), hs⟩
          · replace h := h.2 hc
            refine S.skip hf rfl rfl rfl (fun a hf => ?_)
            refine S.skip hf rfl rfl rfl (fun a hf => ?_)
            refine S.skip hf rfl rfl rfl (fun a hf => ?_)
            refine S.val hf hs (v := .bool false) rfl rfl rfl (V.pure rfl) (fun a hf => ?_)
            refine R.nil ?_
            refine X.then_ ?_
            exact ⟨false, h, (((((((((((hf.nil.cons (hf.get 77 _ rfl)).cons (hf.get 66 _ rfl)).cons (hf.get 65 _ rfl)).cons (hf.get 64 _ rfl)).cons (hf.get 10 _ rfl)).cons (hf.get 9 _ rfl)).cons (hf.get 8 _ rfl)).cons (hf.get 6 _ rfl)).cons (hf.get 5 _ rfl)).cons (hf.get 1 _ rfl)).cons (hf.get 0 _ rfl)), hs⟩
  · replace h := h.2 hc
    refine wp_exit ?_
    refine X.then_exit ?_
    refine X.then_exit ?_
    refine X.blk_exit ?_
    refine X.then_ ?_
    refine wp_seq ?_
    refine R.list ?_
    refine S.val hf hs (v := .slice l2A l2.length l2C) rfl rfl rfl (V.pure rfl) (fun a hf => ?_)
    refine S.val hf hs (v := .slice l2A l2.length l2C) rfl rfl rfl (V.pure rfl) (fun a hf => ?_)
    refine R.nil ?_
    refine X.then_ ?_
    refine wp_ret ?_
    replace hs := hs.take 1
    exact L.ret hf (run_results1 Try.results75 (ResIs.tmp hf rfl)) ⟨l2, l2A, l2C, l2as, rfl, h, hs⟩

set_option linter.unusedVariables false
def M_ref4_Nearest_k5 (xk3 : Int) (l2 : List Int) (n4 : Int) (next2 : List Int → Int → Prop) (n6 : Int) (again3 : Int → Prop) (c2 : Bool) : Prop :=
  cnd c2 (again3 (w64 (n6 + 1))) (must (room (l2 ++ [n6]).length 8) (next2 (l2 ++ [n6]) (w64 (n4 - (w64 (n6 * xk3))))))
def M_ref4_Nearest_L3 (y4 : (List (List Int))) (k3 : Nat) (xk3 : Int) (l2 : List Int) (n4 : Int) (next2 : List Int → Int → Prop) (again3 : Int → Prop) (n6 : Int) : Prop :=
  cnd (decide (w64 (n4 - (w64 (n6 * xk3))) < 0)) (M_ref4_Nearest_k5 xk3 l2 n4 next2 n6 again3 true) (idx y4 ((k3 + 1 : Nat) : Int) fun x2 => cnd (decide (w64 (n4 - (w64 (n6 * xk3))) ≥ (x2.length : Int))) (M_ref4_Nearest_k5 xk3 l2 n4 next2 n6 again3 true) (idx x2 (w64 (n4 - (w64 (n6 * xk3)))) fun x3 => cnd (decide (x3 < 0)) (M_ref4_Nearest_k5 xk3 l2 n4 next2 n6 again3 true) (idx y4 (k3 : Int) fun x4 => idx x4 n4 fun x5 => M_ref4_Nearest_k5 xk3 l2 n4 next2 n6 again3 ((w64 (x3 + n6)) != x5))))
def M_ref4_Nearest_L2 (y4 : (List (List Int))) (k3 : Nat) (xk3 : Int) (l2 : List Int) (n4 : Int) (next2 : List Int → Int → Prop) : Prop :=
  lp (fun again (s : Int) => M_ref4_Nearest_L3 y4 k3 xk3 l2 n4 next2 (fun n6 => again n6) s) 1
def M_ref4_Nearest_k6 (k2 : Nat) (n2 : Int) (next1 : Int → Prop) (c3 : Bool) : Prop :=
  cnd c3 (next1 (k2 : Int)) (next1 n2)
def M_ref4_Nearest_L1 (target : Int) (y3 : Int) (k2 : Nat) (xk2 : Int) (n2 : Int) (next1 : Int → Prop) : Prop :=
  cnd (decide (xk2 ≥ 0)) (cnd (decide (n2 < 0)) (M_ref4_Nearest_k6 k2 n2 next1 true) (M_ref4_apart (w64 (y3 + (k2 : Int))) target fun y5 => M_ref4_apart (w64 (y3 + n2)) target fun y6 => M_ref4_Nearest_k6 k2 n2 next1 (decide (y5 < y6)))) (M_ref4_Nearest_k6 k2 n2 next1 false)
def M_ref4_Nearest_k1 (m : (List Material)) (s_ : (List Layer)) (most : Int) (target : Int) (Q : (List Int) → Int → Int → Prop) (c1 : Bool) : Prop :=
  cnd c1 (Q ([] : List Int) 0 1) (M_ref4_glues m s_ fun y2 y3 => M_ref4_fewest y2 most fun y4 => idx y4 0 fun x1 => forIn' (fun k x (s : Int) next => M_ref4_Nearest_L1 target y3 k x s (fun n2 => next n2)) (fun (s : Int) => (fun (n2 : Int) => forIn' (fun k x (s : List Int × Int) next => M_ref4_Nearest_L2 y4 k x s.1 s.2 (fun l2 n4 => next (l2, n4))) (fun (s : List Int × Int) => (fun (l2 : List Int) (n4 : Int) => Q l2 (w64 (y3 + n2)) 0) s.1 s.2) y2 0 (([] : List Int), n2)) s) x1 0 (-1))
def M_ref4_Nearest (m : (List Material)) (s_ : (List Layer)) (most : Int) (target : Int) (Q : (List Int) → Int → Int → Prop) : Prop :=
  M_ref4_CheckStack m s_ fun y1 => cnd (y1 != 0) (Q ([] : List Int) 0 y1) (cnd (!(within most 1 8)) (M_ref4_Nearest_k1 m s_ most target Q true) (M_ref4_Nearest_k1 m s_ most target Q (!(within target 0 1000000))))
set_option maxHeartbeats 1000000 in
theorem R_ref4_Nearest (m : (List Material)) (s_ : (List Layer)) (most : Int) (target : Int) (w0 : World) (mA : Option Addr) (mC : Nat) (hv_m : View w0 (old w0 none_) mA mC m) (s_A : Option Addr) (s_C : Nat) (hv_s_ : View w0 (old w0 none_) s_A s_C s_) (Q : (List Int) → Int → Int → Prop) (h : M_ref4_Nearest m s_ most target Q) :
    Ret Try.prog 36 #[.slice mA m.length mC, .slice s_A s_.length s_C, .int .i64 most, .int .i64 target] w0 fun v w' => ∃ (r0 : (List Int)) (r0A : Option Addr) (r0C : Nat) (r1 : Int) (r2 : Int), v = .tuple #[.slice r0A r0.length r0C, .int .i64 r1, .int .i64 r2] ∧ Q r0 r1 r2 ∧ Sat w0 none_ [hown 3 r0A r0C r0] w' := by
  refine fn_enter Try.func36 rfl Try.ntmps36 rfl (fs := [(0, .slice mA m.length mC), (1, .slice s_A s_.length s_C), (2, .int .i64 most), (3, .int .i64 target)]) rfl (fun a hf => ?_)
  have hs := Sat.start w0 none_
  unfold M_ref4_Nearest at h
  refine wp_seq ?_
  refine R.list ?_
  refine S.val hf hs (v := .slice none 0 0) rfl rfl rfl (V.pure rfl) (fun a hf => ?_)
  refine S.val hf hs (v := .int .i64 0) rfl rfl rfl (V.pure rfl) (fun a hf => ?_)
  refine S.val hf hs (v := .int .i64 0) rfl rfl rfl (V.pure rfl) (fun a hf => ?_)
  refine R.nil ?_
  refine X.then_ ?_
  refine wp_seq ?_
  refine wp_seq ?_
  refine R.list ?_
  refine S.val hf hs (v := .slice mA m.length mC) rfl rfl rfl (V.pure rfl) (fun a hf => ?_)
  refine S.val hf hs (v := .slice s_A s_.length s_C) rfl rfl rfl (V.pure rfl) (fun a hf => ?_)
  refine S.call hf rfl rfl rfl (call_fn (vs := [.slice mA m.length mC, .slice s_A s_.length s_C]) rfl rfl rfl Try.call19) (R_ref4_CheckStack m s_ _ mA mC ((Ag.args _ _ _).view hv_m hs) s_A s_C ((Ag.args _ _ _).view hv_s_ hs) _ h) (fun v a w' hf hr => ?_)
  obtain ⟨y1, rfl, h2, hs2⟩ := hr
  replace h := h2; replace hs := hs.call hs2; clear h2 hs2
  refine S.val hf hs (v := .int .i64 y1) rfl rfl rfl (V.pure rfl) (fun a hf => ?_)
  refine R.nil ?_
  refine X.then_ ?_
  refine wp_seq ?_
  refine R.list ?_
  refine S.val hf hs (v := .int .i64 y1) rfl rfl rfl (V.pure rfl) (fun a hf => ?_)
  refine S.val hf hs (v := .bool (y1 != 0)) rfl rfl rfl (V.pure rfl) (fun a hf => ?_)
  refine R.nil ?_
  refine X.then_ ?_
  refine C.cond hf (b := y1 != 0) rfl (fun hc => ?_) (fun hc => ?_)
  · replace h := h.1 hc
    refine wp_seq ?_
    refine R.list ?_
    refine S.val hf hs (v := .int .i64 y1) rfl rfl rfl (V.pure rfl) (fun a hf => ?_)
    refine S.val hf hs (v := .slice none 0 0) rfl rfl rfl (V.pure rfl) (fun a hf => ?_)
    refine S.val hf hs (v := .int .i64 0) rfl rfl rfl (V.pure rfl) (fun a hf => ?_)
    refine S.val hf hs (v := .int .i64 y1) rfl rfl rfl (V.pure rfl) (fun a hf => ?_)
    refine R.nil ?_
    refine X.then_ ?_
    refine wp_ret ?_
    refine X.then_ret ?_
    replace hs := hs.nilOwn (α := Int) 3
    replace hs := hs.take 1
    exact L.ret hf (run_results3 Try.results36 (ResIs.tmp hf rfl) (ResIs.tmp hf rfl) (ResIs.tmp hf rfl)) ⟨([] : List Int), none, 0, 0, y1, rfl, h, hs⟩
  · replace h := h.2 hc
    refine wp_skip ?_
    refine X.then_ ?_
    refine wp_seq ?_
    refine wp_seq ?_
    refine C.cut (J := fun a w => ∃ (c1 : Bool), M_ref4_Nearest_k1 m s_ most target Q c1 ∧ FrOk 159 [(0, .slice mA m.length mC), (1, .slice s_A s_.length s_C), (2, .int .i64 most), (3, .int .i64 target), (36, .bool c1)] a ∧ Sat w0 none_ [] w) ?_ ?_
    · rintro a w ⟨c1, h, hf, hs⟩
      unfold M_ref4_Nearest_k1 at h
      refine C.cond hf (b := c1) rfl (fun hc => ?_) (fun hc => ?_)
      · replace h := h.1 hc
        refine wp_seq ?_
        refine R.list ?_
        refine S.val hf hs (v := .slice none 0 0) rfl rfl rfl (V.pure rfl) (fun a hf => ?_)
        refine S.val hf hs (v := .int .i64 0) rfl rfl rfl (V.pure rfl) (fun a hf => ?_)
        refine S.val hf hs (v := .int .i64 1) rfl rfl rfl (V.pure rfl) (fun a hf => ?_)
        refine R.nil ?_
        refine X.then_ ?_
        refine wp_ret ?_
        refine X.then_ret ?_
        replace hs := hs.nilOwn (α := Int) 3
        replace hs := hs.take 1
        exact L.ret hf (run_results3 Try.results36 (ResIs.tmp hf rfl) (ResIs.tmp hf rfl) (ResIs.tmp hf rfl)) ⟨([] : List Int), none, 0, 0, 1, rfl, h, hs⟩
      · replace h := h.2 hc
        refine wp_skip ?_
        refine X.then_ ?_
        refine wp_seq ?_
        refine R.list ?_
        refine S.val hf hs (v := .slice mA m.length mC) rfl rfl rfl (V.pure rfl) (fun a hf => ?_)
        refine S.val hf hs (v := .slice s_A s_.length s_C) rfl rfl rfl (V.pure rfl) (fun a hf => ?_)
        refine S.call hf rfl rfl rfl (call_fn (vs := [.slice mA m.length mC, .slice s_A s_.length s_C]) rfl rfl rfl Try.call73) (R_ref4_glues m s_ _ mA mC ((Ag.args _ _ _).view hv_m hs) s_A s_C ((Ag.args _ _ _).view hv_s_ hs) _ h) (fun v a w' hf hr => ?_)
        obtain ⟨y2, y2A, y2C, y3, rfl, h2, hs2⟩ := hr
        replace h := h2; replace hs := hs.call hs2; clear h2 hs2
        refine S.val hf hs (v := .tuple #[.slice y2A y2.length y2C, .int .i64 y3]) rfl rfl rfl (V.pure rfl) (fun a hf => ?_)
        refine S.val hf hs (v := .slice y2A y2.length y2C) rfl rfl rfl (V.pure rfl) (fun a hf => ?_)
        refine S.val hf hs (v := .int .i64 y3) rfl rfl rfl (V.pure rfl) (fun a hf => ?_)
        refine S.val hf hs (v := .slice y2A y2.length y2C) rfl rfl rfl (V.pure rfl) (fun a hf => ?_)
        refine S.val hf hs (v := .int .i64 y3) rfl rfl rfl (V.pure rfl) (fun a hf => ?_)
        refine R.nil ?_
        refine X.then_ ?_
        refine wp_seq ?_
        refine R.list ?_
        refine S.val hf hs (v := .slice y2A y2.length y2C) rfl rfl rfl (V.pure rfl) (fun a hf => ?_)
        refine S.val hf hs (v := .int .i64 most) rfl rfl rfl (V.pure rfl) (fun a hf => ?_)
        refine S.call hf rfl rfl rfl (call_fn (vs := [.slice y2A y2.length y2C, .int .i64 most]) rfl rfl rfl Try.call75) (R_ref4_fewest y2 most _ y2A y2C (hs.ownView 0 rfl) _ h) (fun v a w' hf hr => ?_)
        obtain ⟨y4, y4A, y4C, y4as, rfl, h2, hs2⟩ := hr
        replace h := h2; replace hs := hs.call hs2; clear h2 hs2
        refine S.val hf hs (v := .slice y4A y4.length y4C) rfl rfl rfl (V.pure rfl) (fun a hf => ?_)
        refine R.nil ?_
        refine X.then_ ?_
        refine wp_seq ?_
        refine R.list ?_
        refine S.val hf hs (v := .int .i64 (-1)) rfl rfl rfl (V.pure rfl) (fun a hf => ?_)
        refine R.nil ?_
        refine X.then_ ?_
        refine wp_seq ?_
        refine wp_seq ?_
        refine R.list ?_
        refine S.val hf hs (v := .slice y4A y4.length y4C) rfl rfl rfl (V.pure rfl) (fun a hf => ?_)
        obtain ⟨h0x1, x1, hx1, h⟩ := h
        refine S.val hf hs (v := elemPtr y4A (0 * 1)) rfl rfl rfl (V.index rfl rfl rfl Try.runUnderlying98 Try.sizeOf43 (hs.rowsSome 0 rfl hx1) h0x1 (lt_of_get hx1) rfl) (fun a hf => ?_)
        obtain ⟨B1, D1, hrB1⟩ := hs.rowAt 0 rfl hx1
        refine S.val hf hs (v := .slice B1 x1.length D1) rfl rfl rfl (V.loadRows (off := 0) 0 rfl hx1 hrB1 rfl rfl rfl Try.isAgg43 Try.sizeOf43 rfl rfl) (fun a hf => ?_)
        refine S.val hf hs (v := .int .i64 (x1.length : Int)) rfl rfl rfl (V.len rfl rfl Try.runUnderlying43) (fun a hf => ?_)
        refine S.val hf hs (v := .int .i64 0) rfl rfl rfl (V.pure rfl) (fun a hf => ?_)
        refine R.nil ?_
        refine X.then_ ?_
        refine wp_block ?_
        have hlenk2 := (hs.rowView 0 rfl hx1 hrB1).len64
        refine C.range (fun (ll : List Int) a w => ∃ (k2 : Nat) (n2 : Int), x1.drop k2 = ll ∧ k2 + ll.length = x1.length ∧ forIn' (fun k x (s : Int) next => M_ref4_Nearest_L1 target y3 k x s (fun n2 => next n2)) (fun (s : Int) => (fun (n2 : Int) => forIn' (fun k x (s : List Int × Int) next => M_ref4_Nearest_L2 y4 k x s.1 s.2 (fun l2 n4 => next (l2, n4))) (fun (s : List Int × Int) => (fun (l2 : List Int) (n4 : Int) => Q l2 (w64 (y3 + n2)) 0) s.1 s.2) y2 0 (([] : List Int), n2)) s) ll k2 n2 ∧ FrOk 159 [(50, .int .i64 (k2 : Int)), (3, .int .i64 target), (12, .slice y2A y2.length y2C), (13, .int .i64 y3), (14, .slice y4A y4.length y4C), (15, .int .i64 n2), (48, .slice B1 x1.length D1), (49, .int .i64 (x1.length : Int))] a ∧ Sat w0 none_ [hrows 43 3 y4A y4C y4as y4, hown 3 y2A y2C y2] w) x1 ⟨0, (-1), rfl, Nat.zero_add _, h, ((((((((hf.nil.cons (hf.get 49 _ rfl)).cons (hf.get 48 _ rfl)).cons (hf.get 15 _ rfl)).cons (hf.get 14 _ rfl)).cons (hf.get 13 _ rfl)).cons (hf.get 12 _ rfl)).cons (hf.get 3 _ rfl)).cons (hf.get 50 _ rfl)), hs⟩ ?_
        clear h hf hs
        rintro llk2 a w ⟨k2, n2, hlk2, hkk2, h, hf, hs⟩
        cases llk2 with
        | nil =>
          have hc := range_done hkk2
          replace h : (fun (n2 : Int) => forIn' (fun k x (s : List Int × Int) next => M_ref4_Nearest_L2 y4 k x s.1 s.2 (fun l2 n4 => next (l2, n4))) (fun (s : List Int × Int) => (fun (l2 : List Int) (n4 : Int) => Q l2 (w64 (y3 + n2)) 0) s.1 s.2) y2 0 (([] : List Int), n2)) n2 := h
          refine wp_seq ?_
          refine R.list ?_
          refine S.val hf hs (v := .bool false) rfl rfl rfl (V.cmp false rfl rfl rfl rfl hc) (fun a hf => ?_)
          refine R.nil ?_
          refine X.then_ ?_
          refine wp_seq ?_
          refine C.no hf rfl ?_
          refine wp_exit ?_
          refine X.then_exit ?_
          refine X.then_exit ?_
          refine X.blk_exit ?_
          refine X.then_ ?_
          refine wp_seq ?_
          refine R.list ?_
          refine S.val hf hs (v := .slice none 0 0) rfl rfl rfl (V.pure rfl) (fun a hf => ?_)
          refine R.nil ?_
          refine X.then_ ?_
          refine wp_seq ?_
          refine R.list ?_
          refine S.val hf hs (v := .int .i64 n2) rfl rfl rfl (V.pure rfl) (fun a hf => ?_)
          refine S.val hf hs (v := .int .i64 n2) rfl rfl rfl (V.pure rfl) (fun a hf => ?_)
          refine R.nil ?_
          refine X.then_ ?_
          refine wp_seq ?_
          refine wp_seq ?_
          refine R.list ?_
          refine S.val hf hs (v := .slice y2A y2.length y2C) rfl rfl rfl (V.pure rfl) (fun a hf => ?_)
          refine S.val hf hs (v := .int .i64 (y2.length : Int)) rfl rfl rfl (V.len rfl rfl Try.runUnderlying43) (fun a hf => ?_)
          refine S.val hf hs (v := .int .i64 0) rfl rfl rfl (V.pure rfl) (fun a hf => ?_)
          refine R.nil ?_
          refine X.then_ ?_
          refine wp_block ?_
          replace hs := hs.nilOwn (α := Int) 3
          have hlenk3 := (hs.ownView 2 rfl).len64
          refine C.range (fun (ll : List Int) a w => ∃ (k3 : Nat) (l2 : List Int) (l2A : Option Addr) (l2C : Nat) (n4 : Int), y2.drop k3 = ll ∧ k3 + ll.length = y2.length ∧ forIn' (fun k x (s : List Int × Int) next => M_ref4_Nearest_L2 y4 k x s.1 s.2 (fun l2 n4 => next (l2, n4))) (fun (s : List Int × Int) => (fun (l2 : List Int) (n4 : Int) => Q l2 (w64 (y3 + n2)) 0) s.1 s.2) ll k3 (l2, n4) ∧ FrOk 159 [(79, .int .i64 (k3 : Int)), (13, .int .i64 y3), (14, .slice y4A y4.length y4C), (15, .int .i64 n2), (18, .slice l2A l2.length l2C), (19, .int .i64 n4), (77, .slice y2A y2.length y2C), (78, .int .i64 (y2.length : Int))] a ∧ Sat w0 none_ [hown 3 l2A l2C l2, hrows 43 3 y4A y4C y4as y4, hown 3 y2A y2C y2] w) y2 ⟨0, ([] : List Int), none, 0, n2, rfl, Nat.zero_add _, h, ((((((((hf.nil.cons (hf.get 78 _ rfl)).cons (hf.get 77 _ rfl)).cons (hf.get 19 _ rfl)).cons (hf.get 18 _ rfl)).cons (hf.get 15 _ rfl)).cons (hf.get 14 _ rfl)).cons (hf.get 13 _ rfl)).cons (hf.get 79 _ rfl)), hs⟩ ?_
          clear h hf hs
          rintro llk3 a w ⟨k3, l2, l2A, l2C, n4, hlk3, hkk3, h, hf, hs⟩
          cases llk3 with
          | nil =>
            have hc := range_done hkk3
            replace h : (fun (l2 : List Int) (n4 : Int) => Q l2 (w64 (y3 + n2)) 0) l2 n4 := h
            refine wp_seq ?_
            refine R.list ?_
            refine S.val hf hs (v := .bool false) rfl rfl rfl (V.cmp false rfl rfl rfl rfl hc) (fun a hf => ?_)
            refine R.nil ?_
            refine X.then_ ?_
            refine wp_seq ?_
            refine C.no hf rfl ?_
            refine wp_exit ?_
            refine X.then_exit ?_
            refine X.then_exit ?_
            refine X.blk_exit ?_
            refine X.then_ ?_
            refine wp_seq ?_
            refine R.list ?_
            refine S.val hf hs (v := .slice l2A l2.length l2C) rfl rfl rfl (V.pure rfl) (fun a hf => ?_)
            refine S.val hf hs (v := .int .i64 y3) rfl rfl rfl (V.pure rfl) (fun a hf => ?_)
            refine S.val hf hs (v := .int .i64 n2) rfl rfl rfl (V.pure rfl) (fun a hf => ?_)
            refine S.val hf hs (v := .int .i64 (w64 (y3 + n2))) rfl rfl rfl (V.pure rfl) (fun a hf => ?_)
            refine S.val hf hs (v := .slice l2A l2.length l2C) rfl rfl rfl (V.pure rfl) (fun a hf => ?_)
            refine S.val hf hs (v := .int .i64 (w64 (y3 + n2))) rfl rfl rfl (V.pure rfl) (fun a hf => ?_)
            refine S.val hf hs (v := .int .i64 0) rfl rfl rfl (V.pure rfl) (fun a hf => ?_)
            refine R.nil ?_
            refine X.then_ ?_
            refine wp_ret ?_
            replace hs := hs.take 1
            exact L.ret hf (run_results3 Try.results36 (ResIs.tmp hf rfl) (ResIs.tmp hf rfl) (ResIs.tmp hf rfl)) ⟨l2, l2A, l2C, (w64 (y3 + n2)), 0, rfl, h, hs⟩
          | cons xk3 llk3 =>
            have hltk3 := range_lt hkk3; have hc := range_go hkk3; have hxk3 := range_get hlk3
            obtain ⟨next2, hnext2⟩ : ∃ X : List Int → Int → Prop, X = (fun l2 n4 => forIn' (fun k x (s : List Int × Int) next => M_ref4_Nearest_L2 y4 k x s.1 s.2 (fun l2 n4 => next (l2, n4))) (fun (s : List Int × Int) => (fun (l2 : List Int) (n4 : Int) => Q l2 (w64 (y3 + n2)) 0) s.1 s.2) llk3 (k3 + 1) (l2, n4)) := ⟨_, rfl⟩
            replace h : M_ref4_Nearest_L2 y4 k3 xk3 l2 n4 next2 := by rw [hnext2]; exact h
            unfold M_ref4_Nearest_L2 at h
            refine wp_seq ?_
            refine R.list ?_
            refine S.val hf hs (v := .bool true) rfl rfl rfl (V.cmp true rfl rfl rfl rfl hc) (fun a hf => ?_)
            refine R.nil ?_
            refine X.then_ ?_
            refine wp_seq ?_
            refine C.yes hf rfl ?_
            refine wp_skip ?_
            refine X.then_ ?_
            refine wp_seq ?_
            refine wp_block ?_
            refine wp_seq ?_
            refine R.list ?_
            refine S.val hf hs (v := .int .i64 (k3 : Int)) rfl rfl rfl (V.pure rfl) (fun a hf => ?_)
            refine S.val hf hs (v := elemPtr y2A (k3 * 1)) rfl rfl rfl (V.index rfl rfl rfl Try.runUnderlying43 Try.sizeOf3 (hs.ownSome 2 rfl (lt_of_get hxk3)) (Int.natCast_nonneg _) (lt_of_get hxk3) rfl) (fun a hf => ?_)
            refine S.val hf hs (v := .int .i64 xk3) rfl rfl rfl (V.loadOwn (off := 0) 2 rfl hxk3 rfl rfl rfl Try.isAgg3 Try.sizeOf3 rfl rfl) (fun a hf => ?_)
            refine S.val hf hs (v := .int .i64 (k3 : Int)) rfl rfl rfl (V.pure rfl) (fun a hf => ?_)
            refine S.val hf hs (v := .int .i64 xk3) rfl rfl rfl (V.pure rfl) (fun a hf => ?_)
            refine R.nil ?_
            refine X.then_ ?_
            refine wp_seq ?_
            refine R.list ?_
            refine S.val hf hs (v := .int .i64 1) rfl rfl rfl (V.pure rfl) (fun a hf => ?_)
            refine R.nil ?_
            refine X.then_ ?_
            refine wp_seq ?_
            refine wp_block ?_
            obtain ⟨kk, h⟩ := h
            refine C.loop (fun kk a w => ∃ (n6 : Int), iterF (fun again (s : Int) => M_ref4_Nearest_L3 y4 k3 xk3 l2 n4 next2 (fun n6 => again n6) s) kk n6 ∧ FrOk 159 [(13, .int .i64 y3), (14, .slice y4A y4.length y4C), (15, .int .i64 n2), (18, .slice l2A l2.length l2C), (19, .int .i64 n4), (20, .int .i64 (k3 : Int)), (21, .int .i64 xk3), (22, .int .i64 n6), (77, .slice y2A y2.length y2C), (78, .int .i64 (y2.length : Int)), (79, .int .i64 (k3 : Int))] a ∧ Sat w0 none_ [hown 3 l2A l2C l2, hrows 43 3 y4A y4C y4as y4, hown 3 y2A y2C y2] w) kk ⟨1, h, (((((((((((hf.nil.cons (hf.get 79 _ rfl)).cons (hf.get 78 _ rfl)).cons (hf.get 77 _ rfl)).cons (hf.get 22 _ rfl)).cons (hf.get 21 _ rfl)).cons (hf.get 20 _ rfl)).cons (hf.get 19 _ rfl)).cons (hf.get 18 _ rfl)).cons (hf.get 15 _ rfl)).cons (hf.get 14 _ rfl)).cons (hf.get 13 _ rfl)), hs⟩ (fun a w ⟨_, h, _, _⟩ => h) ?_
            clear h hf hs
            rintro kk a w ⟨n6, h, hf, hs⟩
            obtain ⟨again3, hagain3⟩ : ∃ X : Int → Prop, X = (fun n6 => iterF (fun again (s : Int) => M_ref4_Nearest_L3 y4 k3 xk3 l2 n4 next2 (fun n6 => again n6) s) kk n6) := ⟨_, rfl⟩
            replace h : M_ref4_Nearest_L3 y4 k3 xk3 l2 n4 next2 again3 n6 := by rw [hagain3]; exact h
            unfold M_ref4_Nearest_L3 at h
            refine wp_seq ?_
            refine wp_seq ?_
            refine C.cut (J := fun a w => ∃ (c2 : Bool), M_ref4_Nearest_k5 xk3 l2 n4 next2 n6 again3 c2 ∧ FrOk 159 [(13, .int .i64 y3), (14, .slice y4A y4.length y4C), (15, .int .i64 n2), (18, .slice l2A l2.length l2C), (19, .int .i64 n4), (20, .int .i64 (k3 : Int)), (21, .int .i64 xk3), (22, .int .i64 n6), (77, .slice y2A y2.length y2C), (78, .int .i64 (y2.length : Int)), (79, .int .i64 (k3 : Int)), (142, .bool c2)] a ∧ Sat w0 none_ [hown 3 l2A l2C l2, hrows 43 3 y4A y4C y4as y4, hown 3 y2A y2C y2] w) ?_ ?_
            · rintro a w ⟨c2, h, hf, hs⟩
              unfold M_ref4_Nearest_k5 at h
              refine C.cond hf (b := c2) rfl (fun hc => ?_) (fun hc => ?_)
              · replace h := h.1 hc
                refine wp_skip ?_
                refine X.then_ ?_
                refine wp_block ?_
                refine R.list ?_
                refine S.val hf hs (v := .int .i64 n6) rfl rfl rfl (V.pure rfl) (fun a hf => ?_)
                refine S.val hf hs (v := .int .i64 (w64 (n6 + 1))) rfl rfl rfl (V.pure rfl) (fun a hf => ?_)
                refine S.val hf hs (v := .int .i64 (w64 (n6 + 1))) rfl rfl rfl (V.pure rfl) (fun a hf => ?_)
                refine R.nil ?_
                refine X.blk ?_
                refine X.then_ ?_
                exact ⟨(w64 (n6 + 1)), (by rw [hagain3] at h; exact h), (((((((((((hf.nil.cons (hf.get 79 _ rfl)).cons (hf.get 78 _ rfl)).cons (hf.get 77 _ rfl)).cons (hf.get 22 _ rfl)).cons (hf.get 21 _ rfl)).cons (hf.get 20 _ rfl)).cons (hf.get 19 _ rfl)).cons (hf.get 18 _ rfl)).cons (hf.get 15 _ rfl)).cons (hf.get 14 _ rfl)).cons (hf.get 13 _ rfl)), hs⟩
              · replace h := h.2 hc
                refine wp_exit ?_
                refine X.then_exit ?_
                refine X.then_exit ?_
                refine X.blk_exit ?_
                refine X.then_ ?_
                refine R.list ?_
                refine S.val hf hs (v := .slice l2A l2.length l2C) rfl rfl rfl (V.pure rfl) (fun a hf => ?_)
                refine S.val hf hs (v := .int .i64 n6) rfl rfl rfl (V.pure rfl) (fun a hf => ?_)
                refine S.build1 hf hs rfl rfl rfl (α := Int) n6 rfl rfl rfl Try.runUnderlying43 Try.sizeOf3 Try.zeroValue3 rfl (by decide) (fun A1 a w hf hs => ?_)
                obtain ⟨hroom, h⟩ := h
                refine S.appendCells 1 hf hs rfl rfl rfl rfl rfl rfl rfl Try.underlying43 info3 rfl hroom ((hs.ownView 0 rfl).some_ (i := 0) (by simp)) (hs.ownView 0 rfl) (fun A2 C1 a w hf hs => ?_)
                replace hs := hs.drop
                refine S.val hf hs (v := .int .i64 n4) rfl rfl rfl (V.pure rfl) (fun a hf => ?_)
                refine S.val hf hs (v := .int .i64 n6) rfl rfl rfl (V.pure rfl) (fun a hf => ?_)
                refine S.val hf hs (v := .int .i64 xk3) rfl rfl rfl (V.pure rfl) (fun a hf => ?_)
                refine S.val hf hs (v := .int .i64 (w64 (n6 * xk3))) rfl rfl rfl (V.pure rfl) (fun a hf => ?_)
                refine S.val hf hs (v := .int .i64 (w64 (n4 - (w64 (n6 * xk3))))) rfl rfl rfl (V.pure rfl) (fun a hf => ?_)
                refine S.val hf hs (v := .slice A2 (l2 ++ [n6]).length C1) rfl rfl rfl (V.pure rfl) (fun a hf => ?_)
                refine S.val hf hs (v := .int .i64 (w64 (n4 - (w64 (n6 * xk3))))) rfl rfl rfl (V.pure rfl) (fun a hf => ?_)
                refine R.nil ?_
                refine X.blk ?_
                refine X.then_ ?_
                refine R.list ?_
                refine S.val hf hs (v := .int .i64 ((k3 + 1 : Nat) : Int)) rfl rfl rfl (V.incr rfl rfl rfl hltk3 hlenk3) (fun a hf => ?_)
                refine S.val hf hs (v := .int .i64 ((k3 + 1 : Nat) : Int)) rfl rfl rfl (V.pure rfl) (fun a hf => ?_)
                refine R.nil ?_
                refine X.then_ ?_
                exact ⟨xk3, llk3, rfl, k3 + 1, (l2 ++ [n6]), A2, C1, (w64 (n4 - (w64 (n6 * xk3)))), range_drop hlk3, range_len hkk3, (by rw [hnext2] at h; exact h), ((((((((hf.nil.cons (hf.get 78 _ rfl)).cons (hf.get 77 _ rfl)).cons (hf.get 19 _ rfl)).cons (hf.get 18 _ rfl)).cons (hf.get 15 _ rfl)).cons (hf.get 14 _ rfl)).cons (hf.get 13 _ rfl)).cons (hf.get 79 _ rfl)), hs⟩
            · skip
              refine R.draw mo (by kernel_rfl) hs ?_
              refine D.val hf (v := .int .i64 n4) rfl rfl rfl (V.pure rfl) (fun a hf => ?_)
              refine D.val hf (v := .int .i64 n6) rfl rfl rfl (V.pure rfl) (fun a hf => ?_)
              refine D.val hf (v := .int .i64 xk3) rfl rfl rfl (V.pure rfl) (fun a hf => ?_)
              refine D.val hf (v := .int .i64 (w64 (n6 * xk3))) rfl rfl rfl (V.pure rfl) (fun a hf => ?_)
              refine D.val hf (v := .int .i64 (w64 (n4 - (w64 (n6 * xk3))))) rfl rfl rfl (V.pure rfl) (fun a hf => ?_)
              refine D.val hf (v := .bool (decide (w64 (n4 - (w64 (n6 * xk3))) < 0))) rfl rfl rfl (V.pure rfl) (fun a hf => ?_)
              refine D.split hf (b := decide (w64 (n4 - (w64 (n6 * xk3))) < 0)) rfl rfl rfl (V.pure rfl) (fun hc a hf => ?_) (fun hc a hf => ?_)
              · replace h := h.1 hc
                refine D.skip hf rfl rfl rfl (fun a hf => ?_)
                refine D.skip hf rfl rfl rfl (fun a hf => ?_)
                refine D.skip hf rfl rfl rfl (fun a hf => ?_)
                refine D.skip hf rfl rfl rfl (fun a hf => ?_)
                refine D.skip hf rfl rfl rfl (fun a hf => ?_)
                refine D.skip hf rfl rfl rfl (fun a hf => ?_)
                refine D.skip hf rfl rfl rfl (fun a hf => ?_)
                refine D.skip hf rfl rfl rfl (fun a hf => ?_)
                refine D.skip hf rfl rfl rfl (fun a hf => ?_)
                refine D.skip hf rfl rfl rfl (fun a hf => ?_)
                refine D.skip hf rfl rfl rfl (fun a hf => ?_)
                refine D.skip hf rfl rfl rfl (fun a hf => ?_)
                refine D.val hf (v := .bool true) rfl rfl rfl (V.pure rfl) (fun a hf => ?_)
                refine D.val hf (v := .bool true) rfl rfl rfl (V.pure rfl) (fun a hf => ?_)
                refine D.skip hf rfl rfl rfl (fun a hf => ?_)
                refine D.skip hf rfl rfl rfl (fun a hf => ?_)
                refine D.skip hf rfl rfl rfl (fun a hf => ?_)
                refine D.skip hf rfl rfl rfl (fun a hf => ?_)
                refine D.skip hf rfl rfl rfl (fun a hf => ?_)
                refine D.skip hf rfl rfl rfl (fun a hf => ?_)
                refine D.skip hf rfl rfl rfl (fun a hf => ?_)
                refine D.skip hf rfl rfl rfl (fun a hf => ?_)
                refine D.skip hf rfl rfl rfl (fun a hf => ?_)
                refine D.skip hf rfl rfl rfl (fun a hf => ?_)
                refine D.skip hf rfl rfl rfl (fun a hf => ?_)
                refine D.skip hf rfl rfl rfl (fun a hf => ?_)
                refine D.skip hf rfl rfl rfl (fun a hf => ?_)
                refine D.val hf (v := .bool true) rfl rfl rfl (V.pure rfl) (fun a hf => ?_)
                refine D.val hf (v := .bool true) rfl rfl rfl (V.pure rfl) (fun a hf => ?_)
                refine D.skip hf rfl rfl rfl (fun a hf => ?_)
                refine D.skip hf rfl rfl rfl (fun a hf => ?_)
                refine D.skip hf rfl rfl rfl (fun a hf => ?_)
                refine D.skip hf rfl rfl rfl (fun a hf => ?_)
                refine D.skip hf rfl rfl rfl (fun a hf => ?_)
                refine D.skip hf rfl rfl rfl (fun a hf => ?_)
                refine D.skip hf rfl rfl rfl (fun a hf => ?_)
                refine D.skip hf rfl rfl rfl (fun a hf => ?_)
                refine D.skip hf rfl rfl rfl (fun a hf => ?_)
                refine D.skip hf rfl rfl rfl (fun a hf => ?_)
                refine D.skip hf rfl rfl rfl (fun a hf => ?_)
                refine D.skip hf rfl rfl rfl (fun a hf => ?_)
                refine D.skip hf rfl rfl rfl (fun a hf => ?_)
                refine D.skip hf rfl rfl rfl (fun a hf => ?_)
                refine D.skip hf rfl rfl rfl (fun a hf => ?_)
                refine D.skip hf rfl rfl rfl (fun a hf => ?_)
                refine D.skip hf rfl rfl rfl (fun a hf => ?_)
                refine D.skip hf rfl rfl rfl (fun a hf => ?_)
                refine D.skip hf rfl rfl rfl (fun a hf => ?_)
                refine D.skip hf rfl rfl rfl (fun a hf => ?_)
                refine D.skip hf rfl rfl rfl (fun a hf => ?_)
                refine D.skip hf rfl rfl rfl (fun a hf => ?_)
                refine D.val hf (v := .bool true) rfl rfl rfl (V.pure rfl) (fun a hf => ?_)
                refine D.done (fun w hs => ?_)
                refine X.then_ ?_
                exact ⟨true, h, ((((((((((((hf.nil.cons (hf.get 142 _ rfl)).cons (hf.get 79 _ rfl)).cons (hf.get 78 _ rfl)).cons (hf.get 77 _ rfl)).cons (hf.get 22 _ rfl)).cons (hf.get 21 _ rfl)).cons (hf.get 20 _ rfl)).cons (hf.get 19 _ rfl)).cons (hf.get 18 _ rfl)).cons (hf.get 15 _ rfl)).cons (hf.get 14 _ rfl)).cons (hf.get 13 _ rfl)), hs⟩
              · replace h := h.2 hc
                refine D.val hf (v := .int .i64 n4) rfl rfl rfl (V.pure rfl) (fun a hf => ?_)
                refine D.val hf (v := .int .i64 n6) rfl rfl rfl (V.pure rfl) (fun a hf => ?_)
                refine D.val hf (v := .int .i64 xk3) rfl rfl rfl (V.pure rfl) (fun a hf => ?_)
                refine D.val hf (v := .int .i64 (w64 (n6 * xk3))) rfl rfl rfl (V.pure rfl) (fun a hf => ?_)
                refine D.val hf (v := .int .i64 (w64 (n4 - (w64 (n6 * xk3))))) rfl rfl rfl (V.pure rfl) (fun a hf => ?_)
                refine D.val hf (v := .slice y4A y4.length y4C) rfl rfl rfl (V.pure rfl) (fun a hf => ?_)
                refine D.val hf (v := .int .i64 (k3 : Int)) rfl rfl rfl (V.pure rfl) (fun a hf => ?_)
                refine D.val hf (v := .int .i64 ((k3 + 1 : Nat) : Int)) rfl rfl rfl (V.incr rfl rfl rfl hltk3 hlenk3) (fun a hf => ?_)
                obtain ⟨h0x2, x2, hx2, h⟩ := h
                refine D.val hf (v := elemPtr y4A ((k3 + 1) * 1)) rfl rfl rfl (V.index rfl rfl rfl Try.runUnderlying98 Try.sizeOf43 (hs.rowsSome 1 rfl hx2) (Int.natCast_nonneg _) (lt_of_get hx2) rfl) (fun a hf => ?_)
                obtain ⟨B2, D2, hrB2⟩ := hs.rowAt 1 rfl hx2
                refine D.val hf (v := .slice B2 x2.length D2) rfl rfl rfl (V.loadRows (off := 0) 1 rfl hx2 hrB2 rfl rfl rfl Try.isAgg43 Try.sizeOf43 rfl rfl) (fun a hf => ?_)
                refine D.val hf (v := .int .i64 (x2.length : Int)) rfl rfl rfl (V.len rfl rfl Try.runUnderlying43) (fun a hf => ?_)
                refine D.val hf (v := .bool (decide (w64 (n4 - (w64 (n6 * xk3))) ≥ (x2.length : Int)))) rfl rfl rfl (V.pure rfl) (fun a hf => ?_)
                refine D.val hf (v := .bool (decide (w64 (n4 - (w64 (n6 * xk3))) ≥ (x2.length : Int)))) rfl rfl rfl (V.pure rfl) (fun a hf => ?_)
                refine D.split hf (b := decide (w64 (n4 - (w64 (n6 * xk3))) ≥ (x2.length : Int))) rfl rfl rfl (V.pure rfl) (fun hc a hf => ?_) (fun hc a hf => ?_)
                · replace h := h.1 hc
                  refine D.skip hf rfl rfl rfl (fun a hf => ?_)
                  refine D.skip hf rfl rfl rfl (fun a hf => ?_)
                  refine D.skip hf rfl rfl rfl (fun a hf => ?_)
                  refine D.skip hf rfl rfl rfl (fun a hf => ?_)
                  refine D.skip hf rfl rfl rfl (fun a hf => ?_)
                  refine D.skip hf rfl rfl rfl (fun a hf => ?_)
                  refine D.skip hf rfl rfl rfl (fun a hf => ?_)
                  refine D.skip hf rfl rfl rfl (fun a hf => ?_)
                  refine D.skip hf rfl rfl rfl (fun a hf => ?_)
                  refine D.skip hf rfl rfl rfl (fun a hf => ?_)
                  refine D.skip hf rfl rfl rfl (fun a hf => ?_)
                  refine D.skip hf rfl rfl rfl (fun a hf => ?_)
                  refine D.skip hf rfl rfl rfl (fun a hf => ?_)
                  refine D.val hf (v := .bool true) rfl rfl rfl (V.pure rfl) (fun a hf => ?_)
                  refine D.val hf (v := .bool true) rfl rfl rfl (V.pure rfl) (fun a hf => ?_)
                  refine D.skip hf rfl rfl rfl (fun a hf => ?_)
                  refine D.skip hf rfl rfl rfl (fun a hf => ?_)
                  refine D.skip hf rfl rfl rfl (fun a hf => ?_)
                  refine D.skip hf rfl rfl rfl (fun a hf => ?_)
                  refine D.skip hf rfl rfl rfl (fun a hf => ?_)
                  refine D.skip hf rfl rfl rfl (fun a hf => ?_)
                  refine D.skip hf rfl rfl rfl (fun a hf => ?_)
                  refine D.skip hf rfl rfl rfl (fun a hf => ?_)
                  refine D.skip hf rfl rfl rfl (fun a hf => ?_)
                  refine D.skip hf rfl rfl rfl (fun a hf => ?_)
                  refine D.skip hf rfl rfl rfl (fun a hf => ?_)
                  refine D.skip hf rfl rfl rfl (fun a hf => ?_)
                  refine D.skip hf rfl rfl rfl (fun a hf => ?_)
                  refine D.skip hf rfl rfl rfl (fun a hf => ?_)
                  refine D.skip hf rfl rfl rfl (fun a hf => ?_)
                  refine D.skip hf rfl rfl rfl (fun a hf => ?_)
                  refine D.skip hf rfl rfl rfl (fun a hf => ?_)
                  refine D.skip hf rfl rfl rfl (fun a hf => ?_)
                  refine D.skip hf rfl rfl rfl (fun a hf => ?_)
                  refine D.skip hf rfl rfl rfl (fun a hf => ?_)
                  refine D.skip hf rfl rfl rfl (fun a hf => ?_)
                  refine D.skip hf rfl rfl rfl (fun a hf => ?_)
                  refine D.val hf (v := .bool true) rfl rfl rfl (V.pure rfl) (fun a hf => ?_)
                  refine D.done (fun w hs => ?_)
                  refine X.then_ ?_
                  exact ⟨true, h, ((((((((((((hf.nil.cons (hf.get 142 _ rfl)).cons (hf.get 79 _ rfl)).cons (hf.get 78 _ rfl)).cons (hf.get 77 _ rfl)).cons (hf.get 22 _ rfl)).cons (hf.get 21 _ rfl)).cons (hf.get 20 _ rfl)).cons (hf.get 19 _ rfl)).cons (hf.get 18 _ rfl)).cons (hf.get 15 _ rfl)).cons (hf.get 14 _ rfl)).cons (hf.get 13 _ rfl)), hs⟩
                · replace h := h.2 hc
                  refine D.val hf (v := .slice y4A y4.length y4C) rfl rfl rfl (V.pure rfl) (fun a hf => ?_)
                  refine D.val hf (v := .int .i64 (k3 : Int)) rfl rfl rfl (V.pure rfl) (fun a hf => ?_)
                  refine D.val hf (v := .int .i64 ((k3 + 1 : Nat) : Int)) rfl rfl rfl (V.incr rfl rfl rfl hltk3 hlenk3) (fun a hf => ?_)
                  refine D.val hf (v := elemPtr y4A ((k3 + 1) * 1)) rfl rfl rfl (V.index rfl rfl rfl Try.runUnderlying98 Try.sizeOf43 (hs.rowsSome 1 rfl hx2) (Int.natCast_nonneg _) (lt_of_get hx2) rfl) (fun a hf => ?_)
                  refine D.val hf (v := .slice B2 x2.length D2) rfl rfl rfl (V.loadRows (off := 0) 1 rfl hx2 hrB2 rfl rfl rfl Try.isAgg43 Try.sizeOf43 rfl rfl) (fun a hf => ?_)
                  refine D.val hf (v := .int .i64 n4) rfl rfl rfl (V.pure rfl) (fun a hf => ?_)
                  refine D.val hf (v := .int .i64 n6) rfl rfl rfl (V.pure rfl) (fun a hf => ?_)
                  refine D.val hf (v := .int .i64 xk3) rfl rfl rfl (V.pure rfl) (fun a hf => ?_)
                  refine D.val hf (v := .int .i64 (w64 (n6 * xk3))) rfl rfl rfl (V.pure rfl) (fun a hf => ?_)
                  refine D.val hf (v := .int .i64 (w64 (n4 - (w64 (n6 * xk3))))) rfl rfl rfl (V.pure rfl) (fun a hf => ?_)
                  obtain ⟨h0x3, x3, hx3, h⟩ := h
                  refine D.val hf (v := elemPtr B2 ((w64 (n4 - (w64 (n6 * xk3)))).toNat * 1)) rfl rfl rfl (V.index rfl rfl rfl Try.runUnderlying43 Try.sizeOf3 ((hs.rowView 1 rfl hx2 hrB2).some_ (lt_of_get hx3)) h0x3 (lt_of_get hx3) rfl) (fun a hf => ?_)
                  refine D.val hf (v := .int .i64 x3) rfl rfl rfl (V.loadRowEl (off := 0) 1 rfl hx2 hrB2 hx3 rfl rfl rfl Try.isAgg3 Try.sizeOf3 rfl rfl) (fun a hf => ?_)
                  refine D.val hf (v := .bool (decide (x3 < 0))) rfl rfl rfl (V.pure rfl) (fun a hf => ?_)
                  refine D.val hf (v := .bool (decide (x3 < 0))) rfl rfl rfl (V.pure rfl) (fun a hf => ?_)
                  refine D.split hf (b := decide (x3 < 0)) rfl rfl rfl (V.pure rfl) (fun hc a hf => ?_) (fun hc a hf => ?_)
                  · replace h := h.1 hc
                    refine D.skip hf rfl rfl rfl (fun a hf => ?_)
                    refine D.skip hf rfl rfl rfl (fun a hf => ?_)
                    refine D.skip hf rfl rfl rfl (fun a hf => ?_)
                    refine D.skip hf rfl rfl rfl (fun a hf => ?_)
                    refine D.skip hf rfl rfl rfl (fun a hf => ?_)
                    refine D.skip hf rfl rfl rfl (fun a hf => ?_)
                    refine D.skip hf rfl rfl rfl (fun a hf => ?_)
                    refine D.skip hf rfl rfl rfl (fun a hf => ?_)
                    refine D.skip hf rfl rfl rfl (fun a hf => ?_)
                    refine D.skip hf rfl rfl rfl (fun a hf => ?_)
                    refine D.skip hf rfl rfl rfl (fun a hf => ?_)
                    refine D.skip hf rfl rfl rfl (fun a hf => ?_)
                    refine D.skip hf rfl rfl rfl (fun a hf => ?_)
                    refine D.skip hf rfl rfl rfl (fun a hf => ?_)
                    refine D.skip hf rfl rfl rfl (fun a hf => ?_)
                    refine D.skip hf rfl rfl rfl (fun a hf => ?_)
                    refine D.skip hf rfl rfl rfl (fun a hf => ?_)
                    refine D.skip hf rfl rfl rfl (fun a hf => ?_)
                    refine D.skip hf rfl rfl rfl (fun a hf => ?_)
                    refine D.skip hf rfl rfl rfl (fun a hf => ?_)
                    refine D.skip hf rfl rfl rfl (fun a hf => ?_)
                    refine D.skip hf rfl rfl rfl (fun a hf => ?_)
                    refine D.val hf (v := .bool true) rfl rfl rfl (V.pure rfl) (fun a hf => ?_)
                    refine D.done (fun w hs => ?_)
                    refine X.then_ ?_
                    exact ⟨true, h, ((((((((((((hf.nil.cons (hf.get 142 _ rfl)).cons (hf.get 79 _ rfl)).cons (hf.get 78 _ rfl)).cons (hf.get 77 _ rfl)).cons (hf.get 22 _ rfl)).cons (hf.get 21 _ rfl)).cons (hf.get 20 _ rfl)).cons (hf.get 19 _ rfl)).cons (hf.get 18 _ rfl)).cons (hf.get 15 _ rfl)).cons (hf.get 14 _ rfl)).cons (hf.get 13 _ rfl)), hs⟩
                  · replace h := h.2 hc
                    refine D.val hf (v := .slice y4A y4.length y4C) rfl rfl rfl (V.pure rfl) (fun a hf => ?_)
                    refine D.val hf (v := .int .i64 (k3 : Int)) rfl rfl rfl (V.pure rfl) (fun a hf => ?_)
                    refine D.val hf (v := .int .i64 ((k3 + 1 : Nat) : Int)) rfl rfl rfl (V.incr rfl rfl rfl hltk3 hlenk3) (fun a hf => ?_)
                    refine D.val hf (v := elemPtr y4A ((k3 + 1) * 1)) rfl rfl rfl (V.index rfl rfl rfl Try.runUnderlying98 Try.sizeOf43 (hs.rowsSome 1 rfl hx2) (Int.natCast_nonneg _) (lt_of_get hx2) rfl) (fun a hf => ?_)
                    refine D.val hf (v := .slice B2 x2.length D2) rfl rfl rfl (V.loadRows (off := 0) 1 rfl hx2 hrB2 rfl rfl rfl Try.isAgg43 Try.sizeOf43 rfl rfl) (fun a hf => ?_)
                    refine D.val hf (v := .int .i64 n4) rfl rfl rfl (V.pure rfl) (fun a hf => ?_)
                    refine D.val hf (v := .int .i64 n6) rfl rfl rfl (V.pure rfl) (fun a hf => ?_)
                    refine D.val hf (v := .int .i64 xk3) rfl rfl rfl (V.pure rfl) (fun a hf => ?_)
                    refine D.val hf (v := .int .i64 (w64 (n6 * xk3))) rfl rfl rfl (V.pure rfl) (fun a hf => ?_)
                    refine D.val hf (v := .int .i64 (w64 (n4 - (w64 (n6 * xk3))))) rfl rfl rfl (V.pure rfl) (fun a hf => ?_)
                    refine D.val hf (v := elemPtr B2 ((w64 (n4 - (w64 (n6 * xk3)))).toNat * 1)) rfl rfl rfl (V.index rfl rfl rfl Try.runUnderlying43 Try.sizeOf3 ((hs.rowView 1 rfl hx2 hrB2).some_ (lt_of_get hx3)) h0x3 (lt_of_get hx3) rfl) (fun a hf => ?_)
                    refine D.val hf (v := .int .i64 x3) rfl rfl rfl (V.loadRowEl (off := 0) 1 rfl hx2 hrB2 hx3 rfl rfl rfl Try.isAgg3 Try.sizeOf3 rfl rfl) (fun a hf => ?_)
                    refine D.val hf (v := .int .i64 n6) rfl rfl rfl (V.pure rfl) (fun a hf => ?_)
                    refine D.val hf (v := .int .i64 (w64 (x3 + n6))) rfl rfl rfl (V.pure rfl) (fun a hf => ?_)
                    refine D.val hf (v := .slice y4A y4.length y4C) rfl rfl rfl (V.pure rfl) (fun a hf => ?_)
                    refine D.val hf (v := .int .i64 (k3 : Int)) rfl rfl rfl (V.pure rfl) (fun a hf => ?_)
                    obtain ⟨h0x4, x4, hx4, h⟩ := h
                    refine D.val hf (v := elemPtr y4A (k3 * 1)) rfl rfl rfl (V.index rfl rfl rfl Try.runUnderlying98 Try.sizeOf43 (hs.rowsSome 1 rfl hx4) (Int.natCast_nonneg _) (lt_of_get hx4) rfl) (fun a hf => ?_)
                    obtain ⟨B3, D3, hrB3⟩ := hs.rowAt 1 rfl hx4
                    refine D.val hf (v := .slice B3 x4.length D3) rfl rfl rfl (V.loadRows (off := 0) 1 rfl hx4 hrB3 rfl rfl rfl Try.isAgg43 Try.sizeOf43 rfl rfl) (fun a hf => ?_)
                    refine D.val hf (v := .int .i64 n4) rfl rfl rfl (V.pure rfl) (fun a hf => ?_)
                    obtain ⟨h0x5, x5, hx5, h⟩ := h
                    refine D.val hf (v := elemPtr B3 (n4.toNat * 1)) rfl rfl rfl (V.index rfl rfl rfl Try.runUnderlying43 Try.sizeOf3 ((hs.rowView 1 rfl hx4 hrB3).some_ (lt_of_get hx5)) h0x5 (lt_of_get hx5) rfl) (fun a hf => ?_)
                    refine D.val hf (v := .int .i64 x5) rfl rfl rfl (V.loadRowEl (off := 0) 1 rfl hx4 hrB3 hx5 rfl rfl rfl Try.isAgg3 Try.sizeOf3 rfl rfl) (fun a hf => ?_)
                    refine D.val hf (v := .bool ((w64 (x3 + n6)) != x5)) rfl rfl rfl (V.pure rfl) (fun a hf => ?_)
                    refine D.val hf (v := .bool ((w64 (x3 + n6)) != x5)) rfl rfl rfl (V.pure rfl) (fun a hf => ?_)
                    refine D.done (fun w hs => ?_)
                    refine X.then_ ?_
                    exact ⟨((w64 (x3 + n6)) != x5), h, ((((((((((((hf.nil.cons (hf.get 142 _ rfl)).cons (hf.get 79 _ rfl)).cons (hf.get 78 _ rfl)).cons (hf.get 77 _ rfl)).cons (hf.get 22 _ rfl)).cons (hf.get 21 _ rfl)).cons (hf.get 20 _ rfl)).cons (hf.get 19 _ rfl)).cons (hf.get 18 _ rfl)).cons (hf.get 15 _ rfl)).cons (hf.get 14 _ rfl)).cons (hf.get 13 _ rfl)), hs⟩
        | cons xk2 llk2 =>
          have hltk2 := range_lt hkk2; have hc := range_go hkk2; have hxk2 := range_get hlk2
          obtain ⟨next1, hnext1⟩ : ∃ X : Int → Prop, X = (fun n2 => forIn' (fun k x (s : Int) next => M_ref4_Nearest_L1 target y3 k x s (fun n2 => next n2)) (fun (s : Int) => (fun (n2 : Int) => forIn' (fun k x (s : List Int × Int) next => M_ref4_Nearest_L2 y4 k x s.1 s.2 (fun l2 n4 => next (l2, n4))) (fun (s : List Int × Int) => (fun (l2 : List Int) (n4 : Int) => Q l2 (w64 (y3 + n2)) 0) s.1 s.2) y2 0 (([] : List Int), n2)) s) llk2 (k2 + 1) n2) := ⟨_, rfl⟩
          replace h : M_ref4_Nearest_L1 target y3 k2 xk2 n2 next1 := by rw [hnext1]; exact h
          unfold M_ref4_Nearest_L1 at h
          refine wp_seq ?_
          refine R.list ?_
          refine S.val hf hs (v := .bool true) rfl rfl rfl (V.cmp true rfl rfl rfl rfl hc) (fun a hf => ?_)
          refine R.nil ?_
          refine X.then_ ?_
          refine wp_seq ?_
          refine C.yes hf rfl ?_
          refine wp_skip ?_
          refine X.then_ ?_
          refine wp_seq ?_
          refine wp_block ?_
          refine wp_seq ?_
          refine R.list ?_
          refine S.val hf hs (v := .int .i64 (k2 : Int)) rfl rfl rfl (V.pure rfl) (fun a hf => ?_)
          refine S.val hf hs (v := elemPtr B1 (k2 * 1)) rfl rfl rfl (V.index rfl rfl rfl Try.runUnderlying43 Try.sizeOf3 ((hs.rowView 0 rfl hx1 hrB1).some_ (lt_of_get hxk2)) (Int.natCast_nonneg _) (lt_of_get hxk2) rfl) (fun a hf => ?_)
          refine S.val hf hs (v := .int .i64 xk2) rfl rfl rfl (V.loadRowEl (off := 0) 0 rfl hx1 hrB1 hxk2 rfl rfl rfl Try.isAgg3 Try.sizeOf3 rfl rfl) (fun a hf => ?_)
          refine S.val hf hs (v := .int .i64 (k2 : Int)) rfl rfl rfl (V.pure rfl) (fun a hf => ?_)
          refine S.val hf hs (v := .int .i64 xk2) rfl rfl rfl (V.pure rfl) (fun a hf => ?_)
          refine R.nil ?_
          refine X.then_ ?_
          refine wp_seq ?_
          refine C.cut (J := fun a w => ∃ (c3 : Bool), M_ref4_Nearest_k6 k2 n2 next1 c3 ∧ FrOk 159 [(3, .int .i64 target), (12, .slice y2A y2.length y2C), (13, .int .i64 y3), (14, .slice y4A y4.length y4C), (15, .int .i64 n2), (16, .int .i64 (k2 : Int)), (48, .slice B1 x1.length D1), (49, .int .i64 (x1.length : Int)), (50, .int .i64 (k2 : Int)), (73, .bool c3)] a ∧ Sat w0 none_ [hrows 43 3 y4A y4C y4as y4, hown 3 y2A y2C y2] w) ?_ ?_
          · rintro a w ⟨c3, h, hf, hs⟩
            unfold M_ref4_Nearest_k6 at h
            refine C.cond hf (b := c3) rfl (fun hc => ?_) (fun hc => ?_)
            · replace h := h.1 hc
              refine R.list ?_
              refine S.val hf hs (v := .int .i64 (k2 : Int)) rfl rfl rfl (V.pure rfl) (fun a hf => ?_)
              refine S.val hf hs (v := .int .i64 (k2 : Int)) rfl rfl rfl (V.pure rfl) (fun a hf => ?_)
              refine R.nil ?_
              refine X.blk ?_
              refine X.then_ ?_
              refine R.list ?_
              refine S.val hf hs (v := .int .i64 ((k2 + 1 : Nat) : Int)) rfl rfl rfl (V.incr rfl rfl rfl hltk2 hlenk2) (fun a hf => ?_)
              refine S.val hf hs (v := .int .i64 ((k2 + 1 : Nat) : Int)) rfl rfl rfl (V.pure rfl) (fun a hf => ?_)
              refine R.nil ?_
              refine X.then_ ?_
              exact ⟨xk2, llk2, rfl, k2 + 1, (k2 : Int), range_drop hlk2, range_len hkk2, (by rw [hnext1] at h; exact h), ((((((((hf.nil.cons (hf.get 49 _ rfl)).cons (hf.get 48 _ rfl)).cons (hf.get 15 _ rfl)).cons (hf.get 14 _ rfl)).cons (hf.get 13 _ rfl)).cons (hf.get 12 _ rfl)).cons (hf.get 3 _ rfl)).cons (hf.get 50 _ rfl)), hs⟩
            · replace h := h.2 hc
              refine wp_skip ?_
              refine X.blk ?_
              refine X.then_ ?_
              refine R.list ?_
              refine S.val hf hs (v := .int .i64 ((k2 + 1 : Nat) : Int)) rfl rfl rfl (V.incr rfl rfl rfl hltk2 hlenk2) (fun a hf => ?_)
              refine S.val hf hs (v := .int .i64 ((k2 + 1 : Nat) : Int)) rfl rfl rfl (V.pure rfl) (fun a hf => ?_)
              refine R.nil ?_
              refine X.then_ ?_
              exact ⟨xk2, llk2, rfl, k2 + 1, n2, range_drop hlk2, range_len hkk2, (by rw [hnext1] at h; exact h), ((((((((hf.nil.cons (hf.get 49 _ rfl)).cons (hf.get 48 _ rfl)).cons (hf.get 15 _ rfl)).cons (hf.get 14 _ rfl)).cons (hf.get 13 _ rfl)).cons (hf.get 12 _ rfl)).cons (hf.get 3 _ rfl)).cons (hf.get 50 _ rfl)), hs⟩
          · skip
            refine R.list ?_
            refine S.val hf hs (v := .int .i64 xk2) rfl rfl rfl (V.pure rfl) (fun a hf => ?_)
            refine S.val hf hs (v := .bool (decide (xk2 ≥ 0))) rfl rfl rfl (V.pure rfl) (fun a hf => ?_)
            refine S.split hf hs (b := decide (xk2 ≥ 0)) rfl rfl rfl (V.pure rfl) (fun hc a hf => ?_) (fun hc a hf => ?_)
            · replace h := h.1 hc
              refine S.val hf hs (v := .int .i64 n2) rfl rfl rfl (V.pure rfl) (fun a hf => ?_)
              refine S.val hf hs (v := .bool (decide (n2 < 0))) rfl rfl rfl (V.pure rfl) (fun a hf => ?_)
              refine S.split hf hs (b := decide (n2 < 0)) rfl rfl rfl (V.pure rfl) (fun hc a hf => ?_) (fun hc a hf => ?_)
              · replace h := h.1 hc
                refine S.skip hf rfl rfl rfl (fun a hf => ?_)
                refine S.skip hf rfl rfl rfl (fun a hf => ?_)
                refine S.skip hf rfl rfl rfl (fun a hf => ?_)
                refine S.skip hf rfl rfl rfl (fun a hf => ?_)
                refine S.skip hf rfl rfl rfl (fun a hf => ?_)
                refine S.skip hf rfl rfl rfl (fun a hf => ?_)
                refine S.skip hf rfl rfl rfl (fun a hf => ?_)
                refine S.skip hf rfl rfl rfl (fun a hf => ?_)
                refine S.skip hf rfl rfl rfl (fun a hf => ?_)
                refine S.skip hf rfl rfl rfl (fun a hf => ?_)
                refine S.skip hf rfl rfl rfl (fun a hf => ?_)
                refine S.val hf hs (v := .bool true) rfl rfl rfl (V.pure rfl) (fun a hf => ?_)
                refine S.val hf hs (v := .bool true) rfl rfl rfl (V.pure rfl) (fun a hf => ?_)
                refine R.nil ?_
                refine X.then_ ?_
                exact ⟨true, h, ((((((((((hf.nil.cons (hf.get 73 _ rfl)).cons (hf.get 50 _ rfl)).cons (hf.get 49 _ rfl)).cons (hf.get 48 _ rfl)).cons (hf.get 16 _ rfl)).cons (hf.get 15 _ rfl)).cons (hf.get 14 _ rfl)).cons (hf.get 13 _ rfl)).cons (hf.get 12 _ rfl)).cons (hf.get 3 _ rfl)), hs⟩
              · replace h := h.2 hc
                refine S.val hf hs (v := .int .i64 y3) rfl rfl rfl (V.pure rfl) (fun a hf => ?_)
                refine S.val hf hs (v := .int .i64 (k2 : Int)) rfl rfl rfl (V.pure rfl) (fun a hf => ?_)
                refine S.val hf hs (v := .int .i64 (w64 (y3 + (k2 : Int)))) rfl rfl rfl (V.pure rfl) (fun a hf => ?_)
                refine S.val hf hs (v := .int .i64 target) rfl rfl rfl (V.pure rfl) (fun a hf => ?_)
                refine S.call hf rfl rfl rfl (call_fn (vs := [.int .i64 (w64 (y3 + (k2 : Int))), .int .i64 target]) rfl rfl rfl Try.call74) (R_ref4_apart (w64 (y3 + (k2 : Int))) target _  _ h) (fun v a w' hf hr => ?_)
                obtain ⟨y5, rfl, h2, hs2⟩ := hr
                replace h := h2; replace hs := hs.call hs2; clear h2 hs2
                refine S.val hf hs (v := .int .i64 y3) rfl rfl rfl (V.pure rfl) (fun a hf => ?_)
                refine S.val hf hs (v := .int .i64 n2) rfl rfl rfl (V.pure rfl) (fun a hf => ?_)
                refine S.val hf hs (v := .int .i64 (w64 (y3 + n2))) rfl rfl rfl (V.pure rfl) (fun a hf => ?_)
                refine S.val hf hs (v := .int .i64 target) rfl rfl rfl (V.pure rfl) (fun a hf => ?_)
                refine S.call hf rfl rfl rfl (call_fn (vs := [.int .i64 (w64 (y3 + n2)), .int .i64 target]) rfl rfl rfl Try.call74) (R_ref4_apart (w64 (y3 + n2)) target _  _ h) (fun v a w' hf hr => ?_)
                obtain ⟨y6, rfl, h2, hs2⟩ := hr
                replace h := h2; replace hs := hs.call hs2; clear h2 hs2
                refine S.val hf hs (v := .bool (decide (y5 < y6))) rfl rfl rfl (V.pure rfl) (fun a hf => ?_)
                refine S.val hf hs (v := .bool (decide (y5 < y6))) rfl rfl rfl (V.pure rfl) (fun a hf => ?_)
                refine S.val hf hs (v := .bool (decide (y5 < y6))) rfl rfl rfl (V.pure rfl) (fun a hf => ?_)
                refine R.nil ?_
                refine X.then_ ?_
                exact ⟨(decide (y5 < y6)), h, ((((((((((hf.nil.cons (hf.get 73 _ rfl)).cons (hf.get 50 _ rfl)).cons (hf.get 49 _ rfl)).cons (hf.get 48 _ rfl)).cons (hf.get 16 _ rfl)).cons (hf.get 15 _ rfl)).cons (hf.get 14 _ rfl)).cons (hf.get 13 _ rfl)).cons (hf.get 12 _ rfl)).cons (hf.get 3 _ rfl)), hs⟩
            · replace h := h.2 hc
              refine S.skip hf rfl rfl rfl (fun a hf => ?_)
              refine S.skip hf rfl rfl rfl (fun a hf => ?_)
              refine S.skip hf rfl rfl rfl (fun a hf => ?_)
              refine S.skip hf rfl rfl rfl (fun a hf => ?_)
              refine S.skip hf rfl rfl rfl (fun a hf => ?_)
              refine S.skip hf rfl rfl rfl (fun a hf => ?_)
              refine S.skip hf rfl rfl rfl (fun a hf => ?_)
              refine S.skip hf rfl rfl rfl (fun a hf => ?_)
              refine S.skip hf rfl rfl rfl (fun a hf => ?_)
              refine S.skip hf rfl rfl rfl (fun a hf => ?_)
              refine S.skip hf rfl rfl rfl (fun a hf => ?_)
              refine S.skip hf rfl rfl rfl (fun a hf => ?_)
              refine S.skip hf rfl rfl rfl (fun a hf => ?_)
              refine S.skip hf rfl rfl rfl (fun a hf => ?_)
              refine S.skip hf rfl rfl rfl (fun a hf => ?_)
              refine S.val hf hs (v := .bool false) rfl rfl rfl (V.pure rfl) (fun a hf => ?_)
              refine R.nil ?_
              refine X.then_ ?_
              exact ⟨false, h, ((((((((((hf.nil.cons (hf.get 73 _ rfl)).cons (hf.get 50 _ rfl)).cons (hf.get 49 _ rfl)).cons (hf.get 48 _ rfl)).cons (hf.get 16 _ rfl)).cons (hf.get 15 _ rfl)).cons (hf.get 14 _ rfl)).cons (hf.get 13 _ rfl)).cons (hf.get 12 _ rfl)).cons (hf.get 3 _ rfl)), hs⟩
    · skip
      refine R.list ?_
      refine S.val hf hs (v := .int .i64 most) rfl rfl rfl (V.pure rfl) (fun a hf => ?_)
      refine S.callv hf rfl rfl rfl (call_fn (vs := [.int .i64 most, .int .i64 1, .int .i64 8]) rfl rfl rfl Try.call59) (C_ref4_within most 1 8 _ ) (fun a w hf hs' => ?_)
      replace hs := hs.call hs'; clear hs'
      refine S.val hf hs (v := .bool (!(within most 1 8))) rfl rfl rfl (V.pure rfl) (fun a hf => ?_)
      refine S.split hf hs (b := !(within most 1 8)) rfl rfl rfl (V.pure rfl) (fun hc a hf => ?_) (fun hc a hf => ?_)
      · replace h := h.1 hc
        refine S.skip hf rfl rfl rfl (fun a hf => ?_)
        refine S.skip hf rfl rfl rfl (fun a hf => ?_)
        refine S.skip hf rfl rfl rfl (fun a hf => ?_)
        refine S.val hf hs (v := .bool true) rfl rfl rfl (V.pure rfl) (fun a hf => ?_)
        refine R.nil ?_
        refine X.then_ ?_
        exact ⟨true, h, (((((hf.nil.cons (hf.get 36 _ rfl)).cons (hf.get 3 _ rfl)).cons (hf.get 2 _ rfl)).cons (hf.get 1 _ rfl)).cons (hf.get 0 _ rfl)), hs⟩
      · replace h := h.2 hc
        refine S.val hf hs (v := .int .i64 target) rfl rfl rfl (V.pure rfl) (fun a hf => ?_)
        refine S.callv hf rfl rfl rfl (call_fn (vs := [.int .i64 target, .int .i64 0, .int .i64 1000000]) rfl rfl rfl Try.call59) (C_ref4_within target 0 1000000 _ ) (fun a w hf hs' => ?_)
        replace hs := hs.call hs'; clear hs'
        refine S.val hf hs (v := .bool (!(within target 0 1000000))) rfl rfl rfl (V.pure rfl) (fun a hf => ?_)
        refine S.val hf hs (v := .bool (!(within target 0 1000000))) rfl rfl rfl (V.pure rfl) (fun a hf => ?_)
        refine R.nil ?_
        refine X.then_ ?_
        exact ⟨(!(within target 0 1000000)), h, (((((hf.nil.cons (hf.get 36 _ rfl)).cons (hf.get 3 _ rfl)).cons (hf.get 2 _ rfl)).cons (hf.get 1 _ rfl)).cons (hf.get 0 _ rfl)), hs⟩

set_option linter.unusedVariables false
def M_equal_int_L1 (s2 : (List Int)) (Q : Bool → Prop) (k1 : Nat) (xk1 : Int)  (next1 : Prop) : Prop :=
  idx s2 (k1 : Int) fun x1 => cnd (xk1 != x1) (Q false) (next1)
def M_equal_int (s1 : (List Int)) (s2 : (List Int)) (Q : Bool → Prop) : Prop :=
  cnd ((s1.length : Int) != (s2.length : Int)) (Q false) (forIn' (fun k x (s : Unit) next => M_equal_int_L1 s2 Q k x (next ())) (fun (s : Unit) => Q true) s1 0 ())
set_option maxHeartbeats 1000000 in
theorem R_equal_int (s1 : (List Int)) (s2 : (List Int)) (w0 : World) (s1A : Option Addr) (s1C : Nat) (hv_s1 : View w0 (old w0 none_) s1A s1C s1) (s2A : Option Addr) (s2C : Nat) (hv_s2 : View w0 (old w0 none_) s2A s2C s2) (Q : Bool → Prop) (h : M_equal_int s1 s2 Q) :
    Ret Try.prog 37 #[.slice s1A s1.length s1C, .slice s2A s2.length s2C] w0 fun v w' => ∃ (r0 : Bool), v = .bool r0 ∧ Q r0 ∧ Sat w0 none_ [] w' := by
  refine fn_enter Try.func37 rfl Try.ntmps37 rfl (fs := [(0, .slice s1A s1.length s1C), (1, .slice s2A s2.length s2C)]) rfl (fun a hf => ?_)
  have hs := Sat.start w0 none_
  unfold M_equal_int at h
  refine wp_seq ?_
  refine R.list ?_
  refine S.val hf hs (v := .bool false) rfl rfl rfl (V.pure rfl) (fun a hf => ?_)
  refine R.nil ?_
  refine X.then_ ?_
  refine wp_seq ?_
  refine wp_seq ?_
  refine R.list ?_
  refine S.val hf hs (v := .slice s1A s1.length s1C) rfl rfl rfl (V.pure rfl) (fun a hf => ?_)
  refine S.val hf hs (v := .int .i64 (s1.length : Int)) rfl rfl rfl (V.len rfl rfl Try.runUnderlying43) (fun a hf => ?_)
  refine S.val hf hs (v := .slice s2A s2.length s2C) rfl rfl rfl (V.pure rfl) (fun a hf => ?_)
  refine S.val hf hs (v := .int .i64 (s2.length : Int)) rfl rfl rfl (V.len rfl rfl Try.runUnderlying43) (fun a hf => ?_)
  refine S.val hf hs (v := .bool ((s1.length : Int) != (s2.length : Int))) rfl rfl rfl (V.pure rfl) (fun a hf => ?_)
  refine R.nil ?_
  refine X.then_ ?_
  refine C.cond hf (b := (s1.length : Int) != (s2.length : Int)) rfl (fun hc => ?_) (fun hc => ?_)
  · replace h := h.1 hc
    refine wp_seq ?_
    refine R.list ?_
    refine S.val hf hs (v := .bool false) rfl rfl rfl (V.pure rfl) (fun a hf => ?_)
    refine R.nil ?_
    refine X.then_ ?_
    refine wp_ret ?_
    refine X.then_ret ?_
    exact L.ret hf (run_results1 Try.results37 (ResIs.tmp hf rfl)) ⟨false, rfl, h, hs.nil⟩
  · replace h := h.2 hc
    refine wp_skip ?_
    refine X.then_ ?_
    refine wp_seq ?_
    refine wp_seq ?_
    refine R.list ?_
    refine S.val hf hs (v := .slice s1A s1.length s1C) rfl rfl rfl (V.pure rfl) (fun a hf => ?_)
    refine S.val hf hs (v := .int .i64 (s1.length : Int)) rfl rfl rfl (V.len rfl rfl Try.runUnderlying43) (fun a hf => ?_)
    refine S.val hf hs (v := .int .i64 0) rfl rfl rfl (V.pure rfl) (fun a hf => ?_)
    refine R.nil ?_
    refine X.then_ ?_
    refine wp_block ?_
    have hlenk1 := hv_s1.len64
    refine C.range (fun (ll : List Int) a w => ∃ (k1 : Nat) , s1.drop k1 = ll ∧ k1 + ll.length = s1.length ∧ forIn' (fun k x (s : Unit) next => M_equal_int_L1 s2 Q k x (next ())) (fun (s : Unit) => Q true) ll k1 () ∧ FrOk 26 [(13, .int .i64 (k1 : Int)), (0, .slice s1A s1.length s1C), (1, .slice s2A s2.length s2C), (12, .int .i64 (s1.length : Int))] a ∧ Sat w0 none_ [] w) s1 ⟨0, rfl, Nat.zero_add _, h, ((((hf.nil.cons (hf.get 12 _ rfl)).cons (hf.get 1 _ rfl)).cons (hf.get 0 _ rfl)).cons (hf.get 13 _ rfl)), hs⟩ ?_
    clear h hf hs
    rintro llk1 a w ⟨k1, hlk1, hkk1, h, hf, hs⟩
    cases llk1 with
    | nil =>
      have hc := range_done hkk1
      replace h : Q true := h
      refine wp_seq ?_
      refine R.list ?_
      refine S.val hf hs (v := .bool false) rfl rfl rfl (V.cmp false rfl rfl rfl rfl hc) (fun a hf => ?_)
      refine R.nil ?_
      refine X.then_ ?_
      refine wp_seq ?_
      refine C.no hf rfl ?_
      refine wp_exit ?_
      refine X.then_exit ?_
      refine X.then_exit ?_
      refine X.blk_exit ?_
      refine X.then_ ?_
      refine wp_seq ?_
      refine R.list ?_
      refine S.val hf hs (v := .bool true) rfl rfl rfl (V.pure rfl) (fun a hf => ?_)
      refine R.nil ?_
      refine X.then_ ?_
      refine wp_ret ?_
      exact L.ret hf (run_results1 Try.results37 (ResIs.tmp hf rfl)) ⟨true, rfl, h, hs.nil⟩
    | cons xk1 llk1 =>
      have hltk1 := range_lt hkk1; have hc := range_go hkk1; have hxk1 := range_get hlk1
      obtain ⟨next1, hnext1⟩ : ∃ X : Prop, X = (forIn' (fun k x (s : Unit) next => M_equal_int_L1 s2 Q k x (next ())) (fun (s : Unit) => Q true) llk1 (k1 + 1) ()) := ⟨_, rfl⟩
      replace h : M_equal_int_L1 s2 Q k1 xk1  next1 := by rw [hnext1]; exact h
      unfold M_equal_int_L1 at h
      refine wp_seq ?_
      refine R.list ?_
      refine S.val hf hs (v := .bool true) rfl rfl rfl (V.cmp true rfl rfl rfl rfl hc) (fun a hf => ?_)
      refine R.nil ?_
      refine X.then_ ?_
      refine wp_seq ?_
      refine C.yes hf rfl ?_
      refine wp_skip ?_
      refine X.then_ ?_
      refine wp_seq ?_
      refine wp_block ?_
      refine wp_seq ?_
      refine R.list ?_
      refine S.val hf hs (v := .int .i64 (k1 : Int)) rfl rfl rfl (V.pure rfl) (fun a hf => ?_)
      refine S.val hf hs (v := .int .i64 (k1 : Int)) rfl rfl rfl (V.pure rfl) (fun a hf => ?_)
      refine R.nil ?_
      refine X.then_ ?_
      refine wp_seq ?_
      refine R.draw mo (by kernel_rfl) hs ?_
      refine D.val hf (v := .slice s1A s1.length s1C) rfl rfl rfl (V.pure rfl) (fun a hf => ?_)
      refine D.val hf (v := .int .i64 (k1 : Int)) rfl rfl rfl (V.pure rfl) (fun a hf => ?_)
      refine D.val hf (v := elemPtr s1A (k1 * 1)) rfl rfl rfl (V.index rfl rfl rfl Try.runUnderlying43 Try.sizeOf3 (hv_s1.some_ (lt_of_get hxk1)) (Int.natCast_nonneg _) (lt_of_get hxk1) rfl) (fun a hf => ?_)
      refine D.val hf (v := .int .i64 xk1) rfl rfl rfl (V.loadEl (off := 0) (Ag.args _ _ _) (hv_s1.flat hxk1) rfl rfl rfl Try.isAgg3 Try.sizeOf3 rfl rfl) (fun a hf => ?_)
      refine D.val hf (v := .slice s2A s2.length s2C) rfl rfl rfl (V.pure rfl) (fun a hf => ?_)
      refine D.val hf (v := .int .i64 (k1 : Int)) rfl rfl rfl (V.pure rfl) (fun a hf => ?_)
      obtain ⟨h0x1, x1, hx1, h⟩ := h
      refine D.val hf (v := elemPtr s2A (k1 * 1)) rfl rfl rfl (V.index rfl rfl rfl Try.runUnderlying43 Try.sizeOf3 (hv_s2.some_ (lt_of_get hx1)) (Int.natCast_nonneg _) (lt_of_get hx1) rfl) (fun a hf => ?_)
      refine D.val hf (v := .int .i64 x1) rfl rfl rfl (V.loadEl (off := 0) (Ag.args _ _ _) (hv_s2.flat hx1) rfl rfl rfl Try.isAgg3 Try.sizeOf3 rfl rfl) (fun a hf => ?_)
      refine D.val hf (v := .bool (xk1 != x1)) rfl rfl rfl (V.pure rfl) (fun a hf => ?_)
      refine D.done (fun w hs => ?_)
      refine X.then_ ?_
      refine C.cond hf (b := xk1 != x1) rfl (fun hc => ?_) (fun hc => ?_)
      · replace h := h.1 hc
        refine wp_seq ?_
        refine R.list ?_
        refine S.val hf hs (v := .bool false) rfl rfl rfl (V.pure rfl) (fun a hf => ?_)
        refine R.nil ?_
        refine X.then_ ?_
        refine wp_ret ?_
        refine X.blk_ret ?_
        refine X.then_ret ?_
        refine X.then_ret ?_
        refine X.blk_ret ?_
        refine X.then_ret ?_
        exact L.ret hf (run_results1 Try.results37 (ResIs.tmp hf rfl)) ⟨false, rfl, h, hs.nil⟩
      · replace h := h.2 hc
        refine wp_skip ?_
        refine X.blk ?_
        refine X.then_ ?_
        refine R.list ?_
        refine S.val hf hs (v := .int .i64 ((k1 + 1 : Nat) : Int)) rfl rfl rfl (V.incr rfl rfl rfl hltk1 hlenk1) (fun a hf => ?_)
        refine S.val hf hs (v := .int .i64 ((k1 + 1 : Nat) : Int)) rfl rfl rfl (V.pure rfl) (fun a hf => ?_)
        refine R.nil ?_
        refine X.then_ ?_
        exact ⟨xk1, llk1, rfl, k1 + 1, range_drop hlk1, range_len hkk1, (by rw [hnext1] at h; exact h), ((((hf.nil.cons (hf.get 12 _ rfl)).cons (hf.get 1 _ rfl)).cons (hf.get 0 _ rfl)).cons (hf.get 13 _ rfl)), hs⟩

set_option linter.unusedVariables false
def M_law_NearestMatches (m : (List Material)) (s_ : (List Layer)) (most : Int) (target : Int) (Q : Bool → Prop) : Prop :=
  M_stack_Nearest m s_ most target fun y1 y2 y3 => M_ref4_Nearest m s_ most target fun y4 y5 y6 => cnd (y3 == y6) (cnd (y2 == y5) (M_equal_int y1 y4 fun y7 => cnd y7 (M_awake  fun y8 => Q y8) (Q false)) (Q false)) (Q false)
set_option maxHeartbeats 1000000 in
theorem R_law_NearestMatches (m : (List Material)) (s_ : (List Layer)) (most : Int) (target : Int) (w0 : World) (mA : Option Addr) (mC : Nat) (hv_m : View w0 (old w0 none_) mA mC m) (s_A : Option Addr) (s_C : Nat) (hv_s_ : View w0 (old w0 none_) s_A s_C s_) (Q : Bool → Prop) (h : M_law_NearestMatches m s_ most target Q) :
    Ret Try.prog 8 #[.slice mA m.length mC, .slice s_A s_.length s_C, .int .i64 most, .int .i64 target] w0 fun v w' => ∃ (r0 : Bool), v = .bool r0 ∧ Q r0 ∧ Sat w0 none_ [] w' := by
  refine fn_enter Try.func8 rfl Try.ntmps8 rfl (fs := [(0, .slice mA m.length mC), (1, .slice s_A s_.length s_C), (2, .int .i64 most), (3, .int .i64 target)]) rfl (fun a hf => ?_)
  have hs := Sat.start w0 none_
  unfold M_law_NearestMatches at h
  refine wp_seq ?_
  refine R.list ?_
  refine S.val hf hs (v := .bool false) rfl rfl rfl (V.pure rfl) (fun a hf => ?_)
  refine R.nil ?_
  refine X.then_ ?_
  refine wp_seq ?_
  refine R.list ?_
  refine S.val hf hs (v := .slice mA m.length mC) rfl rfl rfl (V.pure rfl) (fun a hf => ?_)
  refine S.val hf hs (v := .slice s_A s_.length s_C) rfl rfl rfl (V.pure rfl) (fun a hf => ?_)
  refine S.val hf hs (v := .int .i64 most) rfl rfl rfl (V.pure rfl) (fun a hf => ?_)
  refine S.val hf hs (v := .int .i64 target) rfl rfl rfl (V.pure rfl) (fun a hf => ?_)
  refine S.call hf rfl rfl rfl (call_fn (vs := [.slice mA m.length mC, .slice s_A s_.length s_C, .int .i64 most, .int .i64 target]) rfl rfl rfl Try.call32) (R_stack_Nearest m s_ most target _ mA mC ((Ag.args _ _ _).view hv_m hs) s_A s_C ((Ag.args _ _ _).view hv_s_ hs) _ h) (fun v a w' hf hr => ?_)
  obtain ⟨y1, y1A, y1C, y2, y3, rfl, h2, hs2⟩ := hr
  replace h := h2; replace hs := hs.call hs2; clear h2 hs2
  refine S.val hf hs (v := .tuple #[.slice y1A y1.length y1C, .int .i64 y2, .int .i64 y3]) rfl rfl rfl (V.pure rfl) (fun a hf => ?_)
  refine S.val hf hs (v := .slice y1A y1.length y1C) rfl rfl rfl (V.pure rfl) (fun a hf => ?_)
  refine S.val hf hs (v := .int .i64 y2) rfl rfl rfl (V.pure rfl) (fun a hf => ?_)
  refine S.val hf hs (v := .int .i64 y3) rfl rfl rfl (V.pure rfl) (fun a hf => ?_)
  refine S.val hf hs (v := .slice y1A y1.length y1C) rfl rfl rfl (V.pure rfl) (fun a hf => ?_)
  refine S.val hf hs (v := .int .i64 y2) rfl rfl rfl (V.pure rfl) (fun a hf => ?_)
  refine S.val hf hs (v := .int .i64 y3) rfl rfl rfl (V.pure rfl) (fun a hf => ?_)
  refine R.nil ?_
  refine X.then_ ?_
  refine wp_seq ?_
  refine R.list ?_
  refine S.val hf hs (v := .slice mA m.length mC) rfl rfl rfl (V.pure rfl) (fun a hf => ?_)
  refine S.val hf hs (v := .slice s_A s_.length s_C) rfl rfl rfl (V.pure rfl) (fun a hf => ?_)
  refine S.val hf hs (v := .int .i64 most) rfl rfl rfl (V.pure rfl) (fun a hf => ?_)
  refine S.val hf hs (v := .int .i64 target) rfl rfl rfl (V.pure rfl) (fun a hf => ?_)
  refine S.call hf rfl rfl rfl (call_fn (vs := [.slice mA m.length mC, .slice s_A s_.length s_C, .int .i64 most, .int .i64 target]) rfl rfl rfl Try.call36) (R_ref4_Nearest m s_ most target _ mA mC ((Ag.args _ _ _).view hv_m hs) s_A s_C ((Ag.args _ _ _).view hv_s_ hs) _ h) (fun v a w' hf hr => ?_)
  obtain ⟨y4, y4A, y4C, y5, y6, rfl, h2, hs2⟩ := hr
  replace h := h2; replace hs := hs.call hs2; clear h2 hs2
  refine S.val hf hs (v := .tuple #[.slice y4A y4.length y4C, .int .i64 y5, .int .i64 y6]) rfl rfl rfl (V.pure rfl) (fun a hf => ?_)
  refine S.val hf hs (v := .slice y4A y4.length y4C) rfl rfl rfl (V.pure rfl) (fun a hf => ?_)
  refine S.val hf hs (v := .int .i64 y5) rfl rfl rfl (V.pure rfl) (fun a hf => ?_)
  refine S.val hf hs (v := .int .i64 y6) rfl rfl rfl (V.pure rfl) (fun a hf => ?_)
  refine S.val hf hs (v := .slice y4A y4.length y4C) rfl rfl rfl (V.pure rfl) (fun a hf => ?_)
  refine S.val hf hs (v := .int .i64 y5) rfl rfl rfl (V.pure rfl) (fun a hf => ?_)
  refine S.val hf hs (v := .int .i64 y6) rfl rfl rfl (V.pure rfl) (fun a hf => ?_)
  refine R.nil ?_
  refine X.then_ ?_
  refine wp_seq ?_
  refine R.list ?_
  refine S.val hf hs (v := .int .i64 y3) rfl rfl rfl (V.pure rfl) (fun a hf => ?_)
  refine S.val hf hs (v := .int .i64 y6) rfl rfl rfl (V.pure rfl) (fun a hf => ?_)
  refine S.val hf hs (v := .bool (y3 == y6)) rfl rfl rfl (V.pure rfl) (fun a hf => ?_)
  refine S.split hf hs (b := y3 == y6) rfl rfl rfl (V.pure rfl) (fun hc a hf => ?_) (fun hc a hf => ?_)
  · replace h := h.1 hc
    refine S.val hf hs (v := .int .i64 y2) rfl rfl rfl (V.pure rfl) (fun a hf => ?_)
    refine S.val hf hs (v := .int .i64 y5) rfl rfl rfl (V.pure rfl) (fun a hf => ?_)
    refine S.val hf hs (v := .bool (y2 == y5)) rfl rfl rfl (V.pure rfl) (fun a hf => ?_)
    refine S.val hf hs (v := .bool (y2 == y5)) rfl rfl rfl (V.pure rfl) (fun a hf => ?_)
    refine S.split hf hs (b := y2 == y5) rfl rfl rfl (V.pure rfl) (fun hc a hf => ?_) (fun hc a hf => ?_)
    · replace h := h.1 hc
      refine S.val hf hs (v := .slice y1A y1.length y1C) rfl rfl rfl (V.pure rfl) (fun a hf => ?_)
      refine S.val hf hs (v := .slice y4A y4.length y4C) rfl rfl rfl (V.pure rfl) (fun a hf => ?_)
      refine S.call hf rfl rfl rfl (call_fn (vs := [.slice y1A y1.length y1C, .slice y4A y4.length y4C]) rfl rfl rfl Try.call37) (R_equal_int y1 y4 _ y1A y1C (hs.ownView 1 rfl) y4A y4C (hs.ownView 0 rfl) _ h) (fun v a w' hf hr => ?_)
      obtain ⟨y7, rfl, h2, hs2⟩ := hr
      replace h := h2; replace hs := hs.call hs2; clear h2 hs2
      refine S.val hf hs (v := .bool y7) rfl rfl rfl (V.pure rfl) (fun a hf => ?_)
      refine S.split hf hs (b := y7) rfl rfl rfl (V.pure rfl) (fun hc a hf => ?_) (fun hc a hf => ?_)
      · replace h := h.1 hc
        refine S.call hf rfl rfl rfl (call_fn (vs := []) rfl rfl rfl Try.call20) (R_awake  _  _ h) (fun v a w' hf hr => ?_)
        obtain ⟨y8, rfl, h2, hs2⟩ := hr
        replace h := h2; replace hs := hs.call hs2; clear h2 hs2
        refine S.val hf hs (v := .bool y8) rfl rfl rfl (V.pure rfl) (fun a hf => ?_)
        refine S.val hf hs (v := .bool y8) rfl rfl rfl (V.pure rfl) (fun a hf => ?_)
        refine R.nil ?_
        refine X.then_ ?_
        refine wp_ret ?_
        exact L.ret hf (run_results1 Try.results8 (ResIs.tmp hf rfl)) ⟨y8, rfl, h, hs.nil⟩
      · replace h := h.2 hc
        refine S.skip hf rfl rfl rfl (fun a hf => ?_)
        refine S.val hf hs (v := .bool false) rfl rfl rfl (V.pure rfl) (fun a hf => ?_)
        refine S.val hf hs (v := .bool false) rfl rfl rfl (V.pure rfl) (fun a hf => ?_)
        refine R.nil ?_
        refine X.then_ ?_
        refine wp_ret ?_
        exact L.ret hf (run_results1 Try.results8 (ResIs.tmp hf rfl)) ⟨false, rfl, h, hs.nil⟩
    · replace h := h.2 hc
      refine S.skip hf rfl rfl rfl (fun a hf => ?_)
      refine S.skip hf rfl rfl rfl (fun a hf => ?_)
      refine S.skip hf rfl rfl rfl (fun a hf => ?_)
      refine S.val hf hs (v := .bool false) rfl rfl rfl (V.pure rfl) (fun a hf => ?_)
      refine S.val hf hs (v := .bool false) rfl rfl rfl (V.pure rfl) (fun a hf => ?_)
      refine S.skip hf rfl rfl rfl (fun a hf => ?_)
      refine S.val hf hs (v := .bool false) rfl rfl rfl (V.pure rfl) (fun a hf => ?_)
      refine S.val hf hs (v := .bool false) rfl rfl rfl (V.pure rfl) (fun a hf => ?_)
      refine R.nil ?_
      refine X.then_ ?_
      refine wp_ret ?_
      exact L.ret hf (run_results1 Try.results8 (ResIs.tmp hf rfl)) ⟨false, rfl, h, hs.nil⟩
  · replace h := h.2 hc
    refine S.skip hf rfl rfl rfl (fun a hf => ?_)
    refine S.skip hf rfl rfl rfl (fun a hf => ?_)
    refine S.skip hf rfl rfl rfl (fun a hf => ?_)
    refine S.val hf hs (v := .bool false) rfl rfl rfl (V.pure rfl) (fun a hf => ?_)
    refine S.val hf hs (v := .bool false) rfl rfl rfl (V.pure rfl) (fun a hf => ?_)
    refine S.skip hf rfl rfl rfl (fun a hf => ?_)
    refine S.skip hf rfl rfl rfl (fun a hf => ?_)
    refine S.skip hf rfl rfl rfl (fun a hf => ?_)
    refine S.val hf hs (v := .bool false) rfl rfl rfl (V.pure rfl) (fun a hf => ?_)
    refine S.val hf hs (v := .bool false) rfl rfl rfl (V.pure rfl) (fun a hf => ?_)
    refine S.skip hf rfl rfl rfl (fun a hf => ?_)
    refine S.val hf hs (v := .bool false) rfl rfl rfl (V.pure rfl) (fun a hf => ?_)
    refine S.val hf hs (v := .bool false) rfl rfl rfl (V.pure rfl) (fun a hf => ?_)
    refine R.nil ?_
    refine X.then_ ?_
    refine wp_ret ?_
    exact L.ret hf (run_results1 Try.results8 (ResIs.tmp hf rfl)) ⟨false, rfl, h, hs.nil⟩

set_option linter.unusedVariables false
def M_ref4_WithSheets_L1 (l : (List Int)) (k1 : Nat) (xk1 : Int) (n2 : Int) (next1 : Int → Prop) : Prop :=
  idx l (k1 : Int) fun x1 => next1 (w64 (n2 + (w64 (xk1 * x1))))
def M_ref4_WithSheets (m : (List Material)) (s_ : (List Layer)) (l : (List Int)) (Q : Int → Bool → Prop) : Prop :=
  M_ref4_glues m s_ fun y1 y2 => cnd ((y1.length : Int) != (l.length : Int)) (Q 0 false) (forIn' (fun k x (s : Int) next => M_ref4_WithSheets_L1 l k x s (fun n2 => next n2)) (fun (s : Int) => (fun (n2 : Int) => Q n2 true) s) y1 0 y2)
set_option maxHeartbeats 1000000 in
theorem R_ref4_WithSheets (m : (List Material)) (s_ : (List Layer)) (l : (List Int)) (w0 : World) (mA : Option Addr) (mC : Nat) (hv_m : View w0 (old w0 none_) mA mC m) (s_A : Option Addr) (s_C : Nat) (hv_s_ : View w0 (old w0 none_) s_A s_C s_) (lA : Option Addr) (lC : Nat) (hv_l : View w0 (old w0 none_) lA lC l) (Q : Int → Bool → Prop) (h : M_ref4_WithSheets m s_ l Q) :
    Ret Try.prog 33 #[.slice mA m.length mC, .slice s_A s_.length s_C, .slice lA l.length lC] w0 fun v w' => ∃ (r0 : Int) (r1 : Bool), v = .tuple #[.int .i64 r0, .bool r1] ∧ Q r0 r1 ∧ Sat w0 none_ [] w' := by
  refine fn_enter Try.func33 rfl Try.ntmps33 rfl (fs := [(0, .slice mA m.length mC), (1, .slice s_A s_.length s_C), (2, .slice lA l.length lC)]) rfl (fun a hf => ?_)
  have hs := Sat.start w0 none_
  unfold M_ref4_WithSheets at h
  refine wp_seq ?_
  refine R.list ?_
  refine S.val hf hs (v := .int .i64 0) rfl rfl rfl (V.pure rfl) (fun a hf => ?_)
  refine S.val hf hs (v := .bool false) rfl rfl rfl (V.pure rfl) (fun a hf => ?_)
  refine R.nil ?_
  refine X.then_ ?_
  refine wp_seq ?_
  refine R.list ?_
  refine S.val hf hs (v := .slice mA m.length mC) rfl rfl rfl (V.pure rfl) (fun a hf => ?_)
  refine S.val hf hs (v := .slice s_A s_.length s_C) rfl rfl rfl (V.pure rfl) (fun a hf => ?_)
  refine S.call hf rfl rfl rfl (call_fn (vs := [.slice mA m.length mC, .slice s_A s_.length s_C]) rfl rfl rfl Try.call73) (R_ref4_glues m s_ _ mA mC ((Ag.args _ _ _).view hv_m hs) s_A s_C ((Ag.args _ _ _).view hv_s_ hs) _ h) (fun v a w' hf hr => ?_)
  obtain ⟨y1, y1A, y1C, y2, rfl, h2, hs2⟩ := hr
  replace h := h2; replace hs := hs.call hs2; clear h2 hs2
  refine S.val hf hs (v := .tuple #[.slice y1A y1.length y1C, .int .i64 y2]) rfl rfl rfl (V.pure rfl) (fun a hf => ?_)
  refine S.val hf hs (v := .slice y1A y1.length y1C) rfl rfl rfl (V.pure rfl) (fun a hf => ?_)
  refine S.val hf hs (v := .int .i64 y2) rfl rfl rfl (V.pure rfl) (fun a hf => ?_)
  refine S.val hf hs (v := .slice y1A y1.length y1C) rfl rfl rfl (V.pure rfl) (fun a hf => ?_)
  refine S.val hf hs (v := .int .i64 y2) rfl rfl rfl (V.pure rfl) (fun a hf => ?_)
  refine R.nil ?_
  refine X.then_ ?_
  refine wp_seq ?_
  refine wp_seq ?_
  refine R.list ?_
  refine S.val hf hs (v := .slice y1A y1.length y1C) rfl rfl rfl (V.pure rfl) (fun a hf => ?_)
  refine S.val hf hs (v := .int .i64 (y1.length : Int)) rfl rfl rfl (V.len rfl rfl Try.runUnderlying43) (fun a hf => ?_)
  refine S.val hf hs (v := .slice lA l.length lC) rfl rfl rfl (V.pure rfl) (fun a hf => ?_)
  refine S.val hf hs (v := .int .i64 (l.length : Int)) rfl rfl rfl (V.len rfl rfl Try.runUnderlying43) (fun a hf => ?_)
  refine S.val hf hs (v := .bool ((y1.length : Int) != (l.length : Int))) rfl rfl rfl (V.pure rfl) (fun a hf => ?_)
  refine R.nil ?_
  refine X.then_ ?_
  refine C.cond hf (b := (y1.length : Int) != (l.length : Int)) rfl (fun hc => ?_) (fun hc => ?_)
  · replace h := h.1 hc
    refine wp_seq ?_
    refine R.list ?_
    refine S.val hf hs (v := .int .i64 0) rfl rfl rfl (V.pure rfl) (fun a hf => ?_)
    refine S.val hf hs (v := .bool false) rfl rfl rfl (V.pure rfl) (fun a hf => ?_)
    refine R.nil ?_
    refine X.then_ ?_
    refine wp_ret ?_
    refine X.then_ret ?_
    exact L.ret hf (run_results2 Try.results33 (ResIs.tmp hf rfl) (ResIs.tmp hf rfl)) ⟨0, false, rfl, h, hs.nil⟩
  · replace h := h.2 hc
    refine wp_skip ?_
    refine X.then_ ?_
    refine wp_seq ?_
    refine wp_seq ?_
    refine R.list ?_
    refine S.val hf hs (v := .slice y1A y1.length y1C) rfl rfl rfl (V.pure rfl) (fun a hf => ?_)
    refine S.val hf hs (v := .int .i64 (y1.length : Int)) rfl rfl rfl (V.len rfl rfl Try.runUnderlying43) (fun a hf => ?_)
    refine S.val hf hs (v := .int .i64 0) rfl rfl rfl (V.pure rfl) (fun a hf => ?_)
    refine R.nil ?_
    refine X.then_ ?_
    refine wp_block ?_
    have hlenk1 := (hs.ownView 0 rfl).len64
    refine C.range (fun (ll : List Int) a w => ∃ (k1 : Nat) (n2 : Int), y1.drop k1 = ll ∧ k1 + ll.length = y1.length ∧ forIn' (fun k x (s : Int) next => M_ref4_WithSheets_L1 l k x s (fun n2 => next n2)) (fun (s : Int) => (fun (n2 : Int) => Q n2 true) s) ll k1 n2 ∧ FrOk 40 [(25, .int .i64 (k1 : Int)), (2, .slice lA l.length lC), (9, .int .i64 n2), (23, .slice y1A y1.length y1C), (24, .int .i64 (y1.length : Int))] a ∧ Sat w0 none_ [hown 3 y1A y1C y1] w) y1 ⟨0, y2, rfl, Nat.zero_add _, h, (((((hf.nil.cons (hf.get 24 _ rfl)).cons (hf.get 23 _ rfl)).cons (hf.get 9 _ rfl)).cons (hf.get 2 _ rfl)).cons (hf.get 25 _ rfl)), hs⟩ ?_
    clear h hf hs
    rintro llk1 a w ⟨k1, n2, hlk1, hkk1, h, hf, hs⟩
    cases llk1 with
    | nil =>
      have hc := range_done hkk1
      replace h : (fun (n2 : Int) => Q n2 true) n2 := h
      refine wp_seq ?_
      refine R.list ?_
      refine S.val hf hs (v := .bool false) rfl rfl rfl (V.cmp false rfl rfl rfl rfl hc) (fun a hf => ?_)
      refine R.nil ?_
      refine X.then_ ?_
      refine wp_seq ?_
      refine C.no hf rfl ?_
      refine wp_exit ?_
      refine X.then_exit ?_
      refine X.then_exit ?_
      refine X.blk_exit ?_
      refine X.then_ ?_
      refine wp_seq ?_
      refine R.list ?_
      refine S.val hf hs (v := .int .i64 n2) rfl rfl rfl (V.pure rfl) (fun a hf => ?_)
      refine S.val hf hs (v := .int .i64 n2) rfl rfl rfl (V.pure rfl) (fun a hf => ?_)
      refine S.val hf hs (v := .bool true) rfl rfl rfl (V.pure rfl) (fun a hf => ?_)
      refine R.nil ?_
      refine X.then_ ?_
      refine wp_ret ?_
      exact L.ret hf (run_results2 Try.results33 (ResIs.tmp hf rfl) (ResIs.tmp hf rfl)) ⟨n2, true, rfl, h, hs.nil⟩
    | cons xk1 llk1 =>
      have hltk1 := range_lt hkk1; have hc := range_go hkk1; have hxk1 := range_get hlk1
      obtain ⟨next1, hnext1⟩ : ∃ X : Int → Prop, X = (fun n2 => forIn' (fun k x (s : Int) next => M_ref4_WithSheets_L1 l k x s (fun n2 => next n2)) (fun (s : Int) => (fun (n2 : Int) => Q n2 true) s) llk1 (k1 + 1) n2) := ⟨_, rfl⟩
      replace h : M_ref4_WithSheets_L1 l k1 xk1 n2 next1 := by rw [hnext1]; exact h
      unfold M_ref4_WithSheets_L1 at h
      refine wp_seq ?_
      refine R.list ?_
      refine S.val hf hs (v := .bool true) rfl rfl rfl (V.cmp true rfl rfl rfl rfl hc) (fun a hf => ?_)
      refine R.nil ?_
      refine X.then_ ?_
      refine wp_seq ?_
      refine C.yes hf rfl ?_
      refine wp_skip ?_
      refine X.then_ ?_
      refine wp_seq ?_
      refine wp_block ?_
      refine wp_seq ?_
      refine R.list ?_
      refine S.val hf hs (v := .int .i64 (k1 : Int)) rfl rfl rfl (V.pure rfl) (fun a hf => ?_)
      refine S.val hf hs (v := elemPtr y1A (k1 * 1)) rfl rfl rfl (V.index rfl rfl rfl Try.runUnderlying43 Try.sizeOf3 (hs.ownSome 0 rfl (lt_of_get hxk1)) (Int.natCast_nonneg _) (lt_of_get hxk1) rfl) (fun a hf => ?_)
      refine S.val hf hs (v := .int .i64 xk1) rfl rfl rfl (V.loadOwn (off := 0) 0 rfl hxk1 rfl rfl rfl Try.isAgg3 Try.sizeOf3 rfl rfl) (fun a hf => ?_)
      refine S.val hf hs (v := .int .i64 (k1 : Int)) rfl rfl rfl (V.pure rfl) (fun a hf => ?_)
      refine S.val hf hs (v := .int .i64 xk1) rfl rfl rfl (V.pure rfl) (fun a hf => ?_)
      refine R.nil ?_
      refine X.then_ ?_
      refine R.list ?_
      refine S.val hf hs (v := .int .i64 n2) rfl rfl rfl (V.pure rfl) (fun a hf => ?_)
      refine S.val hf hs (v := .int .i64 xk1) rfl rfl rfl (V.pure rfl) (fun a hf => ?_)
      refine S.val hf hs (v := .slice lA l.length lC) rfl rfl rfl (V.pure rfl) (fun a hf => ?_)
      refine S.val hf hs (v := .int .i64 (k1 : Int)) rfl rfl rfl (V.pure rfl) (fun a hf => ?_)
      obtain ⟨h0x1, x1, hx1, h⟩ := h
      refine S.val hf hs (v := elemPtr lA (k1 * 1)) rfl rfl rfl (V.index rfl rfl rfl Try.runUnderlying43 Try.sizeOf3 (hv_l.some_ (lt_of_get hx1)) (Int.natCast_nonneg _) (lt_of_get hx1) rfl) (fun a hf => ?_)
      refine S.val hf hs (v := .int .i64 x1) rfl rfl rfl (V.loadEl (off := 0) (Ag.args _ _ _) (hv_l.flat hx1) rfl rfl rfl Try.isAgg3 Try.sizeOf3 rfl rfl) (fun a hf => ?_)
      refine S.val hf hs (v := .int .i64 (w64 (xk1 * x1))) rfl rfl rfl (V.pure rfl) (fun a hf => ?_)
      refine S.val hf hs (v := .int .i64 (w64 (n2 + (w64 (xk1 * x1))))) rfl rfl rfl (V.pure rfl) (fun a hf => ?_)
      refine S.val hf hs (v := .int .i64 (w64 (n2 + (w64 (xk1 * x1))))) rfl rfl rfl (V.pure rfl) (fun a hf => ?_)
      refine R.nil ?_
      refine X.blk ?_
      refine X.then_ ?_
      refine R.list ?_
      refine S.val hf hs (v := .int .i64 ((k1 + 1 : Nat) : Int)) rfl rfl rfl (V.incr rfl rfl rfl hltk1 hlenk1) (fun a hf => ?_)
      refine S.val hf hs (v := .int .i64 ((k1 + 1 : Nat) : Int)) rfl rfl rfl (V.pure rfl) (fun a hf => ?_)
      refine R.nil ?_
      refine X.then_ ?_
      exact ⟨xk1, llk1, rfl, k1 + 1, (w64 (n2 + (w64 (xk1 * x1)))), range_drop hlk1, range_len hkk1, (by rw [hnext1] at h; exact h), (((((hf.nil.cons (hf.get 24 _ rfl)).cons (hf.get 23 _ rfl)).cons (hf.get 9 _ rfl)).cons (hf.get 2 _ rfl)).cons (hf.get 25 _ rfl)), hs⟩

set_option linter.unusedVariables false
def M_ref4_Below (n : Int) (most : Int) (Q : Int → Prop) : Prop :=
  must (most ≠ 0) (cnd (decide (n.tmod most < 0)) (Q (w64 ((n.tmod most) + most))) (Q (n.tmod most)))
set_option maxHeartbeats 1000000 in
theorem R_ref4_Below (n : Int) (most : Int) (w0 : World)  (Q : Int → Prop) (h : M_ref4_Below n most Q) :
    Ret Try.prog 34 #[.int .i64 n, .int .i64 most] w0 fun v w' => ∃ (r0 : Int), v = .int .i64 r0 ∧ Q r0 ∧ Sat w0 none_ [] w' := by
  refine fn_enter Try.func34 rfl Try.ntmps34 rfl (fs := [(0, .int .i64 n), (1, .int .i64 most)]) rfl (fun a hf => ?_)
  have hs := Sat.start w0 none_
  unfold M_ref4_Below at h
  refine wp_seq ?_
  refine R.list ?_
  refine S.val hf hs (v := .int .i64 0) rfl rfl rfl (V.pure rfl) (fun a hf => ?_)
  refine R.nil ?_
  refine X.then_ ?_
  refine wp_seq ?_
  refine R.list ?_
  refine S.val hf hs (v := .int .i64 n) rfl rfl rfl (V.pure rfl) (fun a hf => ?_)
  refine S.val hf hs (v := .int .i64 most) rfl rfl rfl (V.pure rfl) (fun a hf => ?_)
  obtain ⟨hne, h⟩ := h
  refine S.val hf hs (v := .int .i64 (n.tmod most)) rfl rfl rfl (V.rem rfl rfl rfl hne) (fun a hf => ?_)
  refine S.val hf hs (v := .int .i64 (n.tmod most)) rfl rfl rfl (V.pure rfl) (fun a hf => ?_)
  refine R.nil ?_
  refine X.then_ ?_
  refine wp_seq ?_
  refine wp_seq ?_
  refine R.list ?_
  refine S.val hf hs (v := .int .i64 (n.tmod most)) rfl rfl rfl (V.pure rfl) (fun a hf => ?_)
  refine S.val hf hs (v := .bool (decide (n.tmod most < 0))) rfl rfl rfl (V.pure rfl) (fun a hf => ?_)
  refine R.nil ?_
  refine X.then_ ?_
  refine C.cond hf (b := decide (n.tmod most < 0)) rfl (fun hc => ?_) (fun hc => ?_)
  · replace h := h.1 hc
    refine R.list ?_
    refine S.val hf hs (v := .int .i64 (n.tmod most)) rfl rfl rfl (V.pure rfl) (fun a hf => ?_)
    refine S.val hf hs (v := .int .i64 most) rfl rfl rfl (V.pure rfl) (fun a hf => ?_)
    refine S.val hf hs (v := .int .i64 (w64 ((n.tmod most) + most))) rfl rfl rfl (V.pure rfl) (fun a hf => ?_)
    refine S.val hf hs (v := .int .i64 (w64 ((n.tmod most) + most))) rfl rfl rfl (V.pure rfl) (fun a hf => ?_)
    refine R.nil ?_
    refine X.then_ ?_
    refine wp_seq ?_
    refine R.list ?_
    refine S.val hf hs (v := .int .i64 (w64 ((n.tmod most) + most))) rfl rfl rfl (V.pure rfl) (fun a hf => ?_)
    refine S.val hf hs (v := .int .i64 (w64 ((n.tmod most) + most))) rfl rfl rfl (V.pure rfl) (fun a hf => ?_)
    refine R.nil ?_
    refine X.then_ ?_
    refine wp_ret ?_
    exact L.ret hf (run_results1 Try.results34 (ResIs.tmp hf rfl)) ⟨(w64 ((n.tmod most) + most)), rfl, h, hs.nil⟩
  · replace h := h.2 hc
    refine wp_skip ?_
    refine X.then_ ?_
    refine wp_seq ?_
    refine R.list ?_
    refine S.val hf hs (v := .int .i64 (n.tmod most)) rfl rfl rfl (V.pure rfl) (fun a hf => ?_)
    refine S.val hf hs (v := .int .i64 (n.tmod most)) rfl rfl rfl (V.pure rfl) (fun a hf => ?_)
    refine R.nil ?_
    refine X.then_ ?_
    refine wp_ret ?_
    exact L.ret hf (run_results1 Try.results34 (ResIs.tmp hf rfl)) ⟨(n.tmod most), rfl, h, hs.nil⟩

set_option linter.unusedVariables false
def M_ref4_Far (n : Int) (target : Int) (Q : Int → Prop) : Prop :=
  M_ref4_apart n target fun y1 => Q y1
set_option maxHeartbeats 1000000 in
theorem R_ref4_Far (n : Int) (target : Int) (w0 : World)  (Q : Int → Prop) (h : M_ref4_Far n target Q) :
    Ret Try.prog 35 #[.int .i64 n, .int .i64 target] w0 fun v w' => ∃ (r0 : Int), v = .int .i64 r0 ∧ Q r0 ∧ Sat w0 none_ [] w' := by
  refine fn_enter Try.func35 rfl Try.ntmps35 rfl (fs := [(0, .int .i64 n), (1, .int .i64 target)]) rfl (fun a hf => ?_)
  have hs := Sat.start w0 none_
  unfold M_ref4_Far at h
  refine wp_seq ?_
  refine R.list ?_
  refine S.val hf hs (v := .int .i64 0) rfl rfl rfl (V.pure rfl) (fun a hf => ?_)
  refine R.nil ?_
  refine X.then_ ?_
  refine wp_seq ?_
  refine R.list ?_
  refine S.val hf hs (v := .int .i64 n) rfl rfl rfl (V.pure rfl) (fun a hf => ?_)
  refine S.val hf hs (v := .int .i64 target) rfl rfl rfl (V.pure rfl) (fun a hf => ?_)
  refine S.call hf rfl rfl rfl (call_fn (vs := [.int .i64 n, .int .i64 target]) rfl rfl rfl Try.call74) (R_ref4_apart n target _  _ h) (fun v a w' hf hr => ?_)
  obtain ⟨y1, rfl, h2, hs2⟩ := hr
  replace h := h2; replace hs := hs.call hs2; clear h2 hs2
  refine S.val hf hs (v := .int .i64 y1) rfl rfl rfl (V.pure rfl) (fun a hf => ?_)
  refine R.nil ?_
  refine X.then_ ?_
  refine wp_ret ?_
  exact L.ret hf (run_results1 Try.results35 (ResIs.tmp hf rfl)) ⟨y1, rfl, h, hs.nil⟩

set_option linter.unusedVariables false
def M_law_NearestIsNear_k3 (l2 : List Int) (next1 : List Int → Prop) (n1 : Int) : Prop :=
  must (room (l2 ++ [n1]).length 8) (next1 (l2 ++ [n1]))
def M_law_NearestIsNear_L1 (most : Int) (other : (List Int)) (k2 : Nat) (xk2 : Int) (l2 : List Int) (next1 : List Int → Prop) : Prop :=
  cnd (decide ((k2 : Int) < (other.length : Int))) (idx other (k2 : Int) fun x1 => M_ref4_Below x1 most fun y12 => M_law_NearestIsNear_k3 l2 next1 (w64 (1 + y12))) (M_law_NearestIsNear_k3 l2 next1 1)
def M_law_NearestIsNear_k1 (m : (List Material)) (s_ : (List Layer)) (most : Int) (target : Int) (other : (List Int)) (Q : Bool → Prop) (y1 : (List Int)) (y2 : Int) (c1 : Bool) : Prop :=
  cnd c1 (Q false) (forIn' (fun k x (s : List Int) next => M_law_NearestIsNear_L1 most other k x s (fun l2 => next l2)) (fun (s : List Int) => (fun (l2 : List Int) => M_ref4_WithSheets m s_ l2 fun y7 y8 => cnd y8 (M_ref4_Far y2 target fun y9 => M_ref4_Far y7 target fun y10 => cnd (decide (y9 ≤ y10)) (M_awake  fun y11 => Q y11) (Q false)) (Q false)) s) y1 0 ([] : List Int))
def M_law_NearestIsNear (m : (List Material)) (s_ : (List Layer)) (most : Int) (target : Int) (other : (List Int)) (Q : Bool → Prop) : Prop :=
  M_stack_Nearest m s_ most target fun y1 y2 y3 => cnd (y3 != 0) (cnd ((y1.length : Int) == 0) (cnd (y2 == 0) (M_awake  fun y4 => Q y4) (Q false)) (Q false)) (M_ref4_WithSheets m s_ y1 fun y5 y6 => cnd (!y6) (M_law_NearestIsNear_k1 m s_ most target other Q y1 y2 true) (M_law_NearestIsNear_k1 m s_ most target other Q y1 y2 (y5 != y2)))
set_option maxHeartbeats 1000000 in
theorem R_law_NearestIsNear (m : (List Material)) (s_ : (List Layer)) (most : Int) (target : Int) (other : (List Int)) (w0 : World) (mA : Option Addr) (mC : Nat) (hv_m : View w0 (old w0 none_) mA mC m) (s_A : Option Addr) (s_C : Nat) (hv_s_ : View w0 (old w0 none_) s_A s_C s_) (otherA : Option Addr) (otherC : Nat) (hv_other : View w0 (old w0 none_) otherA otherC other) (Q : Bool → Prop) (h : M_law_NearestIsNear m s_ most target other Q) :
    Ret Try.prog 7 #[.slice mA m.length mC, .slice s_A s_.length s_C, .int .i64 most, .int .i64 target, .slice otherA other.length otherC] w0 fun v w' => ∃ (r0 : Bool), v = .bool r0 ∧ Q r0 ∧ Sat w0 none_ [] w' := by
  refine fn_enter Try.func7 rfl Try.ntmps7 rfl (fs := [(0, .slice mA m.length mC), (1, .slice s_A s_.length s_C), (2, .int .i64 most), (3, .int .i64 target), (4, .slice otherA other.length otherC)]) rfl (fun a hf => ?_)
  have hs := Sat.start w0 none_
  unfold M_law_NearestIsNear at h
  refine wp_seq ?_
  refine R.list ?_
  refine S.val hf hs (v := .bool false) rfl rfl rfl (V.pure rfl) (fun a hf => ?_)
  refine R.nil ?_
  refine X.then_ ?_
  refine wp_seq ?_
  refine R.list ?_
  refine S.val hf hs (v := .slice mA m.length mC) rfl rfl rfl (V.pure rfl) (fun a hf => ?_)
  refine S.val hf hs (v := .slice s_A s_.length s_C) rfl rfl rfl (V.pure rfl) (fun a hf => ?_)
  refine S.val hf hs (v := .int .i64 most) rfl rfl rfl (V.pure rfl) (fun a hf => ?_)
  refine S.val hf hs (v := .int .i64 target) rfl rfl rfl (V.pure rfl) (fun a hf => ?_)
  refine S.call hf rfl rfl rfl (call_fn (vs := [.slice mA m.length mC, .slice s_A s_.length s_C, .int .i64 most, .int .i64 target]) rfl rfl rfl Try.call32) (R_stack_Nearest m s_ most target _ mA mC ((Ag.args _ _ _).view hv_m hs) s_A s_C ((Ag.args _ _ _).view hv_s_ hs) _ h) (fun v a w' hf hr => ?_)
  obtain ⟨y1, y1A, y1C, y2, y3, rfl, h2, hs2⟩ := hr
  replace h := h2; replace hs := hs.call hs2; clear h2 hs2
  refine S.val hf hs (v := .tuple #[.slice y1A y1.length y1C, .int .i64 y2, .int .i64 y3]) rfl rfl rfl (V.pure rfl) (fun a hf => ?_)
  refine S.val hf hs (v := .slice y1A y1.length y1C) rfl rfl rfl (V.pure rfl) (fun a hf => ?_)
  refine S.val hf hs (v := .int .i64 y2) rfl rfl rfl (V.pure rfl) (fun a hf => ?_)
  refine S.val hf hs (v := .int .i64 y3) rfl rfl rfl (V.pure rfl) (fun a hf => ?_)
  refine S.val hf hs (v := .slice y1A y1.length y1C) rfl rfl rfl (V.pure rfl) (fun a hf => ?_)
  refine S.val hf hs (v := .int .i64 y2) rfl rfl rfl (V.pure rfl) (fun a hf => ?_)
  refine S.val hf hs (v := .int .i64 y3) rfl rfl rfl (V.pure rfl) (fun a hf => ?_)
  refine R.nil ?_
  refine X.then_ ?_
  refine wp_seq ?_
  refine wp_seq ?_
  refine R.list ?_
  refine S.val hf hs (v := .int .i64 y3) rfl rfl rfl (V.pure rfl) (fun a hf => ?_)
  refine S.val hf hs (v := .bool (y3 != 0)) rfl rfl rfl (V.pure rfl) (fun a hf => ?_)
  refine R.nil ?_
  refine X.then_ ?_
  refine C.cond hf (b := y3 != 0) rfl (fun hc => ?_) (fun hc => ?_)
  · replace h := h.1 hc
    refine wp_seq ?_
    refine R.list ?_
    refine S.val hf hs (v := .slice y1A y1.length y1C) rfl rfl rfl (V.pure rfl) (fun a hf => ?_)
    refine S.val hf hs (v := .int .i64 (y1.length : Int)) rfl rfl rfl (V.len rfl rfl Try.runUnderlying43) (fun a hf => ?_)
    refine S.val hf hs (v := .bool ((y1.length : Int) == 0)) rfl rfl rfl (V.pure rfl) (fun a hf => ?_)
    refine S.split hf hs (b := (y1.length : Int) == 0) rfl rfl rfl (V.pure rfl) (fun hc a hf => ?_) (fun hc a hf => ?_)
    · replace h := h.1 hc
      refine S.val hf hs (v := .int .i64 y2) rfl rfl rfl (V.pure rfl) (fun a hf => ?_)
      refine S.val hf hs (v := .bool (y2 == 0)) rfl rfl rfl (V.pure rfl) (fun a hf => ?_)
      refine S.val hf hs (v := .bool (y2 == 0)) rfl rfl rfl (V.pure rfl) (fun a hf => ?_)
      refine S.split hf hs (b := y2 == 0) rfl rfl rfl (V.pure rfl) (fun hc a hf => ?_) (fun hc a hf => ?_)
      · replace h := h.1 hc
        refine S.call hf rfl rfl rfl (call_fn (vs := []) rfl rfl rfl Try.call20) (R_awake  _  _ h) (fun v a w' hf hr => ?_)
        obtain ⟨y4, rfl, h2, hs2⟩ := hr
        replace h := h2; replace hs := hs.call hs2; clear h2 hs2
        refine S.val hf hs (v := .bool y4) rfl rfl rfl (V.pure rfl) (fun a hf => ?_)
        refine S.val hf hs (v := .bool y4) rfl rfl rfl (V.pure rfl) (fun a hf => ?_)
        refine R.nil ?_
        refine X.then_ ?_
        refine wp_ret ?_
        refine X.then_ret ?_
        exact L.ret hf (run_results1 Try.results7 (ResIs.tmp hf rfl)) ⟨y4, rfl, h, hs.nil⟩
      · replace h := h.2 hc
        refine S.skip hf rfl rfl rfl (fun a hf => ?_)
        refine S.val hf hs (v := .bool false) rfl rfl rfl (V.pure rfl) (fun a hf => ?_)
        refine S.val hf hs (v := .bool false) rfl rfl rfl (V.pure rfl) (fun a hf => ?_)
        refine R.nil ?_
        refine X.then_ ?_
        refine wp_ret ?_
        refine X.then_ret ?_
        exact L.ret hf (run_results1 Try.results7 (ResIs.tmp hf rfl)) ⟨false, rfl, h, hs.nil⟩
    · replace h := h.2 hc
      refine S.skip hf rfl rfl rfl (fun a hf => ?_)
      refine S.skip hf rfl rfl rfl (fun a hf => ?_)
      refine S.val hf hs (v := .bool false) rfl rfl rfl (V.pure rfl) (fun a hf => ?_)
      refine S.val hf hs (v := .bool false) rfl rfl rfl (V.pure rfl) (fun a hf => ?_)
      refine S.skip hf rfl rfl rfl (fun a hf => ?_)
      refine S.val hf hs (v := .bool false) rfl rfl rfl (V.pure rfl) (fun a hf => ?_)
      refine S.val hf hs (v := .bool false) rfl rfl rfl (V.pure rfl) (fun a hf => ?_)
      refine R.nil ?_
      refine X.then_ ?_
      refine wp_ret ?_
      refine X.then_ret ?_
      exact L.ret hf (run_results1 Try.results7 (ResIs.tmp hf rfl)) ⟨false, rfl, h, hs.nil⟩
  · replace h := h.2 hc
    refine wp_skip ?_
    refine X.then_ ?_
    refine wp_seq ?_
    refine R.list ?_
    refine S.val hf hs (v := .slice mA m.length mC) rfl rfl rfl (V.pure rfl) (fun a hf => ?_)
    refine S.val hf hs (v := .slice s_A s_.length s_C) rfl rfl rfl (V.pure rfl) (fun a hf => ?_)
    refine S.val hf hs (v := .slice y1A y1.length y1C) rfl rfl rfl (V.pure rfl) (fun a hf => ?_)
    refine S.call hf rfl rfl rfl (call_fn (vs := [.slice mA m.length mC, .slice s_A s_.length s_C, .slice y1A y1.length y1C]) rfl rfl rfl Try.call33) (R_ref4_WithSheets m s_ y1 _ mA mC ((Ag.args _ _ _).view hv_m hs) s_A s_C ((Ag.args _ _ _).view hv_s_ hs) y1A y1C (hs.ownView 0 rfl) _ h) (fun v a w' hf hr => ?_)
    obtain ⟨y5, y6, rfl, h2, hs2⟩ := hr
    replace h := h2; replace hs := hs.call hs2; clear h2 hs2
    refine S.val hf hs (v := .tuple #[.int .i64 y5, .bool y6]) rfl rfl rfl (V.pure rfl) (fun a hf => ?_)
    refine S.val hf hs (v := .int .i64 y5) rfl rfl rfl (V.pure rfl) (fun a hf => ?_)
    refine S.val hf hs (v := .bool y6) rfl rfl rfl (V.pure rfl) (fun a hf => ?_)
    refine S.val hf hs (v := .int .i64 y5) rfl rfl rfl (V.pure rfl) (fun a hf => ?_)
    refine S.val hf hs (v := .bool y6) rfl rfl rfl (V.pure rfl) (fun a hf => ?_)
    refine R.nil ?_
    refine X.then_ ?_
    refine wp_seq ?_
    refine wp_seq ?_
    refine C.cut (J := fun a w => ∃ (c1 : Bool), M_law_NearestIsNear_k1 m s_ most target other Q y1 y2 c1 ∧ FrOk 95 [(0, .slice mA m.length mC), (1, .slice s_A s_.length s_C), (2, .int .i64 most), (3, .int .i64 target), (4, .slice otherA other.length otherC), (11, .slice y1A y1.length y1C), (12, .int .i64 y2), (53, .bool c1)] a ∧ Sat w0 none_ [hown 3 y1A y1C y1] w) ?_ ?_
    · rintro a w ⟨c1, h, hf, hs⟩
      unfold M_law_NearestIsNear_k1 at h
      refine C.cond hf (b := c1) rfl (fun hc => ?_) (fun hc => ?_)
      · replace h := h.1 hc
        refine wp_seq ?_
        refine R.list ?_
        refine S.val hf hs (v := .bool false) rfl rfl rfl (V.pure rfl) (fun a hf => ?_)
        refine R.nil ?_
        refine X.then_ ?_
        refine wp_ret ?_
        refine X.then_ret ?_
        exact L.ret hf (run_results1 Try.results7 (ResIs.tmp hf rfl)) ⟨false, rfl, h, hs.nil⟩
      · replace h := h.2 hc
        refine wp_skip ?_
        refine X.then_ ?_
        refine wp_seq ?_
        refine R.list ?_
        refine S.val hf hs (v := .slice none 0 0) rfl rfl rfl (V.pure rfl) (fun a hf => ?_)
        refine R.nil ?_
        refine X.then_ ?_
        refine wp_seq ?_
        refine wp_seq ?_
        refine R.list ?_
        refine S.val hf hs (v := .slice y1A y1.length y1C) rfl rfl rfl (V.pure rfl) (fun a hf => ?_)
        refine S.val hf hs (v := .int .i64 (y1.length : Int)) rfl rfl rfl (V.len rfl rfl Try.runUnderlying43) (fun a hf => ?_)
        refine S.val hf hs (v := .int .i64 0) rfl rfl rfl (V.pure rfl) (fun a hf => ?_)
        refine R.nil ?_
        refine X.then_ ?_
        refine wp_block ?_
        replace hs := hs.nilOwn (α := Int) 3
        have hlenk2 := (hs.ownView 1 rfl).len64
        refine C.range (fun (ll : List Int) a w => ∃ (k2 : Nat) (l2 : List Int) (l2A : Option Addr) (l2C : Nat), y1.drop k2 = ll ∧ k2 + ll.length = y1.length ∧ forIn' (fun k x (s : List Int) next => M_law_NearestIsNear_L1 most other k x s (fun l2 => next l2)) (fun (s : List Int) => (fun (l2 : List Int) => M_ref4_WithSheets m s_ l2 fun y7 y8 => cnd y8 (M_ref4_Far y2 target fun y9 => M_ref4_Far y7 target fun y10 => cnd (decide (y9 ≤ y10)) (M_awake  fun y11 => Q y11) (Q false)) (Q false)) s) ll k2 l2 ∧ FrOk 95 [(56, .int .i64 (k2 : Int)), (0, .slice mA m.length mC), (1, .slice s_A s_.length s_C), (2, .int .i64 most), (3, .int .i64 target), (4, .slice otherA other.length otherC), (12, .int .i64 y2), (16, .slice l2A l2.length l2C), (55, .int .i64 (y1.length : Int))] a ∧ Sat w0 none_ [hown 3 l2A l2C l2, hown 3 y1A y1C y1] w) y1 ⟨0, ([] : List Int), none, 0, rfl, Nat.zero_add _, h, (((((((((hf.nil.cons (hf.get 55 _ rfl)).cons (hf.get 16 _ rfl)).cons (hf.get 12 _ rfl)).cons (hf.get 4 _ rfl)).cons (hf.get 3 _ rfl)).cons (hf.get 2 _ rfl)).cons (hf.get 1 _ rfl)).cons (hf.get 0 _ rfl)).cons (hf.get 56 _ rfl)), hs⟩ ?_
        clear h hf hs
        rintro llk2 a w ⟨k2, l2, l2A, l2C, hlk2, hkk2, h, hf, hs⟩
        cases llk2 with
        | nil =>
          have hc := range_done hkk2
          replace h : (fun (l2 : List Int) => M_ref4_WithSheets m s_ l2 fun y7 y8 => cnd y8 (M_ref4_Far y2 target fun y9 => M_ref4_Far y7 target fun y10 => cnd (decide (y9 ≤ y10)) (M_awake  fun y11 => Q y11) (Q false)) (Q false)) l2 := h
          refine wp_seq ?_
          refine R.list ?_
          refine S.val hf hs (v := .bool false) rfl rfl rfl (V.cmp false rfl rfl rfl rfl hc) (fun a hf => ?_)
          refine R.nil ?_
          refine X.then_ ?_
          refine wp_seq ?_
          refine C.no hf rfl ?_
          refine wp_exit ?_
          refine X.then_exit ?_
          refine X.then_exit ?_
          refine X.blk_exit ?_
          refine X.then_ ?_
          refine wp_seq ?_
          refine R.list ?_
          refine S.val hf hs (v := .slice mA m.length mC) rfl rfl rfl (V.pure rfl) (fun a hf => ?_)
          refine S.val hf hs (v := .slice s_A s_.length s_C) rfl rfl rfl (V.pure rfl) (fun a hf => ?_)
          refine S.val hf hs (v := .slice l2A l2.length l2C) rfl rfl rfl (V.pure rfl) (fun a hf => ?_)
          refine S.call hf rfl rfl rfl (call_fn (vs := [.slice mA m.length mC, .slice s_A s_.length s_C, .slice l2A l2.length l2C]) rfl rfl rfl Try.call33) (R_ref4_WithSheets m s_ l2 _ mA mC ((Ag.args _ _ _).view hv_m hs) s_A s_C ((Ag.args _ _ _).view hv_s_ hs) l2A l2C (hs.ownView 0 rfl) _ h) (fun v a w' hf hr => ?_)
          obtain ⟨y7, y8, rfl, h2, hs2⟩ := hr
          replace h := h2; replace hs := hs.call hs2; clear h2 hs2
          refine S.val hf hs (v := .tuple #[.int .i64 y7, .bool y8]) rfl rfl rfl (V.pure rfl) (fun a hf => ?_)
          refine S.val hf hs (v := .int .i64 y7) rfl rfl rfl (V.pure rfl) (fun a hf => ?_)
          refine S.val hf hs (v := .bool y8) rfl rfl rfl (V.pure rfl) (fun a hf => ?_)
          refine S.val hf hs (v := .int .i64 y7) rfl rfl rfl (V.pure rfl) (fun a hf => ?_)
          refine S.val hf hs (v := .bool y8) rfl rfl rfl (V.pure rfl) (fun a hf => ?_)
          refine R.nil ?_
          refine X.then_ ?_
          refine wp_seq ?_
          refine R.list ?_
          refine S.val hf hs (v := .bool y8) rfl rfl rfl (V.pure rfl) (fun a hf => ?_)
          refine S.split hf hs (b := y8) rfl rfl rfl (V.pure rfl) (fun hc a hf => ?_) (fun hc a hf => ?_)
          · replace h := h.1 hc
            refine S.val hf hs (v := .int .i64 y2) rfl rfl rfl (V.pure rfl) (fun a hf => ?_)
            refine S.val hf hs (v := .int .i64 target) rfl rfl rfl (V.pure rfl) (fun a hf => ?_)
            refine S.call hf rfl rfl rfl (call_fn (vs := [.int .i64 y2, .int .i64 target]) rfl rfl rfl Try.call35) (R_ref4_Far y2 target _  _ h) (fun v a w' hf hr => ?_)
            obtain ⟨y9, rfl, h2, hs2⟩ := hr
            replace h := h2; replace hs := hs.call hs2; clear h2 hs2
            refine S.val hf hs (v := .int .i64 y7) rfl rfl rfl (V.pure rfl) (fun a hf => ?_)
            refine S.val hf hs (v := .int .i64 target) rfl rfl rfl (V.pure rfl) (fun a hf => ?_)
            refine S.call hf rfl rfl rfl (call_fn (vs := [.int .i64 y7, .int .i64 target]) rfl rfl rfl Try.call35) (R_ref4_Far y7 target _  _ h) (fun v a w' hf hr => ?_)
            obtain ⟨y10, rfl, h2, hs2⟩ := hr
            replace h := h2; replace hs := hs.call hs2; clear h2 hs2
            refine S.val hf hs (v := .bool (decide (y9 ≤ y10))) rfl rfl rfl (V.pure rfl) (fun a hf => ?_)
            refine S.val hf hs (v := .bool (decide (y9 ≤ y10))) rfl rfl rfl (V.pure rfl) (fun a hf => ?_)
            refine S.split hf hs (b := decide (y9 ≤ y10)) rfl rfl rfl (V.pure rfl) (fun hc a hf => ?_) (fun hc a hf => ?_)
            · replace h := h.1 hc
              refine S.call hf rfl rfl rfl (call_fn (vs := []) rfl rfl rfl Try.call20) (R_awake  _  _ h) (fun v a w' hf hr => ?_)
              obtain ⟨y11, rfl, h2, hs2⟩ := hr
              replace h := h2; replace hs := hs.call hs2; clear h2 hs2
              refine S.val hf hs (v := .bool y11) rfl rfl rfl (V.pure rfl) (fun a hf => ?_)
              refine S.val hf hs (v := .bool y11) rfl rfl rfl (V.pure rfl) (fun a hf => ?_)
              refine R.nil ?_
              refine X.then_ ?_
              refine wp_ret ?_
              exact L.ret hf (run_results1 Try.results7 (ResIs.tmp hf rfl)) ⟨y11, rfl, h, hs.nil⟩
            · replace h := h.2 hc
              refine S.skip hf rfl rfl rfl (fun a hf => ?_)
              refine S.val hf hs (v := .bool false) rfl rfl rfl (V.pure rfl) (fun a hf => ?_)
              refine S.val hf hs (v := .bool false) rfl rfl rfl (V.pure rfl) (fun a hf => ?_)
              refine R.nil ?_
              refine X.then_ ?_
              refine wp_ret ?_
              exact L.ret hf (run_results1 Try.results7 (ResIs.tmp hf rfl)) ⟨false, rfl, h, hs.nil⟩
          · replace h := h.2 hc
            refine S.skip hf rfl rfl rfl (fun a hf => ?_)
            refine S.skip hf rfl rfl rfl (fun a hf => ?_)
            refine S.skip hf rfl rfl rfl (fun a hf => ?_)
            refine S.skip hf rfl rfl rfl (fun a hf => ?_)
            refine S.skip hf rfl rfl rfl (fun a hf => ?_)
            refine S.skip hf rfl rfl rfl (fun a hf => ?_)
            refine S.skip hf rfl rfl rfl (fun a hf => ?_)
            refine S.val hf hs (v := .bool false) rfl rfl rfl (V.pure rfl) (fun a hf => ?_)
            refine S.val hf hs (v := .bool false) rfl rfl rfl (V.pure rfl) (fun a hf => ?_)
            refine S.skip hf rfl rfl rfl (fun a hf => ?_)
            refine S.val hf hs (v := .bool false) rfl rfl rfl (V.pure rfl) (fun a hf => ?_)
            refine S.val hf hs (v := .bool false) rfl rfl rfl (V.pure rfl) (fun a hf => ?_)
            refine R.nil ?_
            refine X.then_ ?_
            refine wp_ret ?_
            exact L.ret hf (run_results1 Try.results7 (ResIs.tmp hf rfl)) ⟨false, rfl, h, hs.nil⟩
        | cons xk2 llk2 =>
          have hltk2 := range_lt hkk2; have hc := range_go hkk2; have hxk2 := range_get hlk2
          obtain ⟨next1, hnext1⟩ : ∃ X : List Int → Prop, X = (fun l2 => forIn' (fun k x (s : List Int) next => M_law_NearestIsNear_L1 most other k x s (fun l2 => next l2)) (fun (s : List Int) => (fun (l2 : List Int) => M_ref4_WithSheets m s_ l2 fun y7 y8 => cnd y8 (M_ref4_Far y2 target fun y9 => M_ref4_Far y7 target fun y10 => cnd (decide (y9 ≤ y10)) (M_awake  fun y11 => Q y11) (Q false)) (Q false)) s) llk2 (k2 + 1) l2) := ⟨_, rfl⟩
          replace h : M_law_NearestIsNear_L1 most other k2 xk2 l2 next1 := by rw [hnext1]; exact h
          unfold M_law_NearestIsNear_L1 at h
          refine wp_seq ?_
          refine R.list ?_
          refine S.val hf hs (v := .bool true) rfl rfl rfl (V.cmp true rfl rfl rfl rfl hc) (fun a hf => ?_)
          refine R.nil ?_
          refine X.then_ ?_
          refine wp_seq ?_
          refine C.yes hf rfl ?_
          refine wp_skip ?_
          refine X.then_ ?_
          refine wp_seq ?_
          refine wp_block ?_
          refine wp_seq ?_
          refine R.list ?_
          refine S.val hf hs (v := .int .i64 (k2 : Int)) rfl rfl rfl (V.pure rfl) (fun a hf => ?_)
          refine S.val hf hs (v := .int .i64 (k2 : Int)) rfl rfl rfl (V.pure rfl) (fun a hf => ?_)
          refine R.nil ?_
          refine X.then_ ?_
          refine wp_seq ?_
          refine R.list ?_
          refine S.val hf hs (v := .int .i64 1) rfl rfl rfl (V.pure rfl) (fun a hf => ?_)
          refine R.nil ?_
          refine X.then_ ?_
          refine wp_seq ?_
          refine C.cut (J := fun a w => ∃ (n1 : Int), M_law_NearestIsNear_k3 l2 next1 n1 ∧ FrOk 95 [(0, .slice mA m.length mC), (1, .slice s_A s_.length s_C), (2, .int .i64 most), (3, .int .i64 target), (4, .slice otherA other.length otherC), (12, .int .i64 y2), (16, .slice l2A l2.length l2C), (18, .int .i64 n1), (55, .int .i64 (y1.length : Int)), (56, .int .i64 (k2 : Int))] a ∧ Sat w0 none_ [hown 3 l2A l2C l2, hown 3 y1A y1C y1] w) ?_ ?_
          · rintro a w ⟨n1, h, hf, hs⟩
            unfold M_law_NearestIsNear_k3 at h
            refine R.list ?_
            refine S.val hf hs (v := .slice l2A l2.length l2C) rfl rfl rfl (V.pure rfl) (fun a hf => ?_)
            refine S.val hf hs (v := .int .i64 n1) rfl rfl rfl (V.pure rfl) (fun a hf => ?_)
            refine S.build1 hf hs rfl rfl rfl (α := Int) n1 rfl rfl rfl Try.runUnderlying43 Try.sizeOf3 Try.zeroValue3 rfl (by decide) (fun A1 a w hf hs => ?_)
            obtain ⟨hroom, h⟩ := h
            refine S.appendCells 1 hf hs rfl rfl rfl rfl rfl rfl rfl Try.underlying43 info3 rfl hroom ((hs.ownView 0 rfl).some_ (i := 0) (by simp)) (hs.ownView 0 rfl) (fun A2 C1 a w hf hs => ?_)
            replace hs := hs.drop
            refine S.val hf hs (v := .slice A2 (l2 ++ [n1]).length C1) rfl rfl rfl (V.pure rfl) (fun a hf => ?_)
            refine R.nil ?_
            refine X.blk ?_
            refine X.then_ ?_
            refine R.list ?_
            refine S.val hf hs (v := .int .i64 ((k2 + 1 : Nat) : Int)) rfl rfl rfl (V.incr rfl rfl rfl hltk2 hlenk2) (fun a hf => ?_)
            refine S.val hf hs (v := .int .i64 ((k2 + 1 : Nat) : Int)) rfl rfl rfl (V.pure rfl) (fun a hf => ?_)
            refine R.nil ?_
            refine X.then_ ?_
            exact ⟨xk2, llk2, rfl, k2 + 1, (l2 ++ [n1]), A2, C1, range_drop hlk2, range_len hkk2, (by rw [hnext1] at h; exact h), (((((((((hf.nil.cons (hf.get 55 _ rfl)).cons (hf.get 16 _ rfl)).cons (hf.get 12 _ rfl)).cons (hf.get 4 _ rfl)).cons (hf.get 3 _ rfl)).cons (hf.get 2 _ rfl)).cons (hf.get 1 _ rfl)).cons (hf.get 0 _ rfl)).cons (hf.get 56 _ rfl)), hs⟩
          · skip
            refine wp_seq ?_
            refine R.list ?_
            refine S.val hf hs (v := .int .i64 (k2 : Int)) rfl rfl rfl (V.pure rfl) (fun a hf => ?_)
            refine S.val hf hs (v := .slice otherA other.length otherC) rfl rfl rfl (V.pure rfl) (fun a hf => ?_)
            refine S.val hf hs (v := .int .i64 (other.length : Int)) rfl rfl rfl (V.len rfl rfl Try.runUnderlying43) (fun a hf => ?_)
            refine S.val hf hs (v := .bool (decide ((k2 : Int) < (other.length : Int)))) rfl rfl rfl (V.pure rfl) (fun a hf => ?_)
            refine R.nil ?_
            refine X.then_ ?_
            refine C.cond hf (b := decide ((k2 : Int) < (other.length : Int))) rfl (fun hc => ?_) (fun hc => ?_)
            · replace h := h.1 hc
              refine R.list ?_
              refine S.val hf hs (v := .slice otherA other.length otherC) rfl rfl rfl (V.pure rfl) (fun a hf => ?_)
              refine S.val hf hs (v := .int .i64 (k2 : Int)) rfl rfl rfl (V.pure rfl) (fun a hf => ?_)
              obtain ⟨h0x1, x1, hx1, h⟩ := h
              refine S.val hf hs (v := elemPtr otherA (k2 * 1)) rfl rfl rfl (V.index rfl rfl rfl Try.runUnderlying43 Try.sizeOf3 (hv_other.some_ (lt_of_get hx1)) (Int.natCast_nonneg _) (lt_of_get hx1) rfl) (fun a hf => ?_)
              refine S.val hf hs (v := .int .i64 x1) rfl rfl rfl (V.loadEl (off := 0) (Ag.args _ _ _) (hv_other.flat hx1) rfl rfl rfl Try.isAgg3 Try.sizeOf3 rfl rfl) (fun a hf => ?_)
              refine S.val hf hs (v := .int .i64 most) rfl rfl rfl (V.pure rfl) (fun a hf => ?_)
              refine S.call hf rfl rfl rfl (call_fn (vs := [.int .i64 x1, .int .i64 most]) rfl rfl rfl Try.call34) (R_ref4_Below x1 most _  _ h) (fun v a w' hf hr => ?_)
              obtain ⟨y12, rfl, h2, hs2⟩ := hr
              replace h := h2; replace hs := hs.call hs2; clear h2 hs2
              refine S.val hf hs (v := .int .i64 (w64 (1 + y12))) rfl rfl rfl (V.pure rfl) (fun a hf => ?_)
              refine S.val hf hs (v := .int .i64 (w64 (1 + y12))) rfl rfl rfl (V.pure rfl) (fun a hf => ?_)
              refine R.nil ?_
              refine X.then_ ?_
              exact ⟨(w64 (1 + y12)), h, ((((((((((hf.nil.cons (hf.get 56 _ rfl)).cons (hf.get 55 _ rfl)).cons (hf.get 18 _ rfl)).cons (hf.get 16 _ rfl)).cons (hf.get 12 _ rfl)).cons (hf.get 4 _ rfl)).cons (hf.get 3 _ rfl)).cons (hf.get 2 _ rfl)).cons (hf.get 1 _ rfl)).cons (hf.get 0 _ rfl)), hs⟩
            · replace h := h.2 hc
              refine wp_skip ?_
              refine X.then_ ?_
              exact ⟨1, h, ((((((((((hf.nil.cons (hf.get 56 _ rfl)).cons (hf.get 55 _ rfl)).cons (hf.get 18 _ rfl)).cons (hf.get 16 _ rfl)).cons (hf.get 12 _ rfl)).cons (hf.get 4 _ rfl)).cons (hf.get 3 _ rfl)).cons (hf.get 2 _ rfl)).cons (hf.get 1 _ rfl)).cons (hf.get 0 _ rfl)), hs⟩
    · skip
      refine R.list ?_
      refine S.val hf hs (v := .bool y6) rfl rfl rfl (V.pure rfl) (fun a hf => ?_)
      refine S.val hf hs (v := .bool (!y6)) rfl rfl rfl (V.pure rfl) (fun a hf => ?_)
      refine S.split hf hs (b := !y6) rfl rfl rfl (V.pure rfl) (fun hc a hf => ?_) (fun hc a hf => ?_)
      · replace h := h.1 hc
        refine S.skip hf rfl rfl rfl (fun a hf => ?_)
        refine S.skip hf rfl rfl rfl (fun a hf => ?_)
        refine S.skip hf rfl rfl rfl (fun a hf => ?_)
        refine S.val hf hs (v := .bool true) rfl rfl rfl (V.pure rfl) (fun a hf => ?_)
        refine R.nil ?_
        refine X.then_ ?_
        exact ⟨true, h, ((((((((hf.nil.cons (hf.get 53 _ rfl)).cons (hf.get 12 _ rfl)).cons (hf.get 11 _ rfl)).cons (hf.get 4 _ rfl)).cons (hf.get 3 _ rfl)).cons (hf.get 2 _ rfl)).cons (hf.get 1 _ rfl)).cons (hf.get 0 _ rfl)), hs⟩
      · replace h := h.2 hc
        refine S.val hf hs (v := .int .i64 y5) rfl rfl rfl (V.pure rfl) (fun a hf => ?_)
        refine S.val hf hs (v := .int .i64 y2) rfl rfl rfl (V.pure rfl) (fun a hf => ?_)
        refine S.val hf hs (v := .bool (y5 != y2)) rfl rfl rfl (V.pure rfl) (fun a hf => ?_)
        refine S.val hf hs (v := .bool (y5 != y2)) rfl rfl rfl (V.pure rfl) (fun a hf => ?_)
        refine R.nil ?_
        refine X.then_ ?_
        exact ⟨(y5 != y2), h, ((((((((hf.nil.cons (hf.get 53 _ rfl)).cons (hf.get 12 _ rfl)).cons (hf.get 11 _ rfl)).cons (hf.get 4 _ rfl)).cons (hf.get 3 _ rfl)).cons (hf.get 2 _ rfl)).cons (hf.get 1 _ rfl)).cons (hf.get 0 _ rfl)), hs⟩

end Go.Proofs.Ytjkkefhfbcgahaa
