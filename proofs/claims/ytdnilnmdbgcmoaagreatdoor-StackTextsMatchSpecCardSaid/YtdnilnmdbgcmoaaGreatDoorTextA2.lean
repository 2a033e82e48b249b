/- Chapter 4: stacks, how thick they are: the walks. -/
import Derived.Test.YtdnilnmdbgcmoaaGreatDoorTextA
namespace Go.Proofs.YtdnilnmdbgcmoaaGreatDoor
open Go Go.RowKit
set_option linter.unusedVariables false

set_option linter.unusedVariables false
def M_stack_kindOf (m : (List Material)) (l : Layer) (Q : Int → Prop) : Prop :=
  M_stack_materialOf m l.Material fun y1 y2 => Q y1.Kind
set_option maxHeartbeats 1000000 in
theorem R_stack_kindOf (m : (List Material)) (l : Layer) (w0 : World) (mA : Option Addr) (mC : Nat) (hv_m : View w0 (old w0 none_) mA mC m) (Q : Int → Prop) (h : M_stack_kindOf m l Q) :
    Ret Tryz.prog 89 #[.slice mA m.length mC, .agg #[.string (ba l.Name), .string (ba l.Material)]] w0 fun v w' => ∃ (r0 : Int), v = .int .i64 r0 ∧ Q r0 ∧ Sat w0 none_ [] w' := by
  refine fn_enter Tryz.func89 rfl Tryz.ntmps89 rfl (fs := [(0, .slice mA m.length mC), (1, .agg #[.string (ba l.Name), .string (ba l.Material)])]) rfl (fun a hf => ?_)
  have hs := Sat.start w0 none_
  unfold M_stack_kindOf at h
  refine wp_seq ?_
  refine R.list ?_
  refine S.box hf hs rfl rfl rfl [.string (ba l.Name), .string (ba l.Material)] rfl rfl rfl (fun g1 a w hf hs => ?_)
  refine S.val hf hs (v := .int .i64 0) rfl rfl rfl (V.pure rfl) (fun a hf => ?_)
  refine R.nil ?_
  refine X.then_ ?_
  refine wp_seq ?_
  refine R.list ?_
  refine S.val hf hs (v := .slice mA m.length mC) rfl rfl rfl (V.pure rfl) (fun a hf => ?_)
  refine S.val hf hs (v := .pointer (some ⟨g1, 1, none⟩)) rfl rfl rfl (V.fieldBox rfl rfl Tryz.runUnderlying32 rfl Tryz.sizeOf9 rfl rfl) (fun a hf => ?_)
  refine S.val hf hs (v := .string (ba l.Material)) rfl rfl rfl (V.loadBox 0 rfl rfl rfl Tryz.isAgg9 Tryz.sizeOf9 rfl rfl) (fun a hf => ?_)
  refine S.call hf rfl rfl rfl (call_fn (vs := [.slice mA m.length mC, .string (ba l.Material)]) rfl rfl rfl Tryz.call86) (R_stack_materialOf m l.Material _ mA mC ((Ag.args _ _ _).view hv_m hs) _ h) (fun v a w' hf hr => ?_)
  obtain ⟨y1, y2, rfl, h2, hs2⟩ := hr
  replace h := h2; replace hs := hs.call hs2; clear h2 hs2
  refine S.val hf hs (v := .tuple #[.agg #[.string (ba y1.Name), .int .i64 y1.Kind, .int .i64 y1.Thick, .int .i64 y1.Grow], .bool y2]) rfl rfl rfl (V.pure rfl) (fun a hf => ?_)
  refine S.val hf hs (v := .agg #[.string (ba y1.Name), .int .i64 y1.Kind, .int .i64 y1.Thick, .int .i64 y1.Grow]) rfl rfl rfl (V.pure rfl) (fun a hf => ?_)
  refine S.val hf hs (v := .bool y2) rfl rfl rfl (V.pure rfl) (fun a hf => ?_)
  refine S.alloc hf hs rfl rfl rfl [.string (ba []), .int .i64 0, .int .i64 0, .int .i64 0] rfl Tryz.zeroValue29 rfl (fun g2 a w hf hs => ?_)
  refine S.storeBox 0 hf hs rfl rfl [.string (ba y1.Name), .int .i64 y1.Kind, .int .i64 y1.Thick, .int .i64 y1.Grow] [.string (ba y1.Name), .int .i64 y1.Kind, .int .i64 y1.Thick, .int .i64 y1.Grow] rfl rfl rfl rfl rfl Tryz.sizeOf29 rfl rfl rfl rfl (fun a w hf hs => ?_)
  refine S.val hf hs (v := .bool y2) rfl rfl rfl (V.pure rfl) (fun a hf => ?_)
  refine R.nil ?_
  refine X.then_ ?_
  refine wp_seq ?_
  refine R.list ?_
  refine S.val hf hs (v := .pointer (some ⟨g2, 1, none⟩)) rfl rfl rfl (V.fieldBox rfl rfl Tryz.runUnderlying29 rfl Tryz.sizeOf3 rfl rfl) (fun a hf => ?_)
  refine S.val hf hs (v := .int .i64 y1.Kind) rfl rfl rfl (V.loadBox 0 rfl rfl rfl Tryz.isAgg3 Tryz.sizeOf3 rfl rfl) (fun a hf => ?_)
  refine S.val hf hs (v := .int .i64 y1.Kind) rfl rfl rfl (V.pure rfl) (fun a hf => ?_)
  refine R.nil ?_
  refine X.then_ ?_
  refine wp_ret ?_
  exact L.ret hf (run_results1 Tryz.results89 (ResIs.tmp hf rfl)) ⟨y1.Kind, rfl, h, hs.nil⟩

set_option linter.unusedVariables false
def M_stack_coppers_L1 (m : (List Material)) (k1 : Nat) (xk1 : Layer) (l2 : List Int) (next1 : List Int → Prop) : Prop :=
  M_stack_kindOf m xk1 fun y1 => cnd (y1 == 1) (must (room (l2 ++ [(k1 : Int)]).length 8) (next1 (l2 ++ [(k1 : Int)]))) (next1 l2)
def M_stack_coppers (m : (List Material)) (s_ : (List Layer)) (Q : (List Int) → Prop) : Prop :=
  forIn' (fun k x (s : List Int) next => M_stack_coppers_L1 m k x s (fun l2 => next l2)) (fun (s : List Int) => (fun (l2 : List Int) => Q l2) s) s_ 0 ([] : List Int)
set_option maxHeartbeats 1000000 in
theorem R_stack_coppers (m : (List Material)) (s_ : (List Layer)) (w0 : World) (mA : Option Addr) (mC : Nat) (hv_m : View w0 (old w0 none_) mA mC m) (s_A : Option Addr) (s_C : Nat) (hv_s_ : View w0 (old w0 none_) s_A s_C s_) (Q : (List Int) → Prop) (h : M_stack_coppers m s_ Q) :
    Ret Tryz.prog 88 #[.slice mA m.length mC, .slice s_A s_.length s_C] w0 fun v w' => ∃ (r0 : (List Int)) (r0A : Option Addr) (r0C : Nat), v = .slice r0A r0.length r0C ∧ Q r0 ∧ Sat w0 none_ [hown 3 r0A r0C r0] w' := by
  refine fn_enter Tryz.func88 rfl Tryz.ntmps88 rfl (fs := [(0, .slice mA m.length mC), (1, .slice s_A s_.length s_C)]) rfl (fun a hf => ?_)
  have hs := Sat.start w0 none_
  unfold M_stack_coppers at h
  refine wp_seq ?_
  refine R.list ?_
  refine S.val hf hs (v := .slice none 0 0) rfl rfl rfl (V.pure rfl) (fun a hf => ?_)
  refine R.nil ?_
  refine X.then_ ?_
  refine wp_seq ?_
  refine R.list ?_
  refine S.val hf hs (v := .slice none 0 0) rfl rfl rfl (V.pure rfl) (fun a hf => ?_)
  refine R.nil ?_
  refine X.then_ ?_
  refine wp_seq ?_
  refine wp_seq ?_
  refine R.list ?_
  refine S.val hf hs (v := .slice s_A s_.length s_C) rfl rfl rfl (V.pure rfl) (fun a hf => ?_)
  refine S.val hf hs (v := .int .i64 (s_.length : Int)) rfl rfl rfl (V.len rfl rfl Tryz.runUnderlying23) (fun a hf => ?_)
  refine S.val hf hs (v := .int .i64 0) rfl rfl rfl (V.pure rfl) (fun a hf => ?_)
  refine R.nil ?_
  refine X.then_ ?_
  refine wp_block ?_
  replace hs := hs.nilOwn (α := Int) 3
  have hlenk1 := hv_s_.len64
  refine C.range (fun (ll : List Layer) a w => ∃ (k1 : Nat) (l2 : List Int) (l2A : Option Addr) (l2C : Nat), s_.drop k1 = ll ∧ k1 + ll.length = s_.length ∧ forIn' (fun k x (s : List Int) next => M_stack_coppers_L1 m k x s (fun l2 => next l2)) (fun (s : List Int) => (fun (l2 : List Int) => Q l2) s) ll k1 l2 ∧ FrOk 25 [(10, .int .i64 (k1 : Int)), (0, .slice mA m.length mC), (5, .slice l2A l2.length l2C), (8, .slice s_A s_.length s_C), (9, .int .i64 (s_.length : Int))] a ∧ Sat w0 none_ [hown 3 l2A l2C l2] w) s_ ⟨0, ([] : List Int), none, 0, rfl, Nat.zero_add _, h, (((((hf.nil.cons (hf.get 9 _ rfl)).cons (hf.get 8 _ rfl)).cons (hf.get 5 _ rfl)).cons (hf.get 0 _ rfl)).cons (hf.get 10 _ rfl)), hs⟩ ?_
  clear h hf hs
  rintro llk1 a w ⟨k1, l2, l2A, l2C, hlk1, hkk1, h, hf, hs⟩
  cases llk1 with
  | nil =>
    have hc := range_done hkk1
    replace h : (fun (l2 : List Int) => Q l2) l2 := h
    refine wp_seq ?_
    refine R.list ?_
    refine S.val hf hs (v := .bool false) rfl rfl rfl (V.cmp false rfl rfl rfl rfl hc) (fun a hf => ?_)
    refine R.nil ?_
    refine X.then_ ?_
    refine wp_seq ?_
    refine C.no hf rfl ?_
    refine wp_exit ?_
    refine X.then_exit ?_
    refine X.then_exit ?_
    refine X.blk_exit ?_
    refine X.then_ ?_
    refine wp_seq ?_
    refine R.list ?_
    refine S.val hf hs (v := .slice l2A l2.length l2C) rfl rfl rfl (V.pure rfl) (fun a hf => ?_)
    refine S.val hf hs (v := .slice l2A l2.length l2C) rfl rfl rfl (V.pure rfl) (fun a hf => ?_)
    refine R.nil ?_
    refine X.then_ ?_
    refine wp_ret ?_
    replace hs := hs.take 1
    exact L.ret hf (run_results1 Tryz.results88 (ResIs.tmp hf rfl)) ⟨l2, l2A, l2C, rfl, h, hs⟩
  | cons xk1 llk1 =>
    have hltk1 := range_lt hkk1; have hc := range_go hkk1; have hxk1 := range_get hlk1
    obtain ⟨next1, hnext1⟩ : ∃ X : List Int → Prop, X = (fun l2 => forIn' (fun k x (s : List Int) next => M_stack_coppers_L1 m k x s (fun l2 => next l2)) (fun (s : List Int) => (fun (l2 : List Int) => Q l2) s) llk1 (k1 + 1) l2) := ⟨_, rfl⟩
    replace h : M_stack_coppers_L1 m k1 xk1 l2 next1 := by rw [hnext1]; exact h
    unfold M_stack_coppers_L1 at h
    refine wp_seq ?_
    refine R.list ?_
    refine S.val hf hs (v := .bool true) rfl rfl rfl (V.cmp true rfl rfl rfl rfl hc) (fun a hf => ?_)
    refine R.nil ?_
    refine X.then_ ?_
    refine wp_seq ?_
    refine C.yes hf rfl ?_
    refine wp_skip ?_
    refine X.then_ ?_
    refine wp_seq ?_
    refine wp_block ?_
    refine wp_seq ?_
    refine R.list ?_
    refine S.val hf hs (v := .int .i64 (k1 : Int)) rfl rfl rfl (V.pure rfl) (fun a hf => ?_)
    refine S.val hf hs (v := elemPtr s_A (k1 * 2)) rfl rfl rfl (V.index rfl rfl rfl Tryz.runUnderlying23 Tryz.sizeOf32 (hv_s_.some_ (lt_of_get hxk1)) (Int.natCast_nonneg _) (lt_of_get hxk1) rfl) (fun a hf => ?_)
    refine S.val hf hs (v := .agg #[.string (ba xk1.Name), .string (ba xk1.Material)]) rfl rfl rfl (V.loadEl (off := 0) (Ag.args _ _ _) (hv_s_.flat hxk1) rfl rfl rfl Tryz.isAgg32 Tryz.sizeOf32 rfl rfl) (fun a hf => ?_)
    refine S.alloc hf hs rfl rfl rfl [.string (ba []), .string (ba [])] rfl Tryz.zeroValue32 rfl (fun g1 a w hf hs => ?_)
    refine S.val hf hs (v := .int .i64 (k1 : Int)) rfl rfl rfl (V.pure rfl) (fun a hf => ?_)
    refine S.storeBox 0 hf hs rfl rfl [.string (ba xk1.Name), .string (ba xk1.Material)] [.string (ba xk1.Name), .string (ba xk1.Material)] rfl rfl rfl rfl rfl Tryz.sizeOf32 rfl rfl rfl rfl (fun a w hf hs => ?_)
    refine R.nil ?_
    refine X.then_ ?_
    refine wp_seq ?_
    refine R.list ?_
    refine S.val hf hs (v := .slice mA m.length mC) rfl rfl rfl (V.pure rfl) (fun a hf => ?_)
    refine S.val hf hs (v := .agg #[.string (ba xk1.Name), .string (ba xk1.Material)]) rfl rfl rfl (V.loadBox 0 rfl rfl rfl Tryz.isAgg32 Tryz.sizeOf32 rfl rfl) (fun a hf => ?_)
    refine S.call hf rfl rfl rfl (call_fn (vs := [.slice mA m.length mC, .agg #[.string (ba xk1.Name), .string (ba xk1.Material)]]) rfl rfl rfl Tryz.call89) (R_stack_kindOf m xk1 _ mA mC ((Ag.args _ _ _).view hv_m hs) _ h) (fun v a w' hf hr => ?_)
    obtain ⟨y1, rfl, h2, hs2⟩ := hr
    replace h := h2; replace hs := hs.call hs2; clear h2 hs2
    refine S.val hf hs (v := .bool (y1 == 1)) rfl rfl rfl (V.pure rfl) (fun a hf => ?_)
    refine R.nil ?_
    refine X.then_ ?_
    refine C.cond hf (b := y1 == 1) rfl (fun hc => ?_) (fun hc => ?_)
    · replace h := h.1 hc
      refine R.list ?_
      refine S.val hf hs (v := .slice l2A l2.length l2C) rfl rfl rfl (V.pure rfl) (fun a hf => ?_)
      refine S.val hf hs (v := .int .i64 (k1 : Int)) rfl rfl rfl (V.pure rfl) (fun a hf => ?_)
      refine S.build1 hf hs rfl rfl rfl (α := Int) (k1 : Int) rfl rfl rfl Tryz.runUnderlying118 Tryz.sizeOf3 Tryz.zeroValue3 rfl (by decide) (fun A1 a w hf hs => ?_)
      obtain ⟨hroom, h⟩ := h
      refine S.appendCells 2 hf hs rfl rfl rfl rfl rfl rfl rfl Tryz.underlying118 info3 rfl hroom ((hs.ownView 0 rfl).some_ (i := 0) (by simp)) (hs.ownView 0 rfl) (fun A2 C1 a w hf hs => ?_)
      replace hs := hs.drop
      refine S.val hf hs (v := .slice A2 (l2 ++ [(k1 : Int)]).length C1) rfl rfl rfl (V.pure rfl) (fun a hf => ?_)
      refine R.nil ?_
      refine X.blk ?_
      refine X.then_ ?_
      refine R.list ?_
      refine S.val hf hs (v := .int .i64 ((k1 + 1 : Nat) : Int)) rfl rfl rfl (V.incr rfl rfl rfl hltk1 hlenk1) (fun a hf => ?_)
      refine S.val hf hs (v := .int .i64 ((k1 + 1 : Nat) : Int)) rfl rfl rfl (V.pure rfl) (fun a hf => ?_)
      refine R.nil ?_
      refine X.then_ ?_
      exact ⟨xk1, llk1, rfl, k1 + 1, (l2 ++ [(k1 : Int)]), A2, C1, range_drop hlk1, range_len hkk1, (by rw [hnext1] at h; exact h), (((((hf.nil.cons (hf.get 9 _ rfl)).cons (hf.get 8 _ rfl)).cons (hf.get 5 _ rfl)).cons (hf.get 0 _ rfl)).cons (hf.get 10 _ rfl)), hs.drop⟩
    · replace h := h.2 hc
      refine wp_skip ?_
      refine X.blk ?_
      refine X.then_ ?_
      refine R.list ?_
      refine S.val hf hs (v := .int .i64 ((k1 + 1 : Nat) : Int)) rfl rfl rfl (V.incr rfl rfl rfl hltk1 hlenk1) (fun a hf => ?_)
      refine S.val hf hs (v := .int .i64 ((k1 + 1 : Nat) : Int)) rfl rfl rfl (V.pure rfl) (fun a hf => ?_)
      refine R.nil ?_
      refine X.then_ ?_
      exact ⟨xk1, llk1, rfl, k1 + 1, l2, l2A, l2C, range_drop hlk1, range_len hkk1, (by rw [hnext1] at h; exact h), (((((hf.nil.cons (hf.get 9 _ rfl)).cons (hf.get 8 _ rfl)).cons (hf.get 5 _ rfl)).cons (hf.get 0 _ rfl)).cons (hf.get 10 _ rfl)), hs.drop⟩

set_option linter.unusedVariables false
def M_stack_CheckStack_k2 (Q : Int → Prop) (c1 : Bool) : Prop :=
  cnd c1 (Q 3) (Q 0)
def M_stack_CheckStack_k5 (Q : Int → Prop) (xk1 : Layer) (m2 : List (Str × Bool)) (next1 : List (Str × Bool) → Int → Prop) (y5 : Material) (c4 : Bool) : Prop :=
  cnd c4 (Q 8) (next1 (mput m2 xk1.Name true) y5.Kind)
def M_stack_CheckStack_k7 (Q : Int → Prop) (xk1 : Layer) (m2 : List (Str × Bool)) (n2 : Int) (next1 : List (Str × Bool) → Int → Prop) (y5 : Material) (c6 : Bool) : Prop :=
  cnd c6 (M_stack_CheckStack_k5 Q xk1 m2 next1 y5 c6) (cnd (n2 == 2) (M_stack_CheckStack_k5 Q xk1 m2 next1 y5 (!(y5.Kind == 1))) (M_stack_CheckStack_k5 Q xk1 m2 next1 y5 false))
def M_stack_CheckStack_k6 (Q : Int → Prop) (xk1 : Layer) (m2 : List (Str × Bool)) (n2 : Int) (next1 : List (Str × Bool) → Int → Prop) (y5 : Material) (c5 : Bool) : Prop :=
  cnd c5 (M_stack_CheckStack_k5 Q xk1 m2 next1 y5 c5) (cnd (y5.Kind == 2) (cnd (n2 != 0) (M_stack_CheckStack_k7 Q xk1 m2 n2 next1 y5 (n2 != 1)) (M_stack_CheckStack_k7 Q xk1 m2 n2 next1 y5 false)) (M_stack_CheckStack_k7 Q xk1 m2 n2 next1 y5 false))
def M_stack_CheckStack_k4 (Q : Int → Prop) (xk1 : Layer) (m2 : List (Str × Bool)) (n2 : Int) (next1 : List (Str × Bool) → Int → Prop) (y5 : Material) (c3 : Bool) : Prop :=
  cnd c3 (Q 7) (cnd (y5.Kind == 1) (M_stack_CheckStack_k6 Q xk1 m2 n2 next1 y5 (n2 == 1)) (M_stack_CheckStack_k6 Q xk1 m2 n2 next1 y5 false))
def M_stack_CheckStack_k3 (Q : Int → Prop) (xk1 : Layer) (m2 : List (Str × Bool)) (n2 : Int) (next1 : List (Str × Bool) → Int → Prop) (y5 : Material) (c2 : Bool) : Prop :=
  cnd c2 (Q 5) (cnd (y5.Kind == 1) (M_stack_CheckStack_k4 Q xk1 m2 n2 next1 y5 ((mget m2 xk1.Name).getD false)) (M_stack_CheckStack_k4 Q xk1 m2 n2 next1 y5 false))
def M_stack_CheckStack_L1 (m : (List Material)) (Q : Int → Prop) (k1 : Nat) (xk1 : Layer) (m2 : List (Str × Bool)) (n2 : Int) (next1 : List (Str × Bool) → Int → Prop) : Prop :=
  M_stack_materialOf m xk1.Material fun y5 y6 => cnd (!y6) (Q 9) (cnd (y5.Kind == 1) (M_netlist_IsWord xk1.Name fun y7 => cnd (!y7) (M_stack_CheckStack_k3 Q xk1 m2 n2 next1 y5 true) (cnd (!(y5.Kind == 1)) (M_stack_CheckStack_k3 Q xk1 m2 n2 next1 y5 (!(xk1.Name == []))) (M_stack_CheckStack_k3 Q xk1 m2 n2 next1 y5 false))) (cnd (!(y5.Kind == 1)) (M_stack_CheckStack_k3 Q xk1 m2 n2 next1 y5 (!(xk1.Name == []))) (M_stack_CheckStack_k3 Q xk1 m2 n2 next1 y5 false)))
def M_stack_CheckStack (m : (List Material)) (s_ : (List Layer)) (Q : Int → Prop) : Prop :=
  M_stack_CheckMaterials m fun y1 => cnd (y1 != 0) (Q y1) (cnd (decide ((s_.length : Int) > 60)) (Q 2) (forIn' (fun k x (s : List (Str × Bool) × Int) next => M_stack_CheckStack_L1 m Q k x s.1 s.2 (fun m2 n2 => next (m2, n2))) (fun (s : List (Str × Bool) × Int) => (fun (m2 : List (Str × Bool)) (n2 : Int) => M_stack_coppers m s_ fun y2 => cnd (decide ((y2.length : Int) < 2)) (M_stack_CheckStack_k2 Q true) (idx s_ 0 fun x1 => M_stack_kindOf m x1 fun y3 => cnd (y3 != 1) (M_stack_CheckStack_k2 Q true) (idx s_ (w64 ((s_.length : Int) - 1)) fun x2 => M_stack_kindOf m x2 fun y4 => M_stack_CheckStack_k2 Q (y4 != 1)))) s.1 s.2) s_ 0 (([] : List (Str × Bool)), 0)))
set_option maxHeartbeats 1000000 in
theorem R_stack_CheckStack (m : (List Material)) (s_ : (List Layer)) (w0 : World) (mA : Option Addr) (mC : Nat) (hv_m : View w0 (old w0 none_) mA mC m) (s_A : Option Addr) (s_C : Nat) (hv_s_ : View w0 (old w0 none_) s_A s_C s_) (Q : Int → Prop) (h : M_stack_CheckStack m s_ Q) :
    Ret Tryz.prog 40 #[.slice mA m.length mC, .slice s_A s_.length s_C] w0 fun v w' => ∃ (r0 : Int), v = .int .i64 r0 ∧ Q r0 ∧ Sat w0 none_ [] w' := by
  refine fn_enter Tryz.func40 rfl Tryz.ntmps40 rfl (fs := [(0, .slice mA m.length mC), (1, .slice s_A s_.length s_C)]) rfl (fun a hf => ?_)
  have hs := Sat.start w0 none_
  unfold M_stack_CheckStack at h
  refine wp_seq ?_
  refine R.list ?_
  refine S.val hf hs (v := .int .i64 0) rfl rfl rfl (V.pure rfl) (fun a hf => ?_)
  refine R.nil ?_
  refine X.then_ ?_
  refine wp_seq ?_
  refine wp_seq ?_
  refine R.list ?_
  refine S.val hf hs (v := .slice mA m.length mC) rfl rfl rfl (V.pure rfl) (fun a hf => ?_)
  refine S.call hf rfl rfl rfl (call_fn (vs := [.slice mA m.length mC]) rfl rfl rfl Tryz.call85) (R_stack_CheckMaterials m _ mA mC ((Ag.args _ _ _).view hv_m hs) _ h) (fun v a w' hf hr => ?_)
  obtain ⟨y1, rfl, h2, hs2⟩ := hr
  replace h := h2; replace hs := hs.call hs2; clear h2 hs2
  refine S.val hf hs (v := .int .i64 y1) rfl rfl rfl (V.pure rfl) (fun a hf => ?_)
  refine R.nil ?_
  refine X.then_ ?_
  refine wp_seq ?_
  refine R.list ?_
  refine S.val hf hs (v := .int .i64 y1) rfl rfl rfl (V.pure rfl) (fun a hf => ?_)
  refine S.val hf hs (v := .bool (y1 != 0)) rfl rfl rfl (V.pure rfl) (fun a hf => ?_)
  refine R.nil ?_
  refine X.then_ ?_
  refine C.cond hf (b := y1 != 0) rfl (fun hc => ?_) (fun hc => ?_)
  · replace h := h.1 hc
    refine wp_seq ?_
    refine R.list ?_
    refine S.val hf hs (v := .int .i64 y1) rfl rfl rfl (V.pure rfl) (fun a hf => ?_)
    refine S.val hf hs (v := .int .i64 y1) rfl rfl rfl (V.pure rfl) (fun a hf => ?_)
    refine R.nil ?_
    refine X.then_ ?_
    refine wp_ret ?_
    refine X.then_ret ?_
    exact L.ret hf (run_results1 Tryz.results40 (ResIs.tmp hf rfl)) ⟨y1, rfl, h, hs.nil⟩
  · replace h := h.2 hc
    refine wp_skip ?_
    refine X.then_ ?_
    refine wp_seq ?_
    refine wp_seq ?_
    refine R.list ?_
    refine S.val hf hs (v := .slice s_A s_.length s_C) rfl rfl rfl (V.pure rfl) (fun a hf => ?_)
    refine S.val hf hs (v := .int .i64 (s_.length : Int)) rfl rfl rfl (V.len rfl rfl Tryz.runUnderlying23) (fun a hf => ?_)
    refine S.val hf hs (v := .bool (decide ((s_.length : Int) > 60))) rfl rfl rfl (V.pure rfl) (fun a hf => ?_)
    refine R.nil ?_
    refine X.then_ ?_
    refine C.cond hf (b := decide ((s_.length : Int) > 60)) rfl (fun hc => ?_) (fun hc => ?_)
    · replace h := h.1 hc
      refine wp_seq ?_
      refine R.list ?_
      refine S.val hf hs (v := .int .i64 2) rfl rfl rfl (V.pure rfl) (fun a hf => ?_)
      refine R.nil ?_
      refine X.then_ ?_
      refine wp_ret ?_
      refine X.then_ret ?_
      exact L.ret hf (run_results1 Tryz.results40 (ResIs.tmp hf rfl)) ⟨2, rfl, h, hs.nil⟩
    · replace h := h.2 hc
      refine wp_skip ?_
      refine X.then_ ?_
      refine wp_seq ?_
      refine R.list ?_
      refine S.makeMap hf hs rfl rfl rfl ek9 ek4 rfl (fun g1 a w hf hs => ?_)
      refine S.val hf hs (v := .map (some g1)) rfl rfl rfl (V.pure rfl) (fun a hf => ?_)
      refine R.nil ?_
      refine X.then_ ?_
      refine wp_seq ?_
      refine R.list ?_
      refine S.val hf hs (v := .int .i64 0) rfl rfl rfl (V.pure rfl) (fun a hf => ?_)
      refine R.nil ?_
      refine X.then_ ?_
      refine wp_seq ?_
      refine wp_seq ?_
      refine R.list ?_
      refine S.val hf hs (v := .slice s_A s_.length s_C) rfl rfl rfl (V.pure rfl) (fun a hf => ?_)
      refine S.val hf hs (v := .int .i64 (s_.length : Int)) rfl rfl rfl (V.len rfl rfl Tryz.runUnderlying23) (fun a hf => ?_)
      refine S.val hf hs (v := .int .i64 0) rfl rfl rfl (V.pure rfl) (fun a hf => ?_)
      refine R.nil ?_
      refine X.then_ ?_
      refine wp_block ?_
      have hlenk1 := hv_s_.len64
      refine C.range (fun (ll : List Layer) a w => ∃ (k1 : Nat) (m2 : List (Str × Bool)) (n2 : Int), s_.drop k1 = ll ∧ k1 + ll.length = s_.length ∧ forIn' (fun k x (s : List (Str × Bool) × Int) next => M_stack_CheckStack_L1 m Q k x s.1 s.2 (fun m2 n2 => next (m2, n2))) (fun (s : List (Str × Bool) × Int) => (fun (m2 : List (Str × Bool)) (n2 : Int) => M_stack_coppers m s_ fun y2 => cnd (decide ((y2.length : Int) < 2)) (M_stack_CheckStack_k2 Q true) (idx s_ 0 fun x1 => M_stack_kindOf m x1 fun y3 => cnd (y3 != 1) (M_stack_CheckStack_k2 Q true) (idx s_ (w64 ((s_.length : Int) - 1)) fun x2 => M_stack_kindOf m x2 fun y4 => M_stack_CheckStack_k2 Q (y4 != 1)))) s.1 s.2) ll k1 (m2, n2) ∧ FrOk 121 [(25, .int .i64 (k1 : Int)), (0, .slice mA m.length mC), (1, .slice s_A s_.length s_C), (6, .map (some g1)), (7, .int .i64 n2), (23, .slice s_A s_.length s_C), (24, .int .i64 (s_.length : Int))] a ∧ Sat w0 none_ [hmap g1 ek9 ek4 m2] w) s_ ⟨0, ([] : List (Str × Bool)), 0, rfl, Nat.zero_add _, h, (((((((hf.nil.cons (hf.get 24 _ rfl)).cons (hf.get 23 _ rfl)).cons (hf.get 7 _ rfl)).cons (hf.get 6 _ rfl)).cons (hf.get 1 _ rfl)).cons (hf.get 0 _ rfl)).cons (hf.get 25 _ rfl)), hs⟩ ?_
      clear h hf hs
      rintro llk1 a w ⟨k1, m2, n2, hlk1, hkk1, h, hf, hs⟩
      cases llk1 with
      | nil =>
        have hc := range_done hkk1
        replace h : (fun (m2 : List (Str × Bool)) (n2 : Int) => M_stack_coppers m s_ fun y2 => cnd (decide ((y2.length : Int) < 2)) (M_stack_CheckStack_k2 Q true) (idx s_ 0 fun x1 => M_stack_kindOf m x1 fun y3 => cnd (y3 != 1) (M_stack_CheckStack_k2 Q true) (idx s_ (w64 ((s_.length : Int) - 1)) fun x2 => M_stack_kindOf m x2 fun y4 => M_stack_CheckStack_k2 Q (y4 != 1)))) m2 n2 := h
        refine wp_seq ?_
        refine R.list ?_
        refine S.val hf hs (v := .bool false) rfl rfl rfl (V.cmp false rfl rfl rfl rfl hc) (fun a hf => ?_)
        refine R.nil ?_
        refine X.then_ ?_
        refine wp_seq ?_
        refine C.no hf rfl ?_
        refine wp_exit ?_
        refine X.then_exit ?_
        refine X.then_exit ?_
        refine X.blk_exit ?_
        refine X.then_ ?_
        refine wp_seq ?_
        refine wp_seq ?_
        refine R.list ?_
        refine S.val hf hs (v := .slice mA m.length mC) rfl rfl rfl (V.pure rfl) (fun a hf => ?_)
        refine S.val hf hs (v := .slice s_A s_.length s_C) rfl rfl rfl (V.pure rfl) (fun a hf => ?_)
        refine S.call hf rfl rfl rfl (call_fn (vs := [.slice mA m.length mC, .slice s_A s_.length s_C]) rfl rfl rfl Tryz.call88) (R_stack_coppers m s_ _ mA mC ((Ag.args _ _ _).view hv_m hs) s_A s_C ((Ag.args _ _ _).view hv_s_ hs) _ h) (fun v a w' hf hr => ?_)
        obtain ⟨y2, y2A, y2C, rfl, h2, hs2⟩ := hr
        replace h := h2; replace hs := hs.call hs2; clear h2 hs2
        refine S.val hf hs (v := .int .i64 (y2.length : Int)) rfl rfl rfl (V.len rfl rfl Tryz.runUnderlying118) (fun a hf => ?_)
        refine S.val hf hs (v := .int .i64 (y2.length : Int)) rfl rfl rfl (V.pure rfl) (fun a hf => ?_)
        refine R.nil ?_
        refine X.then_ ?_
        refine wp_seq ?_
        refine C.cut (J := fun a w => ∃ (c1 : Bool), M_stack_CheckStack_k2 Q c1 ∧ FrOk 121 [(120, .bool c1)] a ∧ Sat w0 none_ [hown 3 y2A y2C y2, hmap g1 ek9 ek4 m2] w) ?_ ?_
        · rintro a w ⟨c1, h, hf, hs⟩
          unfold M_stack_CheckStack_k2 at h
          refine C.cond hf (b := c1) rfl (fun hc => ?_) (fun hc => ?_)
          · replace h := h.1 hc
            refine wp_seq ?_
            refine R.list ?_
            refine S.val hf hs (v := .int .i64 3) rfl rfl rfl (V.pure rfl) (fun a hf => ?_)
            refine R.nil ?_
            refine X.then_ ?_
            refine wp_ret ?_
            refine X.then_ret ?_
            exact L.ret hf (run_results1 Tryz.results40 (ResIs.tmp hf rfl)) ⟨3, rfl, h, hs.nil⟩
          · replace h := h.2 hc
            refine wp_skip ?_
            refine X.then_ ?_
            refine wp_seq ?_
            refine R.list ?_
            refine S.val hf hs (v := .int .i64 0) rfl rfl rfl (V.pure rfl) (fun a hf => ?_)
            refine R.nil ?_
            refine X.then_ ?_
            refine wp_ret ?_
            exact L.ret hf (run_results1 Tryz.results40 (ResIs.tmp hf rfl)) ⟨0, rfl, h, hs.nil⟩
        · skip
          refine R.list ?_
          refine S.val hf hs (v := .int .i64 (y2.length : Int)) rfl rfl rfl (V.pure rfl) (fun a hf => ?_)
          refine S.val hf hs (v := .bool (decide ((y2.length : Int) < 2))) rfl rfl rfl (V.pure rfl) (fun a hf => ?_)
          refine S.split hf hs (b := decide ((y2.length : Int) < 2)) rfl rfl rfl (V.pure rfl) (fun hc a hf => ?_) (fun hc a hf => ?_)
          · replace h := h.1 hc
            refine S.skip hf rfl rfl rfl (fun a hf => ?_)
            refine S.skip hf rfl rfl rfl (fun a hf => ?_)
            refine S.skip hf rfl rfl rfl (fun a hf => ?_)
            refine S.skip hf rfl rfl rfl (fun a hf => ?_)
            refine S.skip hf rfl rfl rfl (fun a hf => ?_)
            refine S.skip hf rfl rfl rfl (fun a hf => ?_)
            refine S.val hf hs (v := .bool true) rfl rfl rfl (V.pure rfl) (fun a hf => ?_)
            refine S.val hf hs (v := .bool true) rfl rfl rfl (V.pure rfl) (fun a hf => ?_)
            refine S.skip hf rfl rfl rfl (fun a hf => ?_)
            refine S.skip hf rfl rfl rfl (fun a hf => ?_)
            refine S.skip hf rfl rfl rfl (fun a hf => ?_)
            refine S.skip hf rfl rfl rfl (fun a hf => ?_)
            refine S.skip hf rfl rfl rfl (fun a hf => ?_)
            refine S.skip hf rfl rfl rfl (fun a hf => ?_)
            refine S.skip hf rfl rfl rfl (fun a hf => ?_)
            refine S.skip hf rfl rfl rfl (fun a hf => ?_)
            refine S.skip hf rfl rfl rfl (fun a hf => ?_)
            refine S.val hf hs (v := .bool true) rfl rfl rfl (V.pure rfl) (fun a hf => ?_)
            refine R.nil ?_
            refine X.then_ ?_
            exact ⟨true, h, (hf.nil.cons (hf.get 120 _ rfl)), hs⟩
          · replace h := h.2 hc
            refine S.val hf hs (v := .slice mA m.length mC) rfl rfl rfl (V.pure rfl) (fun a hf => ?_)
            refine S.val hf hs (v := .slice s_A s_.length s_C) rfl rfl rfl (V.pure rfl) (fun a hf => ?_)
            obtain ⟨h0x1, x1, hx1, h⟩ := h
            refine S.val hf hs (v := elemPtr s_A (0 * 2)) rfl rfl rfl (V.index rfl rfl rfl Tryz.runUnderlying23 Tryz.sizeOf32 (hv_s_.some_ (lt_of_get hx1)) h0x1 (lt_of_get hx1) rfl) (fun a hf => ?_)
            refine S.val hf hs (v := .agg #[.string (ba x1.Name), .string (ba x1.Material)]) rfl rfl rfl (V.loadEl (off := 0) (Ag.args _ _ _) (hv_s_.flat hx1) rfl rfl rfl Tryz.isAgg32 Tryz.sizeOf32 rfl rfl) (fun a hf => ?_)
            refine S.call hf rfl rfl rfl (call_fn (vs := [.slice mA m.length mC, .agg #[.string (ba x1.Name), .string (ba x1.Material)]]) rfl rfl rfl Tryz.call89) (R_stack_kindOf m x1 _ mA mC ((Ag.args _ _ _).view hv_m hs) _ h) (fun v a w' hf hr => ?_)
            obtain ⟨y3, rfl, h2, hs2⟩ := hr
            replace h := h2; replace hs := hs.call hs2; clear h2 hs2
            refine S.val hf hs (v := .bool (y3 != 1)) rfl rfl rfl (V.pure rfl) (fun a hf => ?_)
            refine S.val hf hs (v := .bool (y3 != 1)) rfl rfl rfl (V.pure rfl) (fun a hf => ?_)
            refine S.split hf hs (b := y3 != 1) rfl rfl rfl (V.pure rfl) (fun hc a hf => ?_) (fun hc a hf => ?_)
            · replace h := h.1 hc
              refine S.skip hf rfl rfl rfl (fun a hf => ?_)
              refine S.skip hf rfl rfl rfl (fun a hf => ?_)
              refine S.skip hf rfl rfl rfl (fun a hf => ?_)
              refine S.skip hf rfl rfl rfl (fun a hf => ?_)
              refine S.skip hf rfl rfl rfl (fun a hf => ?_)
              refine S.skip hf rfl rfl rfl (fun a hf => ?_)
              refine S.skip hf rfl rfl rfl (fun a hf => ?_)
              refine S.skip hf rfl rfl rfl (fun a hf => ?_)
              refine S.skip hf rfl rfl rfl (fun a hf => ?_)
              refine S.val hf hs (v := .bool true) rfl rfl rfl (V.pure rfl) (fun a hf => ?_)
              refine R.nil ?_
              refine X.then_ ?_
              exact ⟨true, h, (hf.nil.cons (hf.get 120 _ rfl)), hs⟩
            · replace h := h.2 hc
              refine S.val hf hs (v := .slice mA m.length mC) rfl rfl rfl (V.pure rfl) (fun a hf => ?_)
              refine S.val hf hs (v := .slice s_A s_.length s_C) rfl rfl rfl (V.pure rfl) (fun a hf => ?_)
              refine S.val hf hs (v := .slice s_A s_.length s_C) rfl rfl rfl (V.pure rfl) (fun a hf => ?_)
              refine S.val hf hs (v := .int .i64 (s_.length : Int)) rfl rfl rfl (V.len rfl rfl Tryz.runUnderlying23) (fun a hf => ?_)
              refine S.val hf hs (v := .int .i64 (w64 ((s_.length : Int) - 1))) rfl rfl rfl (V.pure rfl) (fun a hf => ?_)
              obtain ⟨h0x2, x2, hx2, h⟩ := h
              refine S.val hf hs (v := elemPtr s_A ((w64 ((s_.length : Int) - 1)).toNat * 2)) rfl rfl rfl (V.index rfl rfl rfl Tryz.runUnderlying23 Tryz.sizeOf32 (hv_s_.some_ (lt_of_get hx2)) h0x2 (lt_of_get hx2) rfl) (fun a hf => ?_)
              refine S.val hf hs (v := .agg #[.string (ba x2.Name), .string (ba x2.Material)]) rfl rfl rfl (V.loadEl (off := 0) (Ag.args _ _ _) (hv_s_.flat hx2) rfl rfl rfl Tryz.isAgg32 Tryz.sizeOf32 rfl rfl) (fun a hf => ?_)
              refine S.call hf rfl rfl rfl (call_fn (vs := [.slice mA m.length mC, .agg #[.string (ba x2.Name), .string (ba x2.Material)]]) rfl rfl rfl Tryz.call89) (R_stack_kindOf m x2 _ mA mC ((Ag.args _ _ _).view hv_m hs) _ h) (fun v a w' hf hr => ?_)
              obtain ⟨y4, rfl, h2, hs2⟩ := hr
              replace h := h2; replace hs := hs.call hs2; clear h2 hs2
              refine S.val hf hs (v := .bool (y4 != 1)) rfl rfl rfl (V.pure rfl) (fun a hf => ?_)
              refine S.val hf hs (v := .bool (y4 != 1)) rfl rfl rfl (V.pure rfl) (fun a hf => ?_)
              refine R.nil ?_
              refine X.then_ ?_
              exact ⟨(y4 != 1), h, (hf.nil.cons (hf.get 120 _ rfl)), hs⟩
      | cons xk1 llk1 =>
        have hltk1 := range_lt hkk1; have hc := range_go hkk1; have hxk1 := range_get hlk1
        obtain ⟨next1, hnext1⟩ : ∃ X : List (Str × Bool) → Int → Prop, X = (fun m2 n2 => forIn' (fun k x (s : List (Str × Bool) × Int) next => M_stack_CheckStack_L1 m Q k x s.1 s.2 (fun m2 n2 => next (m2, n2))) (fun (s : List (Str × Bool) × Int) => (fun (m2 : List (Str × Bool)) (n2 : Int) => M_stack_coppers m s_ fun y2 => cnd (decide ((y2.length : Int) < 2)) (M_stack_CheckStack_k2 Q true) (idx s_ 0 fun x1 => M_stack_kindOf m x1 fun y3 => cnd (y3 != 1) (M_stack_CheckStack_k2 Q true) (idx s_ (w64 ((s_.length : Int) - 1)) fun x2 => M_stack_kindOf m x2 fun y4 => M_stack_CheckStack_k2 Q (y4 != 1)))) s.1 s.2) llk1 (k1 + 1) (m2, n2)) := ⟨_, rfl⟩
        replace h : M_stack_CheckStack_L1 m Q k1 xk1 m2 n2 next1 := by rw [hnext1]; exact h
        unfold M_stack_CheckStack_L1 at h
        refine wp_seq ?_
        refine R.list ?_
        refine S.val hf hs (v := .bool true) rfl rfl rfl (V.cmp true rfl rfl rfl rfl hc) (fun a hf => ?_)
        refine R.nil ?_
        refine X.then_ ?_
        refine wp_seq ?_
        refine C.yes hf rfl ?_
        refine wp_skip ?_
        refine X.then_ ?_
        refine wp_seq ?_
        refine wp_block ?_
        refine wp_seq ?_
        refine R.list ?_
        refine S.val hf hs (v := elemPtr s_A (k1 * 2)) rfl rfl rfl (V.index rfl rfl rfl Tryz.runUnderlying23 Tryz.sizeOf32 (hv_s_.some_ (lt_of_get hxk1)) (Int.natCast_nonneg _) (lt_of_get hxk1) rfl) (fun a hf => ?_)
        refine S.val hf hs (v := .agg #[.string (ba xk1.Name), .string (ba xk1.Material)]) rfl rfl rfl (V.loadEl (off := 0) (Ag.args _ _ _) (hv_s_.flat hxk1) rfl rfl rfl Tryz.isAgg32 Tryz.sizeOf32 rfl rfl) (fun a hf => ?_)
        refine S.alloc hf hs rfl rfl rfl [.string (ba []), .string (ba [])] rfl Tryz.zeroValue32 rfl (fun g2 a w hf hs => ?_)
        refine S.storeBox 0 hf hs rfl rfl [.string (ba xk1.Name), .string (ba xk1.Material)] [.string (ba xk1.Name), .string (ba xk1.Material)] rfl rfl rfl rfl rfl Tryz.sizeOf32 rfl rfl rfl rfl (fun a w hf hs => ?_)
        refine R.nil ?_
        refine X.then_ ?_
        refine wp_seq ?_
        refine R.list ?_
        refine S.val hf hs (v := .slice mA m.length mC) rfl rfl rfl (V.pure rfl) (fun a hf => ?_)
        refine S.val hf hs (v := .pointer (some ⟨g2, 1, none⟩)) rfl rfl rfl (V.fieldBox rfl rfl Tryz.runUnderlying32 rfl Tryz.sizeOf9 rfl rfl) (fun a hf => ?_)
        refine S.val hf hs (v := .string (ba xk1.Material)) rfl rfl rfl (V.loadBox 0 rfl rfl rfl Tryz.isAgg9 Tryz.sizeOf9 rfl rfl) (fun a hf => ?_)
        refine S.call hf rfl rfl rfl (call_fn (vs := [.slice mA m.length mC, .string (ba xk1.Material)]) rfl rfl rfl Tryz.call86) (R_stack_materialOf m xk1.Material _ mA mC ((Ag.args _ _ _).view hv_m hs) _ h) (fun v a w' hf hr => ?_)
        obtain ⟨y5, y6, rfl, h2, hs2⟩ := hr
        replace h := h2; replace hs := hs.call hs2; clear h2 hs2
        refine S.val hf hs (v := .tuple #[.agg #[.string (ba y5.Name), .int .i64 y5.Kind, .int .i64 y5.Thick, .int .i64 y5.Grow], .bool y6]) rfl rfl rfl (V.pure rfl) (fun a hf => ?_)
        refine S.val hf hs (v := .agg #[.string (ba y5.Name), .int .i64 y5.Kind, .int .i64 y5.Thick, .int .i64 y5.Grow]) rfl rfl rfl (V.pure rfl) (fun a hf => ?_)
        refine S.val hf hs (v := .bool y6) rfl rfl rfl (V.pure rfl) (fun a hf => ?_)
        refine S.alloc hf hs rfl rfl rfl [.string (ba []), .int .i64 0, .int .i64 0, .int .i64 0] rfl Tryz.zeroValue29 rfl (fun g3 a w hf hs => ?_)
        refine S.storeBox 0 hf hs rfl rfl [.string (ba y5.Name), .int .i64 y5.Kind, .int .i64 y5.Thick, .int .i64 y5.Grow] [.string (ba y5.Name), .int .i64 y5.Kind, .int .i64 y5.Thick, .int .i64 y5.Grow] rfl rfl rfl rfl rfl Tryz.sizeOf29 rfl rfl rfl rfl (fun a w hf hs => ?_)
        refine S.val hf hs (v := .bool y6) rfl rfl rfl (V.pure rfl) (fun a hf => ?_)
        refine R.nil ?_
        refine X.then_ ?_
        refine wp_seq ?_
        refine R.list ?_
        refine S.val hf hs (v := .pointer (some ⟨g3, 1, none⟩)) rfl rfl rfl (V.fieldBox rfl rfl Tryz.runUnderlying29 rfl Tryz.sizeOf3 rfl rfl) (fun a hf => ?_)
        refine S.val hf hs (v := .int .i64 y5.Kind) rfl rfl rfl (V.loadBox 0 rfl rfl rfl Tryz.isAgg3 Tryz.sizeOf3 rfl rfl) (fun a hf => ?_)
        refine S.val hf hs (v := .bool (y5.Kind == 1)) rfl rfl rfl (V.pure rfl) (fun a hf => ?_)
        refine S.val hf hs (v := .bool (y5.Kind == 1)) rfl rfl rfl (V.pure rfl) (fun a hf => ?_)
        refine R.nil ?_
        refine X.then_ ?_
        refine wp_seq ?_
        refine wp_block ?_
        refine wp_seq ?_
        refine R.list ?_
        refine S.val hf hs (v := .bool y6) rfl rfl rfl (V.pure rfl) (fun a hf => ?_)
        refine S.val hf hs (v := .bool (!y6)) rfl rfl rfl (V.pure rfl) (fun a hf => ?_)
        refine S.val hf hs (v := .bool (!y6)) rfl rfl rfl (V.pure rfl) (fun a hf => ?_)
        refine R.nil ?_
        refine X.then_ ?_
        refine C.cond hf (b := !y6) rfl (fun hc => ?_) (fun hc => ?_)
        · replace h := h.1 hc
          refine wp_seq ?_
          refine R.list ?_
          refine S.val hf hs (v := .int .i64 9) rfl rfl rfl (V.pure rfl) (fun a hf => ?_)
          refine R.nil ?_
          refine X.then_ ?_
          refine wp_ret ?_
          refine X.blk_ret ?_
          refine X.then_ret ?_
          refine X.blk_ret ?_
          refine X.then_ret ?_
          refine X.then_ret ?_
          refine X.blk_ret ?_
          refine X.then_ret ?_
          exact L.ret hf (run_results1 Tryz.results40 (ResIs.tmp hf rfl)) ⟨9, rfl, h, hs.nil⟩
        · replace h := h.2 hc
          refine wp_seq ?_
          refine C.cut (J := fun a w => ∃ (c2 : Bool), M_stack_CheckStack_k3 Q xk1 m2 n2 next1 y5 c2 ∧ FrOk 121 [(0, .slice mA m.length mC), (1, .slice s_A s_.length s_C), (6, .map (some g1)), (7, .int .i64 n2), (9, .pointer (some ⟨g2, 0, none⟩)), (10, .pointer (some ⟨g3, 0, none⟩)), (12, .bool (y5.Kind == 1)), (23, .slice s_A s_.length s_C), (24, .int .i64 (s_.length : Int)), (25, .int .i64 (k1 : Int)), (42, .bool c2)] a ∧ Sat w0 none_ [hbox g3 29 [.string (ba y5.Name), .int .i64 y5.Kind, .int .i64 y5.Thick, .int .i64 y5.Grow], hbox g2 32 [.string (ba xk1.Name), .string (ba xk1.Material)], hmap g1 ek9 ek4 m2] w) ?_ ?_
          · rintro a w ⟨c2, h, hf, hs⟩
            unfold M_stack_CheckStack_k3 at h
            refine C.cond hf (b := c2) rfl (fun hc => ?_) (fun hc => ?_)
            · replace h := h.1 hc
              refine wp_seq ?_
              refine R.list ?_
              refine S.val hf hs (v := .int .i64 5) rfl rfl rfl (V.pure rfl) (fun a hf => ?_)
              refine R.nil ?_
              refine X.then_ ?_
              refine wp_ret ?_
              refine X.blk_ret ?_
              refine X.then_ret ?_
              refine X.blk_ret ?_
              refine X.then_ret ?_
              refine X.then_ret ?_
              refine X.blk_ret ?_
              refine X.then_ret ?_
              exact L.ret hf (run_results1 Tryz.results40 (ResIs.tmp hf rfl)) ⟨5, rfl, h, hs.nil⟩
            · replace h := h.2 hc
              refine wp_seq ?_
              refine C.cut (J := fun a w => ∃ (c3 : Bool), M_stack_CheckStack_k4 Q xk1 m2 n2 next1 y5 c3 ∧ FrOk 121 [(0, .slice mA m.length mC), (1, .slice s_A s_.length s_C), (6, .map (some g1)), (7, .int .i64 n2), (9, .pointer (some ⟨g2, 0, none⟩)), (10, .pointer (some ⟨g3, 0, none⟩)), (12, .bool (y5.Kind == 1)), (23, .slice s_A s_.length s_C), (24, .int .i64 (s_.length : Int)), (25, .int .i64 (k1 : Int)), (59, .bool c3)] a ∧ Sat w0 none_ [hbox g3 29 [.string (ba y5.Name), .int .i64 y5.Kind, .int .i64 y5.Thick, .int .i64 y5.Grow], hbox g2 32 [.string (ba xk1.Name), .string (ba xk1.Material)], hmap g1 ek9 ek4 m2] w) ?_ ?_
              · rintro a w ⟨c3, h, hf, hs⟩
                unfold M_stack_CheckStack_k4 at h
                refine C.cond hf (b := c3) rfl (fun hc => ?_) (fun hc => ?_)
                · replace h := h.1 hc
                  refine wp_seq ?_
                  refine R.list ?_
                  refine S.val hf hs (v := .int .i64 7) rfl rfl rfl (V.pure rfl) (fun a hf => ?_)
                  refine R.nil ?_
                  refine X.then_ ?_
                  refine wp_ret ?_
                  refine X.blk_ret ?_
                  refine X.then_ret ?_
                  refine X.blk_ret ?_
                  refine X.then_ret ?_
                  refine X.then_ret ?_
                  refine X.blk_ret ?_
                  refine X.then_ret ?_
                  exact L.ret hf (run_results1 Tryz.results40 (ResIs.tmp hf rfl)) ⟨7, rfl, h, hs.nil⟩
                · replace h := h.2 hc
                  refine wp_seq ?_
                  refine C.cut (J := fun a w => ∃ (c4 : Bool), M_stack_CheckStack_k5 Q xk1 m2 next1 y5 c4 ∧ FrOk 121 [(0, .slice mA m.length mC), (1, .slice s_A s_.length s_C), (6, .map (some g1)), (9, .pointer (some ⟨g2, 0, none⟩)), (10, .pointer (some ⟨g3, 0, none⟩)), (23, .slice s_A s_.length s_C), (24, .int .i64 (s_.length : Int)), (25, .int .i64 (k1 : Int)), (67, .bool c4)] a ∧ Sat w0 none_ [hbox g3 29 [.string (ba y5.Name), .int .i64 y5.Kind, .int .i64 y5.Thick, .int .i64 y5.Grow], hbox g2 32 [.string (ba xk1.Name), .string (ba xk1.Material)], hmap g1 ek9 ek4 m2] w) ?_ ?_
                  · rintro a w ⟨c4, h, hf, hs⟩
                    unfold M_stack_CheckStack_k5 at h
                    refine C.cond hf (b := c4) rfl (fun hc => ?_) (fun hc => ?_)
                    · replace h := h.1 hc
                      refine wp_seq ?_
                      refine R.list ?_
                      refine S.val hf hs (v := .int .i64 8) rfl rfl rfl (V.pure rfl) (fun a hf => ?_)
                      refine R.nil ?_
                      refine X.then_ ?_
                      refine wp_ret ?_
                      refine X.blk_ret ?_
                      refine X.then_ret ?_
                      refine X.blk_ret ?_
                      refine X.then_ret ?_
                      refine X.then_ret ?_
                      refine X.blk_ret ?_
                      refine X.then_ret ?_
                      exact L.ret hf (run_results1 Tryz.results40 (ResIs.tmp hf rfl)) ⟨8, rfl, h, hs.nil⟩
                    · replace h := h.2 hc
                      refine wp_skip ?_
                      refine X.blk ?_
                      refine X.then_ ?_
                      refine wp_seq ?_
                      refine R.list ?_
                      refine S.val hf hs (v := .map (some g1)) rfl rfl rfl (V.pure rfl) (fun a hf => ?_)
                      refine S.val hf hs (v := .pointer (some ⟨g2, 0, none⟩)) rfl rfl rfl (V.fieldBox rfl rfl Tryz.runUnderlying32 rfl Tryz.sizeOf9 rfl rfl) (fun a hf => ?_)
                      refine S.val hf hs (v := .string (ba xk1.Name)) rfl rfl rfl (V.loadBox 1 rfl rfl rfl Tryz.isAgg9 Tryz.sizeOf9 rfl rfl) (fun a hf => ?_)
                      refine S.mapUpdate 2 hf hs rfl rfl rfl xk1.Name true rfl rfl rfl rfl Tryz.runUnderlying150 key9 (fun a w hf hs => ?_)
                      refine R.nil ?_
                      refine X.then_ ?_
                      refine R.list ?_
                      refine S.val hf hs (v := .pointer (some ⟨g3, 1, none⟩)) rfl rfl rfl (V.fieldBox rfl rfl Tryz.runUnderlying29 rfl Tryz.sizeOf3 rfl rfl) (fun a hf => ?_)
                      refine S.val hf hs (v := .int .i64 y5.Kind) rfl rfl rfl (V.loadBox 0 rfl rfl rfl Tryz.isAgg3 Tryz.sizeOf3 rfl rfl) (fun a hf => ?_)
                      refine S.val hf hs (v := .int .i64 y5.Kind) rfl rfl rfl (V.pure rfl) (fun a hf => ?_)
                      refine R.nil ?_
                      refine X.blk ?_
                      refine X.then_ ?_
                      refine R.list ?_
                      refine S.val hf hs (v := .int .i64 ((k1 + 1 : Nat) : Int)) rfl rfl rfl (V.incr rfl rfl rfl hltk1 hlenk1) (fun a hf => ?_)
                      refine S.val hf hs (v := .int .i64 ((k1 + 1 : Nat) : Int)) rfl rfl rfl (V.pure rfl) (fun a hf => ?_)
                      refine R.nil ?_
                      refine X.then_ ?_
                      exact ⟨xk1, llk1, rfl, k1 + 1, (mput m2 xk1.Name true), y5.Kind, range_drop hlk1, range_len hkk1, (by rw [hnext1] at h; exact h), (((((((hf.nil.cons (hf.get 24 _ rfl)).cons (hf.get 23 _ rfl)).cons (hf.get 7 _ rfl)).cons (hf.get 6 _ rfl)).cons (hf.get 1 _ rfl)).cons (hf.get 0 _ rfl)).cons (hf.get 25 _ rfl)), hs.drop.drop⟩
                  · skip
                    refine wp_seq ?_
                    refine C.cut (J := fun a w => ∃ (c5 : Bool), M_stack_CheckStack_k6 Q xk1 m2 n2 next1 y5 c5 ∧ FrOk 121 [(0, .slice mA m.length mC), (1, .slice s_A s_.length s_C), (6, .map (some g1)), (7, .int .i64 n2), (9, .pointer (some ⟨g2, 0, none⟩)), (10, .pointer (some ⟨g3, 0, none⟩)), (12, .bool (y5.Kind == 1)), (23, .slice s_A s_.length s_C), (24, .int .i64 (s_.length : Int)), (25, .int .i64 (k1 : Int)), (67, .bool c5)] a ∧ Sat w0 none_ [hbox g3 29 [.string (ba y5.Name), .int .i64 y5.Kind, .int .i64 y5.Thick, .int .i64 y5.Grow], hbox g2 32 [.string (ba xk1.Name), .string (ba xk1.Material)], hmap g1 ek9 ek4 m2] w) ?_ ?_
                    · rintro a w ⟨c5, h, hf, hs⟩
                      unfold M_stack_CheckStack_k6 at h
                      refine C.cond hf (b := c5) rfl (fun hc => ?_) (fun hc => ?_)
                      · replace h := h.1 hc
                        refine wp_skip ?_
                        refine X.then_ ?_
                        exact ⟨c5, h, (((((((((hf.nil.cons (hf.get 67 _ rfl)).cons (hf.get 25 _ rfl)).cons (hf.get 24 _ rfl)).cons (hf.get 23 _ rfl)).cons (hf.get 10 _ rfl)).cons (hf.get 9 _ rfl)).cons (hf.get 6 _ rfl)).cons (hf.get 1 _ rfl)).cons (hf.get 0 _ rfl)), hs⟩
                      · replace h := h.2 hc
                        refine wp_seq ?_
                        refine C.cut (J := fun a w => ∃ (c6 : Bool), M_stack_CheckStack_k7 Q xk1 m2 n2 next1 y5 c6 ∧ FrOk 121 [(0, .slice mA m.length mC), (1, .slice s_A s_.length s_C), (6, .map (some g1)), (7, .int .i64 n2), (9, .pointer (some ⟨g2, 0, none⟩)), (10, .pointer (some ⟨g3, 0, none⟩)), (12, .bool (y5.Kind == 1)), (23, .slice s_A s_.length s_C), (24, .int .i64 (s_.length : Int)), (25, .int .i64 (k1 : Int)), (67, .bool c6)] a ∧ Sat w0 none_ [hbox g3 29 [.string (ba y5.Name), .int .i64 y5.Kind, .int .i64 y5.Thick, .int .i64 y5.Grow], hbox g2 32 [.string (ba xk1.Name), .string (ba xk1.Material)], hmap g1 ek9 ek4 m2] w) ?_ ?_
                        · rintro a w ⟨c6, h, hf, hs⟩
                          unfold M_stack_CheckStack_k7 at h
                          refine C.cond hf (b := c6) rfl (fun hc => ?_) (fun hc => ?_)
                          · replace h := h.1 hc
                            refine wp_skip ?_
                            refine X.then_ ?_
                            exact ⟨c6, h, (((((((((hf.nil.cons (hf.get 67 _ rfl)).cons (hf.get 25 _ rfl)).cons (hf.get 24 _ rfl)).cons (hf.get 23 _ rfl)).cons (hf.get 10 _ rfl)).cons (hf.get 9 _ rfl)).cons (hf.get 6 _ rfl)).cons (hf.get 1 _ rfl)).cons (hf.get 0 _ rfl)), hs⟩
                          · replace h := h.2 hc
                            refine R.list ?_
                            refine S.val hf hs (v := .int .i64 n2) rfl rfl rfl (V.pure rfl) (fun a hf => ?_)
                            refine S.val hf hs (v := .bool (n2 == 2)) rfl rfl rfl (V.pure rfl) (fun a hf => ?_)
                            refine S.split hf hs (b := n2 == 2) rfl rfl rfl (V.pure rfl) (fun hc a hf => ?_) (fun hc a hf => ?_)
                            · replace h := h.1 hc
                              refine S.val hf hs (v := .bool (y5.Kind == 1)) rfl rfl rfl (V.pure rfl) (fun a hf => ?_)
                              refine S.val hf hs (v := .bool (!(y5.Kind == 1))) rfl rfl rfl (V.pure rfl) (fun a hf => ?_)
                              refine S.val hf hs (v := .bool (!(y5.Kind == 1))) rfl rfl rfl (V.pure rfl) (fun a hf => ?_)
                              refine S.val hf hs (v := .bool (!(y5.Kind == 1))) rfl rfl rfl (V.pure rfl) (fun a hf => ?_)
                              refine R.nil ?_
                              refine X.then_ ?_
                              exact ⟨(!(y5.Kind == 1)), h, (((((((((hf.nil.cons (hf.get 67 _ rfl)).cons (hf.get 25 _ rfl)).cons (hf.get 24 _ rfl)).cons (hf.get 23 _ rfl)).cons (hf.get 10 _ rfl)).cons (hf.get 9 _ rfl)).cons (hf.get 6 _ rfl)).cons (hf.get 1 _ rfl)).cons (hf.get 0 _ rfl)), hs⟩
                            · replace h := h.2 hc
                              refine S.skip hf rfl rfl rfl (fun a hf => ?_)
                              refine S.skip hf rfl rfl rfl (fun a hf => ?_)
                              refine S.val hf hs (v := .bool false) rfl rfl rfl (V.pure rfl) (fun a hf => ?_)
                              refine S.val hf hs (v := .bool false) rfl rfl rfl (V.pure rfl) (fun a hf => ?_)
                              refine R.nil ?_
                              refine X.then_ ?_
                              exact ⟨false, h, (((((((((hf.nil.cons (hf.get 67 _ rfl)).cons (hf.get 25 _ rfl)).cons (hf.get 24 _ rfl)).cons (hf.get 23 _ rfl)).cons (hf.get 10 _ rfl)).cons (hf.get 9 _ rfl)).cons (hf.get 6 _ rfl)).cons (hf.get 1 _ rfl)).cons (hf.get 0 _ rfl)), hs⟩
                        · skip
                          refine R.list ?_
                          refine S.val hf hs (v := .pointer (some ⟨g3, 1, none⟩)) rfl rfl rfl (V.fieldBox rfl rfl Tryz.runUnderlying29 rfl Tryz.sizeOf3 rfl rfl) (fun a hf => ?_)
                          refine S.val hf hs (v := .int .i64 y5.Kind) rfl rfl rfl (V.loadBox 0 rfl rfl rfl Tryz.isAgg3 Tryz.sizeOf3 rfl rfl) (fun a hf => ?_)
                          refine S.val hf hs (v := .bool (y5.Kind == 2)) rfl rfl rfl (V.pure rfl) (fun a hf => ?_)
                          refine S.split hf hs (b := y5.Kind == 2) rfl rfl rfl (V.pure rfl) (fun hc a hf => ?_) (fun hc a hf => ?_)
                          · replace h := h.1 hc
                            refine S.val hf hs (v := .int .i64 n2) rfl rfl rfl (V.pure rfl) (fun a hf => ?_)
                            refine S.val hf hs (v := .bool (n2 != 0)) rfl rfl rfl (V.pure rfl) (fun a hf => ?_)
                            refine S.val hf hs (v := .bool (n2 != 0)) rfl rfl rfl (V.pure rfl) (fun a hf => ?_)
                            refine S.split hf hs (b := n2 != 0) rfl rfl rfl (V.pure rfl) (fun hc a hf => ?_) (fun hc a hf => ?_)
                            · replace h := h.1 hc
                              refine S.val hf hs (v := .int .i64 n2) rfl rfl rfl (V.pure rfl) (fun a hf => ?_)
                              refine S.val hf hs (v := .bool (n2 != 1)) rfl rfl rfl (V.pure rfl) (fun a hf => ?_)
                              refine S.val hf hs (v := .bool (n2 != 1)) rfl rfl rfl (V.pure rfl) (fun a hf => ?_)
                              refine S.val hf hs (v := .bool (n2 != 1)) rfl rfl rfl (V.pure rfl) (fun a hf => ?_)
                              refine R.nil ?_
                              refine X.then_ ?_
                              exact ⟨(n2 != 1), h, (((((((((((hf.nil.cons (hf.get 67 _ rfl)).cons (hf.get 25 _ rfl)).cons (hf.get 24 _ rfl)).cons (hf.get 23 _ rfl)).cons (hf.get 12 _ rfl)).cons (hf.get 10 _ rfl)).cons (hf.get 9 _ rfl)).cons (hf.get 7 _ rfl)).cons (hf.get 6 _ rfl)).cons (hf.get 1 _ rfl)).cons (hf.get 0 _ rfl)), hs⟩
                            · replace h := h.2 hc
                              refine S.skip hf rfl rfl rfl (fun a hf => ?_)
                              refine S.skip hf rfl rfl rfl (fun a hf => ?_)
                              refine S.val hf hs (v := .bool false) rfl rfl rfl (V.pure rfl) (fun a hf => ?_)
                              refine S.val hf hs (v := .bool false) rfl rfl rfl (V.pure rfl) (fun a hf => ?_)
                              refine R.nil ?_
                              refine X.then_ ?_
                              exact ⟨false, h, (((((((((((hf.nil.cons (hf.get 67 _ rfl)).cons (hf.get 25 _ rfl)).cons (hf.get 24 _ rfl)).cons (hf.get 23 _ rfl)).cons (hf.get 12 _ rfl)).cons (hf.get 10 _ rfl)).cons (hf.get 9 _ rfl)).cons (hf.get 7 _ rfl)).cons (hf.get 6 _ rfl)).cons (hf.get 1 _ rfl)).cons (hf.get 0 _ rfl)), hs⟩
                          · replace h := h.2 hc
                            refine S.skip hf rfl rfl rfl (fun a hf => ?_)
                            refine S.skip hf rfl rfl rfl (fun a hf => ?_)
                            refine S.val hf hs (v := .bool false) rfl rfl rfl (V.pure rfl) (fun a hf => ?_)
                            refine S.val hf hs (v := .bool false) rfl rfl rfl (V.pure rfl) (fun a hf => ?_)
                            refine S.skip hf rfl rfl rfl (fun a hf => ?_)
                            refine S.skip hf rfl rfl rfl (fun a hf => ?_)
                            refine S.val hf hs (v := .bool false) rfl rfl rfl (V.pure rfl) (fun a hf => ?_)
                            refine S.val hf hs (v := .bool false) rfl rfl rfl (V.pure rfl) (fun a hf => ?_)
                            refine R.nil ?_
                            refine X.then_ ?_
                            exact ⟨false, h, (((((((((((hf.nil.cons (hf.get 67 _ rfl)).cons (hf.get 25 _ rfl)).cons (hf.get 24 _ rfl)).cons (hf.get 23 _ rfl)).cons (hf.get 12 _ rfl)).cons (hf.get 10 _ rfl)).cons (hf.get 9 _ rfl)).cons (hf.get 7 _ rfl)).cons (hf.get 6 _ rfl)).cons (hf.get 1 _ rfl)).cons (hf.get 0 _ rfl)), hs⟩
                    · skip
                      refine R.list ?_
                      refine S.val hf hs (v := .bool (y5.Kind == 1)) rfl rfl rfl (V.pure rfl) (fun a hf => ?_)
                      refine S.split hf hs (b := y5.Kind == 1) rfl rfl rfl (V.pure rfl) (fun hc a hf => ?_) (fun hc a hf => ?_)
                      · replace h := h.1 hc
                        refine S.val hf hs (v := .int .i64 n2) rfl rfl rfl (V.pure rfl) (fun a hf => ?_)
                        refine S.val hf hs (v := .bool (n2 == 1)) rfl rfl rfl (V.pure rfl) (fun a hf => ?_)
                        refine S.val hf hs (v := .bool (n2 == 1)) rfl rfl rfl (V.pure rfl) (fun a hf => ?_)
                        refine S.val hf hs (v := .bool (n2 == 1)) rfl rfl rfl (V.pure rfl) (fun a hf => ?_)
                        refine R.nil ?_
                        refine X.then_ ?_
                        exact ⟨(n2 == 1), h, (((((((((((hf.nil.cons (hf.get 67 _ rfl)).cons (hf.get 25 _ rfl)).cons (hf.get 24 _ rfl)).cons (hf.get 23 _ rfl)).cons (hf.get 12 _ rfl)).cons (hf.get 10 _ rfl)).cons (hf.get 9 _ rfl)).cons (hf.get 7 _ rfl)).cons (hf.get 6 _ rfl)).cons (hf.get 1 _ rfl)).cons (hf.get 0 _ rfl)), hs⟩
                      · replace h := h.2 hc
                        refine S.skip hf rfl rfl rfl (fun a hf => ?_)
                        refine S.skip hf rfl rfl rfl (fun a hf => ?_)
                        refine S.val hf hs (v := .bool false) rfl rfl rfl (V.pure rfl) (fun a hf => ?_)
                        refine S.val hf hs (v := .bool false) rfl rfl rfl (V.pure rfl) (fun a hf => ?_)
                        refine R.nil ?_
                        refine X.then_ ?_
                        exact ⟨false, h, (((((((((((hf.nil.cons (hf.get 67 _ rfl)).cons (hf.get 25 _ rfl)).cons (hf.get 24 _ rfl)).cons (hf.get 23 _ rfl)).cons (hf.get 12 _ rfl)).cons (hf.get 10 _ rfl)).cons (hf.get 9 _ rfl)).cons (hf.get 7 _ rfl)).cons (hf.get 6 _ rfl)).cons (hf.get 1 _ rfl)).cons (hf.get 0 _ rfl)), hs⟩
              · skip
                refine R.list ?_
                refine S.val hf hs (v := .bool (y5.Kind == 1)) rfl rfl rfl (V.pure rfl) (fun a hf => ?_)
                refine S.split hf hs (b := y5.Kind == 1) rfl rfl rfl (V.pure rfl) (fun hc a hf => ?_) (fun hc a hf => ?_)
                · replace h := h.1 hc
                  refine S.val hf hs (v := .map (some g1)) rfl rfl rfl (V.pure rfl) (fun a hf => ?_)
                  refine S.val hf hs (v := .pointer (some ⟨g2, 0, none⟩)) rfl rfl rfl (V.fieldBox rfl rfl Tryz.runUnderlying32 rfl Tryz.sizeOf9 rfl rfl) (fun a hf => ?_)
                  refine S.val hf hs (v := .string (ba xk1.Name)) rfl rfl rfl (V.loadBox 1 rfl rfl rfl Tryz.isAgg9 Tryz.sizeOf9 rfl rfl) (fun a hf => ?_)
                  refine S.val hf hs (v := .bool ((mget m2 xk1.Name).getD false)) rfl rfl rfl (V.lookup 2 rfl (k := xk1.Name) (u := ((mget m2 xk1.Name).getD false)) (z := false) rfl rfl rfl Tryz.runUnderlying150 key9 Tryz.zeroValue4 rfl rfl) (fun a hf => ?_)
                  refine S.val hf hs (v := .bool ((mget m2 xk1.Name).getD false)) rfl rfl rfl (V.pure rfl) (fun a hf => ?_)
                  refine S.val hf hs (v := .bool ((mget m2 xk1.Name).getD false)) rfl rfl rfl (V.pure rfl) (fun a hf => ?_)
                  refine R.nil ?_
                  refine X.then_ ?_
                  exact ⟨((mget m2 xk1.Name).getD false), h, (((((((((((hf.nil.cons (hf.get 59 _ rfl)).cons (hf.get 25 _ rfl)).cons (hf.get 24 _ rfl)).cons (hf.get 23 _ rfl)).cons (hf.get 12 _ rfl)).cons (hf.get 10 _ rfl)).cons (hf.get 9 _ rfl)).cons (hf.get 7 _ rfl)).cons (hf.get 6 _ rfl)).cons (hf.get 1 _ rfl)).cons (hf.get 0 _ rfl)), hs⟩
                · replace h := h.2 hc
                  refine S.skip hf rfl rfl rfl (fun a hf => ?_)
                  refine S.skip hf rfl rfl rfl (fun a hf => ?_)
                  refine S.skip hf rfl rfl rfl (fun a hf => ?_)
                  refine S.skip hf rfl rfl rfl (fun a hf => ?_)
                  refine S.val hf hs (v := .bool false) rfl rfl rfl (V.pure rfl) (fun a hf => ?_)
                  refine S.val hf hs (v := .bool false) rfl rfl rfl (V.pure rfl) (fun a hf => ?_)
                  refine R.nil ?_
                  refine X.then_ ?_
                  exact ⟨false, h, (((((((((((hf.nil.cons (hf.get 59 _ rfl)).cons (hf.get 25 _ rfl)).cons (hf.get 24 _ rfl)).cons (hf.get 23 _ rfl)).cons (hf.get 12 _ rfl)).cons (hf.get 10 _ rfl)).cons (hf.get 9 _ rfl)).cons (hf.get 7 _ rfl)).cons (hf.get 6 _ rfl)).cons (hf.get 1 _ rfl)).cons (hf.get 0 _ rfl)), hs⟩
          · skip
            refine R.list ?_
            refine S.val hf hs (v := .bool (y5.Kind == 1)) rfl rfl rfl (V.pure rfl) (fun a hf => ?_)
            refine S.split hf hs (b := y5.Kind == 1) rfl rfl rfl (V.pure rfl) (fun hc a hf => ?_) (fun hc a hf => ?_)
            · replace h := h.1 hc
              refine S.val hf hs (v := .pointer (some ⟨g2, 0, none⟩)) rfl rfl rfl (V.fieldBox rfl rfl Tryz.runUnderlying32 rfl Tryz.sizeOf9 rfl rfl) (fun a hf => ?_)
              refine S.val hf hs (v := .string (ba xk1.Name)) rfl rfl rfl (V.loadBox 1 rfl rfl rfl Tryz.isAgg9 Tryz.sizeOf9 rfl rfl) (fun a hf => ?_)
              refine S.call hf rfl rfl rfl (call_fn (vs := [.string (ba xk1.Name)]) rfl rfl rfl Tryz.call87) (R_netlist_IsWord xk1.Name _  _ h) (fun v a w' hf hr => ?_)
              obtain ⟨y7, rfl, h2, hs2⟩ := hr
              replace h := h2; replace hs := hs.call hs2; clear h2 hs2
              refine S.val hf hs (v := .bool (!y7)) rfl rfl rfl (V.pure rfl) (fun a hf => ?_)
              refine S.val hf hs (v := .bool (!y7)) rfl rfl rfl (V.pure rfl) (fun a hf => ?_)
              refine S.split hf hs (b := !y7) rfl rfl rfl (V.pure rfl) (fun hc a hf => ?_) (fun hc a hf => ?_)
              · replace h := h.1 hc
                refine S.skip hf rfl rfl rfl (fun a hf => ?_)
                refine S.skip hf rfl rfl rfl (fun a hf => ?_)
                refine S.skip hf rfl rfl rfl (fun a hf => ?_)
                refine S.skip hf rfl rfl rfl (fun a hf => ?_)
                refine S.skip hf rfl rfl rfl (fun a hf => ?_)
                refine S.skip hf rfl rfl rfl (fun a hf => ?_)
                refine S.skip hf rfl rfl rfl (fun a hf => ?_)
                refine S.val hf hs (v := .bool true) rfl rfl rfl (V.pure rfl) (fun a hf => ?_)
                refine S.val hf hs (v := .bool true) rfl rfl rfl (V.pure rfl) (fun a hf => ?_)
                refine R.nil ?_
                refine X.then_ ?_
                exact ⟨true, h, (((((((((((hf.nil.cons (hf.get 42 _ rfl)).cons (hf.get 25 _ rfl)).cons (hf.get 24 _ rfl)).cons (hf.get 23 _ rfl)).cons (hf.get 12 _ rfl)).cons (hf.get 10 _ rfl)).cons (hf.get 9 _ rfl)).cons (hf.get 7 _ rfl)).cons (hf.get 6 _ rfl)).cons (hf.get 1 _ rfl)).cons (hf.get 0 _ rfl)), hs⟩
              · replace h := h.2 hc
                refine S.val hf hs (v := .bool (y5.Kind == 1)) rfl rfl rfl (V.pure rfl) (fun a hf => ?_)
                refine S.val hf hs (v := .bool (!(y5.Kind == 1))) rfl rfl rfl (V.pure rfl) (fun a hf => ?_)
                refine S.split hf hs (b := !(y5.Kind == 1)) rfl rfl rfl (V.pure rfl) (fun hc a hf => ?_) (fun hc a hf => ?_)
                · replace h := h.1 hc
                  refine S.val hf hs (v := .pointer (some ⟨g2, 0, none⟩)) rfl rfl rfl (V.fieldBox rfl rfl Tryz.runUnderlying32 rfl Tryz.sizeOf9 rfl rfl) (fun a hf => ?_)
                  refine S.val hf hs (v := .string (ba xk1.Name)) rfl rfl rfl (V.loadBox 1 rfl rfl rfl Tryz.isAgg9 Tryz.sizeOf9 rfl rfl) (fun a hf => ?_)
                  refine S.val hf hs (v := .bool (!(xk1.Name == []))) rfl rfl rfl (V.strCmp (!(xk1.Name == [])) rfl rfl rfl rfl) (fun a hf => ?_)
                  refine S.val hf hs (v := .bool (!(xk1.Name == []))) rfl rfl rfl (V.pure rfl) (fun a hf => ?_)
                  refine S.val hf hs (v := .bool (!(xk1.Name == []))) rfl rfl rfl (V.pure rfl) (fun a hf => ?_)
                  refine S.val hf hs (v := .bool (!(xk1.Name == []))) rfl rfl rfl (V.pure rfl) (fun a hf => ?_)
                  refine R.nil ?_
                  refine X.then_ ?_
                  exact ⟨(!(xk1.Name == [])), h, (((((((((((hf.nil.cons (hf.get 42 _ rfl)).cons (hf.get 25 _ rfl)).cons (hf.get 24 _ rfl)).cons (hf.get 23 _ rfl)).cons (hf.get 12 _ rfl)).cons (hf.get 10 _ rfl)).cons (hf.get 9 _ rfl)).cons (hf.get 7 _ rfl)).cons (hf.get 6 _ rfl)).cons (hf.get 1 _ rfl)).cons (hf.get 0 _ rfl)), hs⟩
                · replace h := h.2 hc
                  refine S.skip hf rfl rfl rfl (fun a hf => ?_)
                  refine S.skip hf rfl rfl rfl (fun a hf => ?_)
                  refine S.skip hf rfl rfl rfl (fun a hf => ?_)
                  refine S.val hf hs (v := .bool false) rfl rfl rfl (V.pure rfl) (fun a hf => ?_)
                  refine S.val hf hs (v := .bool false) rfl rfl rfl (V.pure rfl) (fun a hf => ?_)
                  refine S.val hf hs (v := .bool false) rfl rfl rfl (V.pure rfl) (fun a hf => ?_)
                  refine R.nil ?_
                  refine X.then_ ?_
                  exact ⟨false, h, (((((((((((hf.nil.cons (hf.get 42 _ rfl)).cons (hf.get 25 _ rfl)).cons (hf.get 24 _ rfl)).cons (hf.get 23 _ rfl)).cons (hf.get 12 _ rfl)).cons (hf.get 10 _ rfl)).cons (hf.get 9 _ rfl)).cons (hf.get 7 _ rfl)).cons (hf.get 6 _ rfl)).cons (hf.get 1 _ rfl)).cons (hf.get 0 _ rfl)), hs⟩
            · replace h := h.2 hc
              refine S.skip hf rfl rfl rfl (fun a hf => ?_)
              refine S.skip hf rfl rfl rfl (fun a hf => ?_)
              refine S.skip hf rfl rfl rfl (fun a hf => ?_)
              refine S.skip hf rfl rfl rfl (fun a hf => ?_)
              refine S.val hf hs (v := .bool false) rfl rfl rfl (V.pure rfl) (fun a hf => ?_)
              refine S.val hf hs (v := .bool false) rfl rfl rfl (V.pure rfl) (fun a hf => ?_)
              refine S.val hf hs (v := .bool (y5.Kind == 1)) rfl rfl rfl (V.pure rfl) (fun a hf => ?_)
              refine S.val hf hs (v := .bool (!(y5.Kind == 1))) rfl rfl rfl (V.pure rfl) (fun a hf => ?_)
              refine S.split hf hs (b := !(y5.Kind == 1)) rfl rfl rfl (V.pure rfl) (fun hc a hf => ?_) (fun hc a hf => ?_)
              · replace h := h.1 hc
                refine S.val hf hs (v := .pointer (some ⟨g2, 0, none⟩)) rfl rfl rfl (V.fieldBox rfl rfl Tryz.runUnderlying32 rfl Tryz.sizeOf9 rfl rfl) (fun a hf => ?_)
                refine S.val hf hs (v := .string (ba xk1.Name)) rfl rfl rfl (V.loadBox 1 rfl rfl rfl Tryz.isAgg9 Tryz.sizeOf9 rfl rfl) (fun a hf => ?_)
                refine S.val hf hs (v := .bool (!(xk1.Name == []))) rfl rfl rfl (V.strCmp (!(xk1.Name == [])) rfl rfl rfl rfl) (fun a hf => ?_)
                refine S.val hf hs (v := .bool (!(xk1.Name == []))) rfl rfl rfl (V.pure rfl) (fun a hf => ?_)
                refine S.val hf hs (v := .bool (!(xk1.Name == []))) rfl rfl rfl (V.pure rfl) (fun a hf => ?_)
                refine S.val hf hs (v := .bool (!(xk1.Name == []))) rfl rfl rfl (V.pure rfl) (fun a hf => ?_)
                refine R.nil ?_
                refine X.then_ ?_
                exact ⟨(!(xk1.Name == [])), h, (((((((((((hf.nil.cons (hf.get 42 _ rfl)).cons (hf.get 25 _ rfl)).cons (hf.get 24 _ rfl)).cons (hf.get 23 _ rfl)).cons (hf.get 12 _ rfl)).cons (hf.get 10 _ rfl)).cons (hf.get 9 _ rfl)).cons (hf.get 7 _ rfl)).cons (hf.get 6 _ rfl)).cons (hf.get 1 _ rfl)).cons (hf.get 0 _ rfl)), hs⟩
              · replace h := h.2 hc
                refine S.skip hf rfl rfl rfl (fun a hf => ?_)
                refine S.skip hf rfl rfl rfl (fun a hf => ?_)
                refine S.skip hf rfl rfl rfl (fun a hf => ?_)
                refine S.val hf hs (v := .bool false) rfl rfl rfl (V.pure rfl) (fun a hf => ?_)
                refine S.val hf hs (v := .bool false) rfl rfl rfl (V.pure rfl) (fun a hf => ?_)
                refine S.val hf hs (v := .bool false) rfl rfl rfl (V.pure rfl) (fun a hf => ?_)
                refine R.nil ?_
                refine X.then_ ?_
                exact ⟨false, h, (((((((((((hf.nil.cons (hf.get 42 _ rfl)).cons (hf.get 25 _ rfl)).cons (hf.get 24 _ rfl)).cons (hf.get 23 _ rfl)).cons (hf.get 12 _ rfl)).cons (hf.get 10 _ rfl)).cons (hf.get 9 _ rfl)).cons (hf.get 7 _ rfl)).cons (hf.get 6 _ rfl)).cons (hf.get 1 _ rfl)).cons (hf.get 0 _ rfl)), hs⟩

set_option linter.unusedVariables false
def M_ref4_isCopper (m : (List Material)) (l : Layer) (Q : Bool → Prop) : Prop :=
  M_ref4_materialOf m l.Material fun y1 => Q (y1.Kind == 1)
set_option maxHeartbeats 1000000 in
theorem R_ref4_isCopper (m : (List Material)) (l : Layer) (w0 : World) (mA : Option Addr) (mC : Nat) (hv_m : View w0 (old w0 none_) mA mC m) (Q : Bool → Prop) (h : M_ref4_isCopper m l Q) :
    Ret Tryz.prog 96 #[.slice mA m.length mC, .agg #[.string (ba l.Name), .string (ba l.Material)]] w0 fun v w' => ∃ (r0 : Bool), v = .bool r0 ∧ Q r0 ∧ Sat w0 none_ [] w' := by
  refine fn_enter Tryz.func96 rfl Tryz.ntmps96 rfl (fs := [(0, .slice mA m.length mC), (1, .agg #[.string (ba l.Name), .string (ba l.Material)])]) rfl (fun a hf => ?_)
  have hs := Sat.start w0 none_
  unfold M_ref4_isCopper at h
  refine wp_seq ?_
  refine R.list ?_
  refine S.box hf hs rfl rfl rfl [.string (ba l.Name), .string (ba l.Material)] rfl rfl rfl (fun g1 a w hf hs => ?_)
  refine S.val hf hs (v := .bool false) rfl rfl rfl (V.pure rfl) (fun a hf => ?_)
  refine R.nil ?_
  refine X.then_ ?_
  refine wp_seq ?_
  refine R.list ?_
  refine S.val hf hs (v := .slice mA m.length mC) rfl rfl rfl (V.pure rfl) (fun a hf => ?_)
  refine S.val hf hs (v := .pointer (some ⟨g1, 1, none⟩)) rfl rfl rfl (V.fieldBox rfl rfl Tryz.runUnderlying32 rfl Tryz.sizeOf9 rfl rfl) (fun a hf => ?_)
  refine S.val hf hs (v := .string (ba l.Material)) rfl rfl rfl (V.loadBox 0 rfl rfl rfl Tryz.isAgg9 Tryz.sizeOf9 rfl rfl) (fun a hf => ?_)
  refine S.call hf rfl rfl rfl (call_fn (vs := [.slice mA m.length mC, .string (ba l.Material)]) rfl rfl rfl Tryz.call154) (R_ref4_materialOf m l.Material _ mA mC ((Ag.args _ _ _).view hv_m hs) _ h) (fun v a w' hf hr => ?_)
  obtain ⟨y1, rfl, h2, hs2⟩ := hr
  replace h := h2; replace hs := hs.call hs2; clear h2 hs2
  refine S.val hf hs (v := .int .i64 y1.Kind) rfl rfl rfl (V.field rfl rfl Tryz.runUnderlying29 rfl (fun w => part_leaf Tryz.isAgg3 rfl)) (fun a hf => ?_)
  refine S.val hf hs (v := .bool (y1.Kind == 1)) rfl rfl rfl (V.pure rfl) (fun a hf => ?_)
  refine S.val hf hs (v := .bool (y1.Kind == 1)) rfl rfl rfl (V.pure rfl) (fun a hf => ?_)
  refine R.nil ?_
  refine X.then_ ?_
  refine wp_ret ?_
  exact L.ret hf (run_results1 Tryz.results96 (ResIs.tmp hf rfl)) ⟨(y1.Kind == 1), rfl, h, hs.nil⟩

set_option linter.unusedVariables false
def M_ref4_coppers_L1 (m : (List Material)) (k1 : Nat) (xk1 : Layer) (l2 : List Int) (next1 : List Int → Prop) : Prop :=
  M_ref4_isCopper m xk1 fun y1 => cnd y1 (must (room (l2 ++ [(k1 : Int)]).length 8) (next1 (l2 ++ [(k1 : Int)]))) (next1 l2)
def M_ref4_coppers (m : (List Material)) (s_ : (List Layer)) (Q : (List Int) → Prop) : Prop :=
  forIn' (fun k x (s : List Int) next => M_ref4_coppers_L1 m k x s (fun l2 => next l2)) (fun (s : List Int) => (fun (l2 : List Int) => Q l2) s) s_ 0 ([] : List Int)
set_option maxHeartbeats 1000000 in
theorem R_ref4_coppers (m : (List Material)) (s_ : (List Layer)) (w0 : World) (mA : Option Addr) (mC : Nat) (hv_m : View w0 (old w0 none_) mA mC m) (s_A : Option Addr) (s_C : Nat) (hv_s_ : View w0 (old w0 none_) s_A s_C s_) (Q : (List Int) → Prop) (h : M_ref4_coppers m s_ Q) :
    Ret Tryz.prog 95 #[.slice mA m.length mC, .slice s_A s_.length s_C] w0 fun v w' => ∃ (r0 : (List Int)) (r0A : Option Addr) (r0C : Nat), v = .slice r0A r0.length r0C ∧ Q r0 ∧ Sat w0 none_ [hown 3 r0A r0C r0] w' := by
  refine fn_enter Tryz.func95 rfl Tryz.ntmps95 rfl (fs := [(0, .slice mA m.length mC), (1, .slice s_A s_.length s_C)]) rfl (fun a hf => ?_)
  have hs := Sat.start w0 none_
  unfold M_ref4_coppers at h
  refine wp_seq ?_
  refine R.list ?_
  refine S.val hf hs (v := .slice none 0 0) rfl rfl rfl (V.pure rfl) (fun a hf => ?_)
  refine R.nil ?_
  refine X.then_ ?_
  refine wp_seq ?_
  refine R.list ?_
  refine S.val hf hs (v := .slice none 0 0) rfl rfl rfl (V.pure rfl) (fun a hf => ?_)
  refine R.nil ?_
  refine X.then_ ?_
  refine wp_seq ?_
  refine wp_seq ?_
  refine R.list ?_
  refine S.val hf hs (v := .slice s_A s_.length s_C) rfl rfl rfl (V.pure rfl) (fun a hf => ?_)
  refine S.val hf hs (v := .int .i64 (s_.length : Int)) rfl rfl rfl (V.len rfl rfl Tryz.runUnderlying23) (fun a hf => ?_)
  refine S.val hf hs (v := .int .i64 0) rfl rfl rfl (V.pure rfl) (fun a hf => ?_)
  refine R.nil ?_
  refine X.then_ ?_
  refine wp_block ?_
  replace hs := hs.nilOwn (α := Int) 3
  have hlenk1 := hv_s_.len64
  refine C.range (fun (ll : List Layer) a w => ∃ (k1 : Nat) (l2 : List Int) (l2A : Option Addr) (l2C : Nat), s_.drop k1 = ll ∧ k1 + ll.length = s_.length ∧ forIn' (fun k x (s : List Int) next => M_ref4_coppers_L1 m k x s (fun l2 => next l2)) (fun (s : List Int) => (fun (l2 : List Int) => Q l2) s) ll k1 l2 ∧ FrOk 24 [(10, .int .i64 (k1 : Int)), (0, .slice mA m.length mC), (5, .slice l2A l2.length l2C), (8, .slice s_A s_.length s_C), (9, .int .i64 (s_.length : Int))] a ∧ Sat w0 none_ [hown 3 l2A l2C l2] w) s_ ⟨0, ([] : List Int), none, 0, rfl, Nat.zero_add _, h, (((((hf.nil.cons (hf.get 9 _ rfl)).cons (hf.get 8 _ rfl)).cons (hf.get 5 _ rfl)).cons (hf.get 0 _ rfl)).cons (hf.get 10 _ rfl)), hs⟩ ?_
  clear h hf hs
  rintro llk1 a w ⟨k1, l2, l2A, l2C, hlk1, hkk1, h, hf, hs⟩
  cases llk1 with
  | nil =>
    have hc := range_done hkk1
    replace h : (fun (l2 : List Int) => Q l2) l2 := h
    refine wp_seq ?_
    refine R.list ?_
    refine S.val hf hs (v := .bool false) rfl rfl rfl (V.cmp false rfl rfl rfl rfl hc) (fun a hf => ?_)
    refine R.nil ?_
    refine X.then_ ?_
    refine wp_seq ?_
    refine C.no hf rfl ?_
    refine wp_exit ?_
    refine X.then_exit ?_
    refine X.then_exit ?_
    refine X.blk_exit ?_
    refine X.then_ ?_
    refine wp_seq ?_
    refine R.list ?_
    refine S.val hf hs (v := .slice l2A l2.length l2C) rfl rfl rfl (V.pure rfl) (fun a hf => ?_)
    refine S.val hf hs (v := .slice l2A l2.length l2C) rfl rfl rfl (V.pure rfl) (fun a hf => ?_)
    refine R.nil ?_
    refine X.then_ ?_
    refine wp_ret ?_
    replace hs := hs.take 1
    exact L.ret hf (run_results1 Tryz.results95 (ResIs.tmp hf rfl)) ⟨l2, l2A, l2C, rfl, h, hs⟩
  | cons xk1 llk1 =>
    have hltk1 := range_lt hkk1; have hc := range_go hkk1; have hxk1 := range_get hlk1
    obtain ⟨next1, hnext1⟩ : ∃ X : List Int → Prop, X = (fun l2 => forIn' (fun k x (s : List Int) next => M_ref4_coppers_L1 m k x s (fun l2 => next l2)) (fun (s : List Int) => (fun (l2 : List Int) => Q l2) s) llk1 (k1 + 1) l2) := ⟨_, rfl⟩
    replace h : M_ref4_coppers_L1 m k1 xk1 l2 next1 := by rw [hnext1]; exact h
    unfold M_ref4_coppers_L1 at h
    refine wp_seq ?_
    refine R.list ?_
    refine S.val hf hs (v := .bool true) rfl rfl rfl (V.cmp true rfl rfl rfl rfl hc) (fun a hf => ?_)
    refine R.nil ?_
    refine X.then_ ?_
    refine wp_seq ?_
    refine C.yes hf rfl ?_
    refine wp_skip ?_
    refine X.then_ ?_
    refine wp_seq ?_
    refine wp_block ?_
    refine wp_seq ?_
    refine R.list ?_
    refine S.val hf hs (v := .int .i64 (k1 : Int)) rfl rfl rfl (V.pure rfl) (fun a hf => ?_)
    refine S.val hf hs (v := elemPtr s_A (k1 * 2)) rfl rfl rfl (V.index rfl rfl rfl Tryz.runUnderlying23 Tryz.sizeOf32 (hv_s_.some_ (lt_of_get hxk1)) (Int.natCast_nonneg _) (lt_of_get hxk1) rfl) (fun a hf => ?_)
    refine S.val hf hs (v := .agg #[.string (ba xk1.Name), .string (ba xk1.Material)]) rfl rfl rfl (V.loadEl (off := 0) (Ag.args _ _ _) (hv_s_.flat hxk1) rfl rfl rfl Tryz.isAgg32 Tryz.sizeOf32 rfl rfl) (fun a hf => ?_)
    refine S.alloc hf hs rfl rfl rfl [.string (ba []), .string (ba [])] rfl Tryz.zeroValue32 rfl (fun g1 a w hf hs => ?_)
    refine S.val hf hs (v := .int .i64 (k1 : Int)) rfl rfl rfl (V.pure rfl) (fun a hf => ?_)
    refine S.storeBox 0 hf hs rfl rfl [.string (ba xk1.Name), .string (ba xk1.Material)] [.string (ba xk1.Name), .string (ba xk1.Material)] rfl rfl rfl rfl rfl Tryz.sizeOf32 rfl rfl rfl rfl (fun a w hf hs => ?_)
    refine R.nil ?_
    refine X.then_ ?_
    refine wp_seq ?_
    refine R.list ?_
    refine S.val hf hs (v := .slice mA m.length mC) rfl rfl rfl (V.pure rfl) (fun a hf => ?_)
    refine S.val hf hs (v := .agg #[.string (ba xk1.Name), .string (ba xk1.Material)]) rfl rfl rfl (V.loadBox 0 rfl rfl rfl Tryz.isAgg32 Tryz.sizeOf32 rfl rfl) (fun a hf => ?_)
    refine S.call hf rfl rfl rfl (call_fn (vs := [.slice mA m.length mC, .agg #[.string (ba xk1.Name), .string (ba xk1.Material)]]) rfl rfl rfl Tryz.call96) (R_ref4_isCopper m xk1 _ mA mC ((Ag.args _ _ _).view hv_m hs) _ h) (fun v a w' hf hr => ?_)
    obtain ⟨y1, rfl, h2, hs2⟩ := hr
    replace h := h2; replace hs := hs.call hs2; clear h2 hs2
    refine R.nil ?_
    refine X.then_ ?_
    refine C.cond hf (b := y1) rfl (fun hc => ?_) (fun hc => ?_)
    · replace h := h.1 hc
      refine R.list ?_
      refine S.val hf hs (v := .slice l2A l2.length l2C) rfl rfl rfl (V.pure rfl) (fun a hf => ?_)
      refine S.val hf hs (v := .int .i64 (k1 : Int)) rfl rfl rfl (V.pure rfl) (fun a hf => ?_)
      refine S.build1 hf hs rfl rfl rfl (α := Int) (k1 : Int) rfl rfl rfl Tryz.runUnderlying118 Tryz.sizeOf3 Tryz.zeroValue3 rfl (by decide) (fun A1 a w hf hs => ?_)
      obtain ⟨hroom, h⟩ := h
      refine S.appendCells 2 hf hs rfl rfl rfl rfl rfl rfl rfl Tryz.underlying118 info3 rfl hroom ((hs.ownView 0 rfl).some_ (i := 0) (by simp)) (hs.ownView 0 rfl) (fun A2 C1 a w hf hs => ?_)
      replace hs := hs.drop
      refine S.val hf hs (v := .slice A2 (l2 ++ [(k1 : Int)]).length C1) rfl rfl rfl (V.pure rfl) (fun a hf => ?_)
      refine R.nil ?_
      refine X.blk ?_
      refine X.then_ ?_
      refine R.list ?_
      refine S.val hf hs (v := .int .i64 ((k1 + 1 : Nat) : Int)) rfl rfl rfl (V.incr rfl rfl rfl hltk1 hlenk1) (fun a hf => ?_)
      refine S.val hf hs (v := .int .i64 ((k1 + 1 : Nat) : Int)) rfl rfl rfl (V.pure rfl) (fun a hf => ?_)
      refine R.nil ?_
      refine X.then_ ?_
      exact ⟨xk1, llk1, rfl, k1 + 1, (l2 ++ [(k1 : Int)]), A2, C1, range_drop hlk1, range_len hkk1, (by rw [hnext1] at h; exact h), (((((hf.nil.cons (hf.get 9 _ rfl)).cons (hf.get 8 _ rfl)).cons (hf.get 5 _ rfl)).cons (hf.get 0 _ rfl)).cons (hf.get 10 _ rfl)), hs.drop⟩
    · replace h := h.2 hc
      refine wp_skip ?_
      refine X.blk ?_
      refine X.then_ ?_
      refine R.list ?_
      refine S.val hf hs (v := .int .i64 ((k1 + 1 : Nat) : Int)) rfl rfl rfl (V.incr rfl rfl rfl hltk1 hlenk1) (fun a hf => ?_)
      refine S.val hf hs (v := .int .i64 ((k1 + 1 : Nat) : Int)) rfl rfl rfl (V.pure rfl) (fun a hf => ?_)
      refine R.nil ?_
      refine X.then_ ?_
      exact ⟨xk1, llk1, rfl, k1 + 1, l2, l2A, l2C, range_drop hlk1, range_len hkk1, (by rw [hnext1] at h; exact h), (((((hf.nil.cons (hf.get 9 _ rfl)).cons (hf.get 8 _ rfl)).cons (hf.get 5 _ rfl)).cons (hf.get 0 _ rfl)).cons (hf.get 10 _ rfl)), hs.drop⟩

set_option linter.unusedVariables false
def M_ref4_checkLayer_k4 (Q : Int → Prop) (c3 : Bool) : Prop :=
  cnd c3 (Q 8) (Q 0)
def M_ref4_checkLayer_k3 (Q : Int → Prop) (y1 : Material) (y2 : Material) (c2 : Bool) : Prop :=
  cnd c2 (Q 8) (cnd (y1.Kind == 2) (cnd (y2.Kind != 1) (M_ref4_checkLayer_k4 Q true) (cnd (y2.Kind == 2) (M_ref4_checkLayer_k4 Q (y1.Kind != 1)) (M_ref4_checkLayer_k4 Q false))) (cnd (y2.Kind == 2) (M_ref4_checkLayer_k4 Q (y1.Kind != 1)) (M_ref4_checkLayer_k4 Q false)))
def M_ref4_checkLayer_k2 (m : (List Material)) (s_ : (List Layer)) (i : Int) (Q : Int → Prop) (y1 : Material)  : Prop :=
  cnd (i == 0) (Q 0) (idx s_ (w64 (i - 1)) fun x2 => M_ref4_materialOf m x2.Material fun y2 => cnd (y1.Kind == 1) (M_ref4_checkLayer_k3 Q y1 y2 (y2.Kind == 1)) (M_ref4_checkLayer_k3 Q y1 y2 false))
def M_ref4_checkLayer_L1 (Q : Int → Prop) (x1 : Layer) (k5 : Nat) (xk5 : Layer)  (next1 : Prop) : Prop :=
  cnd (xk5.Name == x1.Name) (Q 7) (next1)
def M_ref4_checkLayer_k1 (m : (List Material)) (s_ : (List Layer)) (i : Int) (Q : Int → Prop) (x1 : Layer) (y1 : Material) (c1 : Bool) : Prop :=
  cnd c1 (Q 5) (cnd (y1.Kind == 1) (must (0 ≤ (0 : Int) ∧ (0 : Int) ≤ i ∧ i ≤ (s_.length : Int)) (forIn' (fun k x (s : Unit) next => M_ref4_checkLayer_L1 Q x1 k x (next ())) (fun (s : Unit) => M_ref4_checkLayer_k2 m s_ i Q y1) (seg s_ (0 : Int) i) 0 ())) (M_ref4_checkLayer_k2 m s_ i Q y1))
def M_ref4_checkLayer (m : (List Material)) (s_ : (List Layer)) (i : Int) (Q : Int → Prop) : Prop :=
  idx s_ i fun x1 => M_ref4_materialOf m x1.Material fun y1 => cnd (y1.Kind == 0) (Q 9) (cnd (y1.Kind == 1) (M_ref4_isWord x1.Name fun y3 => cnd (!y3) (M_ref4_checkLayer_k1 m s_ i Q x1 y1 true) (cnd (y1.Kind != 1) (M_ref4_checkLayer_k1 m s_ i Q x1 y1 (!(x1.Name == []))) (M_ref4_checkLayer_k1 m s_ i Q x1 y1 false))) (cnd (y1.Kind != 1) (M_ref4_checkLayer_k1 m s_ i Q x1 y1 (!(x1.Name == []))) (M_ref4_checkLayer_k1 m s_ i Q x1 y1 false)))
set_option maxHeartbeats 1000000 in
theorem R_ref4_checkLayer (m : (List Material)) (s_ : (List Layer)) (i : Int) (w0 : World) (mA : Option Addr) (mC : Nat) (hv_m : View w0 (old w0 none_) mA mC m) (s_A : Option Addr) (s_C : Nat) (hv_s_ : View w0 (old w0 none_) s_A s_C s_) (Q : Int → Prop) (h : M_ref4_checkLayer m s_ i Q) :
    Ret Tryz.prog 94 #[.slice mA m.length mC, .slice s_A s_.length s_C, .int .i64 i] w0 fun v w' => ∃ (r0 : Int), v = .int .i64 r0 ∧ Q r0 ∧ Sat w0 none_ [] w' := by
  refine fn_enter Tryz.func94 rfl Tryz.ntmps94 rfl (fs := [(0, .slice mA m.length mC), (1, .slice s_A s_.length s_C), (2, .int .i64 i)]) rfl (fun a hf => ?_)
  have hs := Sat.start w0 none_
  unfold M_ref4_checkLayer at h
  refine wp_seq ?_
  refine R.list ?_
  refine S.val hf hs (v := .int .i64 0) rfl rfl rfl (V.pure rfl) (fun a hf => ?_)
  refine R.nil ?_
  refine X.then_ ?_
  refine wp_seq ?_
  refine R.list ?_
  refine S.val hf hs (v := .slice mA m.length mC) rfl rfl rfl (V.pure rfl) (fun a hf => ?_)
  refine S.val hf hs (v := .slice s_A s_.length s_C) rfl rfl rfl (V.pure rfl) (fun a hf => ?_)
  refine S.val hf hs (v := .int .i64 i) rfl rfl rfl (V.pure rfl) (fun a hf => ?_)
  obtain ⟨h0x1, x1, hx1, h⟩ := h
  refine S.val hf hs (v := elemPtr s_A (i.toNat * 2)) rfl rfl rfl (V.index rfl rfl rfl Tryz.runUnderlying23 Tryz.sizeOf32 (hv_s_.some_ (lt_of_get hx1)) h0x1 (lt_of_get hx1) rfl) (fun a hf => ?_)
  refine S.val hf hs (v := elemPtr s_A (i.toNat * 2 + 1)) rfl rfl rfl (V.fieldEl rfl rfl (hv_s_.some_ (lt_of_get hx1)) Tryz.runUnderlying32 rfl Tryz.sizeOf9 rfl rfl) (fun a hf => ?_)
  refine S.val hf hs (v := .string (ba x1.Material)) rfl rfl rfl (V.loadEl (off := 1) (Ag.args _ _ _) (hv_s_.flat hx1) rfl rfl rfl Tryz.isAgg9 Tryz.sizeOf9 rfl rfl) (fun a hf => ?_)
  refine S.call hf rfl rfl rfl (call_fn (vs := [.slice mA m.length mC, .string (ba x1.Material)]) rfl rfl rfl Tryz.call154) (R_ref4_materialOf m x1.Material _ mA mC ((Ag.args _ _ _).view hv_m hs) _ h) (fun v a w' hf hr => ?_)
  obtain ⟨y1, rfl, h2, hs2⟩ := hr
  replace h := h2; replace hs := hs.call hs2; clear h2 hs2
  refine S.val hf hs (v := .int .i64 y1.Kind) rfl rfl rfl (V.field rfl rfl Tryz.runUnderlying29 rfl (fun w => part_leaf Tryz.isAgg3 rfl)) (fun a hf => ?_)
  refine S.val hf hs (v := .int .i64 y1.Kind) rfl rfl rfl (V.pure rfl) (fun a hf => ?_)
  refine R.nil ?_
  refine X.then_ ?_
  refine wp_seq ?_
  refine wp_seq ?_
  refine R.list ?_
  refine S.val hf hs (v := .int .i64 y1.Kind) rfl rfl rfl (V.pure rfl) (fun a hf => ?_)
  refine S.val hf hs (v := .bool (y1.Kind == 0)) rfl rfl rfl (V.pure rfl) (fun a hf => ?_)
  refine R.nil ?_
  refine X.then_ ?_
  refine C.cond hf (b := y1.Kind == 0) rfl (fun hc => ?_) (fun hc => ?_)
  · replace h := h.1 hc
    refine wp_seq ?_
    refine R.list ?_
    refine S.val hf hs (v := .int .i64 9) rfl rfl rfl (V.pure rfl) (fun a hf => ?_)
    refine R.nil ?_
    refine X.then_ ?_
    refine wp_ret ?_
    refine X.then_ret ?_
    exact L.ret hf (run_results1 Tryz.results94 (ResIs.tmp hf rfl)) ⟨9, rfl, h, hs.nil⟩
  · replace h := h.2 hc
    refine wp_skip ?_
    refine X.then_ ?_
    refine wp_seq ?_
    refine wp_seq ?_
    refine C.cut (J := fun a w => ∃ (c1 : Bool), M_ref4_checkLayer_k1 m s_ i Q x1 y1 c1 ∧ FrOk 94 [(0, .slice mA m.length mC), (1, .slice s_A s_.length s_C), (2, .int .i64 i), (7, .int .i64 y1.Kind), (43, .bool c1)] a ∧ Sat w0 none_ [] w) ?_ ?_
    · rintro a w ⟨c1, h, hf, hs⟩
      unfold M_ref4_checkLayer_k1 at h
      refine C.cond hf (b := c1) rfl (fun hc => ?_) (fun hc => ?_)
      · replace h := h.1 hc
        refine wp_seq ?_
        refine R.list ?_
        refine S.val hf hs (v := .int .i64 5) rfl rfl rfl (V.pure rfl) (fun a hf => ?_)
        refine R.nil ?_
        refine X.then_ ?_
        refine wp_ret ?_
        refine X.then_ret ?_
        exact L.ret hf (run_results1 Tryz.results94 (ResIs.tmp hf rfl)) ⟨5, rfl, h, hs.nil⟩
      · replace h := h.2 hc
        refine wp_skip ?_
        refine X.then_ ?_
        refine wp_seq ?_
        refine C.cut (J := fun a w => M_ref4_checkLayer_k2 m s_ i Q y1 ∧ FrOk 94 [(0, .slice mA m.length mC), (1, .slice s_A s_.length s_C), (2, .int .i64 i), (7, .int .i64 y1.Kind)] a ∧ Sat w0 none_ [] w) ?_ ?_
        · rintro a w ⟨h, hf, hs⟩
          unfold M_ref4_checkLayer_k2 at h
          refine wp_seq ?_
          refine wp_seq ?_
          refine R.list ?_
          refine S.val hf hs (v := .int .i64 i) rfl rfl rfl (V.pure rfl) (fun a hf => ?_)
          refine S.val hf hs (v := .bool (i == 0)) rfl rfl rfl (V.pure rfl) (fun a hf => ?_)
          refine R.nil ?_
          refine X.then_ ?_
          refine C.cond hf (b := i == 0) rfl (fun hc => ?_) (fun hc => ?_)
          · replace h := h.1 hc
            refine wp_seq ?_
            refine R.list ?_
            refine S.val hf hs (v := .int .i64 0) rfl rfl rfl (V.pure rfl) (fun a hf => ?_)
            refine R.nil ?_
            refine X.then_ ?_
            refine wp_ret ?_
            refine X.then_ret ?_
            exact L.ret hf (run_results1 Tryz.results94 (ResIs.tmp hf rfl)) ⟨0, rfl, h, hs.nil⟩
          · replace h := h.2 hc
            refine wp_skip ?_
            refine X.then_ ?_
            refine wp_seq ?_
            refine R.list ?_
            refine S.val hf hs (v := .slice mA m.length mC) rfl rfl rfl (V.pure rfl) (fun a hf => ?_)
            refine S.val hf hs (v := .slice s_A s_.length s_C) rfl rfl rfl (V.pure rfl) (fun a hf => ?_)
            refine S.val hf hs (v := .int .i64 i) rfl rfl rfl (V.pure rfl) (fun a hf => ?_)
            refine S.val hf hs (v := .int .i64 (w64 (i - 1))) rfl rfl rfl (V.pure rfl) (fun a hf => ?_)
            obtain ⟨h0x2, x2, hx2, h⟩ := h
            refine S.val hf hs (v := elemPtr s_A ((w64 (i - 1)).toNat * 2)) rfl rfl rfl (V.index rfl rfl rfl Tryz.runUnderlying23 Tryz.sizeOf32 (hv_s_.some_ (lt_of_get hx2)) h0x2 (lt_of_get hx2) rfl) (fun a hf => ?_)
            refine S.val hf hs (v := elemPtr s_A ((w64 (i - 1)).toNat * 2 + 1)) rfl rfl rfl (V.fieldEl rfl rfl (hv_s_.some_ (lt_of_get hx2)) Tryz.runUnderlying32 rfl Tryz.sizeOf9 rfl rfl) (fun a hf => ?_)
            refine S.val hf hs (v := .string (ba x2.Material)) rfl rfl rfl (V.loadEl (off := 1) (Ag.args _ _ _) (hv_s_.flat hx2) rfl rfl rfl Tryz.isAgg9 Tryz.sizeOf9 rfl rfl) (fun a hf => ?_)
            refine S.call hf rfl rfl rfl (call_fn (vs := [.slice mA m.length mC, .string (ba x2.Material)]) rfl rfl rfl Tryz.call154) (R_ref4_materialOf m x2.Material _ mA mC ((Ag.args _ _ _).view hv_m hs) _ h) (fun v a w' hf hr => ?_)
            obtain ⟨y2, rfl, h2, hs2⟩ := hr
            replace h := h2; replace hs := hs.call hs2; clear h2 hs2
            refine S.val hf hs (v := .int .i64 y2.Kind) rfl rfl rfl (V.field rfl rfl Tryz.runUnderlying29 rfl (fun w => part_leaf Tryz.isAgg3 rfl)) (fun a hf => ?_)
            refine S.val hf hs (v := .int .i64 y2.Kind) rfl rfl rfl (V.pure rfl) (fun a hf => ?_)
            refine R.nil ?_
            refine X.then_ ?_
            refine wp_seq ?_
            refine wp_seq ?_
            refine C.cut (J := fun a w => ∃ (c2 : Bool), M_ref4_checkLayer_k3 Q y1 y2 c2 ∧ FrOk 94 [(7, .int .i64 y1.Kind), (10, .int .i64 y2.Kind), (79, .bool c2)] a ∧ Sat w0 none_ [] w) ?_ ?_
            · rintro a w ⟨c2, h, hf, hs⟩
              unfold M_ref4_checkLayer_k3 at h
              refine C.cond hf (b := c2) rfl (fun hc => ?_) (fun hc => ?_)
              · replace h := h.1 hc
                refine wp_seq ?_
                refine R.list ?_
                refine S.val hf hs (v := .int .i64 8) rfl rfl rfl (V.pure rfl) (fun a hf => ?_)
                refine R.nil ?_
                refine X.then_ ?_
                refine wp_ret ?_
                refine X.then_ret ?_
                exact L.ret hf (run_results1 Tryz.results94 (ResIs.tmp hf rfl)) ⟨8, rfl, h, hs.nil⟩
              · replace h := h.2 hc
                refine wp_skip ?_
                refine X.then_ ?_
                refine wp_seq ?_
                refine wp_seq ?_
                refine C.cut (J := fun a w => ∃ (c3 : Bool), M_ref4_checkLayer_k4 Q c3 ∧ FrOk 94 [(93, .bool c3)] a ∧ Sat w0 none_ [] w) ?_ ?_
                · rintro a w ⟨c3, h, hf, hs⟩
                  unfold M_ref4_checkLayer_k4 at h
                  refine C.cond hf (b := c3) rfl (fun hc => ?_) (fun hc => ?_)
                  · replace h := h.1 hc
                    refine wp_seq ?_
                    refine R.list ?_
                    refine S.val hf hs (v := .int .i64 8) rfl rfl rfl (V.pure rfl) (fun a hf => ?_)
                    refine R.nil ?_
                    refine X.then_ ?_
                    refine wp_ret ?_
                    refine X.then_ret ?_
                    exact L.ret hf (run_results1 Tryz.results94 (ResIs.tmp hf rfl)) ⟨8, rfl, h, hs.nil⟩
                  · replace h := h.2 hc
                    refine wp_skip ?_
                    refine X.then_ ?_
                    refine wp_seq ?_
                    refine R.list ?_
                    refine S.val hf hs (v := .int .i64 0) rfl rfl rfl (V.pure rfl) (fun a hf => ?_)
                    refine R.nil ?_
                    refine X.then_ ?_
                    refine wp_ret ?_
                    exact L.ret hf (run_results1 Tryz.results94 (ResIs.tmp hf rfl)) ⟨0, rfl, h, hs.nil⟩
                · skip
                  refine R.list ?_
                  refine S.val hf hs (v := .int .i64 y1.Kind) rfl rfl rfl (V.pure rfl) (fun a hf => ?_)
                  refine S.val hf hs (v := .bool (y1.Kind == 2)) rfl rfl rfl (V.pure rfl) (fun a hf => ?_)
                  refine S.split hf hs (b := y1.Kind == 2) rfl rfl rfl (V.pure rfl) (fun hc a hf => ?_) (fun hc a hf => ?_)
                  · replace h := h.1 hc
                    refine S.val hf hs (v := .int .i64 y2.Kind) rfl rfl rfl (V.pure rfl) (fun a hf => ?_)
                    refine S.val hf hs (v := .bool (y2.Kind != 1)) rfl rfl rfl (V.pure rfl) (fun a hf => ?_)
                    refine S.val hf hs (v := .bool (y2.Kind != 1)) rfl rfl rfl (V.pure rfl) (fun a hf => ?_)
                    refine S.split hf hs (b := y2.Kind != 1) rfl rfl rfl (V.pure rfl) (fun hc a hf => ?_) (fun hc a hf => ?_)
                    · replace h := h.1 hc
                      refine S.skip hf rfl rfl rfl (fun a hf => ?_)
                      refine S.skip hf rfl rfl rfl (fun a hf => ?_)
                      refine S.skip hf rfl rfl rfl (fun a hf => ?_)
                      refine S.skip hf rfl rfl rfl (fun a hf => ?_)
                      refine S.skip hf rfl rfl rfl (fun a hf => ?_)
                      refine S.skip hf rfl rfl rfl (fun a hf => ?_)
                      refine S.val hf hs (v := .bool true) rfl rfl rfl (V.pure rfl) (fun a hf => ?_)
                      refine R.nil ?_
                      refine X.then_ ?_
                      exact ⟨true, h, (hf.nil.cons (hf.get 93 _ rfl)), hs⟩
                    · replace h := h.2 hc
                      refine S.val hf hs (v := .int .i64 y2.Kind) rfl rfl rfl (V.pure rfl) (fun a hf => ?_)
                      refine S.val hf hs (v := .bool (y2.Kind == 2)) rfl rfl rfl (V.pure rfl) (fun a hf => ?_)
                      refine S.split hf hs (b := y2.Kind == 2) rfl rfl rfl (V.pure rfl) (fun hc a hf => ?_) (fun hc a hf => ?_)
                      · replace h := h.1 hc
                        refine S.val hf hs (v := .int .i64 y1.Kind) rfl rfl rfl (V.pure rfl) (fun a hf => ?_)
                        refine S.val hf hs (v := .bool (y1.Kind != 1)) rfl rfl rfl (V.pure rfl) (fun a hf => ?_)
                        refine S.val hf hs (v := .bool (y1.Kind != 1)) rfl rfl rfl (V.pure rfl) (fun a hf => ?_)
                        refine S.val hf hs (v := .bool (y1.Kind != 1)) rfl rfl rfl (V.pure rfl) (fun a hf => ?_)
                        refine R.nil ?_
                        refine X.then_ ?_
                        exact ⟨(y1.Kind != 1), h, (hf.nil.cons (hf.get 93 _ rfl)), hs⟩
                      · replace h := h.2 hc
                        refine S.skip hf rfl rfl rfl (fun a hf => ?_)
                        refine S.skip hf rfl rfl rfl (fun a hf => ?_)
                        refine S.val hf hs (v := .bool false) rfl rfl rfl (V.pure rfl) (fun a hf => ?_)
                        refine S.val hf hs (v := .bool false) rfl rfl rfl (V.pure rfl) (fun a hf => ?_)
                        refine R.nil ?_
                        refine X.then_ ?_
                        exact ⟨false, h, (hf.nil.cons (hf.get 93 _ rfl)), hs⟩
                  · replace h := h.2 hc
                    refine S.skip hf rfl rfl rfl (fun a hf => ?_)
                    refine S.skip hf rfl rfl rfl (fun a hf => ?_)
                    refine S.val hf hs (v := .bool false) rfl rfl rfl (V.pure rfl) (fun a hf => ?_)
                    refine S.val hf hs (v := .bool false) rfl rfl rfl (V.pure rfl) (fun a hf => ?_)
                    refine S.val hf hs (v := .int .i64 y2.Kind) rfl rfl rfl (V.pure rfl) (fun a hf => ?_)
                    refine S.val hf hs (v := .bool (y2.Kind == 2)) rfl rfl rfl (V.pure rfl) (fun a hf => ?_)
                    refine S.split hf hs (b := y2.Kind == 2) rfl rfl rfl (V.pure rfl) (fun hc a hf => ?_) (fun hc a hf => ?_)
                    · replace h := h.1 hc
                      refine S.val hf hs (v := .int .i64 y1.Kind) rfl rfl rfl (V.pure rfl) (fun a hf => ?_)
                      refine S.val hf hs (v := .bool (y1.Kind != 1)) rfl rfl rfl (V.pure rfl) (fun a hf => ?_)
                      refine S.val hf hs (v := .bool (y1.Kind != 1)) rfl rfl rfl (V.pure rfl) (fun a hf => ?_)
                      refine S.val hf hs (v := .bool (y1.Kind != 1)) rfl rfl rfl (V.pure rfl) (fun a hf => ?_)
                      refine R.nil ?_
                      refine X.then_ ?_
                      exact ⟨(y1.Kind != 1), h, (hf.nil.cons (hf.get 93 _ rfl)), hs⟩
                    · replace h := h.2 hc
                      refine S.skip hf rfl rfl rfl (fun a hf => ?_)
                      refine S.skip hf rfl rfl rfl (fun a hf => ?_)
                      refine S.val hf hs (v := .bool false) rfl rfl rfl (V.pure rfl) (fun a hf => ?_)
                      refine S.val hf hs (v := .bool false) rfl rfl rfl (V.pure rfl) (fun a hf => ?_)
                      refine R.nil ?_
                      refine X.then_ ?_
                      exact ⟨false, h, (hf.nil.cons (hf.get 93 _ rfl)), hs⟩
            · skip
              refine R.list ?_
              refine S.val hf hs (v := .int .i64 y1.Kind) rfl rfl rfl (V.pure rfl) (fun a hf => ?_)
              refine S.val hf hs (v := .bool (y1.Kind == 1)) rfl rfl rfl (V.pure rfl) (fun a hf => ?_)
              refine S.split hf hs (b := y1.Kind == 1) rfl rfl rfl (V.pure rfl) (fun hc a hf => ?_) (fun hc a hf => ?_)
              · replace h := h.1 hc
                refine S.val hf hs (v := .int .i64 y2.Kind) rfl rfl rfl (V.pure rfl) (fun a hf => ?_)
                refine S.val hf hs (v := .bool (y2.Kind == 1)) rfl rfl rfl (V.pure rfl) (fun a hf => ?_)
                refine S.val hf hs (v := .bool (y2.Kind == 1)) rfl rfl rfl (V.pure rfl) (fun a hf => ?_)
                refine R.nil ?_
                refine X.then_ ?_
                exact ⟨(y2.Kind == 1), h, (((hf.nil.cons (hf.get 79 _ rfl)).cons (hf.get 10 _ rfl)).cons (hf.get 7 _ rfl)), hs⟩
              · replace h := h.2 hc
                refine S.skip hf rfl rfl rfl (fun a hf => ?_)
                refine S.skip hf rfl rfl rfl (fun a hf => ?_)
                refine S.val hf hs (v := .bool false) rfl rfl rfl (V.pure rfl) (fun a hf => ?_)
                refine R.nil ?_
                refine X.then_ ?_
                exact ⟨false, h, (((hf.nil.cons (hf.get 79 _ rfl)).cons (hf.get 10 _ rfl)).cons (hf.get 7 _ rfl)), hs⟩
        · skip
          refine wp_seq ?_
          refine R.list ?_
          refine S.val hf hs (v := .int .i64 y1.Kind) rfl rfl rfl (V.pure rfl) (fun a hf => ?_)
          refine S.val hf hs (v := .bool (y1.Kind == 1)) rfl rfl rfl (V.pure rfl) (fun a hf => ?_)
          refine R.nil ?_
          refine X.then_ ?_
          refine C.cond hf (b := y1.Kind == 1) rfl (fun hc => ?_) (fun hc => ?_)
          · replace h := h.1 hc
            refine wp_seq ?_
            refine R.list ?_
            refine S.val hf hs (v := .slice s_A s_.length s_C) rfl rfl rfl (V.pure rfl) (fun a hf => ?_)
            refine S.val hf hs (v := .int .i64 i) rfl rfl rfl (V.pure rfl) (fun a hf => ?_)
            obtain ⟨hp1, h⟩ := h
            refine S.val hf hs (v := .slice (segA s_A s_C ((0 : Int) : Int).toNat 2) (seg s_ (0 : Int) i).length (s_C - ((0 : Int) : Int).toNat)) rfl rfl rfl (V.slice rfl rfl rfl rfl Tryz.runUnderlying23 Tryz.sizeOf32 rfl rfl hp1 hv_s_.cap (seg_length (by have := hp1.2.2; omega))) (fun a hf => ?_)
            refine S.val hf hs (v := .int .i64 ((seg s_ (0 : Int) i).length : Int)) rfl rfl rfl (V.len rfl rfl Tryz.runUnderlying23) (fun a hf => ?_)
            refine S.val hf hs (v := .int .i64 0) rfl rfl rfl (V.pure rfl) (fun a hf => ?_)
            refine R.nil ?_
            refine X.then_ ?_
            refine wp_block ?_
            have hlenk5 := (View.sub hv_s_ hp1).len64
            refine C.range (fun (ll : List Layer) a w => ∃ (k5 : Nat) , (seg s_ (0 : Int) i).drop k5 = ll ∧ k5 + ll.length = (seg s_ (0 : Int) i).length ∧ forIn' (fun k x (s : Unit) next => M_ref4_checkLayer_L1 Q x1 k x (next ())) (fun (s : Unit) => M_ref4_checkLayer_k2 m s_ i Q y1) ll k5 () ∧ FrOk 94 [(50, .int .i64 (k5 : Int)), (0, .slice mA m.length mC), (1, .slice s_A s_.length s_C), (2, .int .i64 i), (7, .int .i64 y1.Kind), (48, .slice (segA s_A s_C ((0 : Int) : Int).toNat 2) (seg s_ (0 : Int) i).length (s_C - ((0 : Int) : Int).toNat)), (49, .int .i64 ((seg s_ (0 : Int) i).length : Int))] a ∧ Sat w0 none_ [] w) (seg s_ (0 : Int) i) ⟨0, rfl, Nat.zero_add _, h, (((((((hf.nil.cons (hf.get 49 _ rfl)).cons (hf.get 48 _ rfl)).cons (hf.get 7 _ rfl)).cons (hf.get 2 _ rfl)).cons (hf.get 1 _ rfl)).cons (hf.get 0 _ rfl)).cons (hf.get 50 _ rfl)), hs⟩ ?_
            clear h hf hs
            rintro llk5 a w ⟨k5, hlk5, hkk5, h, hf, hs⟩
            cases llk5 with
            | nil =>
              have hc := range_done hkk5
              replace h : M_ref4_checkLayer_k2 m s_ i Q y1 := h
              refine wp_seq ?_
              refine R.list ?_
              refine S.val hf hs (v := .bool false) rfl rfl rfl (V.cmp false rfl rfl rfl rfl hc) (fun a hf => ?_)
              refine R.nil ?_
              refine X.then_ ?_
              refine wp_seq ?_
              refine C.no hf rfl ?_
              refine wp_exit ?_
              refine X.then_exit ?_
              refine X.then_exit ?_
              refine X.blk_exit ?_
              refine X.then_ ?_
              exact ⟨h, ((((hf.nil.cons (hf.get 7 _ rfl)).cons (hf.get 2 _ rfl)).cons (hf.get 1 _ rfl)).cons (hf.get 0 _ rfl)), hs⟩
            | cons xk5 llk5 =>
              have hltk5 := range_lt hkk5; have hc := range_go hkk5; have hxk5 := range_get hlk5
              obtain ⟨next1, hnext1⟩ : ∃ X : Prop, X = (forIn' (fun k x (s : Unit) next => M_ref4_checkLayer_L1 Q x1 k x (next ())) (fun (s : Unit) => M_ref4_checkLayer_k2 m s_ i Q y1) llk5 (k5 + 1) ()) := ⟨_, rfl⟩
              replace h : M_ref4_checkLayer_L1 Q x1 k5 xk5  next1 := by rw [hnext1]; exact h
              unfold M_ref4_checkLayer_L1 at h
              refine wp_seq ?_
              refine R.list ?_
              refine S.val hf hs (v := .bool true) rfl rfl rfl (V.cmp true rfl rfl rfl rfl hc) (fun a hf => ?_)
              refine R.nil ?_
              refine X.then_ ?_
              refine wp_seq ?_
              refine C.yes hf rfl ?_
              refine wp_skip ?_
              refine X.then_ ?_
              refine wp_seq ?_
              refine wp_block ?_
              refine wp_seq ?_
              refine R.list ?_
              refine S.val hf hs (v := elemPtr (segA s_A s_C ((0 : Int) : Int).toNat 2) (k5 * 2)) rfl rfl rfl (V.index rfl rfl rfl Tryz.runUnderlying23 Tryz.sizeOf32 ((View.sub hv_s_ hp1).some_ (lt_of_get hxk5)) (Int.natCast_nonneg _) (lt_of_get hxk5) rfl) (fun a hf => ?_)
              refine S.val hf hs (v := .agg #[.string (ba xk5.Name), .string (ba xk5.Material)]) rfl rfl rfl (V.loadEl (off := 0) (Ag.args _ _ _) ((View.sub hv_s_ hp1).flat hxk5) rfl rfl rfl Tryz.isAgg32 Tryz.sizeOf32 rfl rfl) (fun a hf => ?_)
              refine S.alloc hf hs rfl rfl rfl [.string (ba []), .string (ba [])] rfl Tryz.zeroValue32 rfl (fun g1 a w hf hs => ?_)
              refine S.storeBox 0 hf hs rfl rfl [.string (ba xk5.Name), .string (ba xk5.Material)] [.string (ba xk5.Name), .string (ba xk5.Material)] rfl rfl rfl rfl rfl Tryz.sizeOf32 rfl rfl rfl rfl (fun a w hf hs => ?_)
              refine R.nil ?_
              refine X.then_ ?_
              refine wp_seq ?_
              refine R.draw mo (by kernel_rfl) hs ?_
              refine D.val hf (v := .pointer (some ⟨g1, 0, none⟩)) rfl rfl rfl (V.fieldBox rfl rfl Tryz.runUnderlying32 rfl Tryz.sizeOf9 rfl rfl) (fun a hf => ?_)
              refine D.val hf (v := .string (ba xk5.Name)) rfl rfl rfl (V.loadBox 0 rfl rfl rfl Tryz.isAgg9 Tryz.sizeOf9 rfl rfl) (fun a hf => ?_)
              refine D.val hf (v := .slice s_A s_.length s_C) rfl rfl rfl (V.pure rfl) (fun a hf => ?_)
              refine D.val hf (v := .int .i64 i) rfl rfl rfl (V.pure rfl) (fun a hf => ?_)
              refine D.val hf (v := elemPtr s_A (i.toNat * 2)) rfl rfl rfl (V.index rfl rfl rfl Tryz.runUnderlying23 Tryz.sizeOf32 (hv_s_.some_ (lt_of_get hx1)) h0x1 (lt_of_get hx1) rfl) (fun a hf => ?_)
              refine D.val hf (v := elemPtr s_A (i.toNat * 2)) rfl rfl rfl (V.fieldEl rfl rfl (hv_s_.some_ (lt_of_get hx1)) Tryz.runUnderlying32 rfl Tryz.sizeOf9 rfl rfl) (fun a hf => ?_)
              refine D.val hf (v := .string (ba x1.Name)) rfl rfl rfl (V.loadEl (off := 0) (Ag.args _ _ _) (hv_s_.flat hx1) rfl rfl rfl Tryz.isAgg9 Tryz.sizeOf9 rfl rfl) (fun a hf => ?_)
              refine D.val hf (v := .bool (xk5.Name == x1.Name)) rfl rfl rfl (V.strCmp (xk5.Name == x1.Name) rfl rfl rfl rfl) (fun a hf => ?_)
              refine D.done (fun w hs => ?_)
              refine X.then_ ?_
              refine C.cond hf (b := xk5.Name == x1.Name) rfl (fun hc => ?_) (fun hc => ?_)
              · replace h := h.1 hc
                refine wp_seq ?_
                refine R.list ?_
                refine S.val hf hs (v := .int .i64 7) rfl rfl rfl (V.pure rfl) (fun a hf => ?_)
                refine R.nil ?_
                refine X.then_ ?_
                refine wp_ret ?_
                refine X.blk_ret ?_
                refine X.then_ret ?_
                refine X.then_ret ?_
                refine X.blk_ret ?_
                refine X.then_ret ?_
                refine X.then_ret ?_
                exact L.ret hf (run_results1 Tryz.results94 (ResIs.tmp hf rfl)) ⟨7, rfl, h, hs.nil⟩
              · replace h := h.2 hc
                refine wp_skip ?_
                refine X.blk ?_
                refine X.then_ ?_
                refine R.list ?_
                refine S.val hf hs (v := .int .i64 ((k5 + 1 : Nat) : Int)) rfl rfl rfl (V.incr rfl rfl rfl hltk5 hlenk5) (fun a hf => ?_)
                refine S.val hf hs (v := .int .i64 ((k5 + 1 : Nat) : Int)) rfl rfl rfl (V.pure rfl) (fun a hf => ?_)
                refine R.nil ?_
                refine X.then_ ?_
                exact ⟨xk5, llk5, rfl, k5 + 1, range_drop hlk5, range_len hkk5, (by rw [hnext1] at h; exact h), (((((((hf.nil.cons (hf.get 49 _ rfl)).cons (hf.get 48 _ rfl)).cons (hf.get 7 _ rfl)).cons (hf.get 2 _ rfl)).cons (hf.get 1 _ rfl)).cons (hf.get 0 _ rfl)).cons (hf.get 50 _ rfl)), hs.drop⟩
          · replace h := h.2 hc
            refine wp_skip ?_
            refine X.then_ ?_
            exact ⟨h, ((((hf.nil.cons (hf.get 7 _ rfl)).cons (hf.get 2 _ rfl)).cons (hf.get 1 _ rfl)).cons (hf.get 0 _ rfl)), hs⟩
    · skip
      refine R.list ?_
      refine S.val hf hs (v := .int .i64 y1.Kind) rfl rfl rfl (V.pure rfl) (fun a hf => ?_)
      refine S.val hf hs (v := .bool (y1.Kind == 1)) rfl rfl rfl (V.pure rfl) (fun a hf => ?_)
      refine S.split hf hs (b := y1.Kind == 1) rfl rfl rfl (V.pure rfl) (fun hc a hf => ?_) (fun hc a hf => ?_)
      · replace h := h.1 hc
        refine S.val hf hs (v := .slice s_A s_.length s_C) rfl rfl rfl (V.pure rfl) (fun a hf => ?_)
        refine S.val hf hs (v := .int .i64 i) rfl rfl rfl (V.pure rfl) (fun a hf => ?_)
        refine S.val hf hs (v := elemPtr s_A (i.toNat * 2)) rfl rfl rfl (V.index rfl rfl rfl Tryz.runUnderlying23 Tryz.sizeOf32 (hv_s_.some_ (lt_of_get hx1)) h0x1 (lt_of_get hx1) rfl) (fun a hf => ?_)
        refine S.val hf hs (v := elemPtr s_A (i.toNat * 2)) rfl rfl rfl (V.fieldEl rfl rfl (hv_s_.some_ (lt_of_get hx1)) Tryz.runUnderlying32 rfl Tryz.sizeOf9 rfl rfl) (fun a hf => ?_)
        refine S.val hf hs (v := .string (ba x1.Name)) rfl rfl rfl (V.loadEl (off := 0) (Ag.args _ _ _) (hv_s_.flat hx1) rfl rfl rfl Tryz.isAgg9 Tryz.sizeOf9 rfl rfl) (fun a hf => ?_)
        refine S.call hf rfl rfl rfl (call_fn (vs := [.string (ba x1.Name)]) rfl rfl rfl Tryz.call152) (R_ref4_isWord x1.Name _  _ h) (fun v a w' hf hr => ?_)
        obtain ⟨y3, rfl, h2, hs2⟩ := hr
        replace h := h2; replace hs := hs.call hs2; clear h2 hs2
        refine S.val hf hs (v := .bool (!y3)) rfl rfl rfl (V.pure rfl) (fun a hf => ?_)
        refine S.val hf hs (v := .bool (!y3)) rfl rfl rfl (V.pure rfl) (fun a hf => ?_)
        refine S.split hf hs (b := !y3) rfl rfl rfl (V.pure rfl) (fun hc a hf => ?_) (fun hc a hf => ?_)
        · replace h := h.1 hc
          refine S.skip hf rfl rfl rfl (fun a hf => ?_)
          refine S.skip hf rfl rfl rfl (fun a hf => ?_)
          refine S.skip hf rfl rfl rfl (fun a hf => ?_)
          refine S.skip hf rfl rfl rfl (fun a hf => ?_)
          refine S.skip hf rfl rfl rfl (fun a hf => ?_)
          refine S.skip hf rfl rfl rfl (fun a hf => ?_)
          refine S.skip hf rfl rfl rfl (fun a hf => ?_)
          refine S.skip hf rfl rfl rfl (fun a hf => ?_)
          refine S.skip hf rfl rfl rfl (fun a hf => ?_)
          refine S.skip hf rfl rfl rfl (fun a hf => ?_)
          refine S.val hf hs (v := .bool true) rfl rfl rfl (V.pure rfl) (fun a hf => ?_)
          refine R.nil ?_
          refine X.then_ ?_
          exact ⟨true, h, (((((hf.nil.cons (hf.get 43 _ rfl)).cons (hf.get 7 _ rfl)).cons (hf.get 2 _ rfl)).cons (hf.get 1 _ rfl)).cons (hf.get 0 _ rfl)), hs⟩
        · replace h := h.2 hc
          refine S.val hf hs (v := .int .i64 y1.Kind) rfl rfl rfl (V.pure rfl) (fun a hf => ?_)
          refine S.val hf hs (v := .bool (y1.Kind != 1)) rfl rfl rfl (V.pure rfl) (fun a hf => ?_)
          refine S.split hf hs (b := y1.Kind != 1) rfl rfl rfl (V.pure rfl) (fun hc a hf => ?_) (fun hc a hf => ?_)
          · replace h := h.1 hc
            refine S.val hf hs (v := .slice s_A s_.length s_C) rfl rfl rfl (V.pure rfl) (fun a hf => ?_)
            refine S.val hf hs (v := .int .i64 i) rfl rfl rfl (V.pure rfl) (fun a hf => ?_)
            refine S.val hf hs (v := elemPtr s_A (i.toNat * 2)) rfl rfl rfl (V.index rfl rfl rfl Tryz.runUnderlying23 Tryz.sizeOf32 (hv_s_.some_ (lt_of_get hx1)) h0x1 (lt_of_get hx1) rfl) (fun a hf => ?_)
            refine S.val hf hs (v := elemPtr s_A (i.toNat * 2)) rfl rfl rfl (V.fieldEl rfl rfl (hv_s_.some_ (lt_of_get hx1)) Tryz.runUnderlying32 rfl Tryz.sizeOf9 rfl rfl) (fun a hf => ?_)
            refine S.val hf hs (v := .string (ba x1.Name)) rfl rfl rfl (V.loadEl (off := 0) (Ag.args _ _ _) (hv_s_.flat hx1) rfl rfl rfl Tryz.isAgg9 Tryz.sizeOf9 rfl rfl) (fun a hf => ?_)
            refine S.val hf hs (v := .bool (!(x1.Name == []))) rfl rfl rfl (V.strCmp (!(x1.Name == [])) rfl rfl rfl rfl) (fun a hf => ?_)
            refine S.val hf hs (v := .bool (!(x1.Name == []))) rfl rfl rfl (V.pure rfl) (fun a hf => ?_)
            refine S.val hf hs (v := .bool (!(x1.Name == []))) rfl rfl rfl (V.pure rfl) (fun a hf => ?_)
            refine R.nil ?_
            refine X.then_ ?_
            exact ⟨(!(x1.Name == [])), h, (((((hf.nil.cons (hf.get 43 _ rfl)).cons (hf.get 7 _ rfl)).cons (hf.get 2 _ rfl)).cons (hf.get 1 _ rfl)).cons (hf.get 0 _ rfl)), hs⟩
          · replace h := h.2 hc
            refine S.skip hf rfl rfl rfl (fun a hf => ?_)
            refine S.skip hf rfl rfl rfl (fun a hf => ?_)
            refine S.skip hf rfl rfl rfl (fun a hf => ?_)
            refine S.skip hf rfl rfl rfl (fun a hf => ?_)
            refine S.skip hf rfl rfl rfl (fun a hf => ?_)
            refine S.skip hf rfl rfl rfl (fun a hf => ?_)
            refine S.val hf hs (v := .bool false) rfl rfl rfl (V.pure rfl) (fun a hf => ?_)
            refine S.val hf hs (v := .bool false) rfl rfl rfl (V.pure rfl) (fun a hf => ?_)
            refine R.nil ?_
            refine X.then_ ?_
            exact ⟨false, h, (((((hf.nil.cons (hf.get 43 _ rfl)).cons (hf.get 7 _ rfl)).cons (hf.get 2 _ rfl)).cons (hf.get 1 _ rfl)).cons (hf.get 0 _ rfl)), hs⟩
      · replace h := h.2 hc
        refine S.skip hf rfl rfl rfl (fun a hf => ?_)
        refine S.skip hf rfl rfl rfl (fun a hf => ?_)
        refine S.skip hf rfl rfl rfl (fun a hf => ?_)
        refine S.skip hf rfl rfl rfl (fun a hf => ?_)
        refine S.skip hf rfl rfl rfl (fun a hf => ?_)
        refine S.skip hf rfl rfl rfl (fun a hf => ?_)
        refine S.skip hf rfl rfl rfl (fun a hf => ?_)
        refine S.val hf hs (v := .bool false) rfl rfl rfl (V.pure rfl) (fun a hf => ?_)
        refine S.val hf hs (v := .bool false) rfl rfl rfl (V.pure rfl) (fun a hf => ?_)
        refine S.val hf hs (v := .int .i64 y1.Kind) rfl rfl rfl (V.pure rfl) (fun a hf => ?_)
        refine S.val hf hs (v := .bool (y1.Kind != 1)) rfl rfl rfl (V.pure rfl) (fun a hf => ?_)
        refine S.split hf hs (b := y1.Kind != 1) rfl rfl rfl (V.pure rfl) (fun hc a hf => ?_) (fun hc a hf => ?_)
        · replace h := h.1 hc
          refine S.val hf hs (v := .slice s_A s_.length s_C) rfl rfl rfl (V.pure rfl) (fun a hf => ?_)
          refine S.val hf hs (v := .int .i64 i) rfl rfl rfl (V.pure rfl) (fun a hf => ?_)
          refine S.val hf hs (v := elemPtr s_A (i.toNat * 2)) rfl rfl rfl (V.index rfl rfl rfl Tryz.runUnderlying23 Tryz.sizeOf32 (hv_s_.some_ (lt_of_get hx1)) h0x1 (lt_of_get hx1) rfl) (fun a hf => ?_)
          refine S.val hf hs (v := elemPtr s_A (i.toNat * 2)) rfl rfl rfl (V.fieldEl rfl rfl (hv_s_.some_ (lt_of_get hx1)) Tryz.runUnderlying32 rfl Tryz.sizeOf9 rfl rfl) (fun a hf => ?_)
          refine S.val hf hs (v := .string (ba x1.Name)) rfl rfl rfl (V.loadEl (off := 0) (Ag.args _ _ _) (hv_s_.flat hx1) rfl rfl rfl Tryz.isAgg9 Tryz.sizeOf9 rfl rfl) (fun a hf => ?_)
          refine S.val hf hs (v := .bool (!(x1.Name == []))) rfl rfl rfl (V.strCmp (!(x1.Name == [])) rfl rfl rfl rfl) (fun a hf => ?_)
          refine S.val hf hs (v := .bool (!(x1.Name == []))) rfl rfl rfl (V.pure rfl) (fun a hf => ?_)
          refine S.val hf hs (v := .bool (!(x1.Name == []))) rfl rfl rfl (V.pure rfl) (fun a hf => ?_)
          refine R.nil ?_
          refine X.then_ ?_
          exact ⟨(!(x1.Name == [])), h, (((((hf.nil.cons (hf.get 43 _ rfl)).cons (hf.get 7 _ rfl)).cons (hf.get 2 _ rfl)).cons (hf.get 1 _ rfl)).cons (hf.get 0 _ rfl)), hs⟩
        · replace h := h.2 hc
          refine S.skip hf rfl rfl rfl (fun a hf => ?_)
          refine S.skip hf rfl rfl rfl (fun a hf => ?_)
          refine S.skip hf rfl rfl rfl (fun a hf => ?_)
          refine S.skip hf rfl rfl rfl (fun a hf => ?_)
          refine S.skip hf rfl rfl rfl (fun a hf => ?_)
          refine S.skip hf rfl rfl rfl (fun a hf => ?_)
          refine S.val hf hs (v := .bool false) rfl rfl rfl (V.pure rfl) (fun a hf => ?_)
          refine S.val hf hs (v := .bool false) rfl rfl rfl (V.pure rfl) (fun a hf => ?_)
          refine R.nil ?_
          refine X.then_ ?_
          exact ⟨false, h, (((((hf.nil.cons (hf.get 43 _ rfl)).cons (hf.get 7 _ rfl)).cons (hf.get 2 _ rfl)).cons (hf.get 1 _ rfl)).cons (hf.get 0 _ rfl)), hs⟩

set_option linter.unusedVariables false
def M_ref4_CheckStack_k2 (Q : Int → Prop) (c1 : Bool) : Prop :=
  cnd c1 (Q 3) (Q 0)
def M_ref4_CheckStack_L1 (m : (List Material)) (s_ : (List Layer)) (Q : Int → Prop) (k1 : Nat) (xk1 : Layer)  (next1 : Prop) : Prop :=
  M_ref4_checkLayer m s_ (k1 : Int) fun y5 => cnd (y5 != 0) (Q y5) (next1)
def M_ref4_CheckStack (m : (List Material)) (s_ : (List Layer)) (Q : Int → Prop) : Prop :=
  M_ref4_CheckMaterials m fun y1 => cnd (y1 != 0) (Q y1) (cnd (decide ((s_.length : Int) > 60)) (Q 2) (forIn' (fun k x (s : Unit) next => M_ref4_CheckStack_L1 m s_ Q k x (next ())) (fun (s : Unit) => M_ref4_coppers m s_ fun y2 => cnd (decide ((y2.length : Int) < 2)) (M_ref4_CheckStack_k2 Q true) (idx s_ 0 fun x1 => M_ref4_isCopper m x1 fun y3 => cnd (!y3) (M_ref4_CheckStack_k2 Q true) (idx s_ (w64 ((s_.length : Int) - 1)) fun x2 => M_ref4_isCopper m x2 fun y4 => M_ref4_CheckStack_k2 Q (!y4)))) s_ 0 ()))
set_option maxHeartbeats 1000000 in
theorem R_ref4_CheckStack (m : (List Material)) (s_ : (List Layer)) (w0 : World) (mA : Option Addr) (mC : Nat) (hv_m : View w0 (old w0 none_) mA mC m) (s_A : Option Addr) (s_C : Nat) (hv_s_ : View w0 (old w0 none_) s_A s_C s_) (Q : Int → Prop) (h : M_ref4_CheckStack m s_ Q) :
    Ret Tryz.prog 44 #[.slice mA m.length mC, .slice s_A s_.length s_C] w0 fun v w' => ∃ (r0 : Int), v = .int .i64 r0 ∧ Q r0 ∧ Sat w0 none_ [] w' := by
  refine fn_enter Tryz.func44 rfl Tryz.ntmps44 rfl (fs := [(0, .slice mA m.length mC), (1, .slice s_A s_.length s_C)]) rfl (fun a hf => ?_)
  have hs := Sat.start w0 none_
  unfold M_ref4_CheckStack at h
  refine wp_seq ?_
  refine R.list ?_
  refine S.val hf hs (v := .int .i64 0) rfl rfl rfl (V.pure rfl) (fun a hf => ?_)
  refine R.nil ?_
  refine X.then_ ?_
  refine wp_seq ?_
  refine wp_seq ?_
  refine R.list ?_
  refine S.val hf hs (v := .slice mA m.length mC) rfl rfl rfl (V.pure rfl) (fun a hf => ?_)
  refine S.call hf rfl rfl rfl (call_fn (vs := [.slice mA m.length mC]) rfl rfl rfl Tryz.call93) (R_ref4_CheckMaterials m _ mA mC ((Ag.args _ _ _).view hv_m hs) _ h) (fun v a w' hf hr => ?_)
  obtain ⟨y1, rfl, h2, hs2⟩ := hr
  replace h := h2; replace hs := hs.call hs2; clear h2 hs2
  refine S.val hf hs (v := .int .i64 y1) rfl rfl rfl (V.pure rfl) (fun a hf => ?_)
  refine R.nil ?_
  refine X.then_ ?_
  refine wp_seq ?_
  refine R.list ?_
  refine S.val hf hs (v := .int .i64 y1) rfl rfl rfl (V.pure rfl) (fun a hf => ?_)
  refine S.val hf hs (v := .bool (y1 != 0)) rfl rfl rfl (V.pure rfl) (fun a hf => ?_)
  refine R.nil ?_
  refine X.then_ ?_
  refine C.cond hf (b := y1 != 0) rfl (fun hc => ?_) (fun hc => ?_)
  · replace h := h.1 hc
    refine wp_seq ?_
    refine R.list ?_
    refine S.val hf hs (v := .int .i64 y1) rfl rfl rfl (V.pure rfl) (fun a hf => ?_)
    refine S.val hf hs (v := .int .i64 y1) rfl rfl rfl (V.pure rfl) (fun a hf => ?_)
    refine R.nil ?_
    refine X.then_ ?_
    refine wp_ret ?_
    refine X.then_ret ?_
    exact L.ret hf (run_results1 Tryz.results44 (ResIs.tmp hf rfl)) ⟨y1, rfl, h, hs.nil⟩
  · replace h := h.2 hc
    refine wp_skip ?_
    refine X.then_ ?_
    refine wp_seq ?_
    refine wp_seq ?_
    refine R.list ?_
    refine S.val hf hs (v := .slice s_A s_.length s_C) rfl rfl rfl (V.pure rfl) (fun a hf => ?_)
    refine S.val hf hs (v := .int .i64 (s_.length : Int)) rfl rfl rfl (V.len rfl rfl Tryz.runUnderlying23) (fun a hf => ?_)
    refine S.val hf hs (v := .bool (decide ((s_.length : Int) > 60))) rfl rfl rfl (V.pure rfl) (fun a hf => ?_)
    refine R.nil ?_
    refine X.then_ ?_
    refine C.cond hf (b := decide ((s_.length : Int) > 60)) rfl (fun hc => ?_) (fun hc => ?_)
    · replace h := h.1 hc
      refine wp_seq ?_
      refine R.list ?_
      refine S.val hf hs (v := .int .i64 2) rfl rfl rfl (V.pure rfl) (fun a hf => ?_)
      refine R.nil ?_
      refine X.then_ ?_
      refine wp_ret ?_
      refine X.then_ret ?_
      exact L.ret hf (run_results1 Tryz.results44 (ResIs.tmp hf rfl)) ⟨2, rfl, h, hs.nil⟩
    · replace h := h.2 hc
      refine wp_skip ?_
      refine X.then_ ?_
      refine wp_seq ?_
      refine wp_seq ?_
      refine R.list ?_
      refine S.val hf hs (v := .slice s_A s_.length s_C) rfl rfl rfl (V.pure rfl) (fun a hf => ?_)
      refine S.val hf hs (v := .int .i64 (s_.length : Int)) rfl rfl rfl (V.len rfl rfl Tryz.runUnderlying23) (fun a hf => ?_)
      refine S.val hf hs (v := .int .i64 0) rfl rfl rfl (V.pure rfl) (fun a hf => ?_)
      refine R.nil ?_
      refine X.then_ ?_
      refine wp_block ?_
      have hlenk1 := hv_s_.len64
      refine C.range (fun (ll : List Layer) a w => ∃ (k1 : Nat) , s_.drop k1 = ll ∧ k1 + ll.length = s_.length ∧ forIn' (fun k x (s : Unit) next => M_ref4_CheckStack_L1 m s_ Q k x (next ())) (fun (s : Unit) => M_ref4_coppers m s_ fun y2 => cnd (decide ((y2.length : Int) < 2)) (M_ref4_CheckStack_k2 Q true) (idx s_ 0 fun x1 => M_ref4_isCopper m x1 fun y3 => cnd (!y3) (M_ref4_CheckStack_k2 Q true) (idx s_ (w64 ((s_.length : Int) - 1)) fun x2 => M_ref4_isCopper m x2 fun y4 => M_ref4_CheckStack_k2 Q (!y4)))) ll k1 () ∧ FrOk 53 [(18, .int .i64 (k1 : Int)), (0, .slice mA m.length mC), (1, .slice s_A s_.length s_C), (17, .int .i64 (s_.length : Int))] a ∧ Sat w0 none_ [] w) s_ ⟨0, rfl, Nat.zero_add _, h, ((((hf.nil.cons (hf.get 17 _ rfl)).cons (hf.get 1 _ rfl)).cons (hf.get 0 _ rfl)).cons (hf.get 18 _ rfl)), hs⟩ ?_
      clear h hf hs
      rintro llk1 a w ⟨k1, hlk1, hkk1, h, hf, hs⟩
      cases llk1 with
      | nil =>
        have hc := range_done hkk1
        replace h : M_ref4_coppers m s_ fun y2 => cnd (decide ((y2.length : Int) < 2)) (M_ref4_CheckStack_k2 Q true) (idx s_ 0 fun x1 => M_ref4_isCopper m x1 fun y3 => cnd (!y3) (M_ref4_CheckStack_k2 Q true) (idx s_ (w64 ((s_.length : Int) - 1)) fun x2 => M_ref4_isCopper m x2 fun y4 => M_ref4_CheckStack_k2 Q (!y4))) := h
        refine wp_seq ?_
        refine R.list ?_
        refine S.val hf hs (v := .bool false) rfl rfl rfl (V.cmp false rfl rfl rfl rfl hc) (fun a hf => ?_)
        refine R.nil ?_
        refine X.then_ ?_
        refine wp_seq ?_
        refine C.no hf rfl ?_
        refine wp_exit ?_
        refine X.then_exit ?_
        refine X.then_exit ?_
        refine X.blk_exit ?_
        refine X.then_ ?_
        refine wp_seq ?_
        refine wp_seq ?_
        refine C.cut (J := fun a w => ∃ (c1 : Bool), M_ref4_CheckStack_k2 Q c1 ∧ FrOk 53 [(52, .bool c1)] a ∧ Sat w0 none_ [] w) ?_ ?_
        · rintro a w ⟨c1, h, hf, hs⟩
          unfold M_ref4_CheckStack_k2 at h
          refine C.cond hf (b := c1) rfl (fun hc => ?_) (fun hc => ?_)
          · replace h := h.1 hc
            refine wp_seq ?_
            refine R.list ?_
            refine S.val hf hs (v := .int .i64 3) rfl rfl rfl (V.pure rfl) (fun a hf => ?_)
            refine R.nil ?_
            refine X.then_ ?_
            refine wp_ret ?_
            refine X.then_ret ?_
            exact L.ret hf (run_results1 Tryz.results44 (ResIs.tmp hf rfl)) ⟨3, rfl, h, hs.nil⟩
          · replace h := h.2 hc
            refine wp_skip ?_
            refine X.then_ ?_
            refine wp_seq ?_
            refine R.list ?_
            refine S.val hf hs (v := .int .i64 0) rfl rfl rfl (V.pure rfl) (fun a hf => ?_)
            refine R.nil ?_
            refine X.then_ ?_
            refine wp_ret ?_
            exact L.ret hf (run_results1 Tryz.results44 (ResIs.tmp hf rfl)) ⟨0, rfl, h, hs.nil⟩
        · skip
          refine R.list ?_
          refine S.val hf hs (v := .slice mA m.length mC) rfl rfl rfl (V.pure rfl) (fun a hf => ?_)
          refine S.val hf hs (v := .slice s_A s_.length s_C) rfl rfl rfl (V.pure rfl) (fun a hf => ?_)
          refine S.call hf rfl rfl rfl (call_fn (vs := [.slice mA m.length mC, .slice s_A s_.length s_C]) rfl rfl rfl Tryz.call95) (R_ref4_coppers m s_ _ mA mC ((Ag.args _ _ _).view hv_m hs) s_A s_C ((Ag.args _ _ _).view hv_s_ hs) _ h) (fun v a w' hf hr => ?_)
          obtain ⟨y2, y2A, y2C, rfl, h2, hs2⟩ := hr
          replace h := h2; replace hs := hs.call hs2; clear h2 hs2
          refine S.val hf hs (v := .int .i64 (y2.length : Int)) rfl rfl rfl (V.len rfl rfl Tryz.runUnderlying118) (fun a hf => ?_)
          refine S.val hf hs (v := .bool (decide ((y2.length : Int) < 2))) rfl rfl rfl (V.pure rfl) (fun a hf => ?_)
          refine S.split hf hs (b := decide ((y2.length : Int) < 2)) rfl rfl rfl (V.pure rfl) (fun hc a hf => ?_) (fun hc a hf => ?_)
          · replace h := h.1 hc
            refine S.skip hf rfl rfl rfl (fun a hf => ?_)
            refine S.skip hf rfl rfl rfl (fun a hf => ?_)
            refine S.skip hf rfl rfl rfl (fun a hf => ?_)
            refine S.skip hf rfl rfl rfl (fun a hf => ?_)
            refine S.skip hf rfl rfl rfl (fun a hf => ?_)
            refine S.skip hf rfl rfl rfl (fun a hf => ?_)
            refine S.val hf hs (v := .bool true) rfl rfl rfl (V.pure rfl) (fun a hf => ?_)
            refine S.val hf hs (v := .bool true) rfl rfl rfl (V.pure rfl) (fun a hf => ?_)
            refine S.skip hf rfl rfl rfl (fun a hf => ?_)
            refine S.skip hf rfl rfl rfl (fun a hf => ?_)
            refine S.skip hf rfl rfl rfl (fun a hf => ?_)
            refine S.skip hf rfl rfl rfl (fun a hf => ?_)
            refine S.skip hf rfl rfl rfl (fun a hf => ?_)
            refine S.skip hf rfl rfl rfl (fun a hf => ?_)
            refine S.skip hf rfl rfl rfl (fun a hf => ?_)
            refine S.skip hf rfl rfl rfl (fun a hf => ?_)
            refine S.skip hf rfl rfl rfl (fun a hf => ?_)
            refine S.val hf hs (v := .bool true) rfl rfl rfl (V.pure rfl) (fun a hf => ?_)
            refine R.nil ?_
            refine X.then_ ?_
            exact ⟨true, h, (hf.nil.cons (hf.get 52 _ rfl)), hs.drop⟩
          · replace h := h.2 hc
            refine S.val hf hs (v := .slice mA m.length mC) rfl rfl rfl (V.pure rfl) (fun a hf => ?_)
            refine S.val hf hs (v := .slice s_A s_.length s_C) rfl rfl rfl (V.pure rfl) (fun a hf => ?_)
            obtain ⟨h0x1, x1, hx1, h⟩ := h
            refine S.val hf hs (v := elemPtr s_A (0 * 2)) rfl rfl rfl (V.index rfl rfl rfl Tryz.runUnderlying23 Tryz.sizeOf32 (hv_s_.some_ (lt_of_get hx1)) h0x1 (lt_of_get hx1) rfl) (fun a hf => ?_)
            refine S.val hf hs (v := .agg #[.string (ba x1.Name), .string (ba x1.Material)]) rfl rfl rfl (V.loadEl (off := 0) (Ag.args _ _ _) (hv_s_.flat hx1) rfl rfl rfl Tryz.isAgg32 Tryz.sizeOf32 rfl rfl) (fun a hf => ?_)
            refine S.call hf rfl rfl rfl (call_fn (vs := [.slice mA m.length mC, .agg #[.string (ba x1.Name), .string (ba x1.Material)]]) rfl rfl rfl Tryz.call96) (R_ref4_isCopper m x1 _ mA mC ((Ag.args _ _ _).view hv_m hs) _ h) (fun v a w' hf hr => ?_)
            obtain ⟨y3, rfl, h2, hs2⟩ := hr
            replace h := h2; replace hs := hs.call hs2; clear h2 hs2
            refine S.val hf hs (v := .bool (!y3)) rfl rfl rfl (V.pure rfl) (fun a hf => ?_)
            refine S.val hf hs (v := .bool (!y3)) rfl rfl rfl (V.pure rfl) (fun a hf => ?_)
            refine S.split hf hs (b := !y3) rfl rfl rfl (V.pure rfl) (fun hc a hf => ?_) (fun hc a hf => ?_)
            · replace h := h.1 hc
              refine S.skip hf rfl rfl rfl (fun a hf => ?_)
              refine S.skip hf rfl rfl rfl (fun a hf => ?_)
              refine S.skip hf rfl rfl rfl (fun a hf => ?_)
              refine S.skip hf rfl rfl rfl (fun a hf => ?_)
              refine S.skip hf rfl rfl rfl (fun a hf => ?_)
              refine S.skip hf rfl rfl rfl (fun a hf => ?_)
              refine S.skip hf rfl rfl rfl (fun a hf => ?_)
              refine S.skip hf rfl rfl rfl (fun a hf => ?_)
              refine S.skip hf rfl rfl rfl (fun a hf => ?_)
              refine S.val hf hs (v := .bool true) rfl rfl rfl (V.pure rfl) (fun a hf => ?_)
              refine R.nil ?_
              refine X.then_ ?_
              exact ⟨true, h, (hf.nil.cons (hf.get 52 _ rfl)), hs.drop⟩
            · replace h := h.2 hc
              refine S.val hf hs (v := .slice mA m.length mC) rfl rfl rfl (V.pure rfl) (fun a hf => ?_)
              refine S.val hf hs (v := .slice s_A s_.length s_C) rfl rfl rfl (V.pure rfl) (fun a hf => ?_)
              refine S.val hf hs (v := .slice s_A s_.length s_C) rfl rfl rfl (V.pure rfl) (fun a hf => ?_)
              refine S.val hf hs (v := .int .i64 (s_.length : Int)) rfl rfl rfl (V.len rfl rfl Tryz.runUnderlying23) (fun a hf => ?_)
              refine S.val hf hs (v := .int .i64 (w64 ((s_.length : Int) - 1))) rfl rfl rfl (V.pure rfl) (fun a hf => ?_)
              obtain ⟨h0x2, x2, hx2, h⟩ := h
              refine S.val hf hs (v := elemPtr s_A ((w64 ((s_.length : Int) - 1)).toNat * 2)) rfl rfl rfl (V.index rfl rfl rfl Tryz.runUnderlying23 Tryz.sizeOf32 (hv_s_.some_ (lt_of_get hx2)) h0x2 (lt_of_get hx2) rfl) (fun a hf => ?_)
              refine S.val hf hs (v := .agg #[.string (ba x2.Name), .string (ba x2.Material)]) rfl rfl rfl (V.loadEl (off := 0) (Ag.args _ _ _) (hv_s_.flat hx2) rfl rfl rfl Tryz.isAgg32 Tryz.sizeOf32 rfl rfl) (fun a hf => ?_)
              refine S.call hf rfl rfl rfl (call_fn (vs := [.slice mA m.length mC, .agg #[.string (ba x2.Name), .string (ba x2.Material)]]) rfl rfl rfl Tryz.call96) (R_ref4_isCopper m x2 _ mA mC ((Ag.args _ _ _).view hv_m hs) _ h) (fun v a w' hf hr => ?_)
              obtain ⟨y4, rfl, h2, hs2⟩ := hr
              replace h := h2; replace hs := hs.call hs2; clear h2 hs2
              refine S.val hf hs (v := .bool (!y4)) rfl rfl rfl (V.pure rfl) (fun a hf => ?_)
              refine S.val hf hs (v := .bool (!y4)) rfl rfl rfl (V.pure rfl) (fun a hf => ?_)
              refine R.nil ?_
              refine X.then_ ?_
              exact ⟨(!y4), h, (hf.nil.cons (hf.get 52 _ rfl)), hs.drop⟩
      | cons xk1 llk1 =>
        have hltk1 := range_lt hkk1; have hc := range_go hkk1; have hxk1 := range_get hlk1
        obtain ⟨next1, hnext1⟩ : ∃ X : Prop, X = (forIn' (fun k x (s : Unit) next => M_ref4_CheckStack_L1 m s_ Q k x (next ())) (fun (s : Unit) => M_ref4_coppers m s_ fun y2 => cnd (decide ((y2.length : Int) < 2)) (M_ref4_CheckStack_k2 Q true) (idx s_ 0 fun x1 => M_ref4_isCopper m x1 fun y3 => cnd (!y3) (M_ref4_CheckStack_k2 Q true) (idx s_ (w64 ((s_.length : Int) - 1)) fun x2 => M_ref4_isCopper m x2 fun y4 => M_ref4_CheckStack_k2 Q (!y4)))) llk1 (k1 + 1) ()) := ⟨_, rfl⟩
        replace h : M_ref4_CheckStack_L1 m s_ Q k1 xk1  next1 := by rw [hnext1]; exact h
        unfold M_ref4_CheckStack_L1 at h
        refine wp_seq ?_
        refine R.list ?_
        refine S.val hf hs (v := .bool true) rfl rfl rfl (V.cmp true rfl rfl rfl rfl hc) (fun a hf => ?_)
        refine R.nil ?_
        refine X.then_ ?_
        refine wp_seq ?_
        refine C.yes hf rfl ?_
        refine wp_skip ?_
        refine X.then_ ?_
        refine wp_seq ?_
        refine wp_block ?_
        refine wp_seq ?_
        refine R.list ?_
        refine S.val hf hs (v := .int .i64 (k1 : Int)) rfl rfl rfl (V.pure rfl) (fun a hf => ?_)
        refine S.val hf hs (v := .int .i64 (k1 : Int)) rfl rfl rfl (V.pure rfl) (fun a hf => ?_)
        refine R.nil ?_
        refine X.then_ ?_
        refine wp_seq ?_
        refine R.list ?_
        refine S.val hf hs (v := .slice mA m.length mC) rfl rfl rfl (V.pure rfl) (fun a hf => ?_)
        refine S.val hf hs (v := .slice s_A s_.length s_C) rfl rfl rfl (V.pure rfl) (fun a hf => ?_)
        refine S.val hf hs (v := .int .i64 (k1 : Int)) rfl rfl rfl (V.pure rfl) (fun a hf => ?_)
        refine S.call hf rfl rfl rfl (call_fn (vs := [.slice mA m.length mC, .slice s_A s_.length s_C, .int .i64 (k1 : Int)]) rfl rfl rfl Tryz.call94) (R_ref4_checkLayer m s_ (k1 : Int) _ mA mC ((Ag.args _ _ _).view hv_m hs) s_A s_C ((Ag.args _ _ _).view hv_s_ hs) _ h) (fun v a w' hf hr => ?_)
        obtain ⟨y5, rfl, h2, hs2⟩ := hr
        replace h := h2; replace hs := hs.call hs2; clear h2 hs2
        refine S.val hf hs (v := .int .i64 y5) rfl rfl rfl (V.pure rfl) (fun a hf => ?_)
        refine R.nil ?_
        refine X.then_ ?_
        refine wp_seq ?_
        refine R.list ?_
        refine S.val hf hs (v := .int .i64 y5) rfl rfl rfl (V.pure rfl) (fun a hf => ?_)
        refine S.val hf hs (v := .bool (y5 != 0)) rfl rfl rfl (V.pure rfl) (fun a hf => ?_)
        refine R.nil ?_
        refine X.then_ ?_
        refine C.cond hf (b := y5 != 0) rfl (fun hc => ?_) (fun hc => ?_)
        · replace h := h.1 hc
          refine wp_seq ?_
          refine R.list ?_
          refine S.val hf hs (v := .int .i64 y5) rfl rfl rfl (V.pure rfl) (fun a hf => ?_)
          refine S.val hf hs (v := .int .i64 y5) rfl rfl rfl (V.pure rfl) (fun a hf => ?_)
          refine R.nil ?_
          refine X.then_ ?_
          refine wp_ret ?_
          refine X.blk_ret ?_
          refine X.then_ret ?_
          refine X.then_ret ?_
          refine X.blk_ret ?_
          refine X.then_ret ?_
          exact L.ret hf (run_results1 Tryz.results44 (ResIs.tmp hf rfl)) ⟨y5, rfl, h, hs.nil⟩
        · replace h := h.2 hc
          refine wp_skip ?_
          refine X.blk ?_
          refine X.then_ ?_
          refine R.list ?_
          refine S.val hf hs (v := .int .i64 ((k1 + 1 : Nat) : Int)) rfl rfl rfl (V.incr rfl rfl rfl hltk1 hlenk1) (fun a hf => ?_)
          refine S.val hf hs (v := .int .i64 ((k1 + 1 : Nat) : Int)) rfl rfl rfl (V.pure rfl) (fun a hf => ?_)
          refine R.nil ?_
          refine X.then_ ?_
          exact ⟨xk1, llk1, rfl, k1 + 1, range_drop hlk1, range_len hkk1, (by rw [hnext1] at h; exact h), ((((hf.nil.cons (hf.get 17 _ rfl)).cons (hf.get 1 _ rfl)).cons (hf.get 0 _ rfl)).cons (hf.get 18 _ rfl)), hs⟩

set_option linter.unusedVariables false
def M_stack_thick_L1 (m : (List Material)) (k1 : Nat) (xk1 : Layer) (n2 : Int) (next1 : Int → Prop) : Prop :=
  M_stack_materialOf m xk1.Material fun y1 y2 => next1 (w64 (n2 + y1.Thick))
def M_stack_thick (m : (List Material)) (s_ : (List Layer)) (Q : Int → Prop) : Prop :=
  forIn' (fun k x (s : Int) next => M_stack_thick_L1 m k x s (fun n2 => next n2)) (fun (s : Int) => (fun (n2 : Int) => Q n2) s) s_ 0 0
set_option maxHeartbeats 1000000 in
theorem R_stack_thick (m : (List Material)) (s_ : (List Layer)) (w0 : World) (mA : Option Addr) (mC : Nat) (hv_m : View w0 (old w0 none_) mA mC m) (s_A : Option Addr) (s_C : Nat) (hv_s_ : View w0 (old w0 none_) s_A s_C s_) (Q : Int → Prop) (h : M_stack_thick m s_ Q) :
    Ret Tryz.prog 97 #[.slice mA m.length mC, .slice s_A s_.length s_C] w0 fun v w' => ∃ (r0 : Int), v = .int .i64 r0 ∧ Q r0 ∧ Sat w0 none_ [] w' := by
  refine fn_enter Tryz.func97 rfl Tryz.ntmps97 rfl (fs := [(0, .slice mA m.length mC), (1, .slice s_A s_.length s_C)]) rfl (fun a hf => ?_)
  have hs := Sat.start w0 none_
  unfold M_stack_thick at h
  refine wp_seq ?_
  refine R.list ?_
  refine S.val hf hs (v := .int .i64 0) rfl rfl rfl (V.pure rfl) (fun a hf => ?_)
  refine R.nil ?_
  refine X.then_ ?_
  refine wp_seq ?_
  refine R.list ?_
  refine S.val hf hs (v := .int .i64 0) rfl rfl rfl (V.pure rfl) (fun a hf => ?_)
  refine R.nil ?_
  refine X.then_ ?_
  refine wp_seq ?_
  refine wp_seq ?_
  refine R.list ?_
  refine S.val hf hs (v := .slice s_A s_.length s_C) rfl rfl rfl (V.pure rfl) (fun a hf => ?_)
  refine S.val hf hs (v := .int .i64 (s_.length : Int)) rfl rfl rfl (V.len rfl rfl Tryz.runUnderlying23) (fun a hf => ?_)
  refine S.val hf hs (v := .int .i64 0) rfl rfl rfl (V.pure rfl) (fun a hf => ?_)
  refine R.nil ?_
  refine X.then_ ?_
  refine wp_block ?_
  have hlenk1 := hv_s_.len64
  refine C.range (fun (ll : List Layer) a w => ∃ (k1 : Nat) (n2 : Int), s_.drop k1 = ll ∧ k1 + ll.length = s_.length ∧ forIn' (fun k x (s : Int) next => M_stack_thick_L1 m k x s (fun n2 => next n2)) (fun (s : Int) => (fun (n2 : Int) => Q n2) s) ll k1 n2 ∧ FrOk 29 [(12, .int .i64 (k1 : Int)), (0, .slice mA m.length mC), (5, .int .i64 n2), (10, .slice s_A s_.length s_C), (11, .int .i64 (s_.length : Int))] a ∧ Sat w0 none_ [] w) s_ ⟨0, 0, rfl, Nat.zero_add _, h, (((((hf.nil.cons (hf.get 11 _ rfl)).cons (hf.get 10 _ rfl)).cons (hf.get 5 _ rfl)).cons (hf.get 0 _ rfl)).cons (hf.get 12 _ rfl)), hs⟩ ?_
  clear h hf hs
  rintro llk1 a w ⟨k1, n2, hlk1, hkk1, h, hf, hs⟩
  cases llk1 with
  | nil =>
    have hc := range_done hkk1
    replace h : (fun (n2 : Int) => Q n2) n2 := h
    refine wp_seq ?_
    refine R.list ?_
    refine S.val hf hs (v := .bool false) rfl rfl rfl (V.cmp false rfl rfl rfl rfl hc) (fun a hf => ?_)
    refine R.nil ?_
    refine X.then_ ?_
    refine wp_seq ?_
    refine C.no hf rfl ?_
    refine wp_exit ?_
    refine X.then_exit ?_
    refine X.then_exit ?_
    refine X.blk_exit ?_
    refine X.then_ ?_
    refine wp_seq ?_
    refine R.list ?_
    refine S.val hf hs (v := .int .i64 n2) rfl rfl rfl (V.pure rfl) (fun a hf => ?_)
    refine S.val hf hs (v := .int .i64 n2) rfl rfl rfl (V.pure rfl) (fun a hf => ?_)
    refine R.nil ?_
    refine X.then_ ?_
    refine wp_ret ?_
    exact L.ret hf (run_results1 Tryz.results97 (ResIs.tmp hf rfl)) ⟨n2, rfl, h, hs.nil⟩
  | cons xk1 llk1 =>
    have hltk1 := range_lt hkk1; have hc := range_go hkk1; have hxk1 := range_get hlk1
    obtain ⟨next1, hnext1⟩ : ∃ X : Int → Prop, X = (fun n2 => forIn' (fun k x (s : Int) next => M_stack_thick_L1 m k x s (fun n2 => next n2)) (fun (s : Int) => (fun (n2 : Int) => Q n2) s) llk1 (k1 + 1) n2) := ⟨_, rfl⟩
    replace h : M_stack_thick_L1 m k1 xk1 n2 next1 := by rw [hnext1]; exact h
    unfold M_stack_thick_L1 at h
    refine wp_seq ?_
    refine R.list ?_
    refine S.val hf hs (v := .bool true) rfl rfl rfl (V.cmp true rfl rfl rfl rfl hc) (fun a hf => ?_)
    refine R.nil ?_
    refine X.then_ ?_
    refine wp_seq ?_
    refine C.yes hf rfl ?_
    refine wp_skip ?_
    refine X.then_ ?_
    refine wp_seq ?_
    refine wp_block ?_
    refine wp_seq ?_
    refine R.list ?_
    refine S.val hf hs (v := elemPtr s_A (k1 * 2)) rfl rfl rfl (V.index rfl rfl rfl Tryz.runUnderlying23 Tryz.sizeOf32 (hv_s_.some_ (lt_of_get hxk1)) (Int.natCast_nonneg _) (lt_of_get hxk1) rfl) (fun a hf => ?_)
    refine S.val hf hs (v := .agg #[.string (ba xk1.Name), .string (ba xk1.Material)]) rfl rfl rfl (V.loadEl (off := 0) (Ag.args _ _ _) (hv_s_.flat hxk1) rfl rfl rfl Tryz.isAgg32 Tryz.sizeOf32 rfl rfl) (fun a hf => ?_)
    refine S.alloc hf hs rfl rfl rfl [.string (ba []), .string (ba [])] rfl Tryz.zeroValue32 rfl (fun g1 a w hf hs => ?_)
    refine S.storeBox 0 hf hs rfl rfl [.string (ba xk1.Name), .string (ba xk1.Material)] [.string (ba xk1.Name), .string (ba xk1.Material)] rfl rfl rfl rfl rfl Tryz.sizeOf32 rfl rfl rfl rfl (fun a w hf hs => ?_)
    refine R.nil ?_
    refine X.then_ ?_
    refine wp_seq ?_
    refine R.list ?_
    refine S.val hf hs (v := .slice mA m.length mC) rfl rfl rfl (V.pure rfl) (fun a hf => ?_)
    refine S.val hf hs (v := .pointer (some ⟨g1, 1, none⟩)) rfl rfl rfl (V.fieldBox rfl rfl Tryz.runUnderlying32 rfl Tryz.sizeOf9 rfl rfl) (fun a hf => ?_)
    refine S.val hf hs (v := .string (ba xk1.Material)) rfl rfl rfl (V.loadBox 0 rfl rfl rfl Tryz.isAgg9 Tryz.sizeOf9 rfl rfl) (fun a hf => ?_)
    refine S.call hf rfl rfl rfl (call_fn (vs := [.slice mA m.length mC, .string (ba xk1.Material)]) rfl rfl rfl Tryz.call86) (R_stack_materialOf m xk1.Material _ mA mC ((Ag.args _ _ _).view hv_m hs) _ h) (fun v a w' hf hr => ?_)
    obtain ⟨y1, y2, rfl, h2, hs2⟩ := hr
    replace h := h2; replace hs := hs.call hs2; clear h2 hs2
    refine S.val hf hs (v := .tuple #[.agg #[.string (ba y1.Name), .int .i64 y1.Kind, .int .i64 y1.Thick, .int .i64 y1.Grow], .bool y2]) rfl rfl rfl (V.pure rfl) (fun a hf => ?_)
    refine S.val hf hs (v := .agg #[.string (ba y1.Name), .int .i64 y1.Kind, .int .i64 y1.Thick, .int .i64 y1.Grow]) rfl rfl rfl (V.pure rfl) (fun a hf => ?_)
    refine S.val hf hs (v := .bool y2) rfl rfl rfl (V.pure rfl) (fun a hf => ?_)
    refine S.alloc hf hs rfl rfl rfl [.string (ba []), .int .i64 0, .int .i64 0, .int .i64 0] rfl Tryz.zeroValue29 rfl (fun g2 a w hf hs => ?_)
    refine S.storeBox 0 hf hs rfl rfl [.string (ba y1.Name), .int .i64 y1.Kind, .int .i64 y1.Thick, .int .i64 y1.Grow] [.string (ba y1.Name), .int .i64 y1.Kind, .int .i64 y1.Thick, .int .i64 y1.Grow] rfl rfl rfl rfl rfl Tryz.sizeOf29 rfl rfl rfl rfl (fun a w hf hs => ?_)
    refine S.val hf hs (v := .bool y2) rfl rfl rfl (V.pure rfl) (fun a hf => ?_)
    refine R.nil ?_
    refine X.then_ ?_
    refine R.list ?_
    refine S.val hf hs (v := .int .i64 n2) rfl rfl rfl (V.pure rfl) (fun a hf => ?_)
    refine S.val hf hs (v := .pointer (some ⟨g2, 2, none⟩)) rfl rfl rfl (V.fieldBox rfl rfl Tryz.runUnderlying29 rfl Tryz.sizeOf3 rfl rfl) (fun a hf => ?_)
    refine S.val hf hs (v := .int .i64 y1.Thick) rfl rfl rfl (V.loadBox 0 rfl rfl rfl Tryz.isAgg3 Tryz.sizeOf3 rfl rfl) (fun a hf => ?_)
    refine S.val hf hs (v := .int .i64 (w64 (n2 + y1.Thick))) rfl rfl rfl (V.pure rfl) (fun a hf => ?_)
    refine S.val hf hs (v := .int .i64 (w64 (n2 + y1.Thick))) rfl rfl rfl (V.pure rfl) (fun a hf => ?_)
    refine R.nil ?_
    refine X.blk ?_
    refine X.then_ ?_
    refine R.list ?_
    refine S.val hf hs (v := .int .i64 ((k1 + 1 : Nat) : Int)) rfl rfl rfl (V.incr rfl rfl rfl hltk1 hlenk1) (fun a hf => ?_)
    refine S.val hf hs (v := .int .i64 ((k1 + 1 : Nat) : Int)) rfl rfl rfl (V.pure rfl) (fun a hf => ?_)
    refine R.nil ?_
    refine X.then_ ?_
    exact ⟨xk1, llk1, rfl, k1 + 1, (w64 (n2 + y1.Thick)), range_drop hlk1, range_len hkk1, (by rw [hnext1] at h; exact h), (((((hf.nil.cons (hf.get 11 _ rfl)).cons (hf.get 10 _ rfl)).cons (hf.get 5 _ rfl)).cons (hf.get 0 _ rfl)).cons (hf.get 12 _ rfl)), hs.drop.drop⟩

set_option linter.unusedVariables false
def M_stack_Thickness (m : (List Material)) (s_ : (List Layer)) (Q : Int → Int → Prop) : Prop :=
  M_stack_CheckStack m s_ fun y1 => cnd (y1 != 0) (Q 0 y1) (M_stack_thick m s_ fun y2 => Q y2 0)
set_option maxHeartbeats 1000000 in
theorem R_stack_Thickness (m : (List Material)) (s_ : (List Layer)) (w0 : World) (mA : Option Addr) (mC : Nat) (hv_m : View w0 (old w0 none_) mA mC m) (s_A : Option Addr) (s_C : Nat) (hv_s_ : View w0 (old w0 none_) s_A s_C s_) (Q : Int → Int → Prop) (h : M_stack_Thickness m s_ Q) :
    Ret Tryz.prog 45 #[.slice mA m.length mC, .slice s_A s_.length s_C] w0 fun v w' => ∃ (r0 : Int) (r1 : Int), v = .tuple #[.int .i64 r0, .int .i64 r1] ∧ Q r0 r1 ∧ Sat w0 none_ [] w' := by
  refine fn_enter Tryz.func45 rfl Tryz.ntmps45 rfl (fs := [(0, .slice mA m.length mC), (1, .slice s_A s_.length s_C)]) rfl (fun a hf => ?_)
  have hs := Sat.start w0 none_
  unfold M_stack_Thickness at h
  refine wp_seq ?_
  refine R.list ?_
  refine S.val hf hs (v := .int .i64 0) rfl rfl rfl (V.pure rfl) (fun a hf => ?_)
  refine S.val hf hs (v := .int .i64 0) rfl rfl rfl (V.pure rfl) (fun a hf => ?_)
  refine R.nil ?_
  refine X.then_ ?_
  refine wp_seq ?_
  refine wp_seq ?_
  refine R.list ?_
  refine S.val hf hs (v := .slice mA m.length mC) rfl rfl rfl (V.pure rfl) (fun a hf => ?_)
  refine S.val hf hs (v := .slice s_A s_.length s_C) rfl rfl rfl (V.pure rfl) (fun a hf => ?_)
  refine S.call hf rfl rfl rfl (call_fn (vs := [.slice mA m.length mC, .slice s_A s_.length s_C]) rfl rfl rfl Tryz.call40) (R_stack_CheckStack m s_ _ mA mC ((Ag.args _ _ _).view hv_m hs) s_A s_C ((Ag.args _ _ _).view hv_s_ hs) _ h) (fun v a w' hf hr => ?_)
  obtain ⟨y1, rfl, h2, hs2⟩ := hr
  replace h := h2; replace hs := hs.call hs2; clear h2 hs2
  refine S.val hf hs (v := .int .i64 y1) rfl rfl rfl (V.pure rfl) (fun a hf => ?_)
  refine R.nil ?_
  refine X.then_ ?_
  refine wp_seq ?_
  refine R.list ?_
  refine S.val hf hs (v := .int .i64 y1) rfl rfl rfl (V.pure rfl) (fun a hf => ?_)
  refine S.val hf hs (v := .bool (y1 != 0)) rfl rfl rfl (V.pure rfl) (fun a hf => ?_)
  refine R.nil ?_
  refine X.then_ ?_
  refine C.cond hf (b := y1 != 0) rfl (fun hc => ?_) (fun hc => ?_)
  · replace h := h.1 hc
    refine wp_seq ?_
    refine R.list ?_
    refine S.val hf hs (v := .int .i64 y1) rfl rfl rfl (V.pure rfl) (fun a hf => ?_)
    refine S.val hf hs (v := .int .i64 0) rfl rfl rfl (V.pure rfl) (fun a hf => ?_)
    refine S.val hf hs (v := .int .i64 y1) rfl rfl rfl (V.pure rfl) (fun a hf => ?_)
    refine R.nil ?_
    refine X.then_ ?_
    refine wp_ret ?_
    refine X.then_ret ?_
    exact L.ret hf (run_results2 Tryz.results45 (ResIs.tmp hf rfl) (ResIs.tmp hf rfl)) ⟨0, y1, rfl, h, hs.nil⟩
  · replace h := h.2 hc
    refine wp_skip ?_
    refine X.then_ ?_
    refine wp_seq ?_
    refine R.list ?_
    refine S.val hf hs (v := .slice mA m.length mC) rfl rfl rfl (V.pure rfl) (fun a hf => ?_)
    refine S.val hf hs (v := .slice s_A s_.length s_C) rfl rfl rfl (V.pure rfl) (fun a hf => ?_)
    refine S.call hf rfl rfl rfl (call_fn (vs := [.slice mA m.length mC, .slice s_A s_.length s_C]) rfl rfl rfl Tryz.call97) (R_stack_thick m s_ _ mA mC ((Ag.args _ _ _).view hv_m hs) s_A s_C ((Ag.args _ _ _).view hv_s_ hs) _ h) (fun v a w' hf hr => ?_)
    obtain ⟨y2, rfl, h2, hs2⟩ := hr
    replace h := h2; replace hs := hs.call hs2; clear h2 hs2
    refine S.val hf hs (v := .int .i64 y2) rfl rfl rfl (V.pure rfl) (fun a hf => ?_)
    refine S.val hf hs (v := .int .i64 0) rfl rfl rfl (V.pure rfl) (fun a hf => ?_)
    refine R.nil ?_
    refine X.then_ ?_
    refine wp_ret ?_
    exact L.ret hf (run_results2 Tryz.results45 (ResIs.tmp hf rfl) (ResIs.tmp hf rfl)) ⟨y2, 0, rfl, h, hs.nil⟩

set_option linter.unusedVariables false
def M_awake  (Q : Bool → Prop) : Prop :=
  M_stack_Thickness ([(⟨[99], 1, 2, 0⟩ : Material), (⟨[103], 3, 3, 0⟩ : Material)] : List Material) ([(⟨[97], [99]⟩ : Layer), (⟨[], [103]⟩ : Layer), (⟨[98], [99]⟩ : Layer)] : List Layer) fun y1 y2 => cnd (y2 == 0) (Q (y1 == 7)) (Q false)
set_option maxHeartbeats 1000000 in
theorem R_awake  (w0 : World)  (Q : Bool → Prop) (h : M_awake  Q) :
    Ret Tryz.prog 15 #[] w0 fun v w' => ∃ (r0 : Bool), v = .bool r0 ∧ Q r0 ∧ Sat w0 none_ [] w' := by
  refine fn_enter Tryz.func15 rfl Tryz.ntmps15 rfl (fs := []) rfl (fun a hf => ?_)
  have hs := Sat.start w0 none_
  unfold M_awake at h
  refine wp_seq ?_
  refine R.list ?_
  refine S.val hf hs (v := .bool false) rfl rfl rfl (V.pure rfl) (fun a hf => ?_)
  refine R.nil ?_
  refine X.then_ ?_
  refine wp_seq ?_
  refine R.list ?_
  refine S.val hf hs (v := .agg #[.string (ba [99]), .int .i64 1, .int .i64 2, .int .i64 0]) rfl rfl rfl (V.build (places := #[(0, 1), (1, 1), (2, 1), (3, 1)]) rfl Tryz.zeroValue29 Tryz.runUnderlying29 (by intro w; simp [Tryz.sizeOf3, Tryz.sizeOf9]) rfl rfl) (fun a hf => ?_)
  refine S.val hf hs (v := .agg #[.string (ba [103]), .int .i64 3, .int .i64 3, .int .i64 0]) rfl rfl rfl (V.build (places := #[(0, 1), (1, 1), (2, 1), (3, 1)]) rfl Tryz.zeroValue29 Tryz.runUnderlying29 (by intro w; simp [Tryz.sizeOf3, Tryz.sizeOf9]) rfl rfl) (fun a hf => ?_)
  refine S.buildSlice hf hs rfl rfl rfl (α := Material) [(⟨[99], 1, 2, 0⟩ : Material), (⟨[103], 3, 3, 0⟩ : Material)] rfl rfl Tryz.runUnderlying22 Tryz.sizeOf29 Tryz.zeroValue29 (by kernel_rfl) rfl (by decide) (by decide) (fun A1 a w hf hs => ?_)
  refine S.val hf hs (v := .agg #[.string (ba [97]), .string (ba [99])]) rfl rfl rfl (V.build (places := #[(0, 1), (1, 1)]) rfl Tryz.zeroValue32 Tryz.runUnderlying32 (by intro w; simp [Tryz.sizeOf9]) rfl rfl) (fun a hf => ?_)
  refine S.val hf hs (v := .agg #[.string (ba []), .string (ba [103])]) rfl rfl rfl (V.build (places := #[(0, 1), (1, 1)]) rfl Tryz.zeroValue32 Tryz.runUnderlying32 (by intro w; simp [Tryz.sizeOf9]) rfl rfl) (fun a hf => ?_)
  refine S.val hf hs (v := .agg #[.string (ba [98]), .string (ba [99])]) rfl rfl rfl (V.build (places := #[(0, 1), (1, 1)]) rfl Tryz.zeroValue32 Tryz.runUnderlying32 (by intro w; simp [Tryz.sizeOf9]) rfl rfl) (fun a hf => ?_)
  refine S.buildSlice hf hs rfl rfl rfl (α := Layer) [(⟨[97], [99]⟩ : Layer), (⟨[], [103]⟩ : Layer), (⟨[98], [99]⟩ : Layer)] rfl rfl Tryz.runUnderlying23 Tryz.sizeOf32 Tryz.zeroValue32 (by kernel_rfl) rfl (by decide) (by decide) (fun A2 a w hf hs => ?_)
  refine S.call hf rfl rfl rfl (call_fn (vs := [.slice A1 ([(⟨[99], 1, 2, 0⟩ : Material), (⟨[103], 3, 3, 0⟩ : Material)] : List Material).length 2, .slice A2 ([(⟨[97], [99]⟩ : Layer), (⟨[], [103]⟩ : Layer), (⟨[98], [99]⟩ : Layer)] : List Layer).length 3]) rfl rfl rfl Tryz.call45) (R_stack_Thickness ([(⟨[99], 1, 2, 0⟩ : Material), (⟨[103], 3, 3, 0⟩ : Material)] : List Material) ([(⟨[97], [99]⟩ : Layer), (⟨[], [103]⟩ : Layer), (⟨[98], [99]⟩ : Layer)] : List Layer) _ A1 2 (hs.ownView 1 rfl) A2 3 (hs.ownView 0 rfl) _ h) (fun v a w' hf hr => ?_)
  obtain ⟨y1, y2, rfl, h2, hs2⟩ := hr
  replace h := h2; replace hs := hs.call hs2; clear h2 hs2
  refine S.val hf hs (v := .tuple #[.int .i64 y1, .int .i64 y2]) rfl rfl rfl (V.pure rfl) (fun a hf => ?_)
  refine S.val hf hs (v := .int .i64 y1) rfl rfl rfl (V.pure rfl) (fun a hf => ?_)
  refine S.val hf hs (v := .int .i64 y2) rfl rfl rfl (V.pure rfl) (fun a hf => ?_)
  refine S.val hf hs (v := .int .i64 y1) rfl rfl rfl (V.pure rfl) (fun a hf => ?_)
  refine S.val hf hs (v := .int .i64 y2) rfl rfl rfl (V.pure rfl) (fun a hf => ?_)
  refine R.nil ?_
  refine X.then_ ?_
  refine wp_seq ?_
  refine R.list ?_
  refine S.val hf hs (v := .int .i64 y2) rfl rfl rfl (V.pure rfl) (fun a hf => ?_)
  refine S.val hf hs (v := .bool (y2 == 0)) rfl rfl rfl (V.pure rfl) (fun a hf => ?_)
  refine S.split hf hs (b := y2 == 0) rfl rfl rfl (V.pure rfl) (fun hc a hf => ?_) (fun hc a hf => ?_)
  · replace h := h.1 hc
    refine S.val hf hs (v := .int .i64 y1) rfl rfl rfl (V.pure rfl) (fun a hf => ?_)
    refine S.val hf hs (v := .bool (y1 == 7)) rfl rfl rfl (V.pure rfl) (fun a hf => ?_)
    refine S.val hf hs (v := .bool (y1 == 7)) rfl rfl rfl (V.pure rfl) (fun a hf => ?_)
    refine S.val hf hs (v := .bool (y1 == 7)) rfl rfl rfl (V.pure rfl) (fun a hf => ?_)
    refine R.nil ?_
    refine X.then_ ?_
    refine wp_ret ?_
    exact L.ret hf (run_results1 Tryz.results15 (ResIs.tmp hf rfl)) ⟨(y1 == 7), rfl, h, hs.nil⟩
  · replace h := h.2 hc
    refine S.skip hf rfl rfl rfl (fun a hf => ?_)
    refine S.skip hf rfl rfl rfl (fun a hf => ?_)
    refine S.val hf hs (v := .bool false) rfl rfl rfl (V.pure rfl) (fun a hf => ?_)
    refine S.val hf hs (v := .bool false) rfl rfl rfl (V.pure rfl) (fun a hf => ?_)
    refine R.nil ?_
    refine X.then_ ?_
    refine wp_ret ?_
    exact L.ret hf (run_results1 Tryz.results15 (ResIs.tmp hf rfl)) ⟨false, rfl, h, hs.nil⟩

end Go.Proofs.YtdnilnmdbgcmoaaGreatDoor
