/- Writing stacks: the walks. -/
import Derived.Test.YtdnilnmdbgcmoaaGreatDoorTextD
import Derived.Test.YtdnilnmdbgcmoaaGreatDoorTextT
namespace Go.Proofs.YtdnilnmdbgcmoaaGreatDoor
open Go Go.RowKit Go.Proofs Go.Shelf Go.Lib
set_option linter.unusedVariables false

set_option linter.unusedVariables false
def M_stack_Text_L2  (k2 : Nat) (xk2 : Layer) (l4 : List UInt8) (b4 : Bool) (next2 : List UInt8 → Bool → Prop) : Prop :=
  cnd (!(xk2.Name == [])) (must ([99, 111, 112, 112, 101, 114, 32].length + xk2.Name.length ≤ 9223372036854775807) (must (([99, 111, 112, 112, 101, 114, 32] ++ xk2.Name).length + [32].length ≤ 9223372036854775807) (must ((([99, 111, 112, 112, 101, 114, 32] ++ xk2.Name) ++ [32]).length + xk2.Material.length ≤ 9223372036854775807) (must (((([99, 111, 112, 112, 101, 114, 32] ++ xk2.Name) ++ [32]) ++ xk2.Material).length + [10].length ≤ 9223372036854775807) (M_bld_WriteString (⟨b4, l4⟩ : StringsBuilder) (((([99, 111, 112, 112, 101, 114, 32] ++ xk2.Name) ++ [32]) ++ xk2.Material) ++ [10]) fun y3 y4 z1 => next2 z1.buf z1.addr))))) (must ([108, 97, 121, 101, 114, 32].length + xk2.Material.length ≤ 9223372036854775807) (must (([108, 97, 121, 101, 114, 32] ++ xk2.Material).length + [10].length ≤ 9223372036854775807) (M_bld_WriteString (⟨b4, l4⟩ : StringsBuilder) (([108, 97, 121, 101, 114, 32] ++ xk2.Material) ++ [10]) fun y5 y6 z2 => next2 z2.buf z2.addr)))
def M_stack_Text_L1  (k1 : Nat) (xk1 : Material) (l2 : List UInt8) (b2 : Bool) (next1 : List UInt8 → Bool → Prop) : Prop :=
  must ([109, 97, 116, 101, 114, 105, 97, 108, 32].length + xk1.Name.length ≤ 9223372036854775807) (must (([109, 97, 116, 101, 114, 105, 97, 108, 32] ++ xk1.Name).length + [32].length ≤ 9223372036854775807) (idx ([[], [99, 111, 112, 112, 101, 114], [99, 111, 114, 101], [103, 108, 117, 101]] : List Str) xk1.Kind fun x1 => must ((([109, 97, 116, 101, 114, 105, 97, 108, 32] ++ xk1.Name) ++ [32]).length + x1.length ≤ 9223372036854775807) (must (((([109, 97, 116, 101, 114, 105, 97, 108, 32] ++ xk1.Name) ++ [32]) ++ x1).length + [32].length ≤ 9223372036854775807) (must (isI64 xk1.Thick) (must ((((([109, 97, 116, 101, 114, 105, 97, 108, 32] ++ xk1.Name) ++ [32]) ++ x1) ++ [32]).length + (itoaS xk1.Thick).length ≤ 9223372036854775807) (must (((((([109, 97, 116, 101, 114, 105, 97, 108, 32] ++ xk1.Name) ++ [32]) ++ x1) ++ [32]) ++ (itoaS xk1.Thick)).length + [32].length ≤ 9223372036854775807) (must (isI64 xk1.Grow) (must ((((((([109, 97, 116, 101, 114, 105, 97, 108, 32] ++ xk1.Name) ++ [32]) ++ x1) ++ [32]) ++ (itoaS xk1.Thick)) ++ [32]).length + (itoaS xk1.Grow).length ≤ 9223372036854775807) (must (((((((([109, 97, 116, 101, 114, 105, 97, 108, 32] ++ xk1.Name) ++ [32]) ++ x1) ++ [32]) ++ (itoaS xk1.Thick)) ++ [32]) ++ (itoaS xk1.Grow)).length + [10].length ≤ 9223372036854775807) (M_bld_WriteString (⟨b2, l2⟩ : StringsBuilder) (((((((([109, 97, 116, 101, 114, 105, 97, 108, 32] ++ xk1.Name) ++ [32]) ++ x1) ++ [32]) ++ (itoaS xk1.Thick)) ++ [32]) ++ (itoaS xk1.Grow)) ++ [10]) fun y7 y8 z3 => next1 z3.buf z3.addr))))))))))
def M_stack_Text (m : (List Material)) (s_ : (List Layer)) (Q : Str → Int → Prop) : Prop :=
  M_stack_CheckStack m s_ fun y1 => cnd (y1 != 0) (Q [] y1) (forIn' (fun k x (s : List UInt8 × Bool) next => M_stack_Text_L1 k x s.1 s.2 (fun l2 b2 => next (l2, b2))) (fun (s : List UInt8 × Bool) => (fun (l2 : List UInt8) (b2 : Bool) => forIn' (fun k x (s : List UInt8 × Bool) next => M_stack_Text_L2 k x s.1 s.2 (fun l4 b4 => next (l4, b4))) (fun (s : List UInt8 × Bool) => (fun (l4 : List UInt8) (b4 : Bool) => M_bld_Len (⟨b4, l4⟩ : StringsBuilder) fun y2 => cnd (decide (y2 > 50000)) (Q [] 2) (Q l4 0)) s.1 s.2) s_ 0 (l2, b2)) s.1 s.2) m 0 (([] : List UInt8), false))
set_option maxHeartbeats 1000000 in
theorem R_stack_Text (m : (List Material)) (s_ : (List Layer)) (w0 : World) (mA : Option Addr) (mC : Nat) (hv_m : View w0 (old w0 none_) mA mC m) (s_A : Option Addr) (s_C : Nat) (hv_s_ : View w0 (old w0 none_) s_A s_C s_) (hT : TabIn Tryz.prog w0 (old w0 none_)) (Q : Str → Int → Prop) (h : M_stack_Text m s_ Q) :
    Ret Tryz.prog 21 #[.slice mA m.length mC, .slice s_A s_.length s_C] w0 fun v w' => ∃ (r0 : Str) (r1 : Int), v = .tuple #[.string (ba r0), .int .i64 r1] ∧ Q r0 r1 ∧ Sat w0 none_ [] w' := by
  refine fn_enter Tryz.func21 rfl Tryz.ntmps21 rfl (fs := [(0, .slice mA m.length mC), (1, .slice s_A s_.length s_C)]) rfl (fun a hf => ?_)
  have hs := Sat.start w0 none_
  unfold M_stack_Text at h
  refine wp_seq ?_
  refine R.list ?_
  refine S.val hf hs (v := .string (ba [])) rfl rfl rfl (V.pure rfl) (fun a hf => ?_)
  refine S.val hf hs (v := .int .i64 0) rfl rfl rfl (V.pure rfl) (fun a hf => ?_)
  refine R.nil ?_
  refine X.then_ ?_
  refine wp_seq ?_
  refine wp_seq ?_
  refine R.list ?_
  refine S.val hf hs (v := .slice mA m.length mC) rfl rfl rfl (V.pure rfl) (fun a hf => ?_)
  refine S.val hf hs (v := .slice s_A s_.length s_C) rfl rfl rfl (V.pure rfl) (fun a hf => ?_)
  refine S.call hf rfl rfl rfl (call_fn (vs := [.slice mA m.length mC, .slice s_A s_.length s_C]) rfl rfl rfl Tryz.call40) (R_stack_CheckStack m s_ _ mA mC ((Ag.args _ _ _).view hv_m hs) s_A s_C ((Ag.args _ _ _).view hv_s_ hs) _ h) (fun v a w' hf hr => ?_)
  obtain ⟨y1, rfl, h2, hs2⟩ := hr
  replace h := h2; replace hs := hs.call hs2; clear h2 hs2
  refine S.val hf hs (v := .int .i64 y1) rfl rfl rfl (V.pure rfl) (fun a hf => ?_)
  refine R.nil ?_
  refine X.then_ ?_
  refine wp_seq ?_
  refine R.list ?_
  refine S.val hf hs (v := .int .i64 y1) rfl rfl rfl (V.pure rfl) (fun a hf => ?_)
  refine S.val hf hs (v := .bool (y1 != 0)) rfl rfl rfl (V.pure rfl) (fun a hf => ?_)
  refine R.nil ?_
  refine X.then_ ?_
  refine C.cond hf (b := y1 != 0) rfl (fun hc => ?_) (fun hc => ?_)
  · replace h := h.1 hc
    refine wp_seq ?_
    refine R.list ?_
    refine S.val hf hs (v := .int .i64 y1) rfl rfl rfl (V.pure rfl) (fun a hf => ?_)
    refine S.val hf hs (v := .string (ba [])) rfl rfl rfl (V.pure rfl) (fun a hf => ?_)
    refine S.val hf hs (v := .int .i64 y1) rfl rfl rfl (V.pure rfl) (fun a hf => ?_)
    refine R.nil ?_
    refine X.then_ ?_
    refine wp_ret ?_
    refine X.then_ret ?_
    exact L.ret hf (run_results2 Tryz.results21 (ResIs.tmp hf rfl) (ResIs.tmp hf rfl)) ⟨[], y1, rfl, h, hs.nil⟩
  · replace h := h.2 hc
    refine wp_skip ?_
    refine X.then_ ?_
    refine wp_seq ?_
    refine R.list ?_
    refine S.alloc hf hs rfl rfl rfl [.pointer none, .slice none 0 0] rfl Tryz.zeroValue101 rfl (fun g1 a w hf hs => ?_)
    refine R.nil ?_
    refine X.then_ ?_
    refine wp_seq ?_
    refine R.list ?_
    refine S.val hf hs (v := .agg #[.string (ba []), .string (ba [99, 111, 112, 112, 101, 114]), .string (ba [99, 111, 114, 101]), .string (ba [103, 108, 117, 101])]) rfl rfl rfl (V.buildArr rfl Tryz.zeroValue102 Tryz.runUnderlying102 Tryz.sizeOf9 rfl (by kernel_rfl)) (fun a hf => ?_)
    refine S.alloc hf hs rfl rfl rfl [.string (ba []), .string (ba []), .string (ba []), .string (ba [])] rfl Tryz.zeroValue102 rfl (fun g2 a w hf hs => ?_)
    refine S.storeBox 0 hf hs rfl rfl [.string (ba []), .string (ba [99, 111, 112, 112, 101, 114]), .string (ba [99, 111, 114, 101]), .string (ba [103, 108, 117, 101])] [.string (ba []), .string (ba [99, 111, 112, 112, 101, 114]), .string (ba [99, 111, 114, 101]), .string (ba [103, 108, 117, 101])] rfl rfl rfl rfl rfl Tryz.sizeOf102 rfl rfl rfl rfl (fun a w hf hs => ?_)
    refine R.nil ?_
    refine X.then_ ?_
    refine wp_seq ?_
    refine wp_seq ?_
    refine R.list ?_
    refine S.val hf hs (v := .slice mA m.length mC) rfl rfl rfl (V.pure rfl) (fun a hf => ?_)
    refine S.val hf hs (v := .int .i64 (m.length : Int)) rfl rfl rfl (V.len rfl rfl Tryz.runUnderlying22) (fun a hf => ?_)
    refine S.val hf hs (v := .int .i64 0) rfl rfl rfl (V.pure rfl) (fun a hf => ?_)
    refine R.nil ?_
    refine X.then_ ?_
    refine wp_block ?_
    replace hs := hs.nilOwn (α := UInt8) 5
    replace hs := hs.rebox 2 (vs' := [.pointer (selfp false g1), .slice none ([] : List UInt8).length 0]) rfl rfl
    replace hs := hs.front 1 rfl
    replace hs := hs.front 1 rfl
    replace hs := hs.front 2 rfl
    have hlenk1 := hv_m.len64
    refine C.range (fun (ll : List Material) a w => ∃ (k1 : Nat) (l2 : List UInt8) (l2A : Option Addr) (l2C : Nat) (b2 : Bool), m.drop k1 = ll ∧ k1 + ll.length = m.length ∧ forIn' (fun k x (s : List UInt8 × Bool) next => M_stack_Text_L1 k x s.1 s.2 (fun l2 b2 => next (l2, b2))) (fun (s : List UInt8 × Bool) => (fun (l2 : List UInt8) (b2 : Bool) => forIn' (fun k x (s : List UInt8 × Bool) next => M_stack_Text_L2 k x s.1 s.2 (fun l4 b4 => next (l4, b4))) (fun (s : List UInt8 × Bool) => (fun (l4 : List UInt8) (b4 : Bool) => M_bld_Len (⟨b4, l4⟩ : StringsBuilder) fun y2 => cnd (decide (y2 > 50000)) (Q [] 2) (Q l4 0)) s.1 s.2) s_ 0 (l2, b2)) s.1 s.2) ll k1 (l2, b2) ∧ FrOk 75 [(22, .int .i64 (k1 : Int)), (1, .slice s_A s_.length s_C), (7, .pointer (some ⟨g1, 0, none⟩)), (8, .pointer (some ⟨g2, 0, none⟩)), (20, .slice mA m.length mC), (21, .int .i64 (m.length : Int))] a ∧ Sat w0 none_ [hbox g1 101 [.pointer (selfp b2 g1), .slice l2A l2.length l2C], hown 5 l2A l2C l2, hbox g2 102 [.string (ba []), .string (ba [99, 111, 112, 112, 101, 114]), .string (ba [99, 111, 114, 101]), .string (ba [103, 108, 117, 101])]] w) m ⟨0, ([] : List UInt8), none, 0, false, rfl, Nat.zero_add _, h, ((((((hf.nil.cons (hf.get 21 _ rfl)).cons (hf.get 20 _ rfl)).cons (hf.get 8 _ rfl)).cons (hf.get 7 _ rfl)).cons (hf.get 1 _ rfl)).cons (hf.get 22 _ rfl)), hs⟩ ?_
    clear h hf hs
    rintro llk1 a w ⟨k1, l2, l2A, l2C, b2, hlk1, hkk1, h, hf, hs⟩
    cases llk1 with
    | nil =>
      have hc := range_done hkk1
      replace h : (fun (l2 : List UInt8) (b2 : Bool) => forIn' (fun k x (s : List UInt8 × Bool) next => M_stack_Text_L2 k x s.1 s.2 (fun l4 b4 => next (l4, b4))) (fun (s : List UInt8 × Bool) => (fun (l4 : List UInt8) (b4 : Bool) => M_bld_Len (⟨b4, l4⟩ : StringsBuilder) fun y2 => cnd (decide (y2 > 50000)) (Q [] 2) (Q l4 0)) s.1 s.2) s_ 0 (l2, b2)) l2 b2 := h
      refine wp_seq ?_
      refine R.list ?_
      refine S.val hf hs (v := .bool false) rfl rfl rfl (V.cmp false rfl rfl rfl rfl hc) (fun a hf => ?_)
      refine R.nil ?_
      refine X.then_ ?_
      refine wp_seq ?_
      refine C.no hf rfl ?_
      refine wp_exit ?_
      refine X.then_exit ?_
      refine X.then_exit ?_
      refine X.blk_exit ?_
      refine X.then_ ?_
      refine wp_seq ?_
      refine wp_seq ?_
      refine R.list ?_
      refine S.val hf hs (v := .slice s_A s_.length s_C) rfl rfl rfl (V.pure rfl) (fun a hf => ?_)
      refine S.val hf hs (v := .int .i64 (s_.length : Int)) rfl rfl rfl (V.len rfl rfl Tryz.runUnderlying23) (fun a hf => ?_)
      refine S.val hf hs (v := .int .i64 0) rfl rfl rfl (V.pure rfl) (fun a hf => ?_)
      refine R.nil ?_
      refine X.then_ ?_
      refine wp_block ?_
      replace hs := hs.front 1 rfl
      replace hs := hs.front 1 rfl
      replace hs := hs.take 2
      have hlenk2 := hv_s_.len64
      refine C.range (fun (ll : List Layer) a w => ∃ (k2 : Nat) (l4 : List UInt8) (l4A : Option Addr) (l4C : Nat) (b4 : Bool), s_.drop k2 = ll ∧ k2 + ll.length = s_.length ∧ forIn' (fun k x (s : List UInt8 × Bool) next => M_stack_Text_L2 k x s.1 s.2 (fun l4 b4 => next (l4, b4))) (fun (s : List UInt8 × Bool) => (fun (l4 : List UInt8) (b4 : Bool) => M_bld_Len (⟨b4, l4⟩ : StringsBuilder) fun y2 => cnd (decide (y2 > 50000)) (Q [] 2) (Q l4 0)) s.1 s.2) ll k2 (l4, b4) ∧ FrOk 75 [(50, .int .i64 (k2 : Int)), (7, .pointer (some ⟨g1, 0, none⟩)), (48, .slice s_A s_.length s_C), (49, .int .i64 (s_.length : Int))] a ∧ Sat w0 none_ [hbox g1 101 [.pointer (selfp b4 g1), .slice l4A l4.length l4C], hown 5 l4A l4C l4] w) s_ ⟨0, l2, l2A, l2C, b2, rfl, Nat.zero_add _, h, ((((hf.nil.cons (hf.get 49 _ rfl)).cons (hf.get 48 _ rfl)).cons (hf.get 7 _ rfl)).cons (hf.get 50 _ rfl)), hs⟩ ?_
      clear h hf hs
      rintro llk2 a w ⟨k2, l4, l4A, l4C, b4, hlk2, hkk2, h, hf, hs⟩
      cases llk2 with
      | nil =>
        have hc := range_done hkk2
        replace h : (fun (l4 : List UInt8) (b4 : Bool) => M_bld_Len (⟨b4, l4⟩ : StringsBuilder) fun y2 => cnd (decide (y2 > 50000)) (Q [] 2) (Q l4 0)) l4 b4 := h
        refine wp_seq ?_
        refine R.list ?_
        refine S.val hf hs (v := .bool false) rfl rfl rfl (V.cmp false rfl rfl rfl rfl hc) (fun a hf => ?_)
        refine R.nil ?_
        refine X.then_ ?_
        refine wp_seq ?_
        refine C.no hf rfl ?_
        refine wp_exit ?_
        refine X.then_exit ?_
        refine X.then_exit ?_
        refine X.blk_exit ?_
        refine X.then_ ?_
        refine wp_seq ?_
        refine wp_seq ?_
        refine R.list ?_
        refine S.call hf rfl rfl rfl (call_fn (vs := [.pointer (some ⟨g1, 0, none⟩)]) rfl rfl rfl Tryz.call56) (R_bld_Len (⟨b4, l4⟩ : StringsBuilder) _ l4A l4C (hs.ownView 1 rfl) g1 (hs.boxAt 0 rfl) _ h) (fun v a w' hf hr => ?_)
        obtain ⟨y2, rfl, h2, hs2⟩ := hr
        replace h := h2; replace hs := hs.call hs2; clear h2 hs2
        refine S.val hf hs (v := .bool (decide (y2 > 50000))) rfl rfl rfl (V.pure rfl) (fun a hf => ?_)
        refine R.nil ?_
        refine X.then_ ?_
        refine C.cond hf (b := decide (y2 > 50000)) rfl (fun hc => ?_) (fun hc => ?_)
        · replace h := h.1 hc
          refine wp_seq ?_
          refine R.list ?_
          refine S.val hf hs (v := .string (ba [])) rfl rfl rfl (V.pure rfl) (fun a hf => ?_)
          refine S.val hf hs (v := .int .i64 2) rfl rfl rfl (V.pure rfl) (fun a hf => ?_)
          refine R.nil ?_
          refine X.then_ ?_
          refine wp_ret ?_
          refine X.then_ret ?_
          exact L.ret hf (run_results2 Tryz.results21 (ResIs.tmp hf rfl) (ResIs.tmp hf rfl)) ⟨[], 2, rfl, h, hs.nil⟩
        · replace h := h.2 hc
          refine wp_skip ?_
          refine X.then_ ?_
          refine wp_seq ?_
          refine R.list ?_
          refine S.call hf rfl rfl rfl (call_fn (vs := [.pointer (some ⟨g1, 0, none⟩)]) rfl rfl rfl Tryz.call57) (bldString 0 1 hs (g := g1) (f := b4) (A := l4A) (C := l4C) (s := l4) rfl rfl) (fun v a w' hf hr => ?_)
          obtain ⟨rfl, hs2⟩ := hr
          replace hs := hs2; clear hs2
          refine S.val hf hs (v := .string (ba l4)) rfl rfl rfl (V.pure rfl) (fun a hf => ?_)
          refine S.val hf hs (v := .int .i64 0) rfl rfl rfl (V.pure rfl) (fun a hf => ?_)
          refine R.nil ?_
          refine X.then_ ?_
          refine wp_ret ?_
          exact L.ret hf (run_results2 Tryz.results21 (ResIs.tmp hf rfl) (ResIs.tmp hf rfl)) ⟨l4, 0, rfl, h, hs.nil⟩
      | cons xk2 llk2 =>
        have hltk2 := range_lt hkk2; have hc := range_go hkk2; have hxk2 := range_get hlk2
        obtain ⟨next2, hnext2⟩ : ∃ X : List UInt8 → Bool → Prop, X = (fun l4 b4 => forIn' (fun k x (s : List UInt8 × Bool) next => M_stack_Text_L2 k x s.1 s.2 (fun l4 b4 => next (l4, b4))) (fun (s : List UInt8 × Bool) => (fun (l4 : List UInt8) (b4 : Bool) => M_bld_Len (⟨b4, l4⟩ : StringsBuilder) fun y2 => cnd (decide (y2 > 50000)) (Q [] 2) (Q l4 0)) s.1 s.2) llk2 (k2 + 1) (l4, b4)) := ⟨_, rfl⟩
        replace h : M_stack_Text_L2 k2 xk2 l4 b4 next2 := by rw [hnext2]; exact h
        unfold M_stack_Text_L2 at h
        refine wp_seq ?_
        refine R.list ?_
        refine S.val hf hs (v := .bool true) rfl rfl rfl (V.cmp true rfl rfl rfl rfl hc) (fun a hf => ?_)
        refine R.nil ?_
        refine X.then_ ?_
        refine wp_seq ?_
        refine C.yes hf rfl ?_
        refine wp_skip ?_
        refine X.then_ ?_
        refine wp_seq ?_
        refine wp_block ?_
        refine wp_seq ?_
        refine R.list ?_
        refine S.val hf hs (v := elemPtr s_A (k2 * 2)) rfl rfl rfl (V.index rfl rfl rfl Tryz.runUnderlying23 Tryz.sizeOf32 (hv_s_.some_ (lt_of_get hxk2)) (Int.natCast_nonneg _) (lt_of_get hxk2) rfl) (fun a hf => ?_)
        refine S.val hf hs (v := .agg #[.string (ba xk2.Name), .string (ba xk2.Material)]) rfl rfl rfl (V.loadEl (off := 0) (Ag.args _ _ _) (hv_s_.flat hxk2) rfl rfl rfl Tryz.isAgg32 Tryz.sizeOf32 rfl rfl) (fun a hf => ?_)
        refine S.alloc hf hs rfl rfl rfl [.string (ba []), .string (ba [])] rfl Tryz.zeroValue32 rfl (fun g3 a w hf hs => ?_)
        refine S.storeBox 0 hf hs rfl rfl [.string (ba xk2.Name), .string (ba xk2.Material)] [.string (ba xk2.Name), .string (ba xk2.Material)] rfl rfl rfl rfl rfl Tryz.sizeOf32 rfl rfl rfl rfl (fun a w hf hs => ?_)
        refine R.nil ?_
        refine X.then_ ?_
        refine wp_seq ?_
        refine R.list ?_
        refine S.val hf hs (v := .pointer (some ⟨g3, 0, none⟩)) rfl rfl rfl (V.fieldBox rfl rfl Tryz.runUnderlying32 rfl Tryz.sizeOf9 rfl rfl) (fun a hf => ?_)
        refine S.val hf hs (v := .string (ba xk2.Name)) rfl rfl rfl (V.loadBox 0 rfl rfl rfl Tryz.isAgg9 Tryz.sizeOf9 rfl rfl) (fun a hf => ?_)
        refine S.val hf hs (v := .bool (!(xk2.Name == []))) rfl rfl rfl (V.strCmp (!(xk2.Name == [])) rfl rfl rfl rfl) (fun a hf => ?_)
        refine R.nil ?_
        refine X.then_ ?_
        refine C.cond hf (b := !(xk2.Name == [])) rfl (fun hc => ?_) (fun hc => ?_)
        · replace h := h.1 hc
          refine R.list ?_
          refine S.val hf hs (v := .pointer (some ⟨g3, 0, none⟩)) rfl rfl rfl (V.fieldBox rfl rfl Tryz.runUnderlying32 rfl Tryz.sizeOf9 rfl rfl) (fun a hf => ?_)
          refine S.val hf hs (v := .string (ba xk2.Name)) rfl rfl rfl (V.loadBox 0 rfl rfl rfl Tryz.isAgg9 Tryz.sizeOf9 rfl rfl) (fun a hf => ?_)
          obtain ⟨hcat, h⟩ := h
          refine S.val hf hs (v := .string (ba ([99, 111, 112, 112, 101, 114, 32] ++ xk2.Name))) rfl rfl rfl (V.strAdd rfl rfl rfl hcat) (fun a hf => ?_)
          obtain ⟨hcat, h⟩ := h
          refine S.val hf hs (v := .string (ba (([99, 111, 112, 112, 101, 114, 32] ++ xk2.Name) ++ [32]))) rfl rfl rfl (V.strAdd rfl rfl rfl hcat) (fun a hf => ?_)
          refine S.val hf hs (v := .pointer (some ⟨g3, 1, none⟩)) rfl rfl rfl (V.fieldBox rfl rfl Tryz.runUnderlying32 rfl Tryz.sizeOf9 rfl rfl) (fun a hf => ?_)
          refine S.val hf hs (v := .string (ba xk2.Material)) rfl rfl rfl (V.loadBox 0 rfl rfl rfl Tryz.isAgg9 Tryz.sizeOf9 rfl rfl) (fun a hf => ?_)
          obtain ⟨hcat, h⟩ := h
          refine S.val hf hs (v := .string (ba ((([99, 111, 112, 112, 101, 114, 32] ++ xk2.Name) ++ [32]) ++ xk2.Material))) rfl rfl rfl (V.strAdd rfl rfl rfl hcat) (fun a hf => ?_)
          obtain ⟨hcat, h⟩ := h
          refine S.val hf hs (v := .string (ba (((([99, 111, 112, 112, 101, 114, 32] ++ xk2.Name) ++ [32]) ++ xk2.Material) ++ [10]))) rfl rfl rfl (V.strAdd rfl rfl rfl hcat) (fun a hf => ?_)
          replace hs := hs.front 2 rfl
          replace hs := hs.front 2 rfl
          obtain ⟨F1, hsF, hback, hold, hrest⟩ := Sat.callOwns [hbox g1 101 [.pointer (selfp b4 g1), .slice l4A l4.length l4C], hown 5 l4A l4C l4] (σ := [hbox g3 32 [.string (ba xk2.Name), .string (ba xk2.Material)]]) hs
          refine S.call hf rfl rfl rfl (call_fn (vs := [.pointer (some ⟨g1, 0, none⟩), .string (ba (((([99, 111, 112, 112, 101, 114, 32] ++ xk2.Name) ++ [32]) ++ xk2.Material) ++ [10]))]) rfl rfl rfl Tryz.call54) (R_bld_WriteString (⟨b4, l4⟩ : StringsBuilder) (((([99, 111, 112, 112, 101, 114, 32] ++ xk2.Name) ++ [32]) ++ xk2.Material) ++ [10]) _ _ g1 l4A l4C hsF _ h) (fun v a w' hf hr => ?_)
          obtain ⟨y3, y4, z1, z1_bufA, z1_bufC, rfl, h2, hs2⟩ := hr
          replace h := h2; replace hs := hback _ _ hs2; clear h2 hs2 hback hold hrest hsF
          refine R.nil ?_
          refine X.blk ?_
          refine X.then_ ?_
          refine R.list ?_
          refine S.val hf hs (v := .int .i64 ((k2 + 1 : Nat) : Int)) rfl rfl rfl (V.incr rfl rfl rfl hltk2 hlenk2) (fun a hf => ?_)
          refine S.val hf hs (v := .int .i64 ((k2 + 1 : Nat) : Int)) rfl rfl rfl (V.pure rfl) (fun a hf => ?_)
          refine R.nil ?_
          refine X.then_ ?_
          replace hs := hs.front 1 rfl
          replace hs := hs.front 1 rfl
          replace hs := hs.take 2
          exact ⟨xk2, llk2, rfl, k2 + 1, z1.buf, z1_bufA, z1_bufC, z1.addr, range_drop hlk2, range_len hkk2, (by rw [hnext2] at h; exact h), ((((hf.nil.cons (hf.get 49 _ rfl)).cons (hf.get 48 _ rfl)).cons (hf.get 7 _ rfl)).cons (hf.get 50 _ rfl)), hs⟩
        · replace h := h.2 hc
          refine R.list ?_
          refine S.val hf hs (v := .pointer (some ⟨g3, 1, none⟩)) rfl rfl rfl (V.fieldBox rfl rfl Tryz.runUnderlying32 rfl Tryz.sizeOf9 rfl rfl) (fun a hf => ?_)
          refine S.val hf hs (v := .string (ba xk2.Material)) rfl rfl rfl (V.loadBox 0 rfl rfl rfl Tryz.isAgg9 Tryz.sizeOf9 rfl rfl) (fun a hf => ?_)
          obtain ⟨hcat, h⟩ := h
          refine S.val hf hs (v := .string (ba ([108, 97, 121, 101, 114, 32] ++ xk2.Material))) rfl rfl rfl (V.strAdd rfl rfl rfl hcat) (fun a hf => ?_)
          obtain ⟨hcat, h⟩ := h
          refine S.val hf hs (v := .string (ba (([108, 97, 121, 101, 114, 32] ++ xk2.Material) ++ [10]))) rfl rfl rfl (V.strAdd rfl rfl rfl hcat) (fun a hf => ?_)
          replace hs := hs.front 2 rfl
          replace hs := hs.front 2 rfl
          obtain ⟨F1, hsF, hback, hold, hrest⟩ := Sat.callOwns [hbox g1 101 [.pointer (selfp b4 g1), .slice l4A l4.length l4C], hown 5 l4A l4C l4] (σ := [hbox g3 32 [.string (ba xk2.Name), .string (ba xk2.Material)]]) hs
          refine S.call hf rfl rfl rfl (call_fn (vs := [.pointer (some ⟨g1, 0, none⟩), .string (ba (([108, 97, 121, 101, 114, 32] ++ xk2.Material) ++ [10]))]) rfl rfl rfl Tryz.call54) (R_bld_WriteString (⟨b4, l4⟩ : StringsBuilder) (([108, 97, 121, 101, 114, 32] ++ xk2.Material) ++ [10]) _ _ g1 l4A l4C hsF _ h) (fun v a w' hf hr => ?_)
          obtain ⟨y5, y6, z2, z2_bufA, z2_bufC, rfl, h2, hs2⟩ := hr
          replace h := h2; replace hs := hback _ _ hs2; clear h2 hs2 hback hold hrest hsF
          refine R.nil ?_
          refine X.blk ?_
          refine X.then_ ?_
          refine R.list ?_
          refine S.val hf hs (v := .int .i64 ((k2 + 1 : Nat) : Int)) rfl rfl rfl (V.incr rfl rfl rfl hltk2 hlenk2) (fun a hf => ?_)
          refine S.val hf hs (v := .int .i64 ((k2 + 1 : Nat) : Int)) rfl rfl rfl (V.pure rfl) (fun a hf => ?_)
          refine R.nil ?_
          refine X.then_ ?_
          replace hs := hs.front 1 rfl
          replace hs := hs.front 1 rfl
          replace hs := hs.take 2
          exact ⟨xk2, llk2, rfl, k2 + 1, z2.buf, z2_bufA, z2_bufC, z2.addr, range_drop hlk2, range_len hkk2, (by rw [hnext2] at h; exact h), ((((hf.nil.cons (hf.get 49 _ rfl)).cons (hf.get 48 _ rfl)).cons (hf.get 7 _ rfl)).cons (hf.get 50 _ rfl)), hs⟩
    | cons xk1 llk1 =>
      have hltk1 := range_lt hkk1; have hc := range_go hkk1; have hxk1 := range_get hlk1
      obtain ⟨next1, hnext1⟩ : ∃ X : List UInt8 → Bool → Prop, X = (fun l2 b2 => forIn' (fun k x (s : List UInt8 × Bool) next => M_stack_Text_L1 k x s.1 s.2 (fun l2 b2 => next (l2, b2))) (fun (s : List UInt8 × Bool) => (fun (l2 : List UInt8) (b2 : Bool) => forIn' (fun k x (s : List UInt8 × Bool) next => M_stack_Text_L2 k x s.1 s.2 (fun l4 b4 => next (l4, b4))) (fun (s : List UInt8 × Bool) => (fun (l4 : List UInt8) (b4 : Bool) => M_bld_Len (⟨b4, l4⟩ : StringsBuilder) fun y2 => cnd (decide (y2 > 50000)) (Q [] 2) (Q l4 0)) s.1 s.2) s_ 0 (l2, b2)) s.1 s.2) llk1 (k1 + 1) (l2, b2)) := ⟨_, rfl⟩
      replace h : M_stack_Text_L1 k1 xk1 l2 b2 next1 := by rw [hnext1]; exact h
      unfold M_stack_Text_L1 at h
      refine wp_seq ?_
      refine R.list ?_
      refine S.val hf hs (v := .bool true) rfl rfl rfl (V.cmp true rfl rfl rfl rfl hc) (fun a hf => ?_)
      refine R.nil ?_
      refine X.then_ ?_
      refine wp_seq ?_
      refine C.yes hf rfl ?_
      refine wp_skip ?_
      refine X.then_ ?_
      refine wp_seq ?_
      refine wp_block ?_
      refine wp_seq ?_
      refine R.list ?_
      refine S.val hf hs (v := elemPtr mA (k1 * 4)) rfl rfl rfl (V.index rfl rfl rfl Tryz.runUnderlying22 Tryz.sizeOf29 (hv_m.some_ (lt_of_get hxk1)) (Int.natCast_nonneg _) (lt_of_get hxk1) rfl) (fun a hf => ?_)
      refine S.val hf hs (v := .agg #[.string (ba xk1.Name), .int .i64 xk1.Kind, .int .i64 xk1.Thick, .int .i64 xk1.Grow]) rfl rfl rfl (V.loadEl (off := 0) (Ag.args _ _ _) (hv_m.flat hxk1) rfl rfl rfl Tryz.isAgg29 Tryz.sizeOf29 rfl rfl) (fun a hf => ?_)
      refine S.alloc hf hs rfl rfl rfl [.string (ba []), .int .i64 0, .int .i64 0, .int .i64 0] rfl Tryz.zeroValue29 rfl (fun g4 a w hf hs => ?_)
      refine S.storeBox 0 hf hs rfl rfl [.string (ba xk1.Name), .int .i64 xk1.Kind, .int .i64 xk1.Thick, .int .i64 xk1.Grow] [.string (ba xk1.Name), .int .i64 xk1.Kind, .int .i64 xk1.Thick, .int .i64 xk1.Grow] rfl rfl rfl rfl rfl Tryz.sizeOf29 rfl rfl rfl rfl (fun a w hf hs => ?_)
      refine R.nil ?_
      refine X.then_ ?_
      refine H.start (S := Sat w0 none_ [hbox g4 29 [.string (ba xk1.Name), .int .i64 xk1.Kind, .int .i64 xk1.Thick, .int .i64 xk1.Grow], hbox g2 102 [.string (ba []), .string (ba [99, 111, 112, 112, 101, 114]), .string (ba [99, 111, 114, 101]), .string (ba [103, 108, 117, 101])]]) mo ?_
      replace hs := hs.drew
      refine H.val hf (hs.mask [true, false, false, true]) (v := .pointer (some ⟨g4, 0, none⟩)) (i := 0) rfl rfl rfl rfl (by kernel_rfl) (by kernel_rfl) (by kernel_rfl) (V.fieldBox rfl rfl Tryz.runUnderlying29 rfl Tryz.sizeOf9 rfl rfl) (fun a hf => ?_)
      refine H.val hf (hs.mask [true, false, false, true]) (v := .string (ba xk1.Name)) (i := 1) rfl rfl rfl rfl (by kernel_rfl) (by kernel_rfl) (by kernel_rfl) (V.loadBox 0 rfl rfl rfl Tryz.isAgg9 Tryz.sizeOf9 rfl rfl) (fun a hf => ?_)
      obtain ⟨hcat, h⟩ := h
      refine H.val hf (hs.mask [true, false, false, true]) (v := .string (ba ([109, 97, 116, 101, 114, 105, 97, 108, 32] ++ xk1.Name))) (i := 2) rfl rfl rfl rfl (by kernel_rfl) (by kernel_rfl) (by kernel_rfl) (V.strAdd rfl rfl rfl hcat) (fun a hf => ?_)
      obtain ⟨hcat, h⟩ := h
      refine H.val hf (hs.mask [true, false, false, true]) (v := .string (ba (([109, 97, 116, 101, 114, 105, 97, 108, 32] ++ xk1.Name) ++ [32]))) (i := 3) rfl rfl rfl rfl (by kernel_rfl) (by kernel_rfl) (by kernel_rfl) (V.strAdd rfl rfl rfl hcat) (fun a hf => ?_)
      refine H.val hf (hs.mask [true, false, false, true]) (v := .pointer (some ⟨g4, 1, none⟩)) (i := 4) rfl rfl rfl rfl (by kernel_rfl) (by kernel_rfl) (by kernel_rfl) (V.fieldBox rfl rfl Tryz.runUnderlying29 rfl Tryz.sizeOf3 rfl rfl) (fun a hf => ?_)
      refine H.val hf (hs.mask [true, false, false, true]) (v := .int .i64 xk1.Kind) (i := 5) rfl rfl rfl rfl (by kernel_rfl) (by kernel_rfl) (by kernel_rfl) (V.loadBox 0 rfl rfl rfl Tryz.isAgg3 Tryz.sizeOf3 rfl rfl) (fun a hf => ?_)
      obtain ⟨h0x1, x1, hx1, h⟩ := h
      refine H.val hf (hs.mask [true, false, false, true]) (v := .pointer (some ⟨g2, (xk1.Kind : Int).toNat, none⟩)) (i := 6) rfl rfl rfl rfl (by kernel_rfl) (by kernel_rfl) (by kernel_rfl) (V.indexArr rfl rfl rfl Tryz.runUnderlying102 Tryz.sizeOf9 h0x1 (lt_of_get hx1)) (fun a hf => ?_)
      refine H.val hf (hs.mask [true, false, false, true]) (v := .string (ba x1)) (i := 7) rfl rfl rfl rfl (by kernel_rfl) (by kernel_rfl) (by kernel_rfl) (V.loadArr 1 (xs := ([[], [99, 111, 112, 112, 101, 114], [99, 111, 114, 101], [103, 108, 117, 101]] : List Str)) rfl rfl hx1 rfl rfl Tryz.isAgg9 Tryz.sizeOf9) (fun a hf => ?_)
      obtain ⟨hcat, h⟩ := h
      refine H.val hf (hs.mask [true, false, false, true]) (v := .string (ba ((([109, 97, 116, 101, 114, 105, 97, 108, 32] ++ xk1.Name) ++ [32]) ++ x1))) (i := 8) rfl rfl rfl rfl (by kernel_rfl) (by kernel_rfl) (by kernel_rfl) (V.strAdd rfl rfl rfl hcat) (fun a hf => ?_)
      obtain ⟨hcat, h⟩ := h
      refine H.val hf (hs.mask [true, false, false, true]) (v := .string (ba (((([109, 97, 116, 101, 114, 105, 97, 108, 32] ++ xk1.Name) ++ [32]) ++ x1) ++ [32]))) (i := 9) rfl rfl rfl rfl (by kernel_rfl) (by kernel_rfl) (by kernel_rfl) (V.strAdd rfl rfl rfl hcat) (fun a hf => ?_)
      refine H.val hf (hs.mask [true, false, false, true]) (v := .pointer (some ⟨g4, 2, none⟩)) (i := 10) rfl rfl rfl rfl (by kernel_rfl) (by kernel_rfl) (by kernel_rfl) (V.fieldBox rfl rfl Tryz.runUnderlying29 rfl Tryz.sizeOf3 rfl rfl) (fun a hf => ?_)
      refine H.val hf (hs.mask [true, false, false, true]) (v := .int .i64 xk1.Thick) (i := 11) rfl rfl rfl rfl (by kernel_rfl) (by kernel_rfl) (by kernel_rfl) (V.loadBox 0 rfl rfl rfl Tryz.isAgg3 Tryz.sizeOf3 rfl rfl) (fun a hf => ?_)
      refine H.val hf (hs.mask [true, false, false, true]) (v := .pointer (some ⟨g4, 3, none⟩)) (i := 15) rfl rfl rfl rfl (by kernel_rfl) (by kernel_rfl) (by kernel_rfl) (V.fieldBox rfl rfl Tryz.runUnderlying29 rfl Tryz.sizeOf3 rfl rfl) (fun a hf => ?_)
      refine H.val hf (hs.mask [true, false, false, true]) (v := .int .i64 xk1.Grow) (i := 16) rfl rfl rfl rfl (by kernel_rfl) (by kernel_rfl) (by kernel_rfl) (V.loadBox 0 rfl rfl rfl Tryz.isAgg3 Tryz.sizeOf3 rfl rfl) (fun a hf => ?_)
      refine H.one (i := 12) rfl (by kernel_rfl) ?_
      obtain ⟨hp, h⟩ := h
      refine S.callv hf rfl rfl rfl (call_fn (vs := [.int .i64 xk1.Thick]) rfl rfl rfl Tryz.call55) (C_strconv_Itoa xk1.Thick _ (hT.arg hs) hp) (fun a w hf hs' => ?_)
      replace hs := hs.call hs'; clear hs'
      refine R.nil ?_
      refine X.then_ ?_
      refine ⟨(hs.mask [true, false, false, true]), ?_⟩
      obtain ⟨hcat, h⟩ := h
      refine H.val hf (hs.mask [true, false, false, true]) (v := .string (ba ((((([109, 97, 116, 101, 114, 105, 97, 108, 32] ++ xk1.Name) ++ [32]) ++ x1) ++ [32]) ++ (itoaS xk1.Thick)))) (i := 13) rfl rfl rfl rfl (by kernel_rfl) (by kernel_rfl) (by kernel_rfl) (V.strAdd rfl rfl rfl hcat) (fun a hf => ?_)
      obtain ⟨hcat, h⟩ := h
      refine H.val hf (hs.mask [true, false, false, true]) (v := .string (ba (((((([109, 97, 116, 101, 114, 105, 97, 108, 32] ++ xk1.Name) ++ [32]) ++ x1) ++ [32]) ++ (itoaS xk1.Thick)) ++ [32]))) (i := 14) rfl rfl rfl rfl (by kernel_rfl) (by kernel_rfl) (by kernel_rfl) (V.strAdd rfl rfl rfl hcat) (fun a hf => ?_)
      refine H.one (i := 17) rfl (by kernel_rfl) ?_
      obtain ⟨hp, h⟩ := h
      refine S.callv hf rfl rfl rfl (call_fn (vs := [.int .i64 xk1.Grow]) rfl rfl rfl Tryz.call55) (C_strconv_Itoa xk1.Grow _ (hT.arg hs) hp) (fun a w hf hs' => ?_)
      replace hs := hs.call hs'; clear hs'
      refine R.nil ?_
      refine X.then_ ?_
      refine ⟨(hs.mask [true, false, false, true]), ?_⟩
      obtain ⟨hcat, h⟩ := h
      refine H.val hf (hs.mask [true, false, false, true]) (v := .string (ba ((((((([109, 97, 116, 101, 114, 105, 97, 108, 32] ++ xk1.Name) ++ [32]) ++ x1) ++ [32]) ++ (itoaS xk1.Thick)) ++ [32]) ++ (itoaS xk1.Grow)))) (i := 18) rfl rfl rfl rfl (by kernel_rfl) (by kernel_rfl) (by kernel_rfl) (V.strAdd rfl rfl rfl hcat) (fun a hf => ?_)
      obtain ⟨hcat, h⟩ := h
      refine H.val hf (hs.mask [true, false, false, true]) (v := .string (ba (((((((([109, 97, 116, 101, 114, 105, 97, 108, 32] ++ xk1.Name) ++ [32]) ++ x1) ++ [32]) ++ (itoaS xk1.Thick)) ++ [32]) ++ (itoaS xk1.Grow)) ++ [10]))) (i := 19) rfl rfl rfl rfl (by kernel_rfl) (by kernel_rfl) (by kernel_rfl) (V.strAdd rfl rfl rfl hcat) (fun a hf => ?_)
      refine H.one (i := 20) rfl (by kernel_rfl) ?_
      replace hs := hs.front 2 rfl
      replace hs := hs.front 2 rfl
      obtain ⟨F1, hsF, hback, hold, hrest⟩ := Sat.callOwns [hbox g1 101 [.pointer (selfp b2 g1), .slice l2A l2.length l2C], hown 5 l2A l2C l2] (σ := [hbox g4 29 [.string (ba xk1.Name), .int .i64 xk1.Kind, .int .i64 xk1.Thick, .int .i64 xk1.Grow], hbox g2 102 [.string (ba []), .string (ba [99, 111, 112, 112, 101, 114]), .string (ba [99, 111, 114, 101]), .string (ba [103, 108, 117, 101])]]) hs
      refine S.call hf rfl rfl rfl (call_fn (vs := [.pointer (some ⟨g1, 0, none⟩), .string (ba (((((((([109, 97, 116, 101, 114, 105, 97, 108, 32] ++ xk1.Name) ++ [32]) ++ x1) ++ [32]) ++ (itoaS xk1.Thick)) ++ [32]) ++ (itoaS xk1.Grow)) ++ [10]))]) rfl rfl rfl Tryz.call54) (R_bld_WriteString (⟨b2, l2⟩ : StringsBuilder) (((((((([109, 97, 116, 101, 114, 105, 97, 108, 32] ++ xk1.Name) ++ [32]) ++ x1) ++ [32]) ++ (itoaS xk1.Thick)) ++ [32]) ++ (itoaS xk1.Grow)) ++ [10]) _ _ g1 l2A l2C hsF _ h) (fun v a w' hf hr => ?_)
      obtain ⟨y7, y8, z3, z3_bufA, z3_bufC, rfl, h2, hs2⟩ := hr
      replace h := h2; replace hs := hback _ _ hs2; clear h2 hs2 hback hold hrest hsF
      refine R.nil ?_
      refine X.then_ ?_
      refine ⟨(hs.mask [false, false, true, true]), ?_⟩
      refine H.done (by kernel_rfl) ?_
      refine X.blk ?_
      refine X.then_ ?_
      refine R.list ?_
      refine S.val hf hs (v := .int .i64 ((k1 + 1 : Nat) : Int)) rfl rfl rfl (V.incr rfl rfl rfl hltk1 hlenk1) (fun a hf => ?_)
      refine S.val hf hs (v := .int .i64 ((k1 + 1 : Nat) : Int)) rfl rfl rfl (V.pure rfl) (fun a hf => ?_)
      refine R.nil ?_
      refine X.then_ ?_
      replace hs := hs.front 3 rfl
      replace hs := hs.front 2 rfl
      replace hs := hs.front 2 rfl
      replace hs := hs.take 3
      exact ⟨xk1, llk1, rfl, k1 + 1, z3.buf, z3_bufA, z3_bufC, z3.addr, range_drop hlk1, range_len hkk1, (by rw [hnext1] at h; exact h), ((((((hf.nil.cons (hf.get 21 _ rfl)).cons (hf.get 20 _ rfl)).cons (hf.get 8 _ rfl)).cons (hf.get 7 _ rfl)).cons (hf.get 1 _ rfl)).cons (hf.get 22 _ rfl)), hs⟩

set_option linter.unusedVariables false
def M_ref4_Text_L2  (k2 : Nat) (xk2 : Layer) (s4 : Str) (next2 : Str → Prop) : Prop :=
  cnd (xk2.Name == []) (must ([108, 97, 121, 101, 114, 32].length + xk2.Material.length ≤ 9223372036854775807) (must (([108, 97, 121, 101, 114, 32] ++ xk2.Material).length + [10].length ≤ 9223372036854775807) (must (s4.length + (([108, 97, 121, 101, 114, 32] ++ xk2.Material) ++ [10]).length ≤ 9223372036854775807) (next2 (s4 ++ (([108, 97, 121, 101, 114, 32] ++ xk2.Material) ++ [10])))))) (must ([99, 111, 112, 112, 101, 114, 32].length + xk2.Name.length ≤ 9223372036854775807) (must (([99, 111, 112, 112, 101, 114, 32] ++ xk2.Name).length + [32].length ≤ 9223372036854775807) (must ((([99, 111, 112, 112, 101, 114, 32] ++ xk2.Name) ++ [32]).length + xk2.Material.length ≤ 9223372036854775807) (must (((([99, 111, 112, 112, 101, 114, 32] ++ xk2.Name) ++ [32]) ++ xk2.Material).length + [10].length ≤ 9223372036854775807) (must (s4.length + (((([99, 111, 112, 112, 101, 114, 32] ++ xk2.Name) ++ [32]) ++ xk2.Material) ++ [10]).length ≤ 9223372036854775807) (next2 (s4 ++ (((([99, 111, 112, 112, 101, 114, 32] ++ xk2.Name) ++ [32]) ++ xk2.Material) ++ [10]))))))))
def M_ref4_Text_L1  (k1 : Nat) (xk1 : Material) (s2 : Str) (next1 : Str → Prop) : Prop :=
  must ([109, 97, 116, 101, 114, 105, 97, 108, 32].length + xk1.Name.length ≤ 9223372036854775807) (must (([109, 97, 116, 101, 114, 105, 97, 108, 32] ++ xk1.Name).length + [32].length ≤ 9223372036854775807) (M_strings_Split [99, 111, 112, 112, 101, 114, 32, 99, 111, 114, 101, 32, 103, 108, 117, 101] [32] fun y2 => idx y2 (w64 (xk1.Kind - 1)) fun x1 => ((must ((([109, 97, 116, 101, 114, 105, 97, 108, 32] ++ xk1.Name) ++ [32]).length + x1.length ≤ 9223372036854775807) (must (((([109, 97, 116, 101, 114, 105, 97, 108, 32] ++ xk1.Name) ++ [32]) ++ x1).length + [32].length ≤ 9223372036854775807) (must (isI64 xk1.Thick) (must ((((([109, 97, 116, 101, 114, 105, 97, 108, 32] ++ xk1.Name) ++ [32]) ++ x1) ++ [32]).length + (itoaS xk1.Thick).length ≤ 9223372036854775807) (must (((((([109, 97, 116, 101, 114, 105, 97, 108, 32] ++ xk1.Name) ++ [32]) ++ x1) ++ [32]) ++ (itoaS xk1.Thick)).length + [32].length ≤ 9223372036854775807) (must (isI64 xk1.Grow) (must ((((((([109, 97, 116, 101, 114, 105, 97, 108, 32] ++ xk1.Name) ++ [32]) ++ x1) ++ [32]) ++ (itoaS xk1.Thick)) ++ [32]).length + (itoaS xk1.Grow).length ≤ 9223372036854775807) (must (((((((([109, 97, 116, 101, 114, 105, 97, 108, 32] ++ xk1.Name) ++ [32]) ++ x1) ++ [32]) ++ (itoaS xk1.Thick)) ++ [32]) ++ (itoaS xk1.Grow)).length + [10].length ≤ 9223372036854775807) (must (s2.length + (((((((([109, 97, 116, 101, 114, 105, 97, 108, 32] ++ xk1.Name) ++ [32]) ++ x1) ++ [32]) ++ (itoaS xk1.Thick)) ++ [32]) ++ (itoaS xk1.Grow)) ++ [10]).length ≤ 9223372036854775807) (next1 (s2 ++ (((((((([109, 97, 116, 101, 114, 105, 97, 108, 32] ++ xk1.Name) ++ [32]) ++ x1) ++ [32]) ++ (itoaS xk1.Thick)) ++ [32]) ++ (itoaS xk1.Grow)) ++ [10])))))))))))) ∧ (must (isI64 xk1.Thick) (((must ((([109, 97, 116, 101, 114, 105, 97, 108, 32] ++ xk1.Name) ++ [32]).length + x1.length ≤ 9223372036854775807) (must (((([109, 97, 116, 101, 114, 105, 97, 108, 32] ++ xk1.Name) ++ [32]) ++ x1).length + [32].length ≤ 9223372036854775807) (must ((((([109, 97, 116, 101, 114, 105, 97, 108, 32] ++ xk1.Name) ++ [32]) ++ x1) ++ [32]).length + (itoaS xk1.Thick).length ≤ 9223372036854775807) (must (((((([109, 97, 116, 101, 114, 105, 97, 108, 32] ++ xk1.Name) ++ [32]) ++ x1) ++ [32]) ++ (itoaS xk1.Thick)).length + [32].length ≤ 9223372036854775807) (must (isI64 xk1.Grow) (must ((((((([109, 97, 116, 101, 114, 105, 97, 108, 32] ++ xk1.Name) ++ [32]) ++ x1) ++ [32]) ++ (itoaS xk1.Thick)) ++ [32]).length + (itoaS xk1.Grow).length ≤ 9223372036854775807) (must (((((((([109, 97, 116, 101, 114, 105, 97, 108, 32] ++ xk1.Name) ++ [32]) ++ x1) ++ [32]) ++ (itoaS xk1.Thick)) ++ [32]) ++ (itoaS xk1.Grow)).length + [10].length ≤ 9223372036854775807) (must (s2.length + (((((((([109, 97, 116, 101, 114, 105, 97, 108, 32] ++ xk1.Name) ++ [32]) ++ x1) ++ [32]) ++ (itoaS xk1.Thick)) ++ [32]) ++ (itoaS xk1.Grow)) ++ [10]).length ≤ 9223372036854775807) (next1 (s2 ++ (((((((([109, 97, 116, 101, 114, 105, 97, 108, 32] ++ xk1.Name) ++ [32]) ++ x1) ++ [32]) ++ (itoaS xk1.Thick)) ++ [32]) ++ (itoaS xk1.Grow)) ++ [10]))))))))))) ∧ (must (isI64 xk1.Grow) (must ((([109, 97, 116, 101, 114, 105, 97, 108, 32] ++ xk1.Name) ++ [32]).length + x1.length ≤ 9223372036854775807) (must (((([109, 97, 116, 101, 114, 105, 97, 108, 32] ++ xk1.Name) ++ [32]) ++ x1).length + [32].length ≤ 9223372036854775807) (must ((((([109, 97, 116, 101, 114, 105, 97, 108, 32] ++ xk1.Name) ++ [32]) ++ x1) ++ [32]).length + (itoaS xk1.Thick).length ≤ 9223372036854775807) (must (((((([109, 97, 116, 101, 114, 105, 97, 108, 32] ++ xk1.Name) ++ [32]) ++ x1) ++ [32]) ++ (itoaS xk1.Thick)).length + [32].length ≤ 9223372036854775807) (must ((((((([109, 97, 116, 101, 114, 105, 97, 108, 32] ++ xk1.Name) ++ [32]) ++ x1) ++ [32]) ++ (itoaS xk1.Thick)) ++ [32]).length + (itoaS xk1.Grow).length ≤ 9223372036854775807) (must (((((((([109, 97, 116, 101, 114, 105, 97, 108, 32] ++ xk1.Name) ++ [32]) ++ x1) ++ [32]) ++ (itoaS xk1.Thick)) ++ [32]) ++ (itoaS xk1.Grow)).length + [10].length ≤ 9223372036854775807) (must (s2.length + (((((((([109, 97, 116, 101, 114, 105, 97, 108, 32] ++ xk1.Name) ++ [32]) ++ x1) ++ [32]) ++ (itoaS xk1.Thick)) ++ [32]) ++ (itoaS xk1.Grow)) ++ [10]).length ≤ 9223372036854775807) (next1 (s2 ++ (((((((([109, 97, 116, 101, 114, 105, 97, 108, 32] ++ xk1.Name) ++ [32]) ++ x1) ++ [32]) ++ (itoaS xk1.Thick)) ++ [32]) ++ (itoaS xk1.Grow)) ++ [10])))))))))))))))))
def M_ref4_Text (m : (List Material)) (s_ : (List Layer)) (Q : Str → Int → Prop) : Prop :=
  M_ref4_CheckStack m s_ fun y1 => cnd (y1 != 0) (Q [] y1) (forIn' (fun k x (s : Str) next => M_ref4_Text_L1 k x s (fun s2 => next s2)) (fun (s : Str) => (fun (s2 : Str) => forIn' (fun k x (s : Str) next => M_ref4_Text_L2 k x s (fun s4 => next s4)) (fun (s : Str) => (fun (s4 : Str) => cnd (decide ((s4.length : Int) > 50000)) (Q [] 2) (Q s4 0)) s) s_ 0 s2) s) m 0 [])
set_option maxHeartbeats 1000000 in
theorem R_ref4_Text (m : (List Material)) (s_ : (List Layer)) (w0 : World) (mA : Option Addr) (mC : Nat) (hv_m : View w0 (old w0 none_) mA mC m) (s_A : Option Addr) (s_C : Nat) (hv_s_ : View w0 (old w0 none_) s_A s_C s_) (hT : TabIn Tryz.prog w0 (old w0 none_)) (Q : Str → Int → Prop) (h : M_ref4_Text m s_ Q) :
    Ret Tryz.prog 22 #[.slice mA m.length mC, .slice s_A s_.length s_C] w0 fun v w' => ∃ (r0 : Str) (r1 : Int), v = .tuple #[.string (ba r0), .int .i64 r1] ∧ Q r0 r1 ∧ Sat w0 none_ [] w' := by
  refine fn_enter Tryz.func22 rfl Tryz.ntmps22 rfl (fs := [(0, .slice mA m.length mC), (1, .slice s_A s_.length s_C)]) rfl (fun a hf => ?_)
  have hs := Sat.start w0 none_
  unfold M_ref4_Text at h
  refine wp_seq ?_
  refine R.list ?_
  refine S.val hf hs (v := .string (ba [])) rfl rfl rfl (V.pure rfl) (fun a hf => ?_)
  refine S.val hf hs (v := .int .i64 0) rfl rfl rfl (V.pure rfl) (fun a hf => ?_)
  refine R.nil ?_
  refine X.then_ ?_
  refine wp_seq ?_
  refine wp_seq ?_
  refine R.list ?_
  refine S.val hf hs (v := .slice mA m.length mC) rfl rfl rfl (V.pure rfl) (fun a hf => ?_)
  refine S.val hf hs (v := .slice s_A s_.length s_C) rfl rfl rfl (V.pure rfl) (fun a hf => ?_)
  refine S.call hf rfl rfl rfl (call_fn (vs := [.slice mA m.length mC, .slice s_A s_.length s_C]) rfl rfl rfl Tryz.call44) (R_ref4_CheckStack m s_ _ mA mC ((Ag.args _ _ _).view hv_m hs) s_A s_C ((Ag.args _ _ _).view hv_s_ hs) _ h) (fun v a w' hf hr => ?_)
  obtain ⟨y1, rfl, h2, hs2⟩ := hr
  replace h := h2; replace hs := hs.call hs2; clear h2 hs2
  refine S.val hf hs (v := .int .i64 y1) rfl rfl rfl (V.pure rfl) (fun a hf => ?_)
  refine R.nil ?_
  refine X.then_ ?_
  refine wp_seq ?_
  refine R.list ?_
  refine S.val hf hs (v := .int .i64 y1) rfl rfl rfl (V.pure rfl) (fun a hf => ?_)
  refine S.val hf hs (v := .bool (y1 != 0)) rfl rfl rfl (V.pure rfl) (fun a hf => ?_)
  refine R.nil ?_
  refine X.then_ ?_
  refine C.cond hf (b := y1 != 0) rfl (fun hc => ?_) (fun hc => ?_)
  · replace h := h.1 hc
    refine wp_seq ?_
    refine R.list ?_
    refine S.val hf hs (v := .int .i64 y1) rfl rfl rfl (V.pure rfl) (fun a hf => ?_)
    refine S.val hf hs (v := .string (ba [])) rfl rfl rfl (V.pure rfl) (fun a hf => ?_)
    refine S.val hf hs (v := .int .i64 y1) rfl rfl rfl (V.pure rfl) (fun a hf => ?_)
    refine R.nil ?_
    refine X.then_ ?_
    refine wp_ret ?_
    refine X.then_ret ?_
    exact L.ret hf (run_results2 Tryz.results22 (ResIs.tmp hf rfl) (ResIs.tmp hf rfl)) ⟨[], y1, rfl, h, hs.nil⟩
  · replace h := h.2 hc
    refine wp_skip ?_
    refine X.then_ ?_
    refine wp_seq ?_
    refine R.list ?_
    refine S.val hf hs (v := .string (ba [])) rfl rfl rfl (V.pure rfl) (fun a hf => ?_)
    refine R.nil ?_
    refine X.then_ ?_
    refine wp_seq ?_
    refine wp_seq ?_
    refine R.list ?_
    refine S.val hf hs (v := .slice mA m.length mC) rfl rfl rfl (V.pure rfl) (fun a hf => ?_)
    refine S.val hf hs (v := .int .i64 (m.length : Int)) rfl rfl rfl (V.len rfl rfl Tryz.runUnderlying22) (fun a hf => ?_)
    refine S.val hf hs (v := .int .i64 0) rfl rfl rfl (V.pure rfl) (fun a hf => ?_)
    refine R.nil ?_
    refine X.then_ ?_
    refine wp_block ?_
    have hlenk1 := hv_m.len64
    refine C.range (fun (ll : List Material) a w => ∃ (k1 : Nat) (s2 : Str), m.drop k1 = ll ∧ k1 + ll.length = m.length ∧ forIn' (fun k x (s : Str) next => M_ref4_Text_L1 k x s (fun s2 => next s2)) (fun (s : Str) => (fun (s2 : Str) => forIn' (fun k x (s : Str) next => M_ref4_Text_L2 k x s (fun s4 => next s4)) (fun (s : Str) => (fun (s4 : Str) => cnd (decide ((s4.length : Int) > 50000)) (Q [] 2) (Q s4 0)) s) s_ 0 s2) s) ll k1 s2 ∧ FrOk 79 [(20, .int .i64 (k1 : Int)), (1, .slice s_A s_.length s_C), (7, .string (ba s2)), (18, .slice mA m.length mC), (19, .int .i64 (m.length : Int))] a ∧ Sat w0 none_ [] w) m ⟨0, [], rfl, Nat.zero_add _, h, (((((hf.nil.cons (hf.get 19 _ rfl)).cons (hf.get 18 _ rfl)).cons (hf.get 7 _ rfl)).cons (hf.get 1 _ rfl)).cons (hf.get 20 _ rfl)), hs⟩ ?_
    clear h hf hs
    rintro llk1 a w ⟨k1, s2, hlk1, hkk1, h, hf, hs⟩
    cases llk1 with
    | nil =>
      have hc := range_done hkk1
      replace h : (fun (s2 : Str) => forIn' (fun k x (s : Str) next => M_ref4_Text_L2 k x s (fun s4 => next s4)) (fun (s : Str) => (fun (s4 : Str) => cnd (decide ((s4.length : Int) > 50000)) (Q [] 2) (Q s4 0)) s) s_ 0 s2) s2 := h
      refine wp_seq ?_
      refine R.list ?_
      refine S.val hf hs (v := .bool false) rfl rfl rfl (V.cmp false rfl rfl rfl rfl hc) (fun a hf => ?_)
      refine R.nil ?_
      refine X.then_ ?_
      refine wp_seq ?_
      refine C.no hf rfl ?_
      refine wp_exit ?_
      refine X.then_exit ?_
      refine X.then_exit ?_
      refine X.blk_exit ?_
      refine X.then_ ?_
      refine wp_seq ?_
      refine wp_seq ?_
      refine R.list ?_
      refine S.val hf hs (v := .slice s_A s_.length s_C) rfl rfl rfl (V.pure rfl) (fun a hf => ?_)
      refine S.val hf hs (v := .int .i64 (s_.length : Int)) rfl rfl rfl (V.len rfl rfl Tryz.runUnderlying23) (fun a hf => ?_)
      refine S.val hf hs (v := .int .i64 0) rfl rfl rfl (V.pure rfl) (fun a hf => ?_)
      refine R.nil ?_
      refine X.then_ ?_
      refine wp_block ?_
      have hlenk2 := hv_s_.len64
      refine C.range (fun (ll : List Layer) a w => ∃ (k2 : Nat) (s4 : Str), s_.drop k2 = ll ∧ k2 + ll.length = s_.length ∧ forIn' (fun k x (s : Str) next => M_ref4_Text_L2 k x s (fun s4 => next s4)) (fun (s : Str) => (fun (s4 : Str) => cnd (decide ((s4.length : Int) > 50000)) (Q [] 2) (Q s4 0)) s) ll k2 s4 ∧ FrOk 79 [(51, .int .i64 (k2 : Int)), (7, .string (ba s4)), (49, .slice s_A s_.length s_C), (50, .int .i64 (s_.length : Int))] a ∧ Sat w0 none_ [] w) s_ ⟨0, s2, rfl, Nat.zero_add _, h, ((((hf.nil.cons (hf.get 50 _ rfl)).cons (hf.get 49 _ rfl)).cons (hf.get 7 _ rfl)).cons (hf.get 51 _ rfl)), hs⟩ ?_
      clear h hf hs
      rintro llk2 a w ⟨k2, s4, hlk2, hkk2, h, hf, hs⟩
      cases llk2 with
      | nil =>
        have hc := range_done hkk2
        replace h : (fun (s4 : Str) => cnd (decide ((s4.length : Int) > 50000)) (Q [] 2) (Q s4 0)) s4 := h
        refine wp_seq ?_
        refine R.list ?_
        refine S.val hf hs (v := .bool false) rfl rfl rfl (V.cmp false rfl rfl rfl rfl hc) (fun a hf => ?_)
        refine R.nil ?_
        refine X.then_ ?_
        refine wp_seq ?_
        refine C.no hf rfl ?_
        refine wp_exit ?_
        refine X.then_exit ?_
        refine X.then_exit ?_
        refine X.blk_exit ?_
        refine X.then_ ?_
        refine wp_seq ?_
        refine wp_seq ?_
        refine R.list ?_
        refine S.val hf hs (v := .string (ba s4)) rfl rfl rfl (V.pure rfl) (fun a hf => ?_)
        refine S.val hf hs (v := .int .i64 (s4.length : Int)) rfl rfl rfl (V.lenStr rfl rfl Tryz.runUnderlying9) (fun a hf => ?_)
        refine S.val hf hs (v := .bool (decide ((s4.length : Int) > 50000))) rfl rfl rfl (V.pure rfl) (fun a hf => ?_)
        refine R.nil ?_
        refine X.then_ ?_
        refine C.cond hf (b := decide ((s4.length : Int) > 50000)) rfl (fun hc => ?_) (fun hc => ?_)
        · replace h := h.1 hc
          refine wp_seq ?_
          refine R.list ?_
          refine S.val hf hs (v := .string (ba [])) rfl rfl rfl (V.pure rfl) (fun a hf => ?_)
          refine S.val hf hs (v := .int .i64 2) rfl rfl rfl (V.pure rfl) (fun a hf => ?_)
          refine R.nil ?_
          refine X.then_ ?_
          refine wp_ret ?_
          refine X.then_ret ?_
          exact L.ret hf (run_results2 Tryz.results22 (ResIs.tmp hf rfl) (ResIs.tmp hf rfl)) ⟨[], 2, rfl, h, hs.nil⟩
        · replace h := h.2 hc
          refine wp_skip ?_
          refine X.then_ ?_
          refine wp_seq ?_
          refine R.list ?_
          refine S.val hf hs (v := .string (ba s4)) rfl rfl rfl (V.pure rfl) (fun a hf => ?_)
          refine S.val hf hs (v := .string (ba s4)) rfl rfl rfl (V.pure rfl) (fun a hf => ?_)
          refine S.val hf hs (v := .int .i64 0) rfl rfl rfl (V.pure rfl) (fun a hf => ?_)
          refine R.nil ?_
          refine X.then_ ?_
          refine wp_ret ?_
          exact L.ret hf (run_results2 Tryz.results22 (ResIs.tmp hf rfl) (ResIs.tmp hf rfl)) ⟨s4, 0, rfl, h, hs.nil⟩
      | cons xk2 llk2 =>
        have hltk2 := range_lt hkk2; have hc := range_go hkk2; have hxk2 := range_get hlk2
        obtain ⟨next2, hnext2⟩ : ∃ X : Str → Prop, X = (fun s4 => forIn' (fun k x (s : Str) next => M_ref4_Text_L2 k x s (fun s4 => next s4)) (fun (s : Str) => (fun (s4 : Str) => cnd (decide ((s4.length : Int) > 50000)) (Q [] 2) (Q s4 0)) s) llk2 (k2 + 1) s4) := ⟨_, rfl⟩
        replace h : M_ref4_Text_L2 k2 xk2 s4 next2 := by rw [hnext2]; exact h
        unfold M_ref4_Text_L2 at h
        refine wp_seq ?_
        refine R.list ?_
        refine S.val hf hs (v := .bool true) rfl rfl rfl (V.cmp true rfl rfl rfl rfl hc) (fun a hf => ?_)
        refine R.nil ?_
        refine X.then_ ?_
        refine wp_seq ?_
        refine C.yes hf rfl ?_
        refine wp_skip ?_
        refine X.then_ ?_
        refine wp_seq ?_
        refine wp_block ?_
        refine wp_seq ?_
        refine R.list ?_
        refine S.val hf hs (v := elemPtr s_A (k2 * 2)) rfl rfl rfl (V.index rfl rfl rfl Tryz.runUnderlying23 Tryz.sizeOf32 (hv_s_.some_ (lt_of_get hxk2)) (Int.natCast_nonneg _) (lt_of_get hxk2) rfl) (fun a hf => ?_)
        refine S.val hf hs (v := .agg #[.string (ba xk2.Name), .string (ba xk2.Material)]) rfl rfl rfl (V.loadEl (off := 0) (Ag.args _ _ _) (hv_s_.flat hxk2) rfl rfl rfl Tryz.isAgg32 Tryz.sizeOf32 rfl rfl) (fun a hf => ?_)
        refine S.alloc hf hs rfl rfl rfl [.string (ba []), .string (ba [])] rfl Tryz.zeroValue32 rfl (fun g1 a w hf hs => ?_)
        refine S.storeBox 0 hf hs rfl rfl [.string (ba xk2.Name), .string (ba xk2.Material)] [.string (ba xk2.Name), .string (ba xk2.Material)] rfl rfl rfl rfl rfl Tryz.sizeOf32 rfl rfl rfl rfl (fun a w hf hs => ?_)
        refine R.nil ?_
        refine X.then_ ?_
        refine wp_seq ?_
        refine R.list ?_
        refine S.val hf hs (v := .pointer (some ⟨g1, 0, none⟩)) rfl rfl rfl (V.fieldBox rfl rfl Tryz.runUnderlying32 rfl Tryz.sizeOf9 rfl rfl) (fun a hf => ?_)
        refine S.val hf hs (v := .string (ba xk2.Name)) rfl rfl rfl (V.loadBox 0 rfl rfl rfl Tryz.isAgg9 Tryz.sizeOf9 rfl rfl) (fun a hf => ?_)
        refine S.val hf hs (v := .bool (xk2.Name == [])) rfl rfl rfl (V.strCmp (xk2.Name == []) rfl rfl rfl rfl) (fun a hf => ?_)
        refine R.nil ?_
        refine X.then_ ?_
        refine C.cond hf (b := xk2.Name == []) rfl (fun hc => ?_) (fun hc => ?_)
        · replace h := h.1 hc
          refine R.list ?_
          refine S.val hf hs (v := .string (ba s4)) rfl rfl rfl (V.pure rfl) (fun a hf => ?_)
          refine S.val hf hs (v := .pointer (some ⟨g1, 1, none⟩)) rfl rfl rfl (V.fieldBox rfl rfl Tryz.runUnderlying32 rfl Tryz.sizeOf9 rfl rfl) (fun a hf => ?_)
          refine S.val hf hs (v := .string (ba xk2.Material)) rfl rfl rfl (V.loadBox 0 rfl rfl rfl Tryz.isAgg9 Tryz.sizeOf9 rfl rfl) (fun a hf => ?_)
          obtain ⟨hcat, h⟩ := h
          refine S.val hf hs (v := .string (ba ([108, 97, 121, 101, 114, 32] ++ xk2.Material))) rfl rfl rfl (V.strAdd rfl rfl rfl hcat) (fun a hf => ?_)
          obtain ⟨hcat, h⟩ := h
          refine S.val hf hs (v := .string (ba (([108, 97, 121, 101, 114, 32] ++ xk2.Material) ++ [10]))) rfl rfl rfl (V.strAdd rfl rfl rfl hcat) (fun a hf => ?_)
          obtain ⟨hcat, h⟩ := h
          refine S.val hf hs (v := .string (ba (s4 ++ (([108, 97, 121, 101, 114, 32] ++ xk2.Material) ++ [10])))) rfl rfl rfl (V.strAdd rfl rfl rfl hcat) (fun a hf => ?_)
          refine S.val hf hs (v := .string (ba (s4 ++ (([108, 97, 121, 101, 114, 32] ++ xk2.Material) ++ [10])))) rfl rfl rfl (V.pure rfl) (fun a hf => ?_)
          refine R.nil ?_
          refine X.blk ?_
          refine X.then_ ?_
          refine R.list ?_
          refine S.val hf hs (v := .int .i64 ((k2 + 1 : Nat) : Int)) rfl rfl rfl (V.incr rfl rfl rfl hltk2 hlenk2) (fun a hf => ?_)
          refine S.val hf hs (v := .int .i64 ((k2 + 1 : Nat) : Int)) rfl rfl rfl (V.pure rfl) (fun a hf => ?_)
          refine R.nil ?_
          refine X.then_ ?_
          exact ⟨xk2, llk2, rfl, k2 + 1, (s4 ++ (([108, 97, 121, 101, 114, 32] ++ xk2.Material) ++ [10])), range_drop hlk2, range_len hkk2, (by rw [hnext2] at h; exact h), ((((hf.nil.cons (hf.get 50 _ rfl)).cons (hf.get 49 _ rfl)).cons (hf.get 7 _ rfl)).cons (hf.get 51 _ rfl)), hs.drop⟩
        · replace h := h.2 hc
          refine R.list ?_
          refine S.val hf hs (v := .string (ba s4)) rfl rfl rfl (V.pure rfl) (fun a hf => ?_)
          refine S.val hf hs (v := .pointer (some ⟨g1, 0, none⟩)) rfl rfl rfl (V.fieldBox rfl rfl Tryz.runUnderlying32 rfl Tryz.sizeOf9 rfl rfl) (fun a hf => ?_)
          refine S.val hf hs (v := .string (ba xk2.Name)) rfl rfl rfl (V.loadBox 0 rfl rfl rfl Tryz.isAgg9 Tryz.sizeOf9 rfl rfl) (fun a hf => ?_)
          obtain ⟨hcat, h⟩ := h
          refine S.val hf hs (v := .string (ba ([99, 111, 112, 112, 101, 114, 32] ++ xk2.Name))) rfl rfl rfl (V.strAdd rfl rfl rfl hcat) (fun a hf => ?_)
          obtain ⟨hcat, h⟩ := h
          refine S.val hf hs (v := .string (ba (([99, 111, 112, 112, 101, 114, 32] ++ xk2.Name) ++ [32]))) rfl rfl rfl (V.strAdd rfl rfl rfl hcat) (fun a hf => ?_)
          refine S.val hf hs (v := .pointer (some ⟨g1, 1, none⟩)) rfl rfl rfl (V.fieldBox rfl rfl Tryz.runUnderlying32 rfl Tryz.sizeOf9 rfl rfl) (fun a hf => ?_)
          refine S.val hf hs (v := .string (ba xk2.Material)) rfl rfl rfl (V.loadBox 0 rfl rfl rfl Tryz.isAgg9 Tryz.sizeOf9 rfl rfl) (fun a hf => ?_)
          obtain ⟨hcat, h⟩ := h
          refine S.val hf hs (v := .string (ba ((([99, 111, 112, 112, 101, 114, 32] ++ xk2.Name) ++ [32]) ++ xk2.Material))) rfl rfl rfl (V.strAdd rfl rfl rfl hcat) (fun a hf => ?_)
          obtain ⟨hcat, h⟩ := h
          refine S.val hf hs (v := .string (ba (((([99, 111, 112, 112, 101, 114, 32] ++ xk2.Name) ++ [32]) ++ xk2.Material) ++ [10]))) rfl rfl rfl (V.strAdd rfl rfl rfl hcat) (fun a hf => ?_)
          obtain ⟨hcat, h⟩ := h
          refine S.val hf hs (v := .string (ba (s4 ++ (((([99, 111, 112, 112, 101, 114, 32] ++ xk2.Name) ++ [32]) ++ xk2.Material) ++ [10])))) rfl rfl rfl (V.strAdd rfl rfl rfl hcat) (fun a hf => ?_)
          refine S.val hf hs (v := .string (ba (s4 ++ (((([99, 111, 112, 112, 101, 114, 32] ++ xk2.Name) ++ [32]) ++ xk2.Material) ++ [10])))) rfl rfl rfl (V.pure rfl) (fun a hf => ?_)
          refine R.nil ?_
          refine X.blk ?_
          refine X.then_ ?_
          refine R.list ?_
          refine S.val hf hs (v := .int .i64 ((k2 + 1 : Nat) : Int)) rfl rfl rfl (V.incr rfl rfl rfl hltk2 hlenk2) (fun a hf => ?_)
          refine S.val hf hs (v := .int .i64 ((k2 + 1 : Nat) : Int)) rfl rfl rfl (V.pure rfl) (fun a hf => ?_)
          refine R.nil ?_
          refine X.then_ ?_
          exact ⟨xk2, llk2, rfl, k2 + 1, (s4 ++ (((([99, 111, 112, 112, 101, 114, 32] ++ xk2.Name) ++ [32]) ++ xk2.Material) ++ [10])), range_drop hlk2, range_len hkk2, (by rw [hnext2] at h; exact h), ((((hf.nil.cons (hf.get 50 _ rfl)).cons (hf.get 49 _ rfl)).cons (hf.get 7 _ rfl)).cons (hf.get 51 _ rfl)), hs.drop⟩
    | cons xk1 llk1 =>
      have hltk1 := range_lt hkk1; have hc := range_go hkk1; have hxk1 := range_get hlk1
      obtain ⟨next1, hnext1⟩ : ∃ X : Str → Prop, X = (fun s2 => forIn' (fun k x (s : Str) next => M_ref4_Text_L1 k x s (fun s2 => next s2)) (fun (s : Str) => (fun (s2 : Str) => forIn' (fun k x (s : Str) next => M_ref4_Text_L2 k x s (fun s4 => next s4)) (fun (s : Str) => (fun (s4 : Str) => cnd (decide ((s4.length : Int) > 50000)) (Q [] 2) (Q s4 0)) s) s_ 0 s2) s) llk1 (k1 + 1) s2) := ⟨_, rfl⟩
      replace h : M_ref4_Text_L1 k1 xk1 s2 next1 := by rw [hnext1]; exact h
      unfold M_ref4_Text_L1 at h
      refine wp_seq ?_
      refine R.list ?_
      refine S.val hf hs (v := .bool true) rfl rfl rfl (V.cmp true rfl rfl rfl rfl hc) (fun a hf => ?_)
      refine R.nil ?_
      refine X.then_ ?_
      refine wp_seq ?_
      refine C.yes hf rfl ?_
      refine wp_skip ?_
      refine X.then_ ?_
      refine wp_seq ?_
      refine wp_block ?_
      refine wp_seq ?_
      refine R.list ?_
      refine S.val hf hs (v := elemPtr mA (k1 * 4)) rfl rfl rfl (V.index rfl rfl rfl Tryz.runUnderlying22 Tryz.sizeOf29 (hv_m.some_ (lt_of_get hxk1)) (Int.natCast_nonneg _) (lt_of_get hxk1) rfl) (fun a hf => ?_)
      refine S.val hf hs (v := .agg #[.string (ba xk1.Name), .int .i64 xk1.Kind, .int .i64 xk1.Thick, .int .i64 xk1.Grow]) rfl rfl rfl (V.loadEl (off := 0) (Ag.args _ _ _) (hv_m.flat hxk1) rfl rfl rfl Tryz.isAgg29 Tryz.sizeOf29 rfl rfl) (fun a hf => ?_)
      refine S.alloc hf hs rfl rfl rfl [.string (ba []), .int .i64 0, .int .i64 0, .int .i64 0] rfl Tryz.zeroValue29 rfl (fun g2 a w hf hs => ?_)
      refine S.storeBox 0 hf hs rfl rfl [.string (ba xk1.Name), .int .i64 xk1.Kind, .int .i64 xk1.Thick, .int .i64 xk1.Grow] [.string (ba xk1.Name), .int .i64 xk1.Kind, .int .i64 xk1.Thick, .int .i64 xk1.Grow] rfl rfl rfl rfl rfl Tryz.sizeOf29 rfl rfl rfl rfl (fun a w hf hs => ?_)
      refine R.nil ?_
      refine X.then_ ?_
      refine H.start (S := Sat w0 none_ [hbox g2 29 [.string (ba xk1.Name), .int .i64 xk1.Kind, .int .i64 xk1.Thick, .int .i64 xk1.Grow]]) mo ?_
      replace hs := hs.drew
      refine H.val hf hs (v := .string (ba s2)) (i := 0) rfl rfl rfl rfl (by kernel_rfl) (by kernel_rfl) (by kernel_rfl) (V.pure rfl) (fun a hf => ?_)
      refine H.val hf hs (v := .pointer (some ⟨g2, 0, none⟩)) (i := 1) rfl rfl rfl rfl (by kernel_rfl) (by kernel_rfl) (by kernel_rfl) (V.fieldBox rfl rfl Tryz.runUnderlying29 rfl Tryz.sizeOf9 rfl rfl) (fun a hf => ?_)
      refine H.val hf hs (v := .string (ba xk1.Name)) (i := 2) rfl rfl rfl rfl (by kernel_rfl) (by kernel_rfl) (by kernel_rfl) (V.loadBox 0 rfl rfl rfl Tryz.isAgg9 Tryz.sizeOf9 rfl rfl) (fun a hf => ?_)
      obtain ⟨hcat, h⟩ := h
      refine H.val hf hs (v := .string (ba ([109, 97, 116, 101, 114, 105, 97, 108, 32] ++ xk1.Name))) (i := 3) rfl rfl rfl rfl (by kernel_rfl) (by kernel_rfl) (by kernel_rfl) (V.strAdd rfl rfl rfl hcat) (fun a hf => ?_)
      obtain ⟨hcat, h⟩ := h
      refine H.val hf hs (v := .string (ba (([109, 97, 116, 101, 114, 105, 97, 108, 32] ++ xk1.Name) ++ [32]))) (i := 4) rfl rfl rfl rfl (by kernel_rfl) (by kernel_rfl) (by kernel_rfl) (V.strAdd rfl rfl rfl hcat) (fun a hf => ?_)
      refine H.val hf hs (v := .pointer (some ⟨g2, 1, none⟩)) (i := 6) rfl rfl rfl rfl (by kernel_rfl) (by kernel_rfl) (by kernel_rfl) (V.fieldBox rfl rfl Tryz.runUnderlying29 rfl Tryz.sizeOf3 rfl rfl) (fun a hf => ?_)
      refine H.val hf hs (v := .int .i64 xk1.Kind) (i := 7) rfl rfl rfl rfl (by kernel_rfl) (by kernel_rfl) (by kernel_rfl) (V.loadBox 0 rfl rfl rfl Tryz.isAgg3 Tryz.sizeOf3 rfl rfl) (fun a hf => ?_)
      refine H.val hf hs (v := .int .i64 (w64 (xk1.Kind - 1))) (i := 8) rfl rfl rfl rfl (by kernel_rfl) (by kernel_rfl) (by kernel_rfl) (V.pure rfl) (fun a hf => ?_)
      refine H.val hf hs (v := .pointer (some ⟨g2, 2, none⟩)) (i := 13) rfl rfl rfl rfl (by kernel_rfl) (by kernel_rfl) (by kernel_rfl) (V.fieldBox rfl rfl Tryz.runUnderlying29 rfl Tryz.sizeOf3 rfl rfl) (fun a hf => ?_)
      refine H.val hf hs (v := .int .i64 xk1.Thick) (i := 14) rfl rfl rfl rfl (by kernel_rfl) (by kernel_rfl) (by kernel_rfl) (V.loadBox 0 rfl rfl rfl Tryz.isAgg3 Tryz.sizeOf3 rfl rfl) (fun a hf => ?_)
      refine H.val hf hs (v := .pointer (some ⟨g2, 3, none⟩)) (i := 18) rfl rfl rfl rfl (by kernel_rfl) (by kernel_rfl) (by kernel_rfl) (V.fieldBox rfl rfl Tryz.runUnderlying29 rfl Tryz.sizeOf3 rfl rfl) (fun a hf => ?_)
      refine H.val hf hs (v := .int .i64 xk1.Grow) (i := 19) rfl rfl rfl rfl (by kernel_rfl) (by kernel_rfl) (by kernel_rfl) (V.loadBox 0 rfl rfl rfl Tryz.isAgg3 Tryz.sizeOf3 rfl rfl) (fun a hf => ?_)
      refine H.one (i := 5) rfl (by kernel_rfl) ?_
      refine S.call hf rfl rfl rfl (call_fn (vs := [.string (ba [99, 111, 112, 112, 101, 114, 32, 99, 111, 114, 101, 32, 103, 108, 117, 101]), .string (ba [32])]) rfl rfl rfl Tryz.call41) (R_strings_Split [99, 111, 112, 112, 101, 114, 32, 99, 111, 114, 101, 32, 103, 108, 117, 101] [32] _  _ h) (fun v a w' hf hr => ?_)
      obtain ⟨y2, y2A, y2C, rfl, h2, hs2⟩ := hr
      replace h := h2; replace hs := hs.call hs2; clear h2 hs2
      refine R.nil ?_
      refine X.then_ ?_
      refine ⟨(hs.mask [false, true]), ?_⟩
      obtain ⟨h0x1, x1, hx1, h⟩ := h
      refine H.val hf (hs.mask [false, true]) (v := elemPtr y2A ((w64 (xk1.Kind - 1)).toNat * 1)) (i := 9) rfl rfl rfl rfl (by kernel_rfl) (by kernel_rfl) (by kernel_rfl) (V.index rfl rfl rfl Tryz.runUnderlying74 Tryz.sizeOf9 (hs.ownSome 0 rfl (lt_of_get hx1)) h0x1 (lt_of_get hx1) rfl) (fun a hf => ?_)
      refine H.each2 (i0 := 10) (i1 := 15) rfl rfl (by kernel_rfl) ?_ ?_
      · replace h := h.1
        refine S.val hf hs (v := .string (ba x1)) rfl rfl rfl (V.loadOwn (off := 0) 0 rfl hx1 rfl rfl rfl Tryz.isAgg9 Tryz.sizeOf9 rfl rfl) (fun a hf => ?_)
        refine R.nil ?_
        refine X.then_ ?_
        refine ⟨(hs.mask [false, true]), ?_⟩
        obtain ⟨hcat, h⟩ := h
        refine H.val hf (hs.mask [false, true]) (v := .string (ba ((([109, 97, 116, 101, 114, 105, 97, 108, 32] ++ xk1.Name) ++ [32]) ++ x1))) (i := 11) rfl rfl rfl rfl (by kernel_rfl) (by kernel_rfl) (by kernel_rfl) (V.strAdd rfl rfl rfl hcat) (fun a hf => ?_)
        obtain ⟨hcat, h⟩ := h
        refine H.val hf (hs.mask [false, true]) (v := .string (ba (((([109, 97, 116, 101, 114, 105, 97, 108, 32] ++ xk1.Name) ++ [32]) ++ x1) ++ [32]))) (i := 12) rfl rfl rfl rfl (by kernel_rfl) (by kernel_rfl) (by kernel_rfl) (V.strAdd rfl rfl rfl hcat) (fun a hf => ?_)
        refine H.one (i := 15) rfl (by kernel_rfl) ?_
        obtain ⟨hp, h⟩ := h
        refine S.callv hf rfl rfl rfl (call_fn (vs := [.int .i64 xk1.Thick]) rfl rfl rfl Tryz.call55) (C_strconv_Itoa xk1.Thick _ (hT.arg hs) hp) (fun a w hf hs' => ?_)
        replace hs := hs.call hs'; clear hs'
        refine R.nil ?_
        refine X.then_ ?_
        refine ⟨(hs.mask [false, true]), ?_⟩
        obtain ⟨hcat, h⟩ := h
        refine H.val hf (hs.mask [false, true]) (v := .string (ba ((((([109, 97, 116, 101, 114, 105, 97, 108, 32] ++ xk1.Name) ++ [32]) ++ x1) ++ [32]) ++ (itoaS xk1.Thick)))) (i := 16) rfl rfl rfl rfl (by kernel_rfl) (by kernel_rfl) (by kernel_rfl) (V.strAdd rfl rfl rfl hcat) (fun a hf => ?_)
        obtain ⟨hcat, h⟩ := h
        refine H.val hf (hs.mask [false, true]) (v := .string (ba (((((([109, 97, 116, 101, 114, 105, 97, 108, 32] ++ xk1.Name) ++ [32]) ++ x1) ++ [32]) ++ (itoaS xk1.Thick)) ++ [32]))) (i := 17) rfl rfl rfl rfl (by kernel_rfl) (by kernel_rfl) (by kernel_rfl) (V.strAdd rfl rfl rfl hcat) (fun a hf => ?_)
        refine H.one (i := 20) rfl (by kernel_rfl) ?_
        obtain ⟨hp, h⟩ := h
        refine S.callv hf rfl rfl rfl (call_fn (vs := [.int .i64 xk1.Grow]) rfl rfl rfl Tryz.call55) (C_strconv_Itoa xk1.Grow _ (hT.arg hs) hp) (fun a w hf hs' => ?_)
        replace hs := hs.call hs'; clear hs'
        refine R.nil ?_
        refine X.then_ ?_
        refine ⟨(hs.mask [false, true]), ?_⟩
        obtain ⟨hcat, h⟩ := h
        refine H.val hf (hs.mask [false, true]) (v := .string (ba ((((((([109, 97, 116, 101, 114, 105, 97, 108, 32] ++ xk1.Name) ++ [32]) ++ x1) ++ [32]) ++ (itoaS xk1.Thick)) ++ [32]) ++ (itoaS xk1.Grow)))) (i := 21) rfl rfl rfl rfl (by kernel_rfl) (by kernel_rfl) (by kernel_rfl) (V.strAdd rfl rfl rfl hcat) (fun a hf => ?_)
        obtain ⟨hcat, h⟩ := h
        refine H.val hf (hs.mask [false, true]) (v := .string (ba (((((((([109, 97, 116, 101, 114, 105, 97, 108, 32] ++ xk1.Name) ++ [32]) ++ x1) ++ [32]) ++ (itoaS xk1.Thick)) ++ [32]) ++ (itoaS xk1.Grow)) ++ [10]))) (i := 22) rfl rfl rfl rfl (by kernel_rfl) (by kernel_rfl) (by kernel_rfl) (V.strAdd rfl rfl rfl hcat) (fun a hf => ?_)
        obtain ⟨hcat, h⟩ := h
        refine H.val hf (hs.mask [false, true]) (v := .string (ba (s2 ++ (((((((([109, 97, 116, 101, 114, 105, 97, 108, 32] ++ xk1.Name) ++ [32]) ++ x1) ++ [32]) ++ (itoaS xk1.Thick)) ++ [32]) ++ (itoaS xk1.Grow)) ++ [10])))) (i := 23) rfl rfl rfl rfl (by kernel_rfl) (by kernel_rfl) (by kernel_rfl) (V.strAdd rfl rfl rfl hcat) (fun a hf => ?_)
        refine H.val hf (hs.mask [false, true]) (v := .string (ba (s2 ++ (((((((([109, 97, 116, 101, 114, 105, 97, 108, 32] ++ xk1.Name) ++ [32]) ++ x1) ++ [32]) ++ (itoaS xk1.Thick)) ++ [32]) ++ (itoaS xk1.Grow)) ++ [10])))) (i := 24) rfl rfl rfl rfl (by kernel_rfl) (by kernel_rfl) (by kernel_rfl) (V.pure rfl) (fun a hf => ?_)
        refine H.done (by kernel_rfl) ?_
        refine X.blk ?_
        refine X.then_ ?_
        refine R.list ?_
        refine S.val hf hs (v := .int .i64 ((k1 + 1 : Nat) : Int)) rfl rfl rfl (V.incr rfl rfl rfl hltk1 hlenk1) (fun a hf => ?_)
        refine S.val hf hs (v := .int .i64 ((k1 + 1 : Nat) : Int)) rfl rfl rfl (V.pure rfl) (fun a hf => ?_)
        refine R.nil ?_
        refine X.then_ ?_
        exact ⟨xk1, llk1, rfl, k1 + 1, (s2 ++ (((((((([109, 97, 116, 101, 114, 105, 97, 108, 32] ++ xk1.Name) ++ [32]) ++ x1) ++ [32]) ++ (itoaS xk1.Thick)) ++ [32]) ++ (itoaS xk1.Grow)) ++ [10])), range_drop hlk1, range_len hkk1, (by rw [hnext1] at h; exact h), (((((hf.nil.cons (hf.get 19 _ rfl)).cons (hf.get 18 _ rfl)).cons (hf.get 7 _ rfl)).cons (hf.get 1 _ rfl)).cons (hf.get 20 _ rfl)), hs.drop.drop⟩
      · replace h := h.2
        obtain ⟨hp, h⟩ := h
        refine S.callv hf rfl rfl rfl (call_fn (vs := [.int .i64 xk1.Thick]) rfl rfl rfl Tryz.call55) (C_strconv_Itoa xk1.Thick _ (hT.arg hs) hp) (fun a w hf hs' => ?_)
        replace hs := hs.call hs'; clear hs'
        refine R.nil ?_
        refine X.then_ ?_
        refine ⟨(hs.mask [false, true]), ?_⟩
        refine H.each2 (i0 := 10) (i1 := 20) rfl rfl (by kernel_rfl) ?_ ?_
        · replace h := h.1
          refine S.val hf hs (v := .string (ba x1)) rfl rfl rfl (V.loadOwn (off := 0) 0 rfl hx1 rfl rfl rfl Tryz.isAgg9 Tryz.sizeOf9 rfl rfl) (fun a hf => ?_)
          refine R.nil ?_
          refine X.then_ ?_
          refine ⟨(hs.mask [false, true]), ?_⟩
          obtain ⟨hcat, h⟩ := h
          refine H.val hf (hs.mask [false, true]) (v := .string (ba ((([109, 97, 116, 101, 114, 105, 97, 108, 32] ++ xk1.Name) ++ [32]) ++ x1))) (i := 11) rfl rfl rfl rfl (by kernel_rfl) (by kernel_rfl) (by kernel_rfl) (V.strAdd rfl rfl rfl hcat) (fun a hf => ?_)
          obtain ⟨hcat, h⟩ := h
          refine H.val hf (hs.mask [false, true]) (v := .string (ba (((([109, 97, 116, 101, 114, 105, 97, 108, 32] ++ xk1.Name) ++ [32]) ++ x1) ++ [32]))) (i := 12) rfl rfl rfl rfl (by kernel_rfl) (by kernel_rfl) (by kernel_rfl) (V.strAdd rfl rfl rfl hcat) (fun a hf => ?_)
          obtain ⟨hcat, h⟩ := h
          refine H.val hf (hs.mask [false, true]) (v := .string (ba ((((([109, 97, 116, 101, 114, 105, 97, 108, 32] ++ xk1.Name) ++ [32]) ++ x1) ++ [32]) ++ (itoaS xk1.Thick)))) (i := 16) rfl rfl rfl rfl (by kernel_rfl) (by kernel_rfl) (by kernel_rfl) (V.strAdd rfl rfl rfl hcat) (fun a hf => ?_)
          obtain ⟨hcat, h⟩ := h
          refine H.val hf (hs.mask [false, true]) (v := .string (ba (((((([109, 97, 116, 101, 114, 105, 97, 108, 32] ++ xk1.Name) ++ [32]) ++ x1) ++ [32]) ++ (itoaS xk1.Thick)) ++ [32]))) (i := 17) rfl rfl rfl rfl (by kernel_rfl) (by kernel_rfl) (by kernel_rfl) (V.strAdd rfl rfl rfl hcat) (fun a hf => ?_)
          refine H.one (i := 20) rfl (by kernel_rfl) ?_
          obtain ⟨hp, h⟩ := h
          refine S.callv hf rfl rfl rfl (call_fn (vs := [.int .i64 xk1.Grow]) rfl rfl rfl Tryz.call55) (C_strconv_Itoa xk1.Grow _ (hT.arg hs) hp) (fun a w hf hs' => ?_)
          replace hs := hs.call hs'; clear hs'
          refine R.nil ?_
          refine X.then_ ?_
          refine ⟨(hs.mask [false, true]), ?_⟩
          obtain ⟨hcat, h⟩ := h
          refine H.val hf (hs.mask [false, true]) (v := .string (ba ((((((([109, 97, 116, 101, 114, 105, 97, 108, 32] ++ xk1.Name) ++ [32]) ++ x1) ++ [32]) ++ (itoaS xk1.Thick)) ++ [32]) ++ (itoaS xk1.Grow)))) (i := 21) rfl rfl rfl rfl (by kernel_rfl) (by kernel_rfl) (by kernel_rfl) (V.strAdd rfl rfl rfl hcat) (fun a hf => ?_)
          obtain ⟨hcat, h⟩ := h
          refine H.val hf (hs.mask [false, true]) (v := .string (ba (((((((([109, 97, 116, 101, 114, 105, 97, 108, 32] ++ xk1.Name) ++ [32]) ++ x1) ++ [32]) ++ (itoaS xk1.Thick)) ++ [32]) ++ (itoaS xk1.Grow)) ++ [10]))) (i := 22) rfl rfl rfl rfl (by kernel_rfl) (by kernel_rfl) (by kernel_rfl) (V.strAdd rfl rfl rfl hcat) (fun a hf => ?_)
          obtain ⟨hcat, h⟩ := h
          refine H.val hf (hs.mask [false, true]) (v := .string (ba (s2 ++ (((((((([109, 97, 116, 101, 114, 105, 97, 108, 32] ++ xk1.Name) ++ [32]) ++ x1) ++ [32]) ++ (itoaS xk1.Thick)) ++ [32]) ++ (itoaS xk1.Grow)) ++ [10])))) (i := 23) rfl rfl rfl rfl (by kernel_rfl) (by kernel_rfl) (by kernel_rfl) (V.strAdd rfl rfl rfl hcat) (fun a hf => ?_)
          refine H.val hf (hs.mask [false, true]) (v := .string (ba (s2 ++ (((((((([109, 97, 116, 101, 114, 105, 97, 108, 32] ++ xk1.Name) ++ [32]) ++ x1) ++ [32]) ++ (itoaS xk1.Thick)) ++ [32]) ++ (itoaS xk1.Grow)) ++ [10])))) (i := 24) rfl rfl rfl rfl (by kernel_rfl) (by kernel_rfl) (by kernel_rfl) (V.pure rfl) (fun a hf => ?_)
          refine H.done (by kernel_rfl) ?_
          refine X.blk ?_
          refine X.then_ ?_
          refine R.list ?_
          refine S.val hf hs (v := .int .i64 ((k1 + 1 : Nat) : Int)) rfl rfl rfl (V.incr rfl rfl rfl hltk1 hlenk1) (fun a hf => ?_)
          refine S.val hf hs (v := .int .i64 ((k1 + 1 : Nat) : Int)) rfl rfl rfl (V.pure rfl) (fun a hf => ?_)
          refine R.nil ?_
          refine X.then_ ?_
          exact ⟨xk1, llk1, rfl, k1 + 1, (s2 ++ (((((((([109, 97, 116, 101, 114, 105, 97, 108, 32] ++ xk1.Name) ++ [32]) ++ x1) ++ [32]) ++ (itoaS xk1.Thick)) ++ [32]) ++ (itoaS xk1.Grow)) ++ [10])), range_drop hlk1, range_len hkk1, (by rw [hnext1] at h; exact h), (((((hf.nil.cons (hf.get 19 _ rfl)).cons (hf.get 18 _ rfl)).cons (hf.get 7 _ rfl)).cons (hf.get 1 _ rfl)).cons (hf.get 20 _ rfl)), hs.drop.drop⟩
        · replace h := h.2
          obtain ⟨hp, h⟩ := h
          refine S.callv hf rfl rfl rfl (call_fn (vs := [.int .i64 xk1.Grow]) rfl rfl rfl Tryz.call55) (C_strconv_Itoa xk1.Grow _ (hT.arg hs) hp) (fun a w hf hs' => ?_)
          replace hs := hs.call hs'; clear hs'
          refine R.nil ?_
          refine X.then_ ?_
          refine ⟨(hs.mask [false, true]), ?_⟩
          refine H.one (i := 10) rfl (by kernel_rfl) ?_
          refine S.val hf hs (v := .string (ba x1)) rfl rfl rfl (V.loadOwn (off := 0) 0 rfl hx1 rfl rfl rfl Tryz.isAgg9 Tryz.sizeOf9 rfl rfl) (fun a hf => ?_)
          refine R.nil ?_
          refine X.then_ ?_
          refine ⟨(hs.mask [false, true]), ?_⟩
          obtain ⟨hcat, h⟩ := h
          refine H.val hf (hs.mask [false, true]) (v := .string (ba ((([109, 97, 116, 101, 114, 105, 97, 108, 32] ++ xk1.Name) ++ [32]) ++ x1))) (i := 11) rfl rfl rfl rfl (by kernel_rfl) (by kernel_rfl) (by kernel_rfl) (V.strAdd rfl rfl rfl hcat) (fun a hf => ?_)
          obtain ⟨hcat, h⟩ := h
          refine H.val hf (hs.mask [false, true]) (v := .string (ba (((([109, 97, 116, 101, 114, 105, 97, 108, 32] ++ xk1.Name) ++ [32]) ++ x1) ++ [32]))) (i := 12) rfl rfl rfl rfl (by kernel_rfl) (by kernel_rfl) (by kernel_rfl) (V.strAdd rfl rfl rfl hcat) (fun a hf => ?_)
          obtain ⟨hcat, h⟩ := h
          refine H.val hf (hs.mask [false, true]) (v := .string (ba ((((([109, 97, 116, 101, 114, 105, 97, 108, 32] ++ xk1.Name) ++ [32]) ++ x1) ++ [32]) ++ (itoaS xk1.Thick)))) (i := 16) rfl rfl rfl rfl (by kernel_rfl) (by kernel_rfl) (by kernel_rfl) (V.strAdd rfl rfl rfl hcat) (fun a hf => ?_)
          obtain ⟨hcat, h⟩ := h
          refine H.val hf (hs.mask [false, true]) (v := .string (ba (((((([109, 97, 116, 101, 114, 105, 97, 108, 32] ++ xk1.Name) ++ [32]) ++ x1) ++ [32]) ++ (itoaS xk1.Thick)) ++ [32]))) (i := 17) rfl rfl rfl rfl (by kernel_rfl) (by kernel_rfl) (by kernel_rfl) (V.strAdd rfl rfl rfl hcat) (fun a hf => ?_)
          obtain ⟨hcat, h⟩ := h
          refine H.val hf (hs.mask [false, true]) (v := .string (ba ((((((([109, 97, 116, 101, 114, 105, 97, 108, 32] ++ xk1.Name) ++ [32]) ++ x1) ++ [32]) ++ (itoaS xk1.Thick)) ++ [32]) ++ (itoaS xk1.Grow)))) (i := 21) rfl rfl rfl rfl (by kernel_rfl) (by kernel_rfl) (by kernel_rfl) (V.strAdd rfl rfl rfl hcat) (fun a hf => ?_)
          obtain ⟨hcat, h⟩ := h
          refine H.val hf (hs.mask [false, true]) (v := .string (ba (((((((([109, 97, 116, 101, 114, 105, 97, 108, 32] ++ xk1.Name) ++ [32]) ++ x1) ++ [32]) ++ (itoaS xk1.Thick)) ++ [32]) ++ (itoaS xk1.Grow)) ++ [10]))) (i := 22) rfl rfl rfl rfl (by kernel_rfl) (by kernel_rfl) (by kernel_rfl) (V.strAdd rfl rfl rfl hcat) (fun a hf => ?_)
          obtain ⟨hcat, h⟩ := h
          refine H.val hf (hs.mask [false, true]) (v := .string (ba (s2 ++ (((((((([109, 97, 116, 101, 114, 105, 97, 108, 32] ++ xk1.Name) ++ [32]) ++ x1) ++ [32]) ++ (itoaS xk1.Thick)) ++ [32]) ++ (itoaS xk1.Grow)) ++ [10])))) (i := 23) rfl rfl rfl rfl (by kernel_rfl) (by kernel_rfl) (by kernel_rfl) (V.strAdd rfl rfl rfl hcat) (fun a hf => ?_)
          refine H.val hf (hs.mask [false, true]) (v := .string (ba (s2 ++ (((((((([109, 97, 116, 101, 114, 105, 97, 108, 32] ++ xk1.Name) ++ [32]) ++ x1) ++ [32]) ++ (itoaS xk1.Thick)) ++ [32]) ++ (itoaS xk1.Grow)) ++ [10])))) (i := 24) rfl rfl rfl rfl (by kernel_rfl) (by kernel_rfl) (by kernel_rfl) (V.pure rfl) (fun a hf => ?_)
          refine H.done (by kernel_rfl) ?_
          refine X.blk ?_
          refine X.then_ ?_
          refine R.list ?_
          refine S.val hf hs (v := .int .i64 ((k1 + 1 : Nat) : Int)) rfl rfl rfl (V.incr rfl rfl rfl hltk1 hlenk1) (fun a hf => ?_)
          refine S.val hf hs (v := .int .i64 ((k1 + 1 : Nat) : Int)) rfl rfl rfl (V.pure rfl) (fun a hf => ?_)
          refine R.nil ?_
          refine X.then_ ?_
          exact ⟨xk1, llk1, rfl, k1 + 1, (s2 ++ (((((((([109, 97, 116, 101, 114, 105, 97, 108, 32] ++ xk1.Name) ++ [32]) ++ x1) ++ [32]) ++ (itoaS xk1.Thick)) ++ [32]) ++ (itoaS xk1.Grow)) ++ [10])), range_drop hlk1, range_len hkk1, (by rw [hnext1] at h; exact h), (((((hf.nil.cons (hf.get 19 _ rfl)).cons (hf.get 18 _ rfl)).cons (hf.get 7 _ rfl)).cons (hf.get 1 _ rfl)).cons (hf.get 20 _ rfl)), hs.drop.drop⟩

set_option linter.unusedVariables false
def M_law_StackTexts_k1 (m : (List Material)) (s_ : (List Layer)) (Q : Bool → Prop) (y1 : Str) (y2 : Int) (c1 : Bool) : Prop :=
  cnd c1 (Q false) (cnd (y2 != 0) (Q true) (M_stack_Read y1 fun y5 y6 y7 y8 => cnd (y8 == 0) (cnd (y7 == 0) (M_equal_material m y5 fun y9 => cnd y9 (M_equal_layer s_ y6 fun y10 => Q y10) (Q false)) (Q false)) (Q false)))
def M_law_StackTexts (m : (List Material)) (s_ : (List Layer)) (Q : Bool → Prop) : Prop :=
  M_stack_Text m s_ fun y1 y2 => M_ref4_Text m s_ fun y3 y4 => cnd (y2 != y4) (M_law_StackTexts_k1 m s_ Q y1 y2 true) (cnd (!(y1 == y3)) (M_law_StackTexts_k1 m s_ Q y1 y2 true) (M_awake  fun y11 => M_law_StackTexts_k1 m s_ Q y1 y2 (!y11)))
set_option maxHeartbeats 1000000 in
theorem R_law_StackTexts (m : (List Material)) (s_ : (List Layer)) (w0 : World) (mA : Option Addr) (mC : Nat) (hv_m : View w0 (old w0 none_) mA mC m) (s_A : Option Addr) (s_C : Nat) (hv_s_ : View w0 (old w0 none_) s_A s_C s_) (hT : TabIn Tryz.prog w0 (old w0 none_)) (Q : Bool → Prop) (h : M_law_StackTexts m s_ Q) :
    Ret Tryz.prog 5 #[.slice mA m.length mC, .slice s_A s_.length s_C] w0 fun v w' => ∃ (r0 : Bool), v = .bool r0 ∧ Q r0 ∧ Sat w0 none_ [] w' := by
  refine fn_enter Tryz.func5 rfl Tryz.ntmps5 rfl (fs := [(0, .slice mA m.length mC), (1, .slice s_A s_.length s_C)]) rfl (fun a hf => ?_)
  have hs := Sat.start w0 none_
  unfold M_law_StackTexts at h
  refine wp_seq ?_
  refine R.list ?_
  refine S.val hf hs (v := .bool false) rfl rfl rfl (V.pure rfl) (fun a hf => ?_)
  refine R.nil ?_
  refine X.then_ ?_
  refine wp_seq ?_
  refine R.list ?_
  refine S.val hf hs (v := .slice mA m.length mC) rfl rfl rfl (V.pure rfl) (fun a hf => ?_)
  refine S.val hf hs (v := .slice s_A s_.length s_C) rfl rfl rfl (V.pure rfl) (fun a hf => ?_)
  refine S.call hf rfl rfl rfl (call_fn (vs := [.slice mA m.length mC, .slice s_A s_.length s_C]) rfl rfl rfl Tryz.call21) (R_stack_Text m s_ _ mA mC ((Ag.args _ _ _).view hv_m hs) s_A s_C ((Ag.args _ _ _).view hv_s_ hs) (hT.arg hs) _ h) (fun v a w' hf hr => ?_)
  obtain ⟨y1, y2, rfl, h2, hs2⟩ := hr
  replace h := h2; replace hs := hs.call hs2; clear h2 hs2
  refine S.val hf hs (v := .tuple #[.string (ba y1), .int .i64 y2]) rfl rfl rfl (V.pure rfl) (fun a hf => ?_)
  refine S.val hf hs (v := .string (ba y1)) rfl rfl rfl (V.pure rfl) (fun a hf => ?_)
  refine S.val hf hs (v := .int .i64 y2) rfl rfl rfl (V.pure rfl) (fun a hf => ?_)
  refine S.val hf hs (v := .string (ba y1)) rfl rfl rfl (V.pure rfl) (fun a hf => ?_)
  refine S.val hf hs (v := .int .i64 y2) rfl rfl rfl (V.pure rfl) (fun a hf => ?_)
  refine R.nil ?_
  refine X.then_ ?_
  refine wp_seq ?_
  refine R.list ?_
  refine S.val hf hs (v := .slice mA m.length mC) rfl rfl rfl (V.pure rfl) (fun a hf => ?_)
  refine S.val hf hs (v := .slice s_A s_.length s_C) rfl rfl rfl (V.pure rfl) (fun a hf => ?_)
  refine S.call hf rfl rfl rfl (call_fn (vs := [.slice mA m.length mC, .slice s_A s_.length s_C]) rfl rfl rfl Tryz.call22) (R_ref4_Text m s_ _ mA mC ((Ag.args _ _ _).view hv_m hs) s_A s_C ((Ag.args _ _ _).view hv_s_ hs) (hT.arg hs) _ h) (fun v a w' hf hr => ?_)
  obtain ⟨y3, y4, rfl, h2, hs2⟩ := hr
  replace h := h2; replace hs := hs.call hs2; clear h2 hs2
  refine S.val hf hs (v := .tuple #[.string (ba y3), .int .i64 y4]) rfl rfl rfl (V.pure rfl) (fun a hf => ?_)
  refine S.val hf hs (v := .string (ba y3)) rfl rfl rfl (V.pure rfl) (fun a hf => ?_)
  refine S.val hf hs (v := .int .i64 y4) rfl rfl rfl (V.pure rfl) (fun a hf => ?_)
  refine S.val hf hs (v := .string (ba y3)) rfl rfl rfl (V.pure rfl) (fun a hf => ?_)
  refine S.val hf hs (v := .int .i64 y4) rfl rfl rfl (V.pure rfl) (fun a hf => ?_)
  refine R.nil ?_
  refine X.then_ ?_
  refine wp_seq ?_
  refine wp_seq ?_
  refine C.cut (J := fun a w => ∃ (c1 : Bool), M_law_StackTexts_k1 m s_ Q y1 y2 c1 ∧ FrOk 61 [(0, .slice mA m.length mC), (1, .slice s_A s_.length s_C), (5, .string (ba y1)), (6, .int .i64 y2), (35, .bool c1)] a ∧ Sat w0 none_ [] w) ?_ ?_
  · rintro a w ⟨c1, h, hf, hs⟩
    unfold M_law_StackTexts_k1 at h
    refine C.cond hf (b := c1) rfl (fun hc => ?_) (fun hc => ?_)
    · replace h := h.1 hc
      refine wp_seq ?_
      refine R.list ?_
      refine S.val hf hs (v := .bool false) rfl rfl rfl (V.pure rfl) (fun a hf => ?_)
      refine R.nil ?_
      refine X.then_ ?_
      refine wp_ret ?_
      refine X.then_ret ?_
      exact L.ret hf (run_results1 Tryz.results5 (ResIs.tmp hf rfl)) ⟨false, rfl, h, hs.nil⟩
    · replace h := h.2 hc
      refine wp_skip ?_
      refine X.then_ ?_
      refine wp_seq ?_
      refine wp_seq ?_
      refine R.list ?_
      refine S.val hf hs (v := .int .i64 y2) rfl rfl rfl (V.pure rfl) (fun a hf => ?_)
      refine S.val hf hs (v := .bool (y2 != 0)) rfl rfl rfl (V.pure rfl) (fun a hf => ?_)
      refine R.nil ?_
      refine X.then_ ?_
      refine C.cond hf (b := y2 != 0) rfl (fun hc => ?_) (fun hc => ?_)
      · replace h := h.1 hc
        refine wp_seq ?_
        refine R.list ?_
        refine S.val hf hs (v := .bool true) rfl rfl rfl (V.pure rfl) (fun a hf => ?_)
        refine R.nil ?_
        refine X.then_ ?_
        refine wp_ret ?_
        refine X.then_ret ?_
        exact L.ret hf (run_results1 Tryz.results5 (ResIs.tmp hf rfl)) ⟨true, rfl, h, hs.nil⟩
      · replace h := h.2 hc
        refine wp_skip ?_
        refine X.then_ ?_
        refine wp_seq ?_
        refine R.list ?_
        refine S.val hf hs (v := .string (ba y1)) rfl rfl rfl (V.pure rfl) (fun a hf => ?_)
        refine S.call hf rfl rfl rfl (call_fn (vs := [.string (ba y1)]) rfl rfl rfl Tryz.call11) (R_stack_Read y1 _  _ h) (fun v a w' hf hr => ?_)
        obtain ⟨y5, y5A, y5C, y6, y6A, y6C, y7, y8, rfl, h2, hs2⟩ := hr
        replace h := h2; replace hs := hs.call hs2; clear h2 hs2
        refine S.val hf hs (v := .tuple #[.slice y5A y5.length y5C, .slice y6A y6.length y6C, .int .i64 y7, .int .i64 y8]) rfl rfl rfl (V.pure rfl) (fun a hf => ?_)
        refine S.val hf hs (v := .slice y5A y5.length y5C) rfl rfl rfl (V.pure rfl) (fun a hf => ?_)
        refine S.val hf hs (v := .slice y6A y6.length y6C) rfl rfl rfl (V.pure rfl) (fun a hf => ?_)
        refine S.val hf hs (v := .int .i64 y7) rfl rfl rfl (V.pure rfl) (fun a hf => ?_)
        refine S.val hf hs (v := .int .i64 y8) rfl rfl rfl (V.pure rfl) (fun a hf => ?_)
        refine S.val hf hs (v := .slice y5A y5.length y5C) rfl rfl rfl (V.pure rfl) (fun a hf => ?_)
        refine S.val hf hs (v := .slice y6A y6.length y6C) rfl rfl rfl (V.pure rfl) (fun a hf => ?_)
        refine S.val hf hs (v := .int .i64 y7) rfl rfl rfl (V.pure rfl) (fun a hf => ?_)
        refine S.val hf hs (v := .int .i64 y8) rfl rfl rfl (V.pure rfl) (fun a hf => ?_)
        refine R.nil ?_
        refine X.then_ ?_
        refine wp_seq ?_
        refine R.list ?_
        refine S.val hf hs (v := .int .i64 y8) rfl rfl rfl (V.pure rfl) (fun a hf => ?_)
        refine S.val hf hs (v := .bool (y8 == 0)) rfl rfl rfl (V.pure rfl) (fun a hf => ?_)
        refine S.split hf hs (b := y8 == 0) rfl rfl rfl (V.pure rfl) (fun hc a hf => ?_) (fun hc a hf => ?_)
        · replace h := h.1 hc
          refine S.val hf hs (v := .int .i64 y7) rfl rfl rfl (V.pure rfl) (fun a hf => ?_)
          refine S.val hf hs (v := .bool (y7 == 0)) rfl rfl rfl (V.pure rfl) (fun a hf => ?_)
          refine S.val hf hs (v := .bool (y7 == 0)) rfl rfl rfl (V.pure rfl) (fun a hf => ?_)
          refine S.split hf hs (b := y7 == 0) rfl rfl rfl (V.pure rfl) (fun hc a hf => ?_) (fun hc a hf => ?_)
          · replace h := h.1 hc
            refine S.val hf hs (v := .slice mA m.length mC) rfl rfl rfl (V.pure rfl) (fun a hf => ?_)
            refine S.val hf hs (v := .slice y5A y5.length y5C) rfl rfl rfl (V.pure rfl) (fun a hf => ?_)
            refine S.call hf rfl rfl rfl (call_fn (vs := [.slice mA m.length mC, .slice y5A y5.length y5C]) rfl rfl rfl Tryz.call13) (R_equal_material m y5 _ mA mC ((Ag.args _ _ _).view hv_m hs) y5A y5C (hs.ownView 0 rfl) _ h) (fun v a w' hf hr => ?_)
            obtain ⟨y9, rfl, h2, hs2⟩ := hr
            replace h := h2; replace hs := hs.call hs2; clear h2 hs2
            refine S.val hf hs (v := .bool y9) rfl rfl rfl (V.pure rfl) (fun a hf => ?_)
            refine S.split hf hs (b := y9) rfl rfl rfl (V.pure rfl) (fun hc a hf => ?_) (fun hc a hf => ?_)
            · replace h := h.1 hc
              refine S.val hf hs (v := .slice s_A s_.length s_C) rfl rfl rfl (V.pure rfl) (fun a hf => ?_)
              refine S.val hf hs (v := .slice y6A y6.length y6C) rfl rfl rfl (V.pure rfl) (fun a hf => ?_)
              refine S.call hf rfl rfl rfl (call_fn (vs := [.slice s_A s_.length s_C, .slice y6A y6.length y6C]) rfl rfl rfl Tryz.call14) (R_equal_layer s_ y6 _ s_A s_C ((Ag.args _ _ _).view hv_s_ hs) y6A y6C (hs.ownView 1 rfl) _ h) (fun v a w' hf hr => ?_)
              obtain ⟨y10, rfl, h2, hs2⟩ := hr
              replace h := h2; replace hs := hs.call hs2; clear h2 hs2
              refine S.val hf hs (v := .bool y10) rfl rfl rfl (V.pure rfl) (fun a hf => ?_)
              refine S.val hf hs (v := .bool y10) rfl rfl rfl (V.pure rfl) (fun a hf => ?_)
              refine R.nil ?_
              refine X.then_ ?_
              refine wp_ret ?_
              exact L.ret hf (run_results1 Tryz.results5 (ResIs.tmp hf rfl)) ⟨y10, rfl, h, hs.nil⟩
            · replace h := h.2 hc
              refine S.skip hf rfl rfl rfl (fun a hf => ?_)
              refine S.skip hf rfl rfl rfl (fun a hf => ?_)
              refine S.skip hf rfl rfl rfl (fun a hf => ?_)
              refine S.val hf hs (v := .bool false) rfl rfl rfl (V.pure rfl) (fun a hf => ?_)
              refine S.val hf hs (v := .bool false) rfl rfl rfl (V.pure rfl) (fun a hf => ?_)
              refine R.nil ?_
              refine X.then_ ?_
              refine wp_ret ?_
              exact L.ret hf (run_results1 Tryz.results5 (ResIs.tmp hf rfl)) ⟨false, rfl, h, hs.nil⟩
          · replace h := h.2 hc
            refine S.skip hf rfl rfl rfl (fun a hf => ?_)
            refine S.skip hf rfl rfl rfl (fun a hf => ?_)
            refine S.skip hf rfl rfl rfl (fun a hf => ?_)
            refine S.val hf hs (v := .bool false) rfl rfl rfl (V.pure rfl) (fun a hf => ?_)
            refine S.val hf hs (v := .bool false) rfl rfl rfl (V.pure rfl) (fun a hf => ?_)
            refine S.skip hf rfl rfl rfl (fun a hf => ?_)
            refine S.skip hf rfl rfl rfl (fun a hf => ?_)
            refine S.skip hf rfl rfl rfl (fun a hf => ?_)
            refine S.val hf hs (v := .bool false) rfl rfl rfl (V.pure rfl) (fun a hf => ?_)
            refine S.val hf hs (v := .bool false) rfl rfl rfl (V.pure rfl) (fun a hf => ?_)
            refine R.nil ?_
            refine X.then_ ?_
            refine wp_ret ?_
            exact L.ret hf (run_results1 Tryz.results5 (ResIs.tmp hf rfl)) ⟨false, rfl, h, hs.nil⟩
        · replace h := h.2 hc
          refine S.skip hf rfl rfl rfl (fun a hf => ?_)
          refine S.skip hf rfl rfl rfl (fun a hf => ?_)
          refine S.val hf hs (v := .bool false) rfl rfl rfl (V.pure rfl) (fun a hf => ?_)
          refine S.val hf hs (v := .bool false) rfl rfl rfl (V.pure rfl) (fun a hf => ?_)
          refine S.skip hf rfl rfl rfl (fun a hf => ?_)
          refine S.skip hf rfl rfl rfl (fun a hf => ?_)
          refine S.skip hf rfl rfl rfl (fun a hf => ?_)
          refine S.val hf hs (v := .bool false) rfl rfl rfl (V.pure rfl) (fun a hf => ?_)
          refine S.val hf hs (v := .bool false) rfl rfl rfl (V.pure rfl) (fun a hf => ?_)
          refine S.skip hf rfl rfl rfl (fun a hf => ?_)
          refine S.skip hf rfl rfl rfl (fun a hf => ?_)
          refine S.skip hf rfl rfl rfl (fun a hf => ?_)
          refine S.val hf hs (v := .bool false) rfl rfl rfl (V.pure rfl) (fun a hf => ?_)
          refine S.val hf hs (v := .bool false) rfl rfl rfl (V.pure rfl) (fun a hf => ?_)
          refine R.nil ?_
          refine X.then_ ?_
          refine wp_ret ?_
          exact L.ret hf (run_results1 Tryz.results5 (ResIs.tmp hf rfl)) ⟨false, rfl, h, hs.nil⟩
  · skip
    refine R.list ?_
    refine S.val hf hs (v := .int .i64 y2) rfl rfl rfl (V.pure rfl) (fun a hf => ?_)
    refine S.val hf hs (v := .int .i64 y4) rfl rfl rfl (V.pure rfl) (fun a hf => ?_)
    refine S.val hf hs (v := .bool (y2 != y4)) rfl rfl rfl (V.pure rfl) (fun a hf => ?_)
    refine S.split hf hs (b := y2 != y4) rfl rfl rfl (V.pure rfl) (fun hc a hf => ?_) (fun hc a hf => ?_)
    · replace h := h.1 hc
      refine S.skip hf rfl rfl rfl (fun a hf => ?_)
      refine S.skip hf rfl rfl rfl (fun a hf => ?_)
      refine S.skip hf rfl rfl rfl (fun a hf => ?_)
      refine S.val hf hs (v := .bool true) rfl rfl rfl (V.pure rfl) (fun a hf => ?_)
      refine S.val hf hs (v := .bool true) rfl rfl rfl (V.pure rfl) (fun a hf => ?_)
      refine S.skip hf rfl rfl rfl (fun a hf => ?_)
      refine S.skip hf rfl rfl rfl (fun a hf => ?_)
      refine S.val hf hs (v := .bool true) rfl rfl rfl (V.pure rfl) (fun a hf => ?_)
      refine R.nil ?_
      refine X.then_ ?_
      exact ⟨true, h, (((((hf.nil.cons (hf.get 35 _ rfl)).cons (hf.get 6 _ rfl)).cons (hf.get 5 _ rfl)).cons (hf.get 1 _ rfl)).cons (hf.get 0 _ rfl)), hs⟩
    · replace h := h.2 hc
      refine S.val hf hs (v := .string (ba y1)) rfl rfl rfl (V.pure rfl) (fun a hf => ?_)
      refine S.val hf hs (v := .string (ba y3)) rfl rfl rfl (V.pure rfl) (fun a hf => ?_)
      refine S.val hf hs (v := .bool (!(y1 == y3))) rfl rfl rfl (V.strCmp (!(y1 == y3)) rfl rfl rfl rfl) (fun a hf => ?_)
      refine S.val hf hs (v := .bool (!(y1 == y3))) rfl rfl rfl (V.pure rfl) (fun a hf => ?_)
      refine S.split hf hs (b := !(y1 == y3)) rfl rfl rfl (V.pure rfl) (fun hc a hf => ?_) (fun hc a hf => ?_)
      · replace h := h.1 hc
        refine S.skip hf rfl rfl rfl (fun a hf => ?_)
        refine S.skip hf rfl rfl rfl (fun a hf => ?_)
        refine S.val hf hs (v := .bool true) rfl rfl rfl (V.pure rfl) (fun a hf => ?_)
        refine R.nil ?_
        refine X.then_ ?_
        exact ⟨true, h, (((((hf.nil.cons (hf.get 35 _ rfl)).cons (hf.get 6 _ rfl)).cons (hf.get 5 _ rfl)).cons (hf.get 1 _ rfl)).cons (hf.get 0 _ rfl)), hs⟩
      · replace h := h.2 hc
        refine S.call hf rfl rfl rfl (call_fn (vs := []) rfl rfl rfl Tryz.call15) (R_awake  _  _ h) (fun v a w' hf hr => ?_)
        obtain ⟨y11, rfl, h2, hs2⟩ := hr
        replace h := h2; replace hs := hs.call hs2; clear h2 hs2
        refine S.val hf hs (v := .bool (!y11)) rfl rfl rfl (V.pure rfl) (fun a hf => ?_)
        refine S.val hf hs (v := .bool (!y11)) rfl rfl rfl (V.pure rfl) (fun a hf => ?_)
        refine R.nil ?_
        refine X.then_ ?_
        exact ⟨(!y11), h, (((((hf.nil.cons (hf.get 35 _ rfl)).cons (hf.get 6 _ rfl)).cons (hf.get 5 _ rfl)).cons (hf.get 1 _ rfl)).cons (hf.get 0 _ rfl)), hs⟩


end Go.Proofs.YtdnilnmdbgcmoaaGreatDoor
