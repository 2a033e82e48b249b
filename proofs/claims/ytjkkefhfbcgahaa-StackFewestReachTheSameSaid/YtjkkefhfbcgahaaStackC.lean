/- Chapter 4: depths, the mirrored stack, its bow: the walks. -/
import Derived.Test.YtjkkefhfbcgahaaStackA2
namespace Go.Proofs.Ytjkkefhfbcgahaa
open Go Go.RowKit
set_option linter.unusedVariables false

set_option linter.unusedVariables false
def M_find1 (l : Layer) (name : Str) (Q : Bool → Prop) : Prop :=
  cnd (!(name == [])) (Q (l.Name == name)) (Q false)
set_option maxHeartbeats 1000000 in
theorem R_find1 (l : Layer) (name : Str) (w0 : World) (nameg : Nat) (hb_name : ElemAt w0 (old w0 none_) (some ⟨nameg, 0, none⟩) 0 [.string (ba name)]) (Q : Bool → Prop) (h : M_find1 l name Q) :
    Ret Try.prog 98 #[.agg #[.string (ba l.Name), .string (ba l.Material)], .pointer (some ⟨nameg, 0, none⟩)] w0 fun v w' => ∃ (r0 : Bool), v = .bool r0 ∧ Q r0 ∧ Sat w0 none_ [] w' := by
  refine fn_enter Try.func98 rfl Try.ntmps98 rfl (fs := [(0, .agg #[.string (ba l.Name), .string (ba l.Material)]), (1, .pointer (some ⟨nameg, 0, none⟩))]) rfl (fun a hf => ?_)
  have hs := Sat.start w0 none_
  unfold M_find1 at h
  refine wp_seq ?_
  refine R.list ?_
  refine S.box hf hs rfl rfl rfl [.string (ba l.Name), .string (ba l.Material)] rfl rfl rfl (fun g1 a w hf hs => ?_)
  refine S.val hf hs (v := .bool false) rfl rfl rfl (V.pure rfl) (fun a hf => ?_)
  refine R.nil ?_
  refine X.then_ ?_
  refine wp_seq ?_
  refine R.list ?_
  refine S.val hf hs (v := .string (ba name)) rfl rfl rfl (V.loadAt0 (off := 0) (Ag.args _ _ _) hb_name rfl rfl Try.isAgg9 Try.sizeOf9 rfl rfl) (fun a hf => ?_)
  refine S.val hf hs (v := .bool (!(name == []))) rfl rfl rfl (V.strCmp (!(name == [])) rfl rfl rfl rfl) (fun a hf => ?_)
  refine S.split hf hs (b := !(name == [])) rfl rfl rfl (V.pure rfl) (fun hc a hf => ?_) (fun hc a hf => ?_)
  · replace h := h.1 hc
    refine S.val hf hs (v := .pointer (some ⟨g1, 0, none⟩)) rfl rfl rfl (V.fieldBox rfl rfl Try.runUnderlying35 rfl Try.sizeOf9 rfl rfl) (fun a hf => ?_)
    refine S.val hf hs (v := .string (ba l.Name)) rfl rfl rfl (V.loadBox 0 rfl rfl rfl Try.isAgg9 Try.sizeOf9 rfl rfl) (fun a hf => ?_)
    refine S.val hf hs (v := .string (ba name)) rfl rfl rfl (V.loadAt0 (off := 0) (Ag.args _ _ _) hb_name rfl rfl Try.isAgg9 Try.sizeOf9 rfl rfl) (fun a hf => ?_)
    refine S.val hf hs (v := .bool (l.Name == name)) rfl rfl rfl (V.strCmp (l.Name == name) rfl rfl rfl rfl) (fun a hf => ?_)
    refine S.val hf hs (v := .bool (l.Name == name)) rfl rfl rfl (V.pure rfl) (fun a hf => ?_)
    refine S.val hf hs (v := .bool (l.Name == name)) rfl rfl rfl (V.pure rfl) (fun a hf => ?_)
    refine R.nil ?_
    refine X.then_ ?_
    refine wp_ret ?_
    exact L.ret hf (run_results1 Try.results98 (ResIs.tmp hf rfl)) ⟨(l.Name == name), rfl, h, hs.nil⟩
  · replace h := h.2 hc
    refine S.skip hf rfl rfl rfl (fun a hf => ?_)
    refine S.skip hf rfl rfl rfl (fun a hf => ?_)
    refine S.skip hf rfl rfl rfl (fun a hf => ?_)
    refine S.skip hf rfl rfl rfl (fun a hf => ?_)
    refine S.val hf hs (v := .bool false) rfl rfl rfl (V.pure rfl) (fun a hf => ?_)
    refine S.val hf hs (v := .bool false) rfl rfl rfl (V.pure rfl) (fun a hf => ?_)
    refine R.nil ?_
    refine X.then_ ?_
    refine wp_ret ?_
    exact L.ret hf (run_results1 Try.results98 (ResIs.tmp hf rfl)) ⟨false, rfl, h, hs.nil⟩

set_option linter.unusedVariables false
def M_index_layer_L1 (name : Str) (Q : Int → Prop) (k1 : Nat) (xk1 : Layer)  (next1 : Prop) : Prop :=
  M_find1 xk1 name fun y1 => cnd y1 (Q (k1 : Int)) (next1)
def M_index_layer (s_ : (List Layer)) (name : Str) (Q : Int → Prop) : Prop :=
  forIn' (fun k x (s : Unit) next => M_index_layer_L1 name Q k x (next ())) (fun (s : Unit) => Q (-1)) s_ 0 ()
set_option maxHeartbeats 1000000 in
theorem R_index_layer (s_ : (List Layer)) (name : Str) (w0 : World) (s_A : Option Addr) (s_C : Nat) (hv_s_ : View w0 (old w0 none_) s_A s_C s_) (nameg : Nat) (hb_name : ElemAt w0 (old w0 none_) (some ⟨nameg, 0, none⟩) 0 [.string (ba name)]) (Q : Int → Prop) (h : M_index_layer s_ name Q) :
    Ret Try.prog 97 #[.slice s_A s_.length s_C, .func (.func 98) #[] #[.pointer (some ⟨nameg, 0, none⟩)]] w0 fun v w' => ∃ (r0 : Int), v = .int .i64 r0 ∧ Q r0 ∧ Sat w0 none_ [] w' := by
  refine fn_enter Try.func97 rfl Try.ntmps97 rfl (fs := [(0, .slice s_A s_.length s_C), (1, .func (.func 98) #[] #[.pointer (some ⟨nameg, 0, none⟩)])]) rfl (fun a hf => ?_)
  have hs := Sat.start w0 none_
  unfold M_index_layer at h
  refine wp_seq ?_
  refine R.list ?_
  refine S.val hf hs (v := .int .i64 0) rfl rfl rfl (V.pure rfl) (fun a hf => ?_)
  refine R.nil ?_
  refine X.then_ ?_
  refine wp_seq ?_
  refine wp_seq ?_
  refine R.list ?_
  refine S.val hf hs (v := .slice s_A s_.length s_C) rfl rfl rfl (V.pure rfl) (fun a hf => ?_)
  refine S.val hf hs (v := .int .i64 (s_.length : Int)) rfl rfl rfl (V.len rfl rfl Try.runUnderlying23) (fun a hf => ?_)
  refine S.val hf hs (v := .int .i64 0) rfl rfl rfl (V.pure rfl) (fun a hf => ?_)
  refine R.nil ?_
  refine X.then_ ?_
  refine wp_block ?_
  have hlenk1 := hv_s_.len64
  refine C.range (fun (ll : List Layer) a w => ∃ (k1 : Nat) , s_.drop k1 = ll ∧ k1 + ll.length = s_.length ∧ forIn' (fun k x (s : Unit) next => M_index_layer_L1 name Q k x (next ())) (fun (s : Unit) => Q (-1)) ll k1 () ∧ FrOk 19 [(8, .int .i64 (k1 : Int)), (0, .slice s_A s_.length s_C), (1, .func (.func 98) #[] #[.pointer (some ⟨nameg, 0, none⟩)]), (7, .int .i64 (s_.length : Int))] a ∧ Sat w0 none_ [] w) s_ ⟨0, rfl, Nat.zero_add _, h, ((((hf.nil.cons (hf.get 7 _ rfl)).cons (hf.get 1 _ rfl)).cons (hf.get 0 _ rfl)).cons (hf.get 8 _ rfl)), hs⟩ ?_
  clear h hf hs
  rintro llk1 a w ⟨k1, hlk1, hkk1, h, hf, hs⟩
  cases llk1 with
  | nil =>
    have hc := range_done hkk1
    replace h : Q (-1) := h
    refine wp_seq ?_
    refine R.list ?_
    refine S.val hf hs (v := .bool false) rfl rfl rfl (V.cmp false rfl rfl rfl rfl hc) (fun a hf => ?_)
    refine R.nil ?_
    refine X.then_ ?_
    refine wp_seq ?_
    refine C.no hf rfl ?_
    refine wp_exit ?_
    refine X.then_exit ?_
    refine X.then_exit ?_
    refine X.blk_exit ?_
    refine X.then_ ?_
    refine wp_seq ?_
    refine R.list ?_
    refine S.val hf hs (v := .int .i64 (-1)) rfl rfl rfl (V.pure rfl) (fun a hf => ?_)
    refine R.nil ?_
    refine X.then_ ?_
    refine wp_ret ?_
    exact L.ret hf (run_results1 Try.results97 (ResIs.tmp hf rfl)) ⟨(-1), rfl, h, hs.nil⟩
  | cons xk1 llk1 =>
    have hltk1 := range_lt hkk1; have hc := range_go hkk1; have hxk1 := range_get hlk1
    obtain ⟨next1, hnext1⟩ : ∃ X : Prop, X = (forIn' (fun k x (s : Unit) next => M_index_layer_L1 name Q k x (next ())) (fun (s : Unit) => Q (-1)) llk1 (k1 + 1) ()) := ⟨_, rfl⟩
    replace h : M_index_layer_L1 name Q k1 xk1  next1 := by rw [hnext1]; exact h
    unfold M_index_layer_L1 at h
    refine wp_seq ?_
    refine R.list ?_
    refine S.val hf hs (v := .bool true) rfl rfl rfl (V.cmp true rfl rfl rfl rfl hc) (fun a hf => ?_)
    refine R.nil ?_
    refine X.then_ ?_
    refine wp_seq ?_
    refine C.yes hf rfl ?_
    refine wp_skip ?_
    refine X.then_ ?_
    refine wp_seq ?_
    refine wp_block ?_
    refine wp_seq ?_
    refine R.list ?_
    refine S.val hf hs (v := .int .i64 (k1 : Int)) rfl rfl rfl (V.pure rfl) (fun a hf => ?_)
    refine S.val hf hs (v := .int .i64 (k1 : Int)) rfl rfl rfl (V.pure rfl) (fun a hf => ?_)
    refine R.nil ?_
    refine X.then_ ?_
    refine wp_seq ?_
    refine R.list ?_
    refine S.val hf hs (v := .func (.func 98) #[] #[.pointer (some ⟨nameg, 0, none⟩)]) rfl rfl rfl (V.pure rfl) (fun a hf => ?_)
    refine S.val hf hs (v := .slice s_A s_.length s_C) rfl rfl rfl (V.pure rfl) (fun a hf => ?_)
    refine S.val hf hs (v := .int .i64 (k1 : Int)) rfl rfl rfl (V.pure rfl) (fun a hf => ?_)
    refine S.val hf hs (v := elemPtr s_A (k1 * 2)) rfl rfl rfl (V.index rfl rfl rfl Try.runUnderlying23 Try.sizeOf35 (hv_s_.some_ (lt_of_get hxk1)) (Int.natCast_nonneg _) (lt_of_get hxk1) rfl) (fun a hf => ?_)
    refine S.val hf hs (v := .agg #[.string (ba xk1.Name), .string (ba xk1.Material)]) rfl rfl rfl (V.loadEl (off := 0) (Ag.args _ _ _) (hv_s_.flat hxk1) rfl rfl rfl Try.isAgg35 Try.sizeOf35 rfl rfl) (fun a hf => ?_)
    refine S.call hf rfl rfl rfl (call_run (args := #[.agg #[.string (ba xk1.Name), .string (ba xk1.Material)], .pointer (some ⟨nameg, 0, none⟩)]) rfl rfl rfl Try.call98 (by simp)) (R_find1 xk1 name _ nameg ((Ag.args _ _ _).elem hb_name hs) _ h) (fun v a w' hf hr => ?_)
    obtain ⟨y1, rfl, h2, hs2⟩ := hr
    replace h := h2; replace hs := hs.call hs2; clear h2 hs2
    refine R.nil ?_
    refine X.then_ ?_
    refine C.cond hf (b := y1) rfl (fun hc => ?_) (fun hc => ?_)
    · replace h := h.1 hc
      refine wp_seq ?_
      refine R.list ?_
      refine S.val hf hs (v := .int .i64 (k1 : Int)) rfl rfl rfl (V.pure rfl) (fun a hf => ?_)
      refine S.val hf hs (v := .int .i64 (k1 : Int)) rfl rfl rfl (V.pure rfl) (fun a hf => ?_)
      refine R.nil ?_
      refine X.then_ ?_
      refine wp_ret ?_
      refine X.blk_ret ?_
      refine X.then_ret ?_
      refine X.then_ret ?_
      refine X.blk_ret ?_
      refine X.then_ret ?_
      exact L.ret hf (run_results1 Try.results97 (ResIs.tmp hf rfl)) ⟨(k1 : Int), rfl, h, hs.nil⟩
    · replace h := h.2 hc
      refine wp_skip ?_
      refine X.blk ?_
      refine X.then_ ?_
      refine R.list ?_
      refine S.val hf hs (v := .int .i64 ((k1 + 1 : Nat) : Int)) rfl rfl rfl (V.incr rfl rfl rfl hltk1 hlenk1) (fun a hf => ?_)
      refine S.val hf hs (v := .int .i64 ((k1 + 1 : Nat) : Int)) rfl rfl rfl (V.pure rfl) (fun a hf => ?_)
      refine R.nil ?_
      refine X.then_ ?_
      exact ⟨xk1, llk1, rfl, k1 + 1, range_drop hlk1, range_len hkk1, (by rw [hnext1] at h; exact h), ((((hf.nil.cons (hf.get 7 _ rfl)).cons (hf.get 1 _ rfl)).cons (hf.get 0 _ rfl)).cons (hf.get 8 _ rfl)), hs⟩

set_option linter.unusedVariables false
def M_stack_find (s_ : (List Layer)) (name : Str) (Q : Int → Prop) : Prop :=
  M_index_layer s_ name fun y1 => Q y1
set_option maxHeartbeats 1000000 in
theorem R_stack_find (s_ : (List Layer)) (name : Str) (w0 : World) (s_A : Option Addr) (s_C : Nat) (hv_s_ : View w0 (old w0 none_) s_A s_C s_) (Q : Int → Prop) (h : M_stack_find s_ name Q) :
    Ret Try.prog 66 #[.slice s_A s_.length s_C, .string (ba name)] w0 fun v w' => ∃ (r0 : Int), v = .int .i64 r0 ∧ Q r0 ∧ Sat w0 none_ [] w' := by
  refine fn_enter Try.func66 rfl Try.ntmps66 rfl (fs := [(0, .slice s_A s_.length s_C), (1, .string (ba name))]) rfl (fun a hf => ?_)
  have hs := Sat.start w0 none_
  unfold M_stack_find at h
  refine wp_seq ?_
  refine R.list ?_
  refine S.box hf hs rfl rfl rfl [.string (ba name)] rfl rfl rfl (fun g1 a w hf hs => ?_)
  refine S.val hf hs (v := .int .i64 0) rfl rfl rfl (V.pure rfl) (fun a hf => ?_)
  refine R.nil ?_
  refine X.then_ ?_
  refine wp_seq ?_
  refine R.list ?_
  refine S.val hf hs (v := .slice s_A s_.length s_C) rfl rfl rfl (V.pure rfl) (fun a hf => ?_)
  refine S.val hf hs (v := .func (.func 98) #[] #[.pointer (some ⟨g1, 0, none⟩)]) rfl rfl rfl (V.pure rfl) (fun a hf => ?_)
  refine S.call hf rfl rfl rfl (call_fn (vs := [.slice s_A s_.length s_C, .func (.func 98) #[] #[.pointer (some ⟨g1, 0, none⟩)]]) rfl rfl rfl Try.call97) (R_index_layer s_ name _ s_A s_C ((Ag.args _ _ _).view hv_s_ hs) g1 (hs.boxAt 0 rfl) _ h) (fun v a w' hf hr => ?_)
  obtain ⟨y1, rfl, h2, hs2⟩ := hr
  replace h := h2; replace hs := hs.call hs2; clear h2 hs2
  refine S.val hf hs (v := .int .i64 y1) rfl rfl rfl (V.pure rfl) (fun a hf => ?_)
  refine R.nil ?_
  refine X.then_ ?_
  refine wp_ret ?_
  exact L.ret hf (run_results1 Try.results66 (ResIs.tmp hf rfl)) ⟨y1, rfl, h, hs.nil⟩

set_option linter.unusedVariables false
def M_ref4_placeOf_k2 (Q : Int → Prop) (k1 : Nat) (next1 : Prop) (c1 : Bool) : Prop :=
  cnd c1 (Q (k1 : Int)) (next1)
def M_ref4_placeOf_L1 (m : (List Material)) (name : Str) (Q : Int → Prop) (k1 : Nat) (xk1 : Layer)  (next1 : Prop) : Prop :=
  cnd (xk1.Name == name) (M_ref4_isCopper m xk1 fun y1 => M_ref4_placeOf_k2 Q k1 next1 y1) (M_ref4_placeOf_k2 Q k1 next1 false)
def M_ref4_placeOf (m : (List Material)) (s_ : (List Layer)) (name : Str) (Q : Int → Prop) : Prop :=
  forIn' (fun k x (s : Unit) next => M_ref4_placeOf_L1 m name Q k x (next ())) (fun (s : Unit) => Q (-1)) s_ 0 ()
set_option maxHeartbeats 1000000 in
theorem R_ref4_placeOf (m : (List Material)) (s_ : (List Layer)) (name : Str) (w0 : World) (mA : Option Addr) (mC : Nat) (hv_m : View w0 (old w0 none_) mA mC m) (s_A : Option Addr) (s_C : Nat) (hv_s_ : View w0 (old w0 none_) s_A s_C s_) (Q : Int → Prop) (h : M_ref4_placeOf m s_ name Q) :
    Ret Try.prog 67 #[.slice mA m.length mC, .slice s_A s_.length s_C, .string (ba name)] w0 fun v w' => ∃ (r0 : Int), v = .int .i64 r0 ∧ Q r0 ∧ Sat w0 none_ [] w' := by
  refine fn_enter Try.func67 rfl Try.ntmps67 rfl (fs := [(0, .slice mA m.length mC), (1, .slice s_A s_.length s_C), (2, .string (ba name))]) rfl (fun a hf => ?_)
  have hs := Sat.start w0 none_
  unfold M_ref4_placeOf at h
  refine wp_seq ?_
  refine R.list ?_
  refine S.val hf hs (v := .int .i64 0) rfl rfl rfl (V.pure rfl) (fun a hf => ?_)
  refine R.nil ?_
  refine X.then_ ?_
  refine wp_seq ?_
  refine wp_seq ?_
  refine R.list ?_
  refine S.val hf hs (v := .slice s_A s_.length s_C) rfl rfl rfl (V.pure rfl) (fun a hf => ?_)
  refine S.val hf hs (v := .int .i64 (s_.length : Int)) rfl rfl rfl (V.len rfl rfl Try.runUnderlying23) (fun a hf => ?_)
  refine S.val hf hs (v := .int .i64 0) rfl rfl rfl (V.pure rfl) (fun a hf => ?_)
  refine R.nil ?_
  refine X.then_ ?_
  refine wp_block ?_
  have hlenk1 := hv_s_.len64
  refine C.range (fun (ll : List Layer) a w => ∃ (k1 : Nat) , s_.drop k1 = ll ∧ k1 + ll.length = s_.length ∧ forIn' (fun k x (s : Unit) next => M_ref4_placeOf_L1 m name Q k x (next ())) (fun (s : Unit) => Q (-1)) ll k1 () ∧ FrOk 27 [(11, .int .i64 (k1 : Int)), (0, .slice mA m.length mC), (2, .string (ba name)), (9, .slice s_A s_.length s_C), (10, .int .i64 (s_.length : Int))] a ∧ Sat w0 none_ [] w) s_ ⟨0, rfl, Nat.zero_add _, h, (((((hf.nil.cons (hf.get 10 _ rfl)).cons (hf.get 9 _ rfl)).cons (hf.get 2 _ rfl)).cons (hf.get 0 _ rfl)).cons (hf.get 11 _ rfl)), hs⟩ ?_
  clear h hf hs
  rintro llk1 a w ⟨k1, hlk1, hkk1, h, hf, hs⟩
  cases llk1 with
  | nil =>
    have hc := range_done hkk1
    replace h : Q (-1) := h
    refine wp_seq ?_
    refine R.list ?_
    refine S.val hf hs (v := .bool false) rfl rfl rfl (V.cmp false rfl rfl rfl rfl hc) (fun a hf => ?_)
    refine R.nil ?_
    refine X.then_ ?_
    refine wp_seq ?_
    refine C.no hf rfl ?_
    refine wp_exit ?_
    refine X.then_exit ?_
    refine X.then_exit ?_
    refine X.blk_exit ?_
    refine X.then_ ?_
    refine wp_seq ?_
    refine R.list ?_
    refine S.val hf hs (v := .int .i64 (-1)) rfl rfl rfl (V.pure rfl) (fun a hf => ?_)
    refine R.nil ?_
    refine X.then_ ?_
    refine wp_ret ?_
    exact L.ret hf (run_results1 Try.results67 (ResIs.tmp hf rfl)) ⟨(-1), rfl, h, hs.nil⟩
  | cons xk1 llk1 =>
    have hltk1 := range_lt hkk1; have hc := range_go hkk1; have hxk1 := range_get hlk1
    obtain ⟨next1, hnext1⟩ : ∃ X : Prop, X = (forIn' (fun k x (s : Unit) next => M_ref4_placeOf_L1 m name Q k x (next ())) (fun (s : Unit) => Q (-1)) llk1 (k1 + 1) ()) := ⟨_, rfl⟩
    replace h : M_ref4_placeOf_L1 m name Q k1 xk1  next1 := by rw [hnext1]; exact h
    unfold M_ref4_placeOf_L1 at h
    refine wp_seq ?_
    refine R.list ?_
    refine S.val hf hs (v := .bool true) rfl rfl rfl (V.cmp true rfl rfl rfl rfl hc) (fun a hf => ?_)
    refine R.nil ?_
    refine X.then_ ?_
    refine wp_seq ?_
    refine C.yes hf rfl ?_
    refine wp_skip ?_
    refine X.then_ ?_
    refine wp_seq ?_
    refine wp_block ?_
    refine wp_seq ?_
    refine R.list ?_
    refine S.val hf hs (v := .int .i64 (k1 : Int)) rfl rfl rfl (V.pure rfl) (fun a hf => ?_)
    refine S.val hf hs (v := elemPtr s_A (k1 * 2)) rfl rfl rfl (V.index rfl rfl rfl Try.runUnderlying23 Try.sizeOf35 (hv_s_.some_ (lt_of_get hxk1)) (Int.natCast_nonneg _) (lt_of_get hxk1) rfl) (fun a hf => ?_)
    refine S.val hf hs (v := .agg #[.string (ba xk1.Name), .string (ba xk1.Material)]) rfl rfl rfl (V.loadEl (off := 0) (Ag.args _ _ _) (hv_s_.flat hxk1) rfl rfl rfl Try.isAgg35 Try.sizeOf35 rfl rfl) (fun a hf => ?_)
    refine S.alloc hf hs rfl rfl rfl [.string (ba []), .string (ba [])] rfl Try.zeroValue35 rfl (fun g1 a w hf hs => ?_)
    refine S.val hf hs (v := .int .i64 (k1 : Int)) rfl rfl rfl (V.pure rfl) (fun a hf => ?_)
    refine S.storeBox 0 hf hs rfl rfl [.string (ba xk1.Name), .string (ba xk1.Material)] [.string (ba xk1.Name), .string (ba xk1.Material)] rfl rfl rfl rfl rfl Try.sizeOf35 rfl rfl rfl rfl (fun a w hf hs => ?_)
    refine R.nil ?_
    refine X.then_ ?_
    refine wp_seq ?_
    refine C.cut (J := fun a w => ∃ (c1 : Bool), M_ref4_placeOf_k2 Q k1 next1 c1 ∧ FrOk 27 [(0, .slice mA m.length mC), (2, .string (ba name)), (7, .int .i64 (k1 : Int)), (9, .slice s_A s_.length s_C), (10, .int .i64 (s_.length : Int)), (11, .int .i64 (k1 : Int)), (24, .bool c1)] a ∧ Sat w0 none_ [hbox g1 35 [.string (ba xk1.Name), .string (ba xk1.Material)]] w) ?_ ?_
    · rintro a w ⟨c1, h, hf, hs⟩
      unfold M_ref4_placeOf_k2 at h
      refine C.cond hf (b := c1) rfl (fun hc => ?_) (fun hc => ?_)
      · replace h := h.1 hc
        refine wp_seq ?_
        refine R.list ?_
        refine S.val hf hs (v := .int .i64 (k1 : Int)) rfl rfl rfl (V.pure rfl) (fun a hf => ?_)
        refine S.val hf hs (v := .int .i64 (k1 : Int)) rfl rfl rfl (V.pure rfl) (fun a hf => ?_)
        refine R.nil ?_
        refine X.then_ ?_
        refine wp_ret ?_
        refine X.blk_ret ?_
        refine X.then_ret ?_
        refine X.then_ret ?_
        refine X.blk_ret ?_
        refine X.then_ret ?_
        exact L.ret hf (run_results1 Try.results67 (ResIs.tmp hf rfl)) ⟨(k1 : Int), rfl, h, hs.nil⟩
      · replace h := h.2 hc
        refine wp_skip ?_
        refine X.blk ?_
        refine X.then_ ?_
        refine R.list ?_
        refine S.val hf hs (v := .int .i64 ((k1 + 1 : Nat) : Int)) rfl rfl rfl (V.incr rfl rfl rfl hltk1 hlenk1) (fun a hf => ?_)
        refine S.val hf hs (v := .int .i64 ((k1 + 1 : Nat) : Int)) rfl rfl rfl (V.pure rfl) (fun a hf => ?_)
        refine R.nil ?_
        refine X.then_ ?_
        exact ⟨xk1, llk1, rfl, k1 + 1, range_drop hlk1, range_len hkk1, (by rw [hnext1] at h; exact h), (((((hf.nil.cons (hf.get 10 _ rfl)).cons (hf.get 9 _ rfl)).cons (hf.get 2 _ rfl)).cons (hf.get 0 _ rfl)).cons (hf.get 11 _ rfl)), hs.drop⟩
    · skip
      refine R.list ?_
      refine S.val hf hs (v := .pointer (some ⟨g1, 0, none⟩)) rfl rfl rfl (V.fieldBox rfl rfl Try.runUnderlying35 rfl Try.sizeOf9 rfl rfl) (fun a hf => ?_)
      refine S.val hf hs (v := .string (ba xk1.Name)) rfl rfl rfl (V.loadBox 0 rfl rfl rfl Try.isAgg9 Try.sizeOf9 rfl rfl) (fun a hf => ?_)
      refine S.val hf hs (v := .string (ba name)) rfl rfl rfl (V.pure rfl) (fun a hf => ?_)
      refine S.val hf hs (v := .bool (xk1.Name == name)) rfl rfl rfl (V.strCmp (xk1.Name == name) rfl rfl rfl rfl) (fun a hf => ?_)
      refine S.split hf hs (b := xk1.Name == name) rfl rfl rfl (V.pure rfl) (fun hc a hf => ?_) (fun hc a hf => ?_)
      · replace h := h.1 hc
        refine S.val hf hs (v := .slice mA m.length mC) rfl rfl rfl (V.pure rfl) (fun a hf => ?_)
        refine S.val hf hs (v := .agg #[.string (ba xk1.Name), .string (ba xk1.Material)]) rfl rfl rfl (V.loadBox 0 rfl rfl rfl Try.isAgg35 Try.sizeOf35 rfl rfl) (fun a hf => ?_)
        refine S.call hf rfl rfl rfl (call_fn (vs := [.slice mA m.length mC, .agg #[.string (ba xk1.Name), .string (ba xk1.Material)]]) rfl rfl rfl Try.call65) (R_ref4_isCopper m xk1 _ mA mC ((Ag.args _ _ _).view hv_m hs) _ h) (fun v a w' hf hr => ?_)
        obtain ⟨y1, rfl, h2, hs2⟩ := hr
        replace h := h2; replace hs := hs.call hs2; clear h2 hs2
        refine S.val hf hs (v := .bool y1) rfl rfl rfl (V.pure rfl) (fun a hf => ?_)
        refine R.nil ?_
        refine X.then_ ?_
        exact ⟨y1, h, (((((((hf.nil.cons (hf.get 24 _ rfl)).cons (hf.get 11 _ rfl)).cons (hf.get 10 _ rfl)).cons (hf.get 9 _ rfl)).cons (hf.get 7 _ rfl)).cons (hf.get 2 _ rfl)).cons (hf.get 0 _ rfl)), hs⟩
      · replace h := h.2 hc
        refine S.skip hf rfl rfl rfl (fun a hf => ?_)
        refine S.skip hf rfl rfl rfl (fun a hf => ?_)
        refine S.skip hf rfl rfl rfl (fun a hf => ?_)
        refine S.val hf hs (v := .bool false) rfl rfl rfl (V.pure rfl) (fun a hf => ?_)
        refine R.nil ?_
        refine X.then_ ?_
        exact ⟨false, h, (((((((hf.nil.cons (hf.get 24 _ rfl)).cons (hf.get 11 _ rfl)).cons (hf.get 10 _ rfl)).cons (hf.get 9 _ rfl)).cons (hf.get 7 _ rfl)).cons (hf.get 2 _ rfl)).cons (hf.get 0 _ rfl)), hs⟩

set_option linter.unusedVariables false
def M_stack_Depth (m : (List Material)) (s_ : (List Layer)) (name : Str) (Q : Int → Int → Prop) : Prop :=
  M_stack_CheckStack m s_ fun y1 => cnd (y1 != 0) (Q 0 y1) (M_stack_find s_ name fun y2 => cnd (decide (y2 < 0)) (Q 0 9) (must (0 ≤ (0 : Int) ∧ (0 : Int) ≤ y2 ∧ y2 ≤ (s_.length : Int)) (M_stack_thick m (seg s_ (0 : Int) y2) fun y3 => Q y3 0)))
set_option maxHeartbeats 1000000 in
theorem R_stack_Depth (m : (List Material)) (s_ : (List Layer)) (name : Str) (w0 : World) (mA : Option Addr) (mC : Nat) (hv_m : View w0 (old w0 none_) mA mC m) (s_A : Option Addr) (s_C : Nat) (hv_s_ : View w0 (old w0 none_) s_A s_C s_) (Q : Int → Int → Prop) (h : M_stack_Depth m s_ name Q) :
    Ret Try.prog 21 #[.slice mA m.length mC, .slice s_A s_.length s_C, .string (ba name)] w0 fun v w' => ∃ (r0 : Int) (r1 : Int), v = .tuple #[.int .i64 r0, .int .i64 r1] ∧ Q r0 r1 ∧ Sat w0 none_ [] w' := by
  refine fn_enter Try.func21 rfl Try.ntmps21 rfl (fs := [(0, .slice mA m.length mC), (1, .slice s_A s_.length s_C), (2, .string (ba name))]) rfl (fun a hf => ?_)
  have hs := Sat.start w0 none_
  unfold M_stack_Depth at h
  refine wp_seq ?_
  refine R.list ?_
  refine S.val hf hs (v := .int .i64 0) rfl rfl rfl (V.pure rfl) (fun a hf => ?_)
  refine S.val hf hs (v := .int .i64 0) rfl rfl rfl (V.pure rfl) (fun a hf => ?_)
  refine R.nil ?_
  refine X.then_ ?_
  refine wp_seq ?_
  refine wp_seq ?_
  refine R.list ?_
  refine S.val hf hs (v := .slice mA m.length mC) rfl rfl rfl (V.pure rfl) (fun a hf => ?_)
  refine S.val hf hs (v := .slice s_A s_.length s_C) rfl rfl rfl (V.pure rfl) (fun a hf => ?_)
  refine S.call hf rfl rfl rfl (call_fn (vs := [.slice mA m.length mC, .slice s_A s_.length s_C]) rfl rfl rfl Try.call18) (R_stack_CheckStack m s_ _ mA mC ((Ag.args _ _ _).view hv_m hs) s_A s_C ((Ag.args _ _ _).view hv_s_ hs) _ h) (fun v a w' hf hr => ?_)
  obtain ⟨y1, rfl, h2, hs2⟩ := hr
  replace h := h2; replace hs := hs.call hs2; clear h2 hs2
  refine S.val hf hs (v := .int .i64 y1) rfl rfl rfl (V.pure rfl) (fun a hf => ?_)
  refine R.nil ?_
  refine X.then_ ?_
  refine wp_seq ?_
  refine R.list ?_
  refine S.val hf hs (v := .int .i64 y1) rfl rfl rfl (V.pure rfl) (fun a hf => ?_)
  refine S.val hf hs (v := .bool (y1 != 0)) rfl rfl rfl (V.pure rfl) (fun a hf => ?_)
  refine R.nil ?_
  refine X.then_ ?_
  refine C.cond hf (b := y1 != 0) rfl (fun hc => ?_) (fun hc => ?_)
  · replace h := h.1 hc
    refine wp_seq ?_
    refine R.list ?_
    refine S.val hf hs (v := .int .i64 y1) rfl rfl rfl (V.pure rfl) (fun a hf => ?_)
    refine S.val hf hs (v := .int .i64 0) rfl rfl rfl (V.pure rfl) (fun a hf => ?_)
    refine S.val hf hs (v := .int .i64 y1) rfl rfl rfl (V.pure rfl) (fun a hf => ?_)
    refine R.nil ?_
    refine X.then_ ?_
    refine wp_ret ?_
    refine X.then_ret ?_
    exact L.ret hf (run_results2 Try.results21 (ResIs.tmp hf rfl) (ResIs.tmp hf rfl)) ⟨0, y1, rfl, h, hs.nil⟩
  · replace h := h.2 hc
    refine wp_skip ?_
    refine X.then_ ?_
    refine wp_seq ?_
    refine R.list ?_
    refine S.val hf hs (v := .slice s_A s_.length s_C) rfl rfl rfl (V.pure rfl) (fun a hf => ?_)
    refine S.val hf hs (v := .string (ba name)) rfl rfl rfl (V.pure rfl) (fun a hf => ?_)
    refine S.call hf rfl rfl rfl (call_fn (vs := [.slice s_A s_.length s_C, .string (ba name)]) rfl rfl rfl Try.call66) (R_stack_find s_ name _ s_A s_C ((Ag.args _ _ _).view hv_s_ hs) _ h) (fun v a w' hf hr => ?_)
    obtain ⟨y2, rfl, h2, hs2⟩ := hr
    replace h := h2; replace hs := hs.call hs2; clear h2 hs2
    refine S.val hf hs (v := .int .i64 y2) rfl rfl rfl (V.pure rfl) (fun a hf => ?_)
    refine R.nil ?_
    refine X.then_ ?_
    refine wp_seq ?_
    refine wp_seq ?_
    refine R.list ?_
    refine S.val hf hs (v := .int .i64 y2) rfl rfl rfl (V.pure rfl) (fun a hf => ?_)
    refine S.val hf hs (v := .bool (decide (y2 < 0))) rfl rfl rfl (V.pure rfl) (fun a hf => ?_)
    refine R.nil ?_
    refine X.then_ ?_
    refine C.cond hf (b := decide (y2 < 0)) rfl (fun hc => ?_) (fun hc => ?_)
    · replace h := h.1 hc
      refine wp_seq ?_
      refine R.list ?_
      refine S.val hf hs (v := .int .i64 0) rfl rfl rfl (V.pure rfl) (fun a hf => ?_)
      refine S.val hf hs (v := .int .i64 9) rfl rfl rfl (V.pure rfl) (fun a hf => ?_)
      refine R.nil ?_
      refine X.then_ ?_
      refine wp_ret ?_
      refine X.then_ret ?_
      exact L.ret hf (run_results2 Try.results21 (ResIs.tmp hf rfl) (ResIs.tmp hf rfl)) ⟨0, 9, rfl, h, hs.nil⟩
    · replace h := h.2 hc
      refine wp_skip ?_
      refine X.then_ ?_
      refine wp_seq ?_
      refine R.list ?_
      refine S.val hf hs (v := .slice mA m.length mC) rfl rfl rfl (V.pure rfl) (fun a hf => ?_)
      refine S.val hf hs (v := .slice s_A s_.length s_C) rfl rfl rfl (V.pure rfl) (fun a hf => ?_)
      refine S.val hf hs (v := .int .i64 y2) rfl rfl rfl (V.pure rfl) (fun a hf => ?_)
      obtain ⟨hp1, h⟩ := h
      refine S.val hf hs (v := .slice (segA s_A s_C ((0 : Int) : Int).toNat 2) (seg s_ (0 : Int) y2).length (s_C - ((0 : Int) : Int).toNat)) rfl rfl rfl (V.slice rfl rfl rfl rfl Try.runUnderlying23 Try.sizeOf35 rfl rfl hp1 hv_s_.cap (seg_length (by have := hp1.2.2; omega))) (fun a hf => ?_)
      refine S.call hf rfl rfl rfl (call_fn (vs := [.slice mA m.length mC, .slice (segA s_A s_C ((0 : Int) : Int).toNat 2) (seg s_ (0 : Int) y2).length (s_C - ((0 : Int) : Int).toNat)]) rfl rfl rfl Try.call54) (R_stack_thick m (seg s_ (0 : Int) y2) _ mA mC ((Ag.args _ _ _).view hv_m hs) (segA s_A s_C ((0 : Int) : Int).toNat 2) (s_C - ((0 : Int) : Int).toNat) ((Ag.args _ _ _).view (View.sub hv_s_ hp1) hs) _ h) (fun v a w' hf hr => ?_)
      obtain ⟨y3, rfl, h2, hs2⟩ := hr
      replace h := h2; replace hs := hs.call hs2; clear h2 hs2
      refine S.val hf hs (v := .int .i64 y3) rfl rfl rfl (V.pure rfl) (fun a hf => ?_)
      refine S.val hf hs (v := .int .i64 0) rfl rfl rfl (V.pure rfl) (fun a hf => ?_)
      refine R.nil ?_
      refine X.then_ ?_
      refine wp_ret ?_
      exact L.ret hf (run_results2 Try.results21 (ResIs.tmp hf rfl) (ResIs.tmp hf rfl)) ⟨y3, 0, rfl, h, hs.nil⟩

set_option linter.unusedVariables false
def M_ref4_Depth (m : (List Material)) (s_ : (List Layer)) (name : Str) (Q : Int → Int → Prop) : Prop :=
  M_ref4_CheckStack m s_ fun y1 => cnd (y1 != 0) (Q 0 y1) (M_ref4_placeOf m s_ name fun y2 => cnd (decide (y2 < 0)) (Q 0 9) (must (0 ≤ (0 : Int) ∧ (0 : Int) ≤ y2 ∧ y2 ≤ (s_.length : Int)) (M_ref4_thickness m (seg s_ (0 : Int) y2) fun y3 => Q y3 0)))
set_option maxHeartbeats 1000000 in
theorem R_ref4_Depth (m : (List Material)) (s_ : (List Layer)) (name : Str) (w0 : World) (mA : Option Addr) (mC : Nat) (hv_m : View w0 (old w0 none_) mA mC m) (s_A : Option Addr) (s_C : Nat) (hv_s_ : View w0 (old w0 none_) s_A s_C s_) (Q : Int → Int → Prop) (h : M_ref4_Depth m s_ name Q) :
    Ret Try.prog 22 #[.slice mA m.length mC, .slice s_A s_.length s_C, .string (ba name)] w0 fun v w' => ∃ (r0 : Int) (r1 : Int), v = .tuple #[.int .i64 r0, .int .i64 r1] ∧ Q r0 r1 ∧ Sat w0 none_ [] w' := by
  refine fn_enter Try.func22 rfl Try.ntmps22 rfl (fs := [(0, .slice mA m.length mC), (1, .slice s_A s_.length s_C), (2, .string (ba name))]) rfl (fun a hf => ?_)
  have hs := Sat.start w0 none_
  unfold M_ref4_Depth at h
  refine wp_seq ?_
  refine R.list ?_
  refine S.val hf hs (v := .int .i64 0) rfl rfl rfl (V.pure rfl) (fun a hf => ?_)
  refine S.val hf hs (v := .int .i64 0) rfl rfl rfl (V.pure rfl) (fun a hf => ?_)
  refine R.nil ?_
  refine X.then_ ?_
  refine wp_seq ?_
  refine wp_seq ?_
  refine R.list ?_
  refine S.val hf hs (v := .slice mA m.length mC) rfl rfl rfl (V.pure rfl) (fun a hf => ?_)
  refine S.val hf hs (v := .slice s_A s_.length s_C) rfl rfl rfl (V.pure rfl) (fun a hf => ?_)
  refine S.call hf rfl rfl rfl (call_fn (vs := [.slice mA m.length mC, .slice s_A s_.length s_C]) rfl rfl rfl Try.call19) (R_ref4_CheckStack m s_ _ mA mC ((Ag.args _ _ _).view hv_m hs) s_A s_C ((Ag.args _ _ _).view hv_s_ hs) _ h) (fun v a w' hf hr => ?_)
  obtain ⟨y1, rfl, h2, hs2⟩ := hr
  replace h := h2; replace hs := hs.call hs2; clear h2 hs2
  refine S.val hf hs (v := .int .i64 y1) rfl rfl rfl (V.pure rfl) (fun a hf => ?_)
  refine R.nil ?_
  refine X.then_ ?_
  refine wp_seq ?_
  refine R.list ?_
  refine S.val hf hs (v := .int .i64 y1) rfl rfl rfl (V.pure rfl) (fun a hf => ?_)
  refine S.val hf hs (v := .bool (y1 != 0)) rfl rfl rfl (V.pure rfl) (fun a hf => ?_)
  refine R.nil ?_
  refine X.then_ ?_
  refine C.cond hf (b := y1 != 0) rfl (fun hc => ?_) (fun hc => ?_)
  · replace h := h.1 hc
    refine wp_seq ?_
    refine R.list ?_
    refine S.val hf hs (v := .int .i64 y1) rfl rfl rfl (V.pure rfl) (fun a hf => ?_)
    refine S.val hf hs (v := .int .i64 0) rfl rfl rfl (V.pure rfl) (fun a hf => ?_)
    refine S.val hf hs (v := .int .i64 y1) rfl rfl rfl (V.pure rfl) (fun a hf => ?_)
    refine R.nil ?_
    refine X.then_ ?_
    refine wp_ret ?_
    refine X.then_ret ?_
    exact L.ret hf (run_results2 Try.results22 (ResIs.tmp hf rfl) (ResIs.tmp hf rfl)) ⟨0, y1, rfl, h, hs.nil⟩
  · replace h := h.2 hc
    refine wp_skip ?_
    refine X.then_ ?_
    refine wp_seq ?_
    refine R.list ?_
    refine S.val hf hs (v := .slice mA m.length mC) rfl rfl rfl (V.pure rfl) (fun a hf => ?_)
    refine S.val hf hs (v := .slice s_A s_.length s_C) rfl rfl rfl (V.pure rfl) (fun a hf => ?_)
    refine S.val hf hs (v := .string (ba name)) rfl rfl rfl (V.pure rfl) (fun a hf => ?_)
    refine S.call hf rfl rfl rfl (call_fn (vs := [.slice mA m.length mC, .slice s_A s_.length s_C, .string (ba name)]) rfl rfl rfl Try.call67) (R_ref4_placeOf m s_ name _ mA mC ((Ag.args _ _ _).view hv_m hs) s_A s_C ((Ag.args _ _ _).view hv_s_ hs) _ h) (fun v a w' hf hr => ?_)
    obtain ⟨y2, rfl, h2, hs2⟩ := hr
    replace h := h2; replace hs := hs.call hs2; clear h2 hs2
    refine S.val hf hs (v := .int .i64 y2) rfl rfl rfl (V.pure rfl) (fun a hf => ?_)
    refine R.nil ?_
    refine X.then_ ?_
    refine wp_seq ?_
    refine wp_seq ?_
    refine R.list ?_
    refine S.val hf hs (v := .int .i64 y2) rfl rfl rfl (V.pure rfl) (fun a hf => ?_)
    refine S.val hf hs (v := .bool (decide (y2 < 0))) rfl rfl rfl (V.pure rfl) (fun a hf => ?_)
    refine R.nil ?_
    refine X.then_ ?_
    refine C.cond hf (b := decide (y2 < 0)) rfl (fun hc => ?_) (fun hc => ?_)
    · replace h := h.1 hc
      refine wp_seq ?_
      refine R.list ?_
      refine S.val hf hs (v := .int .i64 0) rfl rfl rfl (V.pure rfl) (fun a hf => ?_)
      refine S.val hf hs (v := .int .i64 9) rfl rfl rfl (V.pure rfl) (fun a hf => ?_)
      refine R.nil ?_
      refine X.then_ ?_
      refine wp_ret ?_
      refine X.then_ret ?_
      exact L.ret hf (run_results2 Try.results22 (ResIs.tmp hf rfl) (ResIs.tmp hf rfl)) ⟨0, 9, rfl, h, hs.nil⟩
    · replace h := h.2 hc
      refine wp_skip ?_
      refine X.then_ ?_
      refine wp_seq ?_
      refine R.list ?_
      refine S.val hf hs (v := .slice mA m.length mC) rfl rfl rfl (V.pure rfl) (fun a hf => ?_)
      refine S.val hf hs (v := .slice s_A s_.length s_C) rfl rfl rfl (V.pure rfl) (fun a hf => ?_)
      refine S.val hf hs (v := .int .i64 y2) rfl rfl rfl (V.pure rfl) (fun a hf => ?_)
      obtain ⟨hp1, h⟩ := h
      refine S.val hf hs (v := .slice (segA s_A s_C ((0 : Int) : Int).toNat 2) (seg s_ (0 : Int) y2).length (s_C - ((0 : Int) : Int).toNat)) rfl rfl rfl (V.slice rfl rfl rfl rfl Try.runUnderlying23 Try.sizeOf35 rfl rfl hp1 hv_s_.cap (seg_length (by have := hp1.2.2; omega))) (fun a hf => ?_)
      refine S.call hf rfl rfl rfl (call_fn (vs := [.slice mA m.length mC, .slice (segA s_A s_C ((0 : Int) : Int).toNat 2) (seg s_ (0 : Int) y2).length (s_C - ((0 : Int) : Int).toNat)]) rfl rfl rfl Try.call55) (R_ref4_thickness m (seg s_ (0 : Int) y2) _ mA mC ((Ag.args _ _ _).view hv_m hs) (segA s_A s_C ((0 : Int) : Int).toNat 2) (s_C - ((0 : Int) : Int).toNat) ((Ag.args _ _ _).view (View.sub hv_s_ hp1) hs) _ h) (fun v a w' hf hr => ?_)
      obtain ⟨y3, rfl, h2, hs2⟩ := hr
      replace h := h2; replace hs := hs.call hs2; clear h2 hs2
      refine S.val hf hs (v := .int .i64 y3) rfl rfl rfl (V.pure rfl) (fun a hf => ?_)
      refine S.val hf hs (v := .int .i64 0) rfl rfl rfl (V.pure rfl) (fun a hf => ?_)
      refine R.nil ?_
      refine X.then_ ?_
      refine wp_ret ?_
      exact L.ret hf (run_results2 Try.results22 (ResIs.tmp hf rfl) (ResIs.tmp hf rfl)) ⟨y3, 0, rfl, h, hs.nil⟩

set_option linter.unusedVariables false
def M_stack_Apart_k1 (m : (List Material)) (s_ : (List Layer)) (Q : Int → Int → Prop) (y2 : Int) (y3 : Int) (c1 : Bool) : Prop :=
  cnd c1 (Q 0 9) (cnd (y2 == y3) (Q 0 0) (must (0 ≤ w64 ((min y2 y3) + 1) ∧ w64 ((min y2 y3) + 1) ≤ max y2 y3 ∧ max y2 y3 ≤ (s_.length : Int)) (M_stack_thick m (seg s_ (w64 ((min y2 y3) + 1)) (max y2 y3)) fun y4 => Q y4 0)))
def M_stack_Apart (m : (List Material)) (s_ : (List Layer)) (a_ : Str) (b : Str) (Q : Int → Int → Prop) : Prop :=
  M_stack_CheckStack m s_ fun y1 => cnd (y1 != 0) (Q 0 y1) (M_stack_find s_ a_ fun y2 => M_stack_find s_ b fun y3 => cnd (decide (y2 < 0)) (M_stack_Apart_k1 m s_ Q y2 y3 true) (M_stack_Apart_k1 m s_ Q y2 y3 (decide (y3 < 0))))
set_option maxHeartbeats 1000000 in
theorem R_stack_Apart (m : (List Material)) (s_ : (List Layer)) (a_ : Str) (b : Str) (w0 : World) (mA : Option Addr) (mC : Nat) (hv_m : View w0 (old w0 none_) mA mC m) (s_A : Option Addr) (s_C : Nat) (hv_s_ : View w0 (old w0 none_) s_A s_C s_) (Q : Int → Int → Prop) (h : M_stack_Apart m s_ a_ b Q) :
    Ret Try.prog 23 #[.slice mA m.length mC, .slice s_A s_.length s_C, .string (ba a_), .string (ba b)] w0 fun v w' => ∃ (r0 : Int) (r1 : Int), v = .tuple #[.int .i64 r0, .int .i64 r1] ∧ Q r0 r1 ∧ Sat w0 none_ [] w' := by
  refine fn_enter Try.func23 rfl Try.ntmps23 rfl (fs := [(0, .slice mA m.length mC), (1, .slice s_A s_.length s_C), (2, .string (ba a_)), (3, .string (ba b))]) rfl (fun a hf => ?_)
  have hs := Sat.start w0 none_
  unfold M_stack_Apart at h
  refine wp_seq ?_
  refine R.list ?_
  refine S.val hf hs (v := .int .i64 0) rfl rfl rfl (V.pure rfl) (fun a hf => ?_)
  refine S.val hf hs (v := .int .i64 0) rfl rfl rfl (V.pure rfl) (fun a hf => ?_)
  refine R.nil ?_
  refine X.then_ ?_
  refine wp_seq ?_
  refine wp_seq ?_
  refine R.list ?_
  refine S.val hf hs (v := .slice mA m.length mC) rfl rfl rfl (V.pure rfl) (fun a hf => ?_)
  refine S.val hf hs (v := .slice s_A s_.length s_C) rfl rfl rfl (V.pure rfl) (fun a hf => ?_)
  refine S.call hf rfl rfl rfl (call_fn (vs := [.slice mA m.length mC, .slice s_A s_.length s_C]) rfl rfl rfl Try.call18) (R_stack_CheckStack m s_ _ mA mC ((Ag.args _ _ _).view hv_m hs) s_A s_C ((Ag.args _ _ _).view hv_s_ hs) _ h) (fun v a w' hf hr => ?_)
  obtain ⟨y1, rfl, h2, hs2⟩ := hr
  replace h := h2; replace hs := hs.call hs2; clear h2 hs2
  refine S.val hf hs (v := .int .i64 y1) rfl rfl rfl (V.pure rfl) (fun a hf => ?_)
  refine R.nil ?_
  refine X.then_ ?_
  refine wp_seq ?_
  refine R.list ?_
  refine S.val hf hs (v := .int .i64 y1) rfl rfl rfl (V.pure rfl) (fun a hf => ?_)
  refine S.val hf hs (v := .bool (y1 != 0)) rfl rfl rfl (V.pure rfl) (fun a hf => ?_)
  refine R.nil ?_
  refine X.then_ ?_
  refine C.cond hf (b := y1 != 0) rfl (fun hc => ?_) (fun hc => ?_)
  · replace h := h.1 hc
    refine wp_seq ?_
    refine R.list ?_
    refine S.val hf hs (v := .int .i64 y1) rfl rfl rfl (V.pure rfl) (fun a hf => ?_)
    refine S.val hf hs (v := .int .i64 0) rfl rfl rfl (V.pure rfl) (fun a hf => ?_)
    refine S.val hf hs (v := .int .i64 y1) rfl rfl rfl (V.pure rfl) (fun a hf => ?_)
    refine R.nil ?_
    refine X.then_ ?_
    refine wp_ret ?_
    refine X.then_ret ?_
    exact L.ret hf (run_results2 Try.results23 (ResIs.tmp hf rfl) (ResIs.tmp hf rfl)) ⟨0, y1, rfl, h, hs.nil⟩
  · replace h := h.2 hc
    refine wp_skip ?_
    refine X.then_ ?_
    refine wp_seq ?_
    refine R.list ?_
    refine S.val hf hs (v := .slice s_A s_.length s_C) rfl rfl rfl (V.pure rfl) (fun a hf => ?_)
    refine S.val hf hs (v := .string (ba a_)) rfl rfl rfl (V.pure rfl) (fun a hf => ?_)
    refine S.call hf rfl rfl rfl (call_fn (vs := [.slice s_A s_.length s_C, .string (ba a_)]) rfl rfl rfl Try.call66) (R_stack_find s_ a_ _ s_A s_C ((Ag.args _ _ _).view hv_s_ hs) _ h) (fun v a w' hf hr => ?_)
    obtain ⟨y2, rfl, h2, hs2⟩ := hr
    replace h := h2; replace hs := hs.call hs2; clear h2 hs2
    refine S.val hf hs (v := .slice s_A s_.length s_C) rfl rfl rfl (V.pure rfl) (fun a hf => ?_)
    refine S.val hf hs (v := .string (ba b)) rfl rfl rfl (V.pure rfl) (fun a hf => ?_)
    refine S.call hf rfl rfl rfl (call_fn (vs := [.slice s_A s_.length s_C, .string (ba b)]) rfl rfl rfl Try.call66) (R_stack_find s_ b _ s_A s_C ((Ag.args _ _ _).view hv_s_ hs) _ h) (fun v a w' hf hr => ?_)
    obtain ⟨y3, rfl, h2, hs2⟩ := hr
    replace h := h2; replace hs := hs.call hs2; clear h2 hs2
    refine S.val hf hs (v := .int .i64 y2) rfl rfl rfl (V.pure rfl) (fun a hf => ?_)
    refine S.val hf hs (v := .int .i64 y3) rfl rfl rfl (V.pure rfl) (fun a hf => ?_)
    refine R.nil ?_
    refine X.then_ ?_
    refine wp_seq ?_
    refine wp_seq ?_
    refine C.cut (J := fun a w => ∃ (c1 : Bool), M_stack_Apart_k1 m s_ Q y2 y3 c1 ∧ FrOk 45 [(0, .slice mA m.length mC), (1, .slice s_A s_.length s_C), (11, .int .i64 y2), (12, .int .i64 y3), (30, .bool c1)] a ∧ Sat w0 none_ [] w) ?_ ?_
    · rintro a w ⟨c1, h, hf, hs⟩
      unfold M_stack_Apart_k1 at h
      refine C.cond hf (b := c1) rfl (fun hc => ?_) (fun hc => ?_)
      · replace h := h.1 hc
        refine wp_seq ?_
        refine R.list ?_
        refine S.val hf hs (v := .int .i64 0) rfl rfl rfl (V.pure rfl) (fun a hf => ?_)
        refine S.val hf hs (v := .int .i64 9) rfl rfl rfl (V.pure rfl) (fun a hf => ?_)
        refine R.nil ?_
        refine X.then_ ?_
        refine wp_ret ?_
        refine X.then_ret ?_
        exact L.ret hf (run_results2 Try.results23 (ResIs.tmp hf rfl) (ResIs.tmp hf rfl)) ⟨0, 9, rfl, h, hs.nil⟩
      · replace h := h.2 hc
        refine wp_skip ?_
        refine X.then_ ?_
        refine wp_seq ?_
        refine wp_seq ?_
        refine R.list ?_
        refine S.val hf hs (v := .int .i64 y2) rfl rfl rfl (V.pure rfl) (fun a hf => ?_)
        refine S.val hf hs (v := .int .i64 y3) rfl rfl rfl (V.pure rfl) (fun a hf => ?_)
        refine S.val hf hs (v := .bool (y2 == y3)) rfl rfl rfl (V.pure rfl) (fun a hf => ?_)
        refine R.nil ?_
        refine X.then_ ?_
        refine C.cond hf (b := y2 == y3) rfl (fun hc => ?_) (fun hc => ?_)
        · replace h := h.1 hc
          refine wp_seq ?_
          refine R.list ?_
          refine S.val hf hs (v := .int .i64 0) rfl rfl rfl (V.pure rfl) (fun a hf => ?_)
          refine S.val hf hs (v := .int .i64 0) rfl rfl rfl (V.pure rfl) (fun a hf => ?_)
          refine R.nil ?_
          refine X.then_ ?_
          refine wp_ret ?_
          refine X.then_ret ?_
          exact L.ret hf (run_results2 Try.results23 (ResIs.tmp hf rfl) (ResIs.tmp hf rfl)) ⟨0, 0, rfl, h, hs.nil⟩
        · replace h := h.2 hc
          refine wp_skip ?_
          refine X.then_ ?_
          refine wp_seq ?_
          refine R.list ?_
          refine S.val hf hs (v := .slice mA m.length mC) rfl rfl rfl (V.pure rfl) (fun a hf => ?_)
          refine S.val hf hs (v := .slice s_A s_.length s_C) rfl rfl rfl (V.pure rfl) (fun a hf => ?_)
          refine S.val hf hs (v := .int .i64 y2) rfl rfl rfl (V.pure rfl) (fun a hf => ?_)
          refine S.val hf hs (v := .int .i64 y3) rfl rfl rfl (V.pure rfl) (fun a hf => ?_)
          refine S.val hf hs (v := .int .i64 (min y2 y3)) rfl rfl rfl (V.min2 rfl rfl rfl) (fun a hf => ?_)
          refine S.val hf hs (v := .int .i64 (w64 ((min y2 y3) + 1))) rfl rfl rfl (V.pure rfl) (fun a hf => ?_)
          refine S.val hf hs (v := .int .i64 y2) rfl rfl rfl (V.pure rfl) (fun a hf => ?_)
          refine S.val hf hs (v := .int .i64 y3) rfl rfl rfl (V.pure rfl) (fun a hf => ?_)
          refine S.val hf hs (v := .int .i64 (max y2 y3)) rfl rfl rfl (V.max2 rfl rfl rfl) (fun a hf => ?_)
          obtain ⟨hp1, h⟩ := h
          refine S.val hf hs (v := .slice (segA s_A s_C (w64 ((min y2 y3) + 1) : Int).toNat 2) (seg s_ (w64 ((min y2 y3) + 1)) (max y2 y3)).length (s_C - (w64 ((min y2 y3) + 1) : Int).toNat)) rfl rfl rfl (V.slice rfl rfl rfl rfl Try.runUnderlying23 Try.sizeOf35 rfl rfl hp1 hv_s_.cap (seg_length (by have := hp1.2.2; omega))) (fun a hf => ?_)
          refine S.call hf rfl rfl rfl (call_fn (vs := [.slice mA m.length mC, .slice (segA s_A s_C (w64 ((min y2 y3) + 1) : Int).toNat 2) (seg s_ (w64 ((min y2 y3) + 1)) (max y2 y3)).length (s_C - (w64 ((min y2 y3) + 1) : Int).toNat)]) rfl rfl rfl Try.call54) (R_stack_thick m (seg s_ (w64 ((min y2 y3) + 1)) (max y2 y3)) _ mA mC ((Ag.args _ _ _).view hv_m hs) (segA s_A s_C (w64 ((min y2 y3) + 1) : Int).toNat 2) (s_C - (w64 ((min y2 y3) + 1) : Int).toNat) ((Ag.args _ _ _).view (View.sub hv_s_ hp1) hs) _ h) (fun v a w' hf hr => ?_)
          obtain ⟨y4, rfl, h2, hs2⟩ := hr
          replace h := h2; replace hs := hs.call hs2; clear h2 hs2
          refine S.val hf hs (v := .int .i64 y4) rfl rfl rfl (V.pure rfl) (fun a hf => ?_)
          refine S.val hf hs (v := .int .i64 0) rfl rfl rfl (V.pure rfl) (fun a hf => ?_)
          refine R.nil ?_
          refine X.then_ ?_
          refine wp_ret ?_
          exact L.ret hf (run_results2 Try.results23 (ResIs.tmp hf rfl) (ResIs.tmp hf rfl)) ⟨y4, 0, rfl, h, hs.nil⟩
    · skip
      refine R.list ?_
      refine S.val hf hs (v := .int .i64 y2) rfl rfl rfl (V.pure rfl) (fun a hf => ?_)
      refine S.val hf hs (v := .bool (decide (y2 < 0))) rfl rfl rfl (V.pure rfl) (fun a hf => ?_)
      refine S.split hf hs (b := decide (y2 < 0)) rfl rfl rfl (V.pure rfl) (fun hc a hf => ?_) (fun hc a hf => ?_)
      · replace h := h.1 hc
        refine S.skip hf rfl rfl rfl (fun a hf => ?_)
        refine S.skip hf rfl rfl rfl (fun a hf => ?_)
        refine S.val hf hs (v := .bool true) rfl rfl rfl (V.pure rfl) (fun a hf => ?_)
        refine R.nil ?_
        refine X.then_ ?_
        exact ⟨true, h, (((((hf.nil.cons (hf.get 30 _ rfl)).cons (hf.get 12 _ rfl)).cons (hf.get 11 _ rfl)).cons (hf.get 1 _ rfl)).cons (hf.get 0 _ rfl)), hs⟩
      · replace h := h.2 hc
        refine S.val hf hs (v := .int .i64 y3) rfl rfl rfl (V.pure rfl) (fun a hf => ?_)
        refine S.val hf hs (v := .bool (decide (y3 < 0))) rfl rfl rfl (V.pure rfl) (fun a hf => ?_)
        refine S.val hf hs (v := .bool (decide (y3 < 0))) rfl rfl rfl (V.pure rfl) (fun a hf => ?_)
        refine R.nil ?_
        refine X.then_ ?_
        exact ⟨(decide (y3 < 0)), h, (((((hf.nil.cons (hf.get 30 _ rfl)).cons (hf.get 12 _ rfl)).cons (hf.get 11 _ rfl)).cons (hf.get 1 _ rfl)).cons (hf.get 0 _ rfl)), hs⟩

set_option linter.unusedVariables false
def M_ref4_Apart_k1 (m : (List Material)) (s_ : (List Layer)) (Q : Int → Int → Prop) (y2 : Int) (y3 : Int) (c1 : Bool) : Prop :=
  cnd c1 (Q 0 9) (cnd (y2 == y3) (Q 0 0) (must (0 ≤ w64 ((min y2 y3) + 1) ∧ w64 ((min y2 y3) + 1) ≤ max y2 y3 ∧ max y2 y3 ≤ (s_.length : Int)) (M_ref4_thickness m (seg s_ (w64 ((min y2 y3) + 1)) (max y2 y3)) fun y4 => Q y4 0)))
def M_ref4_Apart (m : (List Material)) (s_ : (List Layer)) (a_ : Str) (b : Str) (Q : Int → Int → Prop) : Prop :=
  M_ref4_CheckStack m s_ fun y1 => cnd (y1 != 0) (Q 0 y1) (M_ref4_placeOf m s_ a_ fun y2 => M_ref4_placeOf m s_ b fun y3 => cnd (decide (y2 < 0)) (M_ref4_Apart_k1 m s_ Q y2 y3 true) (M_ref4_Apart_k1 m s_ Q y2 y3 (decide (y3 < 0))))
set_option maxHeartbeats 1000000 in
theorem R_ref4_Apart (m : (List Material)) (s_ : (List Layer)) (a_ : Str) (b : Str) (w0 : World) (mA : Option Addr) (mC : Nat) (hv_m : View w0 (old w0 none_) mA mC m) (s_A : Option Addr) (s_C : Nat) (hv_s_ : View w0 (old w0 none_) s_A s_C s_) (Q : Int → Int → Prop) (h : M_ref4_Apart m s_ a_ b Q) :
    Ret Try.prog 24 #[.slice mA m.length mC, .slice s_A s_.length s_C, .string (ba a_), .string (ba b)] w0 fun v w' => ∃ (r0 : Int) (r1 : Int), v = .tuple #[.int .i64 r0, .int .i64 r1] ∧ Q r0 r1 ∧ Sat w0 none_ [] w' := by
  refine fn_enter Try.func24 rfl Try.ntmps24 rfl (fs := [(0, .slice mA m.length mC), (1, .slice s_A s_.length s_C), (2, .string (ba a_)), (3, .string (ba b))]) rfl (fun a hf => ?_)
  have hs := Sat.start w0 none_
  unfold M_ref4_Apart at h
  refine wp_seq ?_
  refine R.list ?_
  refine S.val hf hs (v := .int .i64 0) rfl rfl rfl (V.pure rfl) (fun a hf => ?_)
  refine S.val hf hs (v := .int .i64 0) rfl rfl rfl (V.pure rfl) (fun a hf => ?_)
  refine R.nil ?_
  refine X.then_ ?_
  refine wp_seq ?_
  refine wp_seq ?_
  refine R.list ?_
  refine S.val hf hs (v := .slice mA m.length mC) rfl rfl rfl (V.pure rfl) (fun a hf => ?_)
  refine S.val hf hs (v := .slice s_A s_.length s_C) rfl rfl rfl (V.pure rfl) (fun a hf => ?_)
  refine S.call hf rfl rfl rfl (call_fn (vs := [.slice mA m.length mC, .slice s_A s_.length s_C]) rfl rfl rfl Try.call19) (R_ref4_CheckStack m s_ _ mA mC ((Ag.args _ _ _).view hv_m hs) s_A s_C ((Ag.args _ _ _).view hv_s_ hs) _ h) (fun v a w' hf hr => ?_)
  obtain ⟨y1, rfl, h2, hs2⟩ := hr
  replace h := h2; replace hs := hs.call hs2; clear h2 hs2
  refine S.val hf hs (v := .int .i64 y1) rfl rfl rfl (V.pure rfl) (fun a hf => ?_)
  refine R.nil ?_
  refine X.then_ ?_
  refine wp_seq ?_
  refine R.list ?_
  refine S.val hf hs (v := .int .i64 y1) rfl rfl rfl (V.pure rfl) (fun a hf => ?_)
  refine S.val hf hs (v := .bool (y1 != 0)) rfl rfl rfl (V.pure rfl) (fun a hf => ?_)
  refine R.nil ?_
  refine X.then_ ?_
  refine C.cond hf (b := y1 != 0) rfl (fun hc => ?_) (fun hc => ?_)
  · replace h := h.1 hc
    refine wp_seq ?_
    refine R.list ?_
    refine S.val hf hs (v := .int .i64 y1) rfl rfl rfl (V.pure rfl) (fun a hf => ?_)
    refine S.val hf hs (v := .int .i64 0) rfl rfl rfl (V.pure rfl) (fun a hf => ?_)
    refine S.val hf hs (v := .int .i64 y1) rfl rfl rfl (V.pure rfl) (fun a hf => ?_)
    refine R.nil ?_
    refine X.then_ ?_
    refine wp_ret ?_
    refine X.then_ret ?_
    exact L.ret hf (run_results2 Try.results24 (ResIs.tmp hf rfl) (ResIs.tmp hf rfl)) ⟨0, y1, rfl, h, hs.nil⟩
  · replace h := h.2 hc
    refine wp_skip ?_
    refine X.then_ ?_
    refine wp_seq ?_
    refine R.list ?_
    refine S.val hf hs (v := .slice mA m.length mC) rfl rfl rfl (V.pure rfl) (fun a hf => ?_)
    refine S.val hf hs (v := .slice s_A s_.length s_C) rfl rfl rfl (V.pure rfl) (fun a hf => ?_)
    refine S.val hf hs (v := .string (ba a_)) rfl rfl rfl (V.pure rfl) (fun a hf => ?_)
    refine S.call hf rfl rfl rfl (call_fn (vs := [.slice mA m.length mC, .slice s_A s_.length s_C, .string (ba a_)]) rfl rfl rfl Try.call67) (R_ref4_placeOf m s_ a_ _ mA mC ((Ag.args _ _ _).view hv_m hs) s_A s_C ((Ag.args _ _ _).view hv_s_ hs) _ h) (fun v a w' hf hr => ?_)
    obtain ⟨y2, rfl, h2, hs2⟩ := hr
    replace h := h2; replace hs := hs.call hs2; clear h2 hs2
    refine S.val hf hs (v := .slice mA m.length mC) rfl rfl rfl (V.pure rfl) (fun a hf => ?_)
    refine S.val hf hs (v := .slice s_A s_.length s_C) rfl rfl rfl (V.pure rfl) (fun a hf => ?_)
    refine S.val hf hs (v := .string (ba b)) rfl rfl rfl (V.pure rfl) (fun a hf => ?_)
    refine S.call hf rfl rfl rfl (call_fn (vs := [.slice mA m.length mC, .slice s_A s_.length s_C, .string (ba b)]) rfl rfl rfl Try.call67) (R_ref4_placeOf m s_ b _ mA mC ((Ag.args _ _ _).view hv_m hs) s_A s_C ((Ag.args _ _ _).view hv_s_ hs) _ h) (fun v a w' hf hr => ?_)
    obtain ⟨y3, rfl, h2, hs2⟩ := hr
    replace h := h2; replace hs := hs.call hs2; clear h2 hs2
    refine S.val hf hs (v := .int .i64 y2) rfl rfl rfl (V.pure rfl) (fun a hf => ?_)
    refine S.val hf hs (v := .int .i64 y3) rfl rfl rfl (V.pure rfl) (fun a hf => ?_)
    refine R.nil ?_
    refine X.then_ ?_
    refine wp_seq ?_
    refine wp_seq ?_
    refine C.cut (J := fun a w => ∃ (c1 : Bool), M_ref4_Apart_k1 m s_ Q y2 y3 c1 ∧ FrOk 47 [(0, .slice mA m.length mC), (1, .slice s_A s_.length s_C), (11, .int .i64 y2), (12, .int .i64 y3), (32, .bool c1)] a ∧ Sat w0 none_ [] w) ?_ ?_
    · rintro a w ⟨c1, h, hf, hs⟩
      unfold M_ref4_Apart_k1 at h
      refine C.cond hf (b := c1) rfl (fun hc => ?_) (fun hc => ?_)
      · replace h := h.1 hc
        refine wp_seq ?_
        refine R.list ?_
        refine S.val hf hs (v := .int .i64 0) rfl rfl rfl (V.pure rfl) (fun a hf => ?_)
        refine S.val hf hs (v := .int .i64 9) rfl rfl rfl (V.pure rfl) (fun a hf => ?_)
        refine R.nil ?_
        refine X.then_ ?_
        refine wp_ret ?_
        refine X.then_ret ?_
        exact L.ret hf (run_results2 Try.results24 (ResIs.tmp hf rfl) (ResIs.tmp hf rfl)) ⟨0, 9, rfl, h, hs.nil⟩
      · replace h := h.2 hc
        refine wp_skip ?_
        refine X.then_ ?_
        refine wp_seq ?_
        refine wp_seq ?_
        refine R.list ?_
        refine S.val hf hs (v := .int .i64 y2) rfl rfl rfl (V.pure rfl) (fun a hf => ?_)
        refine S.val hf hs (v := .int .i64 y3) rfl rfl rfl (V.pure rfl) (fun a hf => ?_)
        refine S.val hf hs (v := .bool (y2 == y3)) rfl rfl rfl (V.pure rfl) (fun a hf => ?_)
        refine R.nil ?_
        refine X.then_ ?_
        refine C.cond hf (b := y2 == y3) rfl (fun hc => ?_) (fun hc => ?_)
        · replace h := h.1 hc
          refine wp_seq ?_
          refine R.list ?_
          refine S.val hf hs (v := .int .i64 0) rfl rfl rfl (V.pure rfl) (fun a hf => ?_)
          refine S.val hf hs (v := .int .i64 0) rfl rfl rfl (V.pure rfl) (fun a hf => ?_)
          refine R.nil ?_
          refine X.then_ ?_
          refine wp_ret ?_
          refine X.then_ret ?_
          exact L.ret hf (run_results2 Try.results24 (ResIs.tmp hf rfl) (ResIs.tmp hf rfl)) ⟨0, 0, rfl, h, hs.nil⟩
        · replace h := h.2 hc
          refine wp_skip ?_
          refine X.then_ ?_
          refine wp_seq ?_
          refine R.list ?_
          refine S.val hf hs (v := .slice mA m.length mC) rfl rfl rfl (V.pure rfl) (fun a hf => ?_)
          refine S.val hf hs (v := .slice s_A s_.length s_C) rfl rfl rfl (V.pure rfl) (fun a hf => ?_)
          refine S.val hf hs (v := .int .i64 y2) rfl rfl rfl (V.pure rfl) (fun a hf => ?_)
          refine S.val hf hs (v := .int .i64 y3) rfl rfl rfl (V.pure rfl) (fun a hf => ?_)
          refine S.val hf hs (v := .int .i64 (min y2 y3)) rfl rfl rfl (V.min2 rfl rfl rfl) (fun a hf => ?_)
          refine S.val hf hs (v := .int .i64 (w64 ((min y2 y3) + 1))) rfl rfl rfl (V.pure rfl) (fun a hf => ?_)
          refine S.val hf hs (v := .int .i64 y2) rfl rfl rfl (V.pure rfl) (fun a hf => ?_)
          refine S.val hf hs (v := .int .i64 y3) rfl rfl rfl (V.pure rfl) (fun a hf => ?_)
          refine S.val hf hs (v := .int .i64 (max y2 y3)) rfl rfl rfl (V.max2 rfl rfl rfl) (fun a hf => ?_)
          obtain ⟨hp1, h⟩ := h
          refine S.val hf hs (v := .slice (segA s_A s_C (w64 ((min y2 y3) + 1) : Int).toNat 2) (seg s_ (w64 ((min y2 y3) + 1)) (max y2 y3)).length (s_C - (w64 ((min y2 y3) + 1) : Int).toNat)) rfl rfl rfl (V.slice rfl rfl rfl rfl Try.runUnderlying23 Try.sizeOf35 rfl rfl hp1 hv_s_.cap (seg_length (by have := hp1.2.2; omega))) (fun a hf => ?_)
          refine S.call hf rfl rfl rfl (call_fn (vs := [.slice mA m.length mC, .slice (segA s_A s_C (w64 ((min y2 y3) + 1) : Int).toNat 2) (seg s_ (w64 ((min y2 y3) + 1)) (max y2 y3)).length (s_C - (w64 ((min y2 y3) + 1) : Int).toNat)]) rfl rfl rfl Try.call55) (R_ref4_thickness m (seg s_ (w64 ((min y2 y3) + 1)) (max y2 y3)) _ mA mC ((Ag.args _ _ _).view hv_m hs) (segA s_A s_C (w64 ((min y2 y3) + 1) : Int).toNat 2) (s_C - (w64 ((min y2 y3) + 1) : Int).toNat) ((Ag.args _ _ _).view (View.sub hv_s_ hp1) hs) _ h) (fun v a w' hf hr => ?_)
          obtain ⟨y4, rfl, h2, hs2⟩ := hr
          replace h := h2; replace hs := hs.call hs2; clear h2 hs2
          refine S.val hf hs (v := .int .i64 y4) rfl rfl rfl (V.pure rfl) (fun a hf => ?_)
          refine S.val hf hs (v := .int .i64 0) rfl rfl rfl (V.pure rfl) (fun a hf => ?_)
          refine R.nil ?_
          refine X.then_ ?_
          refine wp_ret ?_
          exact L.ret hf (run_results2 Try.results24 (ResIs.tmp hf rfl) (ResIs.tmp hf rfl)) ⟨y4, 0, rfl, h, hs.nil⟩
    · skip
      refine R.list ?_
      refine S.val hf hs (v := .int .i64 y2) rfl rfl rfl (V.pure rfl) (fun a hf => ?_)
      refine S.val hf hs (v := .bool (decide (y2 < 0))) rfl rfl rfl (V.pure rfl) (fun a hf => ?_)
      refine S.split hf hs (b := decide (y2 < 0)) rfl rfl rfl (V.pure rfl) (fun hc a hf => ?_) (fun hc a hf => ?_)
      · replace h := h.1 hc
        refine S.skip hf rfl rfl rfl (fun a hf => ?_)
        refine S.skip hf rfl rfl rfl (fun a hf => ?_)
        refine S.val hf hs (v := .bool true) rfl rfl rfl (V.pure rfl) (fun a hf => ?_)
        refine R.nil ?_
        refine X.then_ ?_
        exact ⟨true, h, (((((hf.nil.cons (hf.get 32 _ rfl)).cons (hf.get 12 _ rfl)).cons (hf.get 11 _ rfl)).cons (hf.get 1 _ rfl)).cons (hf.get 0 _ rfl)), hs⟩
      · replace h := h.2 hc
        refine S.val hf hs (v := .int .i64 y3) rfl rfl rfl (V.pure rfl) (fun a hf => ?_)
        refine S.val hf hs (v := .bool (decide (y3 < 0))) rfl rfl rfl (V.pure rfl) (fun a hf => ?_)
        refine S.val hf hs (v := .bool (decide (y3 < 0))) rfl rfl rfl (V.pure rfl) (fun a hf => ?_)
        refine R.nil ?_
        refine X.then_ ?_
        exact ⟨(decide (y3 < 0)), h, (((((hf.nil.cons (hf.get 32 _ rfl)).cons (hf.get 12 _ rfl)).cons (hf.get 11 _ rfl)).cons (hf.get 1 _ rfl)).cons (hf.get 0 _ rfl)), hs⟩

set_option linter.unusedVariables false
def M_law_StackDepths_k1 (m : (List Material)) (s_ : (List Layer)) (a_ : Str) (b : Str) (Q : Bool → Prop) (c1 : Bool) : Prop :=
  cnd c1 (Q false) (M_stack_Apart m s_ a_ b fun y5 y6 => M_ref4_Apart m s_ a_ b fun y7 y8 => cnd (y6 == y8) (cnd (y5 == y7) (M_awake  fun y9 => Q y9) (Q false)) (Q false))
def M_law_StackDepths (m : (List Material)) (s_ : (List Layer)) (a_ : Str) (b : Str) (Q : Bool → Prop) : Prop :=
  M_stack_Depth m s_ a_ fun y1 y2 => M_ref4_Depth m s_ a_ fun y3 y4 => cnd (y2 != y4) (M_law_StackDepths_k1 m s_ a_ b Q true) (M_law_StackDepths_k1 m s_ a_ b Q (y1 != y3))
set_option maxHeartbeats 1000000 in
theorem R_law_StackDepths (m : (List Material)) (s_ : (List Layer)) (a_ : Str) (b : Str) (w0 : World) (mA : Option Addr) (mC : Nat) (hv_m : View w0 (old w0 none_) mA mC m) (s_A : Option Addr) (s_C : Nat) (hv_s_ : View w0 (old w0 none_) s_A s_C s_) (Q : Bool → Prop) (h : M_law_StackDepths m s_ a_ b Q) :
    Ret Try.prog 4 #[.slice mA m.length mC, .slice s_A s_.length s_C, .string (ba a_), .string (ba b)] w0 fun v w' => ∃ (r0 : Bool), v = .bool r0 ∧ Q r0 ∧ Sat w0 none_ [] w' := by
  refine fn_enter Try.func4 rfl Try.ntmps4 rfl (fs := [(0, .slice mA m.length mC), (1, .slice s_A s_.length s_C), (2, .string (ba a_)), (3, .string (ba b))]) rfl (fun a hf => ?_)
  have hs := Sat.start w0 none_
  unfold M_law_StackDepths at h
  refine wp_seq ?_
  refine R.list ?_
  refine S.val hf hs (v := .bool false) rfl rfl rfl (V.pure rfl) (fun a hf => ?_)
  refine R.nil ?_
  refine X.then_ ?_
  refine wp_seq ?_
  refine R.list ?_
  refine S.val hf hs (v := .slice mA m.length mC) rfl rfl rfl (V.pure rfl) (fun a hf => ?_)
  refine S.val hf hs (v := .slice s_A s_.length s_C) rfl rfl rfl (V.pure rfl) (fun a hf => ?_)
  refine S.val hf hs (v := .string (ba a_)) rfl rfl rfl (V.pure rfl) (fun a hf => ?_)
  refine S.call hf rfl rfl rfl (call_fn (vs := [.slice mA m.length mC, .slice s_A s_.length s_C, .string (ba a_)]) rfl rfl rfl Try.call21) (R_stack_Depth m s_ a_ _ mA mC ((Ag.args _ _ _).view hv_m hs) s_A s_C ((Ag.args _ _ _).view hv_s_ hs) _ h) (fun v a w' hf hr => ?_)
  obtain ⟨y1, y2, rfl, h2, hs2⟩ := hr
  replace h := h2; replace hs := hs.call hs2; clear h2 hs2
  refine S.val hf hs (v := .tuple #[.int .i64 y1, .int .i64 y2]) rfl rfl rfl (V.pure rfl) (fun a hf => ?_)
  refine S.val hf hs (v := .int .i64 y1) rfl rfl rfl (V.pure rfl) (fun a hf => ?_)
  refine S.val hf hs (v := .int .i64 y2) rfl rfl rfl (V.pure rfl) (fun a hf => ?_)
  refine S.val hf hs (v := .int .i64 y1) rfl rfl rfl (V.pure rfl) (fun a hf => ?_)
  refine S.val hf hs (v := .int .i64 y2) rfl rfl rfl (V.pure rfl) (fun a hf => ?_)
  refine R.nil ?_
  refine X.then_ ?_
  refine wp_seq ?_
  refine R.list ?_
  refine S.val hf hs (v := .slice mA m.length mC) rfl rfl rfl (V.pure rfl) (fun a hf => ?_)
  refine S.val hf hs (v := .slice s_A s_.length s_C) rfl rfl rfl (V.pure rfl) (fun a hf => ?_)
  refine S.val hf hs (v := .string (ba a_)) rfl rfl rfl (V.pure rfl) (fun a hf => ?_)
  refine S.call hf rfl rfl rfl (call_fn (vs := [.slice mA m.length mC, .slice s_A s_.length s_C, .string (ba a_)]) rfl rfl rfl Try.call22) (R_ref4_Depth m s_ a_ _ mA mC ((Ag.args _ _ _).view hv_m hs) s_A s_C ((Ag.args _ _ _).view hv_s_ hs) _ h) (fun v a w' hf hr => ?_)
  obtain ⟨y3, y4, rfl, h2, hs2⟩ := hr
  replace h := h2; replace hs := hs.call hs2; clear h2 hs2
  refine S.val hf hs (v := .tuple #[.int .i64 y3, .int .i64 y4]) rfl rfl rfl (V.pure rfl) (fun a hf => ?_)
  refine S.val hf hs (v := .int .i64 y3) rfl rfl rfl (V.pure rfl) (fun a hf => ?_)
  refine S.val hf hs (v := .int .i64 y4) rfl rfl rfl (V.pure rfl) (fun a hf => ?_)
  refine S.val hf hs (v := .int .i64 y3) rfl rfl rfl (V.pure rfl) (fun a hf => ?_)
  refine S.val hf hs (v := .int .i64 y4) rfl rfl rfl (V.pure rfl) (fun a hf => ?_)
  refine R.nil ?_
  refine X.then_ ?_
  refine wp_seq ?_
  refine wp_seq ?_
  refine C.cut (J := fun a w => ∃ (c1 : Bool), M_law_StackDepths_k1 m s_ a_ b Q c1 ∧ FrOk 62 [(0, .slice mA m.length mC), (1, .slice s_A s_.length s_C), (2, .string (ba a_)), (3, .string (ba b)), (34, .bool c1)] a ∧ Sat w0 none_ [] w) ?_ ?_
  · rintro a w ⟨c1, h, hf, hs⟩
    unfold M_law_StackDepths_k1 at h
    refine C.cond hf (b := c1) rfl (fun hc => ?_) (fun hc => ?_)
    · replace h := h.1 hc
      refine wp_seq ?_
      refine R.list ?_
      refine S.val hf hs (v := .bool false) rfl rfl rfl (V.pure rfl) (fun a hf => ?_)
      refine R.nil ?_
      refine X.then_ ?_
      refine wp_ret ?_
      refine X.then_ret ?_
      exact L.ret hf (run_results1 Try.results4 (ResIs.tmp hf rfl)) ⟨false, rfl, h, hs.nil⟩
    · replace h := h.2 hc
      refine wp_skip ?_
      refine X.then_ ?_
      refine wp_seq ?_
      refine R.list ?_
      refine S.val hf hs (v := .slice mA m.length mC) rfl rfl rfl (V.pure rfl) (fun a hf => ?_)
      refine S.val hf hs (v := .slice s_A s_.length s_C) rfl rfl rfl (V.pure rfl) (fun a hf => ?_)
      refine S.val hf hs (v := .string (ba a_)) rfl rfl rfl (V.pure rfl) (fun a hf => ?_)
      refine S.val hf hs (v := .string (ba b)) rfl rfl rfl (V.pure rfl) (fun a hf => ?_)
      refine S.call hf rfl rfl rfl (call_fn (vs := [.slice mA m.length mC, .slice s_A s_.length s_C, .string (ba a_), .string (ba b)]) rfl rfl rfl Try.call23) (R_stack_Apart m s_ a_ b _ mA mC ((Ag.args _ _ _).view hv_m hs) s_A s_C ((Ag.args _ _ _).view hv_s_ hs) _ h) (fun v a w' hf hr => ?_)
      obtain ⟨y5, y6, rfl, h2, hs2⟩ := hr
      replace h := h2; replace hs := hs.call hs2; clear h2 hs2
      refine S.val hf hs (v := .tuple #[.int .i64 y5, .int .i64 y6]) rfl rfl rfl (V.pure rfl) (fun a hf => ?_)
      refine S.val hf hs (v := .int .i64 y5) rfl rfl rfl (V.pure rfl) (fun a hf => ?_)
      refine S.val hf hs (v := .int .i64 y6) rfl rfl rfl (V.pure rfl) (fun a hf => ?_)
      refine S.val hf hs (v := .int .i64 y5) rfl rfl rfl (V.pure rfl) (fun a hf => ?_)
      refine S.val hf hs (v := .int .i64 y6) rfl rfl rfl (V.pure rfl) (fun a hf => ?_)
      refine R.nil ?_
      refine X.then_ ?_
      refine wp_seq ?_
      refine R.list ?_
      refine S.val hf hs (v := .slice mA m.length mC) rfl rfl rfl (V.pure rfl) (fun a hf => ?_)
      refine S.val hf hs (v := .slice s_A s_.length s_C) rfl rfl rfl (V.pure rfl) (fun a hf => ?_)
      refine S.val hf hs (v := .string (ba a_)) rfl rfl rfl (V.pure rfl) (fun a hf => ?_)
      refine S.val hf hs (v := .string (ba b)) rfl rfl rfl (V.pure rfl) (fun a hf => ?_)
      refine S.call hf rfl rfl rfl (call_fn (vs := [.slice mA m.length mC, .slice s_A s_.length s_C, .string (ba a_), .string (ba b)]) rfl rfl rfl Try.call24) (R_ref4_Apart m s_ a_ b _ mA mC ((Ag.args _ _ _).view hv_m hs) s_A s_C ((Ag.args _ _ _).view hv_s_ hs) _ h) (fun v a w' hf hr => ?_)
      obtain ⟨y7, y8, rfl, h2, hs2⟩ := hr
      replace h := h2; replace hs := hs.call hs2; clear h2 hs2
      refine S.val hf hs (v := .tuple #[.int .i64 y7, .int .i64 y8]) rfl rfl rfl (V.pure rfl) (fun a hf => ?_)
      refine S.val hf hs (v := .int .i64 y7) rfl rfl rfl (V.pure rfl) (fun a hf => ?_)
      refine S.val hf hs (v := .int .i64 y8) rfl rfl rfl (V.pure rfl) (fun a hf => ?_)
      refine S.val hf hs (v := .int .i64 y7) rfl rfl rfl (V.pure rfl) (fun a hf => ?_)
      refine S.val hf hs (v := .int .i64 y8) rfl rfl rfl (V.pure rfl) (fun a hf => ?_)
      refine R.nil ?_
      refine X.then_ ?_
      refine wp_seq ?_
      refine R.list ?_
      refine S.val hf hs (v := .int .i64 y6) rfl rfl rfl (V.pure rfl) (fun a hf => ?_)
      refine S.val hf hs (v := .int .i64 y8) rfl rfl rfl (V.pure rfl) (fun a hf => ?_)
      refine S.val hf hs (v := .bool (y6 == y8)) rfl rfl rfl (V.pure rfl) (fun a hf => ?_)
      refine S.split hf hs (b := y6 == y8) rfl rfl rfl (V.pure rfl) (fun hc a hf => ?_) (fun hc a hf => ?_)
      · replace h := h.1 hc
        refine S.val hf hs (v := .int .i64 y5) rfl rfl rfl (V.pure rfl) (fun a hf => ?_)
        refine S.val hf hs (v := .int .i64 y7) rfl rfl rfl (V.pure rfl) (fun a hf => ?_)
        refine S.val hf hs (v := .bool (y5 == y7)) rfl rfl rfl (V.pure rfl) (fun a hf => ?_)
        refine S.val hf hs (v := .bool (y5 == y7)) rfl rfl rfl (V.pure rfl) (fun a hf => ?_)
        refine S.split hf hs (b := y5 == y7) rfl rfl rfl (V.pure rfl) (fun hc a hf => ?_) (fun hc a hf => ?_)
        · replace h := h.1 hc
          refine S.call hf rfl rfl rfl (call_fn (vs := []) rfl rfl rfl Try.call20) (R_awake  _  _ h) (fun v a w' hf hr => ?_)
          obtain ⟨y9, rfl, h2, hs2⟩ := hr
          replace h := h2; replace hs := hs.call hs2; clear h2 hs2
          refine S.val hf hs (v := .bool y9) rfl rfl rfl (V.pure rfl) (fun a hf => ?_)
          refine S.val hf hs (v := .bool y9) rfl rfl rfl (V.pure rfl) (fun a hf => ?_)
          refine R.nil ?_
          refine X.then_ ?_
          refine wp_ret ?_
          exact L.ret hf (run_results1 Try.results4 (ResIs.tmp hf rfl)) ⟨y9, rfl, h, hs.nil⟩
        · replace h := h.2 hc
          refine S.skip hf rfl rfl rfl (fun a hf => ?_)
          refine S.val hf hs (v := .bool false) rfl rfl rfl (V.pure rfl) (fun a hf => ?_)
          refine S.val hf hs (v := .bool false) rfl rfl rfl (V.pure rfl) (fun a hf => ?_)
          refine R.nil ?_
          refine X.then_ ?_
          refine wp_ret ?_
          exact L.ret hf (run_results1 Try.results4 (ResIs.tmp hf rfl)) ⟨false, rfl, h, hs.nil⟩
      · replace h := h.2 hc
        refine S.skip hf rfl rfl rfl (fun a hf => ?_)
        refine S.skip hf rfl rfl rfl (fun a hf => ?_)
        refine S.skip hf rfl rfl rfl (fun a hf => ?_)
        refine S.val hf hs (v := .bool false) rfl rfl rfl (V.pure rfl) (fun a hf => ?_)
        refine S.val hf hs (v := .bool false) rfl rfl rfl (V.pure rfl) (fun a hf => ?_)
        refine S.skip hf rfl rfl rfl (fun a hf => ?_)
        refine S.val hf hs (v := .bool false) rfl rfl rfl (V.pure rfl) (fun a hf => ?_)
        refine S.val hf hs (v := .bool false) rfl rfl rfl (V.pure rfl) (fun a hf => ?_)
        refine R.nil ?_
        refine X.then_ ?_
        refine wp_ret ?_
        exact L.ret hf (run_results1 Try.results4 (ResIs.tmp hf rfl)) ⟨false, rfl, h, hs.nil⟩
  · skip
    refine R.list ?_
    refine S.val hf hs (v := .int .i64 y2) rfl rfl rfl (V.pure rfl) (fun a hf => ?_)
    refine S.val hf hs (v := .int .i64 y4) rfl rfl rfl (V.pure rfl) (fun a hf => ?_)
    refine S.val hf hs (v := .bool (y2 != y4)) rfl rfl rfl (V.pure rfl) (fun a hf => ?_)
    refine S.split hf hs (b := y2 != y4) rfl rfl rfl (V.pure rfl) (fun hc a hf => ?_) (fun hc a hf => ?_)
    · replace h := h.1 hc
      refine S.skip hf rfl rfl rfl (fun a hf => ?_)
      refine S.skip hf rfl rfl rfl (fun a hf => ?_)
      refine S.skip hf rfl rfl rfl (fun a hf => ?_)
      refine S.val hf hs (v := .bool true) rfl rfl rfl (V.pure rfl) (fun a hf => ?_)
      refine R.nil ?_
      refine X.then_ ?_
      exact ⟨true, h, (((((hf.nil.cons (hf.get 34 _ rfl)).cons (hf.get 3 _ rfl)).cons (hf.get 2 _ rfl)).cons (hf.get 1 _ rfl)).cons (hf.get 0 _ rfl)), hs⟩
    · replace h := h.2 hc
      refine S.val hf hs (v := .int .i64 y1) rfl rfl rfl (V.pure rfl) (fun a hf => ?_)
      refine S.val hf hs (v := .int .i64 y3) rfl rfl rfl (V.pure rfl) (fun a hf => ?_)
      refine S.val hf hs (v := .bool (y1 != y3)) rfl rfl rfl (V.pure rfl) (fun a hf => ?_)
      refine S.val hf hs (v := .bool (y1 != y3)) rfl rfl rfl (V.pure rfl) (fun a hf => ?_)
      refine R.nil ?_
      refine X.then_ ?_
      exact ⟨(y1 != y3), h, (((((hf.nil.cons (hf.get 34 _ rfl)).cons (hf.get 3 _ rfl)).cons (hf.get 2 _ rfl)).cons (hf.get 1 _ rfl)).cons (hf.get 0 _ rfl)), hs⟩

set_option linter.unusedVariables false
def M_ref4_IsUpper_L1 (a_ : Str) (b : Str) (Q : Bool → Prop) (k1 : Nat) (xk1 : Layer)  (next1 : Prop) : Prop :=
  cnd (xk1.Name == a_) (Q true) (cnd (xk1.Name == b) (Q false) (next1))
def M_ref4_IsUpper (s_ : (List Layer)) (a_ : Str) (b : Str) (Q : Bool → Prop) : Prop :=
  forIn' (fun k x (s : Unit) next => M_ref4_IsUpper_L1 a_ b Q k x (next ())) (fun (s : Unit) => Q false) s_ 0 ()
set_option maxHeartbeats 1000000 in
theorem R_ref4_IsUpper (s_ : (List Layer)) (a_ : Str) (b : Str) (w0 : World) (s_A : Option Addr) (s_C : Nat) (hv_s_ : View w0 (old w0 none_) s_A s_C s_) (Q : Bool → Prop) (h : M_ref4_IsUpper s_ a_ b Q) :
    Ret Try.prog 25 #[.slice s_A s_.length s_C, .string (ba a_), .string (ba b)] w0 fun v w' => ∃ (r0 : Bool), v = .bool r0 ∧ Q r0 ∧ Sat w0 none_ [] w' := by
  refine fn_enter Try.func25 rfl Try.ntmps25 rfl (fs := [(0, .slice s_A s_.length s_C), (1, .string (ba a_)), (2, .string (ba b))]) rfl (fun a hf => ?_)
  have hs := Sat.start w0 none_
  unfold M_ref4_IsUpper at h
  refine wp_seq ?_
  refine R.list ?_
  refine S.val hf hs (v := .bool false) rfl rfl rfl (V.pure rfl) (fun a hf => ?_)
  refine R.nil ?_
  refine X.then_ ?_
  refine wp_seq ?_
  refine wp_seq ?_
  refine R.list ?_
  refine S.val hf hs (v := .slice s_A s_.length s_C) rfl rfl rfl (V.pure rfl) (fun a hf => ?_)
  refine S.val hf hs (v := .int .i64 (s_.length : Int)) rfl rfl rfl (V.len rfl rfl Try.runUnderlying23) (fun a hf => ?_)
  refine S.val hf hs (v := .int .i64 0) rfl rfl rfl (V.pure rfl) (fun a hf => ?_)
  refine R.nil ?_
  refine X.then_ ?_
  refine wp_block ?_
  have hlenk1 := hv_s_.len64
  refine C.range (fun (ll : List Layer) a w => ∃ (k1 : Nat) , s_.drop k1 = ll ∧ k1 + ll.length = s_.length ∧ forIn' (fun k x (s : Unit) next => M_ref4_IsUpper_L1 a_ b Q k x (next ())) (fun (s : Unit) => Q false) ll k1 () ∧ FrOk 24 [(11, .int .i64 (k1 : Int)), (1, .string (ba a_)), (2, .string (ba b)), (9, .slice s_A s_.length s_C), (10, .int .i64 (s_.length : Int))] a ∧ Sat w0 none_ [] w) s_ ⟨0, rfl, Nat.zero_add _, h, (((((hf.nil.cons (hf.get 10 _ rfl)).cons (hf.get 9 _ rfl)).cons (hf.get 2 _ rfl)).cons (hf.get 1 _ rfl)).cons (hf.get 11 _ rfl)), hs⟩ ?_
  clear h hf hs
  rintro llk1 a w ⟨k1, hlk1, hkk1, h, hf, hs⟩
  cases llk1 with
  | nil =>
    have hc := range_done hkk1
    replace h : Q false := h
    refine wp_seq ?_
    refine R.list ?_
    refine S.val hf hs (v := .bool false) rfl rfl rfl (V.cmp false rfl rfl rfl rfl hc) (fun a hf => ?_)
    refine R.nil ?_
    refine X.then_ ?_
    refine wp_seq ?_
    refine C.no hf rfl ?_
    refine wp_exit ?_
    refine X.then_exit ?_
    refine X.then_exit ?_
    refine X.blk_exit ?_
    refine X.then_ ?_
    refine wp_seq ?_
    refine R.list ?_
    refine S.val hf hs (v := .bool false) rfl rfl rfl (V.pure rfl) (fun a hf => ?_)
    refine R.nil ?_
    refine X.then_ ?_
    refine wp_ret ?_
    exact L.ret hf (run_results1 Try.results25 (ResIs.tmp hf rfl)) ⟨false, rfl, h, hs.nil⟩
  | cons xk1 llk1 =>
    have hltk1 := range_lt hkk1; have hc := range_go hkk1; have hxk1 := range_get hlk1
    obtain ⟨next1, hnext1⟩ : ∃ X : Prop, X = (forIn' (fun k x (s : Unit) next => M_ref4_IsUpper_L1 a_ b Q k x (next ())) (fun (s : Unit) => Q false) llk1 (k1 + 1) ()) := ⟨_, rfl⟩
    replace h : M_ref4_IsUpper_L1 a_ b Q k1 xk1  next1 := by rw [hnext1]; exact h
    unfold M_ref4_IsUpper_L1 at h
    refine wp_seq ?_
    refine R.list ?_
    refine S.val hf hs (v := .bool true) rfl rfl rfl (V.cmp true rfl rfl rfl rfl hc) (fun a hf => ?_)
    refine R.nil ?_
    refine X.then_ ?_
    refine wp_seq ?_
    refine C.yes hf rfl ?_
    refine wp_skip ?_
    refine X.then_ ?_
    refine wp_seq ?_
    refine wp_block ?_
    refine wp_seq ?_
    refine R.list ?_
    refine S.val hf hs (v := elemPtr s_A (k1 * 2)) rfl rfl rfl (V.index rfl rfl rfl Try.runUnderlying23 Try.sizeOf35 (hv_s_.some_ (lt_of_get hxk1)) (Int.natCast_nonneg _) (lt_of_get hxk1) rfl) (fun a hf => ?_)
    refine S.val hf hs (v := .agg #[.string (ba xk1.Name), .string (ba xk1.Material)]) rfl rfl rfl (V.loadEl (off := 0) (Ag.args _ _ _) (hv_s_.flat hxk1) rfl rfl rfl Try.isAgg35 Try.sizeOf35 rfl rfl) (fun a hf => ?_)
    refine S.alloc hf hs rfl rfl rfl [.string (ba []), .string (ba [])] rfl Try.zeroValue35 rfl (fun g1 a w hf hs => ?_)
    refine S.storeBox 0 hf hs rfl rfl [.string (ba xk1.Name), .string (ba xk1.Material)] [.string (ba xk1.Name), .string (ba xk1.Material)] rfl rfl rfl rfl rfl Try.sizeOf35 rfl rfl rfl rfl (fun a w hf hs => ?_)
    refine R.nil ?_
    refine X.then_ ?_
    refine wp_seq ?_
    refine wp_seq ?_
    refine R.list ?_
    refine S.val hf hs (v := .pointer (some ⟨g1, 0, none⟩)) rfl rfl rfl (V.fieldBox rfl rfl Try.runUnderlying35 rfl Try.sizeOf9 rfl rfl) (fun a hf => ?_)
    refine S.val hf hs (v := .string (ba xk1.Name)) rfl rfl rfl (V.loadBox 0 rfl rfl rfl Try.isAgg9 Try.sizeOf9 rfl rfl) (fun a hf => ?_)
    refine S.val hf hs (v := .string (ba a_)) rfl rfl rfl (V.pure rfl) (fun a hf => ?_)
    refine S.val hf hs (v := .bool (xk1.Name == a_)) rfl rfl rfl (V.strCmp (xk1.Name == a_) rfl rfl rfl rfl) (fun a hf => ?_)
    refine R.nil ?_
    refine X.then_ ?_
    refine C.cond hf (b := xk1.Name == a_) rfl (fun hc => ?_) (fun hc => ?_)
    · replace h := h.1 hc
      refine wp_seq ?_
      refine R.list ?_
      refine S.val hf hs (v := .bool true) rfl rfl rfl (V.pure rfl) (fun a hf => ?_)
      refine R.nil ?_
      refine X.then_ ?_
      refine wp_ret ?_
      refine X.then_ret ?_
      refine X.blk_ret ?_
      refine X.then_ret ?_
      refine X.then_ret ?_
      refine X.blk_ret ?_
      refine X.then_ret ?_
      exact L.ret hf (run_results1 Try.results25 (ResIs.tmp hf rfl)) ⟨true, rfl, h, hs.nil⟩
    · replace h := h.2 hc
      refine wp_skip ?_
      refine X.then_ ?_
      refine wp_seq ?_
      refine R.list ?_
      refine S.val hf hs (v := .pointer (some ⟨g1, 0, none⟩)) rfl rfl rfl (V.fieldBox rfl rfl Try.runUnderlying35 rfl Try.sizeOf9 rfl rfl) (fun a hf => ?_)
      refine S.val hf hs (v := .string (ba xk1.Name)) rfl rfl rfl (V.loadBox 0 rfl rfl rfl Try.isAgg9 Try.sizeOf9 rfl rfl) (fun a hf => ?_)
      refine S.val hf hs (v := .string (ba b)) rfl rfl rfl (V.pure rfl) (fun a hf => ?_)
      refine S.val hf hs (v := .bool (xk1.Name == b)) rfl rfl rfl (V.strCmp (xk1.Name == b) rfl rfl rfl rfl) (fun a hf => ?_)
      refine R.nil ?_
      refine X.then_ ?_
      refine C.cond hf (b := xk1.Name == b) rfl (fun hc => ?_) (fun hc => ?_)
      · replace h := h.1 hc
        refine wp_seq ?_
        refine R.list ?_
        refine S.val hf hs (v := .bool false) rfl rfl rfl (V.pure rfl) (fun a hf => ?_)
        refine R.nil ?_
        refine X.then_ ?_
        refine wp_ret ?_
        refine X.blk_ret ?_
        refine X.then_ret ?_
        refine X.then_ret ?_
        refine X.blk_ret ?_
        refine X.then_ret ?_
        exact L.ret hf (run_results1 Try.results25 (ResIs.tmp hf rfl)) ⟨false, rfl, h, hs.nil⟩
      · replace h := h.2 hc
        refine wp_skip ?_
        refine X.blk ?_
        refine X.then_ ?_
        refine R.list ?_
        refine S.val hf hs (v := .int .i64 ((k1 + 1 : Nat) : Int)) rfl rfl rfl (V.incr rfl rfl rfl hltk1 hlenk1) (fun a hf => ?_)
        refine S.val hf hs (v := .int .i64 ((k1 + 1 : Nat) : Int)) rfl rfl rfl (V.pure rfl) (fun a hf => ?_)
        refine R.nil ?_
        refine X.then_ ?_
        exact ⟨xk1, llk1, rfl, k1 + 1, range_drop hlk1, range_len hkk1, (by rw [hnext1] at h; exact h), (((((hf.nil.cons (hf.get 10 _ rfl)).cons (hf.get 9 _ rfl)).cons (hf.get 2 _ rfl)).cons (hf.get 1 _ rfl)).cons (hf.get 11 _ rfl)), hs.drop⟩

set_option linter.unusedVariables false
def M_law_StackAddUp_k4 (xk3 : Material) (n4 : Int) (next2 : Int → Prop) (c2 : Bool) : Prop :=
  cnd c2 (next2 xk3.Thick) (next2 n4)
def M_law_StackAddUp_L2 (s_ : (List Layer)) (a_ : Str) (b : Str) (xk2 : Layer) (k3 : Nat) (xk3 : Material) (n4 : Int) (next2 : Int → Prop) : Prop :=
  cnd (xk3.Name == xk2.Material) (cnd (xk2.Name == a_) (cnd (xk3.Kind == 1) (M_ref4_IsUpper s_ a_ b fun y11 => cnd y11 (M_law_StackAddUp_k4 xk3 n4 next2 true) (cnd (xk2.Name == b) (cnd (xk3.Kind == 1) (M_ref4_IsUpper s_ b a_ fun y12 => M_law_StackAddUp_k4 xk3 n4 next2 y12) (M_law_StackAddUp_k4 xk3 n4 next2 false)) (M_law_StackAddUp_k4 xk3 n4 next2 false))) (cnd (xk2.Name == b) (cnd (xk3.Kind == 1) (M_ref4_IsUpper s_ b a_ fun y13 => M_law_StackAddUp_k4 xk3 n4 next2 y13) (M_law_StackAddUp_k4 xk3 n4 next2 false)) (M_law_StackAddUp_k4 xk3 n4 next2 false))) (cnd (xk2.Name == b) (cnd (xk3.Kind == 1) (M_ref4_IsUpper s_ b a_ fun y14 => M_law_StackAddUp_k4 xk3 n4 next2 y14) (M_law_StackAddUp_k4 xk3 n4 next2 false)) (M_law_StackAddUp_k4 xk3 n4 next2 false))) (M_law_StackAddUp_k4 xk3 n4 next2 false)
def M_law_StackAddUp_L1 (m : (List Material)) (s_ : (List Layer)) (a_ : Str) (b : Str) (k2 : Nat) (xk2 : Layer) (n2 : Int) (next1 : Int → Prop) : Prop :=
  forIn' (fun k x (s : Int) next => M_law_StackAddUp_L2 s_ a_ b xk2 k x s (fun n4 => next n4)) (fun (s : Int) => (fun (n4 : Int) => next1 n4) s) m 0 n2
def M_law_StackAddUp_k1 (m : (List Material)) (s_ : (List Layer)) (a_ : Str) (b : Str) (Q : Bool → Prop) (y1 : Int) (y2 : Int) (y3 : Int) (y5 : Int) (c1 : Bool) : Prop :=
  cnd c1 (cnd (y2 == 0) (M_awake  fun y7 => Q y7) (cnd (y1 == 0) (M_awake  fun y8 => Q y8) (Q false))) (cnd (a_ == b) (cnd (y5 == 0) (cnd (y1 == y3) (M_awake  fun y9 => Q y9) (Q false)) (Q false)) (forIn' (fun k x (s : Int) next => M_law_StackAddUp_L1 m s_ a_ b k x s (fun n2 => next n2)) (fun (s : Int) => (fun (n2 : Int) => cnd ((w64 ((w64 ((min y1 y3) + n2)) + y5)) == (max y1 y3)) (M_awake  fun y10 => Q y10) (Q false)) s) s_ 0 0))
def M_law_StackAddUp (m : (List Material)) (s_ : (List Layer)) (a_ : Str) (b : Str) (Q : Bool → Prop) : Prop :=
  M_stack_Depth m s_ a_ fun y1 y2 => M_stack_Depth m s_ b fun y3 y4 => M_stack_Apart m s_ a_ b fun y5 y6 => cnd (y2 != 0) (M_law_StackAddUp_k1 m s_ a_ b Q y1 y2 y3 y5 true) (cnd (y4 != 0) (M_law_StackAddUp_k1 m s_ a_ b Q y1 y2 y3 y5 true) (M_law_StackAddUp_k1 m s_ a_ b Q y1 y2 y3 y5 (y6 != 0)))
set_option maxHeartbeats 1000000 in
theorem R_law_StackAddUp (m : (List Material)) (s_ : (List Layer)) (a_ : Str) (b : Str) (w0 : World) (mA : Option Addr) (mC : Nat) (hv_m : View w0 (old w0 none_) mA mC m) (s_A : Option Addr) (s_C : Nat) (hv_s_ : View w0 (old w0 none_) s_A s_C s_) (Q : Bool → Prop) (h : M_law_StackAddUp m s_ a_ b Q) :
    Ret Try.prog 5 #[.slice mA m.length mC, .slice s_A s_.length s_C, .string (ba a_), .string (ba b)] w0 fun v w' => ∃ (r0 : Bool), v = .bool r0 ∧ Q r0 ∧ Sat w0 none_ [] w' := by
  refine fn_enter Try.func5 rfl Try.ntmps5 rfl (fs := [(0, .slice mA m.length mC), (1, .slice s_A s_.length s_C), (2, .string (ba a_)), (3, .string (ba b))]) rfl (fun a hf => ?_)
  have hs := Sat.start w0 none_
  unfold M_law_StackAddUp at h
  refine wp_seq ?_
  refine R.list ?_
  refine S.val hf hs (v := .bool false) rfl rfl rfl (V.pure rfl) (fun a hf => ?_)
  refine R.nil ?_
  refine X.then_ ?_
  refine wp_seq ?_
  refine R.list ?_
  refine S.val hf hs (v := .slice mA m.length mC) rfl rfl rfl (V.pure rfl) (fun a hf => ?_)
  refine S.val hf hs (v := .slice s_A s_.length s_C) rfl rfl rfl (V.pure rfl) (fun a hf => ?_)
  refine S.val hf hs (v := .string (ba a_)) rfl rfl rfl (V.pure rfl) (fun a hf => ?_)
  refine S.call hf rfl rfl rfl (call_fn (vs := [.slice mA m.length mC, .slice s_A s_.length s_C, .string (ba a_)]) rfl rfl rfl Try.call21) (R_stack_Depth m s_ a_ _ mA mC ((Ag.args _ _ _).view hv_m hs) s_A s_C ((Ag.args _ _ _).view hv_s_ hs) _ h) (fun v a w' hf hr => ?_)
  obtain ⟨y1, y2, rfl, h2, hs2⟩ := hr
  replace h := h2; replace hs := hs.call hs2; clear h2 hs2
  refine S.val hf hs (v := .tuple #[.int .i64 y1, .int .i64 y2]) rfl rfl rfl (V.pure rfl) (fun a hf => ?_)
  refine S.val hf hs (v := .int .i64 y1) rfl rfl rfl (V.pure rfl) (fun a hf => ?_)
  refine S.val hf hs (v := .int .i64 y2) rfl rfl rfl (V.pure rfl) (fun a hf => ?_)
  refine S.val hf hs (v := .int .i64 y1) rfl rfl rfl (V.pure rfl) (fun a hf => ?_)
  refine S.val hf hs (v := .int .i64 y2) rfl rfl rfl (V.pure rfl) (fun a hf => ?_)
  refine R.nil ?_
  refine X.then_ ?_
  refine wp_seq ?_
  refine R.list ?_
  refine S.val hf hs (v := .slice mA m.length mC) rfl rfl rfl (V.pure rfl) (fun a hf => ?_)
  refine S.val hf hs (v := .slice s_A s_.length s_C) rfl rfl rfl (V.pure rfl) (fun a hf => ?_)
  refine S.val hf hs (v := .string (ba b)) rfl rfl rfl (V.pure rfl) (fun a hf => ?_)
  refine S.call hf rfl rfl rfl (call_fn (vs := [.slice mA m.length mC, .slice s_A s_.length s_C, .string (ba b)]) rfl rfl rfl Try.call21) (R_stack_Depth m s_ b _ mA mC ((Ag.args _ _ _).view hv_m hs) s_A s_C ((Ag.args _ _ _).view hv_s_ hs) _ h) (fun v a w' hf hr => ?_)
  obtain ⟨y3, y4, rfl, h2, hs2⟩ := hr
  replace h := h2; replace hs := hs.call hs2; clear h2 hs2
  refine S.val hf hs (v := .tuple #[.int .i64 y3, .int .i64 y4]) rfl rfl rfl (V.pure rfl) (fun a hf => ?_)
  refine S.val hf hs (v := .int .i64 y3) rfl rfl rfl (V.pure rfl) (fun a hf => ?_)
  refine S.val hf hs (v := .int .i64 y4) rfl rfl rfl (V.pure rfl) (fun a hf => ?_)
  refine S.val hf hs (v := .int .i64 y3) rfl rfl rfl (V.pure rfl) (fun a hf => ?_)
  refine S.val hf hs (v := .int .i64 y4) rfl rfl rfl (V.pure rfl) (fun a hf => ?_)
  refine R.nil ?_
  refine X.then_ ?_
  refine wp_seq ?_
  refine R.list ?_
  refine S.val hf hs (v := .slice mA m.length mC) rfl rfl rfl (V.pure rfl) (fun a hf => ?_)
  refine S.val hf hs (v := .slice s_A s_.length s_C) rfl rfl rfl (V.pure rfl) (fun a hf => ?_)
  refine S.val hf hs (v := .string (ba a_)) rfl rfl rfl (V.pure rfl) (fun a hf => ?_)
  refine S.val hf hs (v := .string (ba b)) rfl rfl rfl (V.pure rfl) (fun a hf => ?_)
  refine S.call hf rfl rfl rfl (call_fn (vs := [.slice mA m.length mC, .slice s_A s_.length s_C, .string (ba a_), .string (ba b)]) rfl rfl rfl Try.call23) (R_stack_Apart m s_ a_ b _ mA mC ((Ag.args _ _ _).view hv_m hs) s_A s_C ((Ag.args _ _ _).view hv_s_ hs) _ h) (fun v a w' hf hr => ?_)
  obtain ⟨y5, y6, rfl, h2, hs2⟩ := hr
  replace h := h2; replace hs := hs.call hs2; clear h2 hs2
  refine S.val hf hs (v := .tuple #[.int .i64 y5, .int .i64 y6]) rfl rfl rfl (V.pure rfl) (fun a hf => ?_)
  refine S.val hf hs (v := .int .i64 y5) rfl rfl rfl (V.pure rfl) (fun a hf => ?_)
  refine S.val hf hs (v := .int .i64 y6) rfl rfl rfl (V.pure rfl) (fun a hf => ?_)
  refine S.val hf hs (v := .int .i64 y5) rfl rfl rfl (V.pure rfl) (fun a hf => ?_)
  refine S.val hf hs (v := .int .i64 y6) rfl rfl rfl (V.pure rfl) (fun a hf => ?_)
  refine R.nil ?_
  refine X.then_ ?_
  refine wp_seq ?_
  refine wp_seq ?_
  refine C.cut (J := fun a w => ∃ (c1 : Bool), M_law_StackAddUp_k1 m s_ a_ b Q y1 y2 y3 y5 c1 ∧ FrOk 143 [(0, .slice mA m.length mC), (1, .slice s_A s_.length s_C), (2, .string (ba a_)), (3, .string (ba b)), (9, .int .i64 y1), (10, .int .i64 y2), (11, .int .i64 y3), (13, .int .i64 y5), (51, .bool c1)] a ∧ Sat w0 none_ [] w) ?_ ?_
  · rintro a w ⟨c1, h, hf, hs⟩
    unfold M_law_StackAddUp_k1 at h
    refine C.cond hf (b := c1) rfl (fun hc => ?_) (fun hc => ?_)
    · replace h := h.1 hc
      refine wp_seq ?_
      refine R.list ?_
      refine S.val hf hs (v := .int .i64 y2) rfl rfl rfl (V.pure rfl) (fun a hf => ?_)
      refine S.val hf hs (v := .bool (y2 == 0)) rfl rfl rfl (V.pure rfl) (fun a hf => ?_)
      refine S.split hf hs (b := y2 == 0) rfl rfl rfl (V.pure rfl) (fun hc a hf => ?_) (fun hc a hf => ?_)
      · replace h := h.1 hc
        refine S.skip hf rfl rfl rfl (fun a hf => ?_)
        refine S.skip hf rfl rfl rfl (fun a hf => ?_)
        refine S.val hf hs (v := .bool true) rfl rfl rfl (V.pure rfl) (fun a hf => ?_)
        refine S.val hf hs (v := .bool true) rfl rfl rfl (V.pure rfl) (fun a hf => ?_)
        refine S.call hf rfl rfl rfl (call_fn (vs := []) rfl rfl rfl Try.call20) (R_awake  _  _ h) (fun v a w' hf hr => ?_)
        obtain ⟨y7, rfl, h2, hs2⟩ := hr
        replace h := h2; replace hs := hs.call hs2; clear h2 hs2
        refine S.val hf hs (v := .bool y7) rfl rfl rfl (V.pure rfl) (fun a hf => ?_)
        refine S.val hf hs (v := .bool y7) rfl rfl rfl (V.pure rfl) (fun a hf => ?_)
        refine R.nil ?_
        refine X.then_ ?_
        refine wp_ret ?_
        refine X.then_ret ?_
        exact L.ret hf (run_results1 Try.results5 (ResIs.tmp hf rfl)) ⟨y7, rfl, h, hs.nil⟩
      · replace h := h.2 hc
        refine S.val hf hs (v := .int .i64 y1) rfl rfl rfl (V.pure rfl) (fun a hf => ?_)
        refine S.val hf hs (v := .bool (y1 == 0)) rfl rfl rfl (V.pure rfl) (fun a hf => ?_)
        refine S.val hf hs (v := .bool (y1 == 0)) rfl rfl rfl (V.pure rfl) (fun a hf => ?_)
        refine S.split hf hs (b := y1 == 0) rfl rfl rfl (V.pure rfl) (fun hc a hf => ?_) (fun hc a hf => ?_)
        · replace h := h.1 hc
          refine S.call hf rfl rfl rfl (call_fn (vs := []) rfl rfl rfl Try.call20) (R_awake  _  _ h) (fun v a w' hf hr => ?_)
          obtain ⟨y8, rfl, h2, hs2⟩ := hr
          replace h := h2; replace hs := hs.call hs2; clear h2 hs2
          refine S.val hf hs (v := .bool y8) rfl rfl rfl (V.pure rfl) (fun a hf => ?_)
          refine S.val hf hs (v := .bool y8) rfl rfl rfl (V.pure rfl) (fun a hf => ?_)
          refine R.nil ?_
          refine X.then_ ?_
          refine wp_ret ?_
          refine X.then_ret ?_
          exact L.ret hf (run_results1 Try.results5 (ResIs.tmp hf rfl)) ⟨y8, rfl, h, hs.nil⟩
        · replace h := h.2 hc
          refine S.skip hf rfl rfl rfl (fun a hf => ?_)
          refine S.val hf hs (v := .bool false) rfl rfl rfl (V.pure rfl) (fun a hf => ?_)
          refine S.val hf hs (v := .bool false) rfl rfl rfl (V.pure rfl) (fun a hf => ?_)
          refine R.nil ?_
          refine X.then_ ?_
          refine wp_ret ?_
          refine X.then_ret ?_
          exact L.ret hf (run_results1 Try.results5 (ResIs.tmp hf rfl)) ⟨false, rfl, h, hs.nil⟩
    · replace h := h.2 hc
      refine wp_skip ?_
      refine X.then_ ?_
      refine wp_seq ?_
      refine wp_seq ?_
      refine R.list ?_
      refine S.val hf hs (v := .string (ba a_)) rfl rfl rfl (V.pure rfl) (fun a hf => ?_)
      refine S.val hf hs (v := .string (ba b)) rfl rfl rfl (V.pure rfl) (fun a hf => ?_)
      refine S.val hf hs (v := .bool (a_ == b)) rfl rfl rfl (V.strCmp (a_ == b) rfl rfl rfl rfl) (fun a hf => ?_)
      refine R.nil ?_
      refine X.then_ ?_
      refine C.cond hf (b := a_ == b) rfl (fun hc => ?_) (fun hc => ?_)
      · replace h := h.1 hc
        refine wp_seq ?_
        refine R.list ?_
        refine S.val hf hs (v := .int .i64 y5) rfl rfl rfl (V.pure rfl) (fun a hf => ?_)
        refine S.val hf hs (v := .bool (y5 == 0)) rfl rfl rfl (V.pure rfl) (fun a hf => ?_)
        refine S.split hf hs (b := y5 == 0) rfl rfl rfl (V.pure rfl) (fun hc a hf => ?_) (fun hc a hf => ?_)
        · replace h := h.1 hc
          refine S.val hf hs (v := .int .i64 y1) rfl rfl rfl (V.pure rfl) (fun a hf => ?_)
          refine S.val hf hs (v := .int .i64 y3) rfl rfl rfl (V.pure rfl) (fun a hf => ?_)
          refine S.val hf hs (v := .bool (y1 == y3)) rfl rfl rfl (V.pure rfl) (fun a hf => ?_)
          refine S.val hf hs (v := .bool (y1 == y3)) rfl rfl rfl (V.pure rfl) (fun a hf => ?_)
          refine S.split hf hs (b := y1 == y3) rfl rfl rfl (V.pure rfl) (fun hc a hf => ?_) (fun hc a hf => ?_)
          · replace h := h.1 hc
            refine S.call hf rfl rfl rfl (call_fn (vs := []) rfl rfl rfl Try.call20) (R_awake  _  _ h) (fun v a w' hf hr => ?_)
            obtain ⟨y9, rfl, h2, hs2⟩ := hr
            replace h := h2; replace hs := hs.call hs2; clear h2 hs2
            refine S.val hf hs (v := .bool y9) rfl rfl rfl (V.pure rfl) (fun a hf => ?_)
            refine S.val hf hs (v := .bool y9) rfl rfl rfl (V.pure rfl) (fun a hf => ?_)
            refine R.nil ?_
            refine X.then_ ?_
            refine wp_ret ?_
            refine X.then_ret ?_
            exact L.ret hf (run_results1 Try.results5 (ResIs.tmp hf rfl)) ⟨y9, rfl, h, hs.nil⟩
          · replace h := h.2 hc
            refine S.skip hf rfl rfl rfl (fun a hf => ?_)
            refine S.val hf hs (v := .bool false) rfl rfl rfl (V.pure rfl) (fun a hf => ?_)
            refine S.val hf hs (v := .bool false) rfl rfl rfl (V.pure rfl) (fun a hf => ?_)
            refine R.nil ?_
            refine X.then_ ?_
            refine wp_ret ?_
            refine X.then_ret ?_
            exact L.ret hf (run_results1 Try.results5 (ResIs.tmp hf rfl)) ⟨false, rfl, h, hs.nil⟩
        · replace h := h.2 hc
          refine S.skip hf rfl rfl rfl (fun a hf => ?_)
          refine S.skip hf rfl rfl rfl (fun a hf => ?_)
          refine S.skip hf rfl rfl rfl (fun a hf => ?_)
          refine S.val hf hs (v := .bool false) rfl rfl rfl (V.pure rfl) (fun a hf => ?_)
          refine S.val hf hs (v := .bool false) rfl rfl rfl (V.pure rfl) (fun a hf => ?_)
          refine S.skip hf rfl rfl rfl (fun a hf => ?_)
          refine S.val hf hs (v := .bool false) rfl rfl rfl (V.pure rfl) (fun a hf => ?_)
          refine S.val hf hs (v := .bool false) rfl rfl rfl (V.pure rfl) (fun a hf => ?_)
          refine R.nil ?_
          refine X.then_ ?_
          refine wp_ret ?_
          refine X.then_ret ?_
          exact L.ret hf (run_results1 Try.results5 (ResIs.tmp hf rfl)) ⟨false, rfl, h, hs.nil⟩
      · replace h := h.2 hc
        refine wp_skip ?_
        refine X.then_ ?_
        refine wp_seq ?_
        refine R.list ?_
        refine S.val hf hs (v := .int .i64 0) rfl rfl rfl (V.pure rfl) (fun a hf => ?_)
        refine R.nil ?_
        refine X.then_ ?_
        refine wp_seq ?_
        refine wp_seq ?_
        refine R.list ?_
        refine S.val hf hs (v := .slice s_A s_.length s_C) rfl rfl rfl (V.pure rfl) (fun a hf => ?_)
        refine S.val hf hs (v := .int .i64 (s_.length : Int)) rfl rfl rfl (V.len rfl rfl Try.runUnderlying23) (fun a hf => ?_)
        refine S.val hf hs (v := .int .i64 0) rfl rfl rfl (V.pure rfl) (fun a hf => ?_)
        refine R.nil ?_
        refine X.then_ ?_
        refine wp_block ?_
        have hlenk2 := hv_s_.len64
        refine C.range (fun (ll : List Layer) a w => ∃ (k2 : Nat) (n2 : Int), s_.drop k2 = ll ∧ k2 + ll.length = s_.length ∧ forIn' (fun k x (s : Int) next => M_law_StackAddUp_L1 m s_ a_ b k x s (fun n2 => next n2)) (fun (s : Int) => (fun (n2 : Int) => cnd ((w64 ((w64 ((min y1 y3) + n2)) + y5)) == (max y1 y3)) (M_awake  fun y10 => Q y10) (Q false)) s) ll k2 n2 ∧ FrOk 143 [(76, .int .i64 (k2 : Int)), (0, .slice mA m.length mC), (1, .slice s_A s_.length s_C), (2, .string (ba a_)), (3, .string (ba b)), (9, .int .i64 y1), (11, .int .i64 y3), (13, .int .i64 y5), (15, .int .i64 n2), (74, .slice s_A s_.length s_C), (75, .int .i64 (s_.length : Int))] a ∧ Sat w0 none_ [] w) s_ ⟨0, 0, rfl, Nat.zero_add _, h, (((((((((((hf.nil.cons (hf.get 75 _ rfl)).cons (hf.get 74 _ rfl)).cons (hf.get 15 _ rfl)).cons (hf.get 13 _ rfl)).cons (hf.get 11 _ rfl)).cons (hf.get 9 _ rfl)).cons (hf.get 3 _ rfl)).cons (hf.get 2 _ rfl)).cons (hf.get 1 _ rfl)).cons (hf.get 0 _ rfl)).cons (hf.get 76 _ rfl)), hs⟩ ?_
        clear h hf hs
        rintro llk2 a w ⟨k2, n2, hlk2, hkk2, h, hf, hs⟩
        cases llk2 with
        | nil =>
          have hc := range_done hkk2
          replace h : (fun (n2 : Int) => cnd ((w64 ((w64 ((min y1 y3) + n2)) + y5)) == (max y1 y3)) (M_awake  fun y10 => Q y10) (Q false)) n2 := h
          refine wp_seq ?_
          refine R.list ?_
          refine S.val hf hs (v := .bool false) rfl rfl rfl (V.cmp false rfl rfl rfl rfl hc) (fun a hf => ?_)
          refine R.nil ?_
          refine X.then_ ?_
          refine wp_seq ?_
          refine C.no hf rfl ?_
          refine wp_exit ?_
          refine X.then_exit ?_
          refine X.then_exit ?_
          refine X.blk_exit ?_
          refine X.then_ ?_
          refine wp_seq ?_
          refine R.list ?_
          refine S.val hf hs (v := .int .i64 y1) rfl rfl rfl (V.pure rfl) (fun a hf => ?_)
          refine S.val hf hs (v := .int .i64 y3) rfl rfl rfl (V.pure rfl) (fun a hf => ?_)
          refine S.val hf hs (v := .int .i64 (min y1 y3)) rfl rfl rfl (V.min2 rfl rfl rfl) (fun a hf => ?_)
          refine S.val hf hs (v := .int .i64 n2) rfl rfl rfl (V.pure rfl) (fun a hf => ?_)
          refine S.val hf hs (v := .int .i64 (w64 ((min y1 y3) + n2))) rfl rfl rfl (V.pure rfl) (fun a hf => ?_)
          refine S.val hf hs (v := .int .i64 y5) rfl rfl rfl (V.pure rfl) (fun a hf => ?_)
          refine S.val hf hs (v := .int .i64 (w64 ((w64 ((min y1 y3) + n2)) + y5))) rfl rfl rfl (V.pure rfl) (fun a hf => ?_)
          refine S.val hf hs (v := .int .i64 y1) rfl rfl rfl (V.pure rfl) (fun a hf => ?_)
          refine S.val hf hs (v := .int .i64 y3) rfl rfl rfl (V.pure rfl) (fun a hf => ?_)
          refine S.val hf hs (v := .int .i64 (max y1 y3)) rfl rfl rfl (V.max2 rfl rfl rfl) (fun a hf => ?_)
          refine S.val hf hs (v := .bool ((w64 ((w64 ((min y1 y3) + n2)) + y5)) == (max y1 y3))) rfl rfl rfl (V.pure rfl) (fun a hf => ?_)
          refine S.split hf hs (b := (w64 ((w64 ((min y1 y3) + n2)) + y5)) == (max y1 y3)) rfl rfl rfl (V.pure rfl) (fun hc a hf => ?_) (fun hc a hf => ?_)
          · replace h := h.1 hc
            refine S.call hf rfl rfl rfl (call_fn (vs := []) rfl rfl rfl Try.call20) (R_awake  _  _ h) (fun v a w' hf hr => ?_)
            obtain ⟨y10, rfl, h2, hs2⟩ := hr
            replace h := h2; replace hs := hs.call hs2; clear h2 hs2
            refine S.val hf hs (v := .bool y10) rfl rfl rfl (V.pure rfl) (fun a hf => ?_)
            refine S.val hf hs (v := .bool y10) rfl rfl rfl (V.pure rfl) (fun a hf => ?_)
            refine R.nil ?_
            refine X.then_ ?_
            refine wp_ret ?_
            exact L.ret hf (run_results1 Try.results5 (ResIs.tmp hf rfl)) ⟨y10, rfl, h, hs.nil⟩
          · replace h := h.2 hc
            refine S.skip hf rfl rfl rfl (fun a hf => ?_)
            refine S.val hf hs (v := .bool false) rfl rfl rfl (V.pure rfl) (fun a hf => ?_)
            refine S.val hf hs (v := .bool false) rfl rfl rfl (V.pure rfl) (fun a hf => ?_)
            refine R.nil ?_
            refine X.then_ ?_
            refine wp_ret ?_
            exact L.ret hf (run_results1 Try.results5 (ResIs.tmp hf rfl)) ⟨false, rfl, h, hs.nil⟩
        | cons xk2 llk2 =>
          have hltk2 := range_lt hkk2; have hc := range_go hkk2; have hxk2 := range_get hlk2
          obtain ⟨next1, hnext1⟩ : ∃ X : Int → Prop, X = (fun n2 => forIn' (fun k x (s : Int) next => M_law_StackAddUp_L1 m s_ a_ b k x s (fun n2 => next n2)) (fun (s : Int) => (fun (n2 : Int) => cnd ((w64 ((w64 ((min y1 y3) + n2)) + y5)) == (max y1 y3)) (M_awake  fun y10 => Q y10) (Q false)) s) llk2 (k2 + 1) n2) := ⟨_, rfl⟩
          replace h : M_law_StackAddUp_L1 m s_ a_ b k2 xk2 n2 next1 := by rw [hnext1]; exact h
          unfold M_law_StackAddUp_L1 at h
          refine wp_seq ?_
          refine R.list ?_
          refine S.val hf hs (v := .bool true) rfl rfl rfl (V.cmp true rfl rfl rfl rfl hc) (fun a hf => ?_)
          refine R.nil ?_
          refine X.then_ ?_
          refine wp_seq ?_
          refine C.yes hf rfl ?_
          refine wp_skip ?_
          refine X.then_ ?_
          refine wp_seq ?_
          refine wp_block ?_
          refine wp_seq ?_
          refine R.list ?_
          refine S.val hf hs (v := elemPtr s_A (k2 * 2)) rfl rfl rfl (V.index rfl rfl rfl Try.runUnderlying23 Try.sizeOf35 (hv_s_.some_ (lt_of_get hxk2)) (Int.natCast_nonneg _) (lt_of_get hxk2) rfl) (fun a hf => ?_)
          refine S.val hf hs (v := .agg #[.string (ba xk2.Name), .string (ba xk2.Material)]) rfl rfl rfl (V.loadEl (off := 0) (Ag.args _ _ _) (hv_s_.flat hxk2) rfl rfl rfl Try.isAgg35 Try.sizeOf35 rfl rfl) (fun a hf => ?_)
          refine S.alloc hf hs rfl rfl rfl [.string (ba []), .string (ba [])] rfl Try.zeroValue35 rfl (fun g1 a w hf hs => ?_)
          refine S.storeBox 0 hf hs rfl rfl [.string (ba xk2.Name), .string (ba xk2.Material)] [.string (ba xk2.Name), .string (ba xk2.Material)] rfl rfl rfl rfl rfl Try.sizeOf35 rfl rfl rfl rfl (fun a w hf hs => ?_)
          refine R.nil ?_
          refine X.then_ ?_
          refine wp_seq ?_
          refine R.list ?_
          refine S.val hf hs (v := .slice mA m.length mC) rfl rfl rfl (V.pure rfl) (fun a hf => ?_)
          refine S.val hf hs (v := .int .i64 (m.length : Int)) rfl rfl rfl (V.len rfl rfl Try.runUnderlying22) (fun a hf => ?_)
          refine S.val hf hs (v := .int .i64 0) rfl rfl rfl (V.pure rfl) (fun a hf => ?_)
          refine R.nil ?_
          refine X.then_ ?_
          refine wp_block ?_
          have hlenk3 := hv_m.len64
          refine C.range (fun (ll : List Material) a w => ∃ (k3 : Nat) (n4 : Int), m.drop k3 = ll ∧ k3 + ll.length = m.length ∧ forIn' (fun k x (s : Int) next => M_law_StackAddUp_L2 s_ a_ b xk2 k x s (fun n4 => next n4)) (fun (s : Int) => (fun (n4 : Int) => next1 n4) s) ll k3 n4 ∧ FrOk 143 [(82, .int .i64 (k3 : Int)), (0, .slice mA m.length mC), (1, .slice s_A s_.length s_C), (2, .string (ba a_)), (3, .string (ba b)), (9, .int .i64 y1), (11, .int .i64 y3), (13, .int .i64 y5), (15, .int .i64 n4), (17, .pointer (some ⟨g1, 0, none⟩)), (74, .slice s_A s_.length s_C), (75, .int .i64 (s_.length : Int)), (76, .int .i64 (k2 : Int)), (80, .slice mA m.length mC), (81, .int .i64 (m.length : Int))] a ∧ Sat w0 none_ [hbox g1 35 [.string (ba xk2.Name), .string (ba xk2.Material)]] w) m ⟨0, n2, rfl, Nat.zero_add _, h, (((((((((((((((hf.nil.cons (hf.get 81 _ rfl)).cons (hf.get 80 _ rfl)).cons (hf.get 76 _ rfl)).cons (hf.get 75 _ rfl)).cons (hf.get 74 _ rfl)).cons (hf.get 17 _ rfl)).cons (hf.get 15 _ rfl)).cons (hf.get 13 _ rfl)).cons (hf.get 11 _ rfl)).cons (hf.get 9 _ rfl)).cons (hf.get 3 _ rfl)).cons (hf.get 2 _ rfl)).cons (hf.get 1 _ rfl)).cons (hf.get 0 _ rfl)).cons (hf.get 82 _ rfl)), hs⟩ ?_
          clear h hf hs
          rintro llk3 a w ⟨k3, n4, hlk3, hkk3, h, hf, hs⟩
          cases llk3 with
          | nil =>
            have hc := range_done hkk3
            replace h : (fun (n4 : Int) => next1 n4) n4 := h
            refine wp_seq ?_
            refine R.list ?_
            refine S.val hf hs (v := .bool false) rfl rfl rfl (V.cmp false rfl rfl rfl rfl hc) (fun a hf => ?_)
            refine R.nil ?_
            refine X.then_ ?_
            refine wp_seq ?_
            refine C.no hf rfl ?_
            refine wp_exit ?_
            refine X.then_exit ?_
            refine X.then_exit ?_
            refine X.blk_exit ?_
            refine X.blk ?_
            refine X.then_ ?_
            refine R.list ?_
            refine S.val hf hs (v := .int .i64 ((k2 + 1 : Nat) : Int)) rfl rfl rfl (V.incr rfl rfl rfl hltk2 hlenk2) (fun a hf => ?_)
            refine S.val hf hs (v := .int .i64 ((k2 + 1 : Nat) : Int)) rfl rfl rfl (V.pure rfl) (fun a hf => ?_)
            refine R.nil ?_
            refine X.then_ ?_
            exact ⟨xk2, llk2, rfl, k2 + 1, n4, range_drop hlk2, range_len hkk2, (by rw [hnext1] at h; exact h), (((((((((((hf.nil.cons (hf.get 75 _ rfl)).cons (hf.get 74 _ rfl)).cons (hf.get 15 _ rfl)).cons (hf.get 13 _ rfl)).cons (hf.get 11 _ rfl)).cons (hf.get 9 _ rfl)).cons (hf.get 3 _ rfl)).cons (hf.get 2 _ rfl)).cons (hf.get 1 _ rfl)).cons (hf.get 0 _ rfl)).cons (hf.get 76 _ rfl)), hs.drop⟩
          | cons xk3 llk3 =>
            have hltk3 := range_lt hkk3; have hc := range_go hkk3; have hxk3 := range_get hlk3
            obtain ⟨next2, hnext2⟩ : ∃ X : Int → Prop, X = (fun n4 => forIn' (fun k x (s : Int) next => M_law_StackAddUp_L2 s_ a_ b xk2 k x s (fun n4 => next n4)) (fun (s : Int) => (fun (n4 : Int) => next1 n4) s) llk3 (k3 + 1) n4) := ⟨_, rfl⟩
            replace h : M_law_StackAddUp_L2 s_ a_ b xk2 k3 xk3 n4 next2 := by rw [hnext2]; exact h
            unfold M_law_StackAddUp_L2 at h
            refine wp_seq ?_
            refine R.list ?_
            refine S.val hf hs (v := .bool true) rfl rfl rfl (V.cmp true rfl rfl rfl rfl hc) (fun a hf => ?_)
            refine R.nil ?_
            refine X.then_ ?_
            refine wp_seq ?_
            refine C.yes hf rfl ?_
            refine wp_skip ?_
            refine X.then_ ?_
            refine wp_seq ?_
            refine wp_block ?_
            refine wp_seq ?_
            refine R.list ?_
            refine S.val hf hs (v := elemPtr mA (k3 * 4)) rfl rfl rfl (V.index rfl rfl rfl Try.runUnderlying22 Try.sizeOf37 (hv_m.some_ (lt_of_get hxk3)) (Int.natCast_nonneg _) (lt_of_get hxk3) rfl) (fun a hf => ?_)
            refine S.val hf hs (v := .agg #[.string (ba xk3.Name), .int .i64 xk3.Kind, .int .i64 xk3.Thick, .int .i64 xk3.Grow]) rfl rfl rfl (V.loadEl (off := 0) (Ag.args _ _ _) (hv_m.flat hxk3) rfl rfl rfl Try.isAgg37 Try.sizeOf37 rfl rfl) (fun a hf => ?_)
            refine S.alloc hf hs rfl rfl rfl [.string (ba []), .int .i64 0, .int .i64 0, .int .i64 0] rfl Try.zeroValue37 rfl (fun g2 a w hf hs => ?_)
            refine S.storeBox 0 hf hs rfl rfl [.string (ba xk3.Name), .int .i64 xk3.Kind, .int .i64 xk3.Thick, .int .i64 xk3.Grow] [.string (ba xk3.Name), .int .i64 xk3.Kind, .int .i64 xk3.Thick, .int .i64 xk3.Grow] rfl rfl rfl rfl rfl Try.sizeOf37 rfl rfl rfl rfl (fun a w hf hs => ?_)
            refine R.nil ?_
            refine X.then_ ?_
            refine wp_seq ?_
            refine C.cut (J := fun a w => ∃ (c2 : Bool), M_law_StackAddUp_k4 xk3 n4 next2 c2 ∧ FrOk 143 [(0, .slice mA m.length mC), (1, .slice s_A s_.length s_C), (2, .string (ba a_)), (3, .string (ba b)), (9, .int .i64 y1), (11, .int .i64 y3), (13, .int .i64 y5), (15, .int .i64 n4), (17, .pointer (some ⟨g1, 0, none⟩)), (19, .pointer (some ⟨g2, 0, none⟩)), (74, .slice s_A s_.length s_C), (75, .int .i64 (s_.length : Int)), (76, .int .i64 (k2 : Int)), (80, .slice mA m.length mC), (81, .int .i64 (m.length : Int)), (82, .int .i64 (k3 : Int)), (124, .bool c2)] a ∧ Sat w0 none_ [hbox g2 37 [.string (ba xk3.Name), .int .i64 xk3.Kind, .int .i64 xk3.Thick, .int .i64 xk3.Grow], hbox g1 35 [.string (ba xk2.Name), .string (ba xk2.Material)]] w) ?_ ?_
            · rintro a w ⟨c2, h, hf, hs⟩
              unfold M_law_StackAddUp_k4 at h
              refine C.cond hf (b := c2) rfl (fun hc => ?_) (fun hc => ?_)
              · replace h := h.1 hc
                refine R.list ?_
                refine S.val hf hs (v := .pointer (some ⟨g2, 2, none⟩)) rfl rfl rfl (V.fieldBox rfl rfl Try.runUnderlying37 rfl Try.sizeOf3 rfl rfl) (fun a hf => ?_)
                refine S.val hf hs (v := .int .i64 xk3.Thick) rfl rfl rfl (V.loadBox 0 rfl rfl rfl Try.isAgg3 Try.sizeOf3 rfl rfl) (fun a hf => ?_)
                refine S.val hf hs (v := .int .i64 xk3.Thick) rfl rfl rfl (V.pure rfl) (fun a hf => ?_)
                refine R.nil ?_
                refine X.blk ?_
                refine X.then_ ?_
                refine R.list ?_
                refine S.val hf hs (v := .int .i64 ((k3 + 1 : Nat) : Int)) rfl rfl rfl (V.incr rfl rfl rfl hltk3 hlenk3) (fun a hf => ?_)
                refine S.val hf hs (v := .int .i64 ((k3 + 1 : Nat) : Int)) rfl rfl rfl (V.pure rfl) (fun a hf => ?_)
                refine R.nil ?_
                refine X.then_ ?_
                exact ⟨xk3, llk3, rfl, k3 + 1, xk3.Thick, range_drop hlk3, range_len hkk3, (by rw [hnext2] at h; exact h), (((((((((((((((hf.nil.cons (hf.get 81 _ rfl)).cons (hf.get 80 _ rfl)).cons (hf.get 76 _ rfl)).cons (hf.get 75 _ rfl)).cons (hf.get 74 _ rfl)).cons (hf.get 17 _ rfl)).cons (hf.get 15 _ rfl)).cons (hf.get 13 _ rfl)).cons (hf.get 11 _ rfl)).cons (hf.get 9 _ rfl)).cons (hf.get 3 _ rfl)).cons (hf.get 2 _ rfl)).cons (hf.get 1 _ rfl)).cons (hf.get 0 _ rfl)).cons (hf.get 82 _ rfl)), hs.drop⟩
              · replace h := h.2 hc
                refine wp_skip ?_
                refine X.blk ?_
                refine X.then_ ?_
                refine R.list ?_
                refine S.val hf hs (v := .int .i64 ((k3 + 1 : Nat) : Int)) rfl rfl rfl (V.incr rfl rfl rfl hltk3 hlenk3) (fun a hf => ?_)
                refine S.val hf hs (v := .int .i64 ((k3 + 1 : Nat) : Int)) rfl rfl rfl (V.pure rfl) (fun a hf => ?_)
                refine R.nil ?_
                refine X.then_ ?_
                exact ⟨xk3, llk3, rfl, k3 + 1, n4, range_drop hlk3, range_len hkk3, (by rw [hnext2] at h; exact h), (((((((((((((((hf.nil.cons (hf.get 81 _ rfl)).cons (hf.get 80 _ rfl)).cons (hf.get 76 _ rfl)).cons (hf.get 75 _ rfl)).cons (hf.get 74 _ rfl)).cons (hf.get 17 _ rfl)).cons (hf.get 15 _ rfl)).cons (hf.get 13 _ rfl)).cons (hf.get 11 _ rfl)).cons (hf.get 9 _ rfl)).cons (hf.get 3 _ rfl)).cons (hf.get 2 _ rfl)).cons (hf.get 1 _ rfl)).cons (hf.get 0 _ rfl)).cons (hf.get 82 _ rfl)), hs.drop⟩
            · skip
              refine R.list ?_
              refine S.val hf hs (v := .pointer (some ⟨g2, 0, none⟩)) rfl rfl rfl (V.fieldBox rfl rfl Try.runUnderlying37 rfl Try.sizeOf9 rfl rfl) (fun a hf => ?_)
              refine S.val hf hs (v := .string (ba xk3.Name)) rfl rfl rfl (V.loadBox 0 rfl rfl rfl Try.isAgg9 Try.sizeOf9 rfl rfl) (fun a hf => ?_)
              refine S.val hf hs (v := .pointer (some ⟨g1, 1, none⟩)) rfl rfl rfl (V.fieldBox rfl rfl Try.runUnderlying35 rfl Try.sizeOf9 rfl rfl) (fun a hf => ?_)
              refine S.val hf hs (v := .string (ba xk2.Material)) rfl rfl rfl (V.loadBox 1 rfl rfl rfl Try.isAgg9 Try.sizeOf9 rfl rfl) (fun a hf => ?_)
              refine S.val hf hs (v := .bool (xk3.Name == xk2.Material)) rfl rfl rfl (V.strCmp (xk3.Name == xk2.Material) rfl rfl rfl rfl) (fun a hf => ?_)
              refine S.split hf hs (b := xk3.Name == xk2.Material) rfl rfl rfl (V.pure rfl) (fun hc a hf => ?_) (fun hc a hf => ?_)
              · replace h := h.1 hc
                refine S.val hf hs (v := .pointer (some ⟨g1, 0, none⟩)) rfl rfl rfl (V.fieldBox rfl rfl Try.runUnderlying35 rfl Try.sizeOf9 rfl rfl) (fun a hf => ?_)
                refine S.val hf hs (v := .string (ba xk2.Name)) rfl rfl rfl (V.loadBox 1 rfl rfl rfl Try.isAgg9 Try.sizeOf9 rfl rfl) (fun a hf => ?_)
                refine S.val hf hs (v := .string (ba a_)) rfl rfl rfl (V.pure rfl) (fun a hf => ?_)
                refine S.val hf hs (v := .bool (xk2.Name == a_)) rfl rfl rfl (V.strCmp (xk2.Name == a_) rfl rfl rfl rfl) (fun a hf => ?_)
                refine S.split hf hs (b := xk2.Name == a_) rfl rfl rfl (V.pure rfl) (fun hc a hf => ?_) (fun hc a hf => ?_)
                · replace h := h.1 hc
                  refine S.val hf hs (v := .pointer (some ⟨g2, 1, none⟩)) rfl rfl rfl (V.fieldBox rfl rfl Try.runUnderlying37 rfl Try.sizeOf3 rfl rfl) (fun a hf => ?_)
                  refine S.val hf hs (v := .int .i64 xk3.Kind) rfl rfl rfl (V.loadBox 0 rfl rfl rfl Try.isAgg3 Try.sizeOf3 rfl rfl) (fun a hf => ?_)
                  refine S.val hf hs (v := .bool (xk3.Kind == 1)) rfl rfl rfl (V.pure rfl) (fun a hf => ?_)
                  refine S.val hf hs (v := .bool (xk3.Kind == 1)) rfl rfl rfl (V.pure rfl) (fun a hf => ?_)
                  refine S.split hf hs (b := xk3.Kind == 1) rfl rfl rfl (V.pure rfl) (fun hc a hf => ?_) (fun hc a hf => ?_)
                  · replace h := h.1 hc
                    refine S.val hf hs (v := .slice s_A s_.length s_C) rfl rfl rfl (V.pure rfl) (fun a hf => ?_)
                    refine S.val hf hs (v := .string (ba a_)) rfl rfl rfl (V.pure rfl) (fun a hf => ?_)
                    refine S.val hf hs (v := .string (ba b)) rfl rfl rfl (V.pure rfl) (fun a hf => ?_)
                    refine S.call hf rfl rfl rfl (call_fn (vs := [.slice s_A s_.length s_C, .string (ba a_), .string (ba b)]) rfl rfl rfl Try.call25) (R_ref4_IsUpper s_ a_ b _ s_A s_C ((Ag.args _ _ _).view hv_s_ hs) _ h) (fun v a w' hf hr => ?_)
                    obtain ⟨y11, rfl, h2, hs2⟩ := hr
                    replace h := h2; replace hs := hs.call hs2; clear h2 hs2
                    refine S.val hf hs (v := .bool y11) rfl rfl rfl (V.pure rfl) (fun a hf => ?_)
                    refine S.split hf hs (b := y11) rfl rfl rfl (V.pure rfl) (fun hc a hf => ?_) (fun hc a hf => ?_)
                    · replace h := h.1 hc
                      refine S.skip hf rfl rfl rfl (fun a hf => ?_)
                      refine S.skip hf rfl rfl rfl (fun a hf => ?_)
                      refine S.skip hf rfl rfl rfl (fun a hf => ?_)
                      refine S.skip hf rfl rfl rfl (fun a hf => ?_)
                      refine S.skip hf rfl rfl rfl (fun a hf => ?_)
                      refine S.skip hf rfl rfl rfl (fun a hf => ?_)
                      refine S.skip hf rfl rfl rfl (fun a hf => ?_)
                      refine S.skip hf rfl rfl rfl (fun a hf => ?_)
                      refine S.skip hf rfl rfl rfl (fun a hf => ?_)
                      refine S.skip hf rfl rfl rfl (fun a hf => ?_)
                      refine S.skip hf rfl rfl rfl (fun a hf => ?_)
                      refine S.skip hf rfl rfl rfl (fun a hf => ?_)
                      refine S.skip hf rfl rfl rfl (fun a hf => ?_)
                      refine S.skip hf rfl rfl rfl (fun a hf => ?_)
                      refine S.skip hf rfl rfl rfl (fun a hf => ?_)
                      refine S.val hf hs (v := .bool true) rfl rfl rfl (V.pure rfl) (fun a hf => ?_)
                      refine S.val hf hs (v := .bool true) rfl rfl rfl (V.pure rfl) (fun a hf => ?_)
                      refine R.nil ?_
                      refine X.then_ ?_
                      exact ⟨true, h, (((((((((((((((((hf.nil.cons (hf.get 124 _ rfl)).cons (hf.get 82 _ rfl)).cons (hf.get 81 _ rfl)).cons (hf.get 80 _ rfl)).cons (hf.get 76 _ rfl)).cons (hf.get 75 _ rfl)).cons (hf.get 74 _ rfl)).cons (hf.get 19 _ rfl)).cons (hf.get 17 _ rfl)).cons (hf.get 15 _ rfl)).cons (hf.get 13 _ rfl)).cons (hf.get 11 _ rfl)).cons (hf.get 9 _ rfl)).cons (hf.get 3 _ rfl)).cons (hf.get 2 _ rfl)).cons (hf.get 1 _ rfl)).cons (hf.get 0 _ rfl)), hs⟩
                    · replace h := h.2 hc
                      refine S.val hf hs (v := .pointer (some ⟨g1, 0, none⟩)) rfl rfl rfl (V.fieldBox rfl rfl Try.runUnderlying35 rfl Try.sizeOf9 rfl rfl) (fun a hf => ?_)
                      refine S.val hf hs (v := .string (ba xk2.Name)) rfl rfl rfl (V.loadBox 1 rfl rfl rfl Try.isAgg9 Try.sizeOf9 rfl rfl) (fun a hf => ?_)
                      refine S.val hf hs (v := .string (ba b)) rfl rfl rfl (V.pure rfl) (fun a hf => ?_)
                      refine S.val hf hs (v := .bool (xk2.Name == b)) rfl rfl rfl (V.strCmp (xk2.Name == b) rfl rfl rfl rfl) (fun a hf => ?_)
                      refine S.split hf hs (b := xk2.Name == b) rfl rfl rfl (V.pure rfl) (fun hc a hf => ?_) (fun hc a hf => ?_)
                      · replace h := h.1 hc
                        refine S.val hf hs (v := .pointer (some ⟨g2, 1, none⟩)) rfl rfl rfl (V.fieldBox rfl rfl Try.runUnderlying37 rfl Try.sizeOf3 rfl rfl) (fun a hf => ?_)
                        refine S.val hf hs (v := .int .i64 xk3.Kind) rfl rfl rfl (V.loadBox 0 rfl rfl rfl Try.isAgg3 Try.sizeOf3 rfl rfl) (fun a hf => ?_)
                        refine S.val hf hs (v := .bool (xk3.Kind == 1)) rfl rfl rfl (V.pure rfl) (fun a hf => ?_)
                        refine S.val hf hs (v := .bool (xk3.Kind == 1)) rfl rfl rfl (V.pure rfl) (fun a hf => ?_)
                        refine S.split hf hs (b := xk3.Kind == 1) rfl rfl rfl (V.pure rfl) (fun hc a hf => ?_) (fun hc a hf => ?_)
                        · replace h := h.1 hc
                          refine S.val hf hs (v := .slice s_A s_.length s_C) rfl rfl rfl (V.pure rfl) (fun a hf => ?_)
                          refine S.val hf hs (v := .string (ba b)) rfl rfl rfl (V.pure rfl) (fun a hf => ?_)
                          refine S.val hf hs (v := .string (ba a_)) rfl rfl rfl (V.pure rfl) (fun a hf => ?_)
                          refine S.call hf rfl rfl rfl (call_fn (vs := [.slice s_A s_.length s_C, .string (ba b), .string (ba a_)]) rfl rfl rfl Try.call25) (R_ref4_IsUpper s_ b a_ _ s_A s_C ((Ag.args _ _ _).view hv_s_ hs) _ h) (fun v a w' hf hr => ?_)
                          obtain ⟨y12, rfl, h2, hs2⟩ := hr
                          replace h := h2; replace hs := hs.call hs2; clear h2 hs2
                          refine S.val hf hs (v := .bool y12) rfl rfl rfl (V.pure rfl) (fun a hf => ?_)
                          refine S.val hf hs (v := .bool y12) rfl rfl rfl (V.pure rfl) (fun a hf => ?_)
                          refine S.val hf hs (v := .bool y12) rfl rfl rfl (V.pure rfl) (fun a hf => ?_)
                          refine R.nil ?_
                          refine X.then_ ?_
                          exact ⟨y12, h, (((((((((((((((((hf.nil.cons (hf.get 124 _ rfl)).cons (hf.get 82 _ rfl)).cons (hf.get 81 _ rfl)).cons (hf.get 80 _ rfl)).cons (hf.get 76 _ rfl)).cons (hf.get 75 _ rfl)).cons (hf.get 74 _ rfl)).cons (hf.get 19 _ rfl)).cons (hf.get 17 _ rfl)).cons (hf.get 15 _ rfl)).cons (hf.get 13 _ rfl)).cons (hf.get 11 _ rfl)).cons (hf.get 9 _ rfl)).cons (hf.get 3 _ rfl)).cons (hf.get 2 _ rfl)).cons (hf.get 1 _ rfl)).cons (hf.get 0 _ rfl)), hs⟩
                        · replace h := h.2 hc
                          refine S.skip hf rfl rfl rfl (fun a hf => ?_)
                          refine S.skip hf rfl rfl rfl (fun a hf => ?_)
                          refine S.skip hf rfl rfl rfl (fun a hf => ?_)
                          refine S.skip hf rfl rfl rfl (fun a hf => ?_)
                          refine S.val hf hs (v := .bool false) rfl rfl rfl (V.pure rfl) (fun a hf => ?_)
                          refine S.val hf hs (v := .bool false) rfl rfl rfl (V.pure rfl) (fun a hf => ?_)
                          refine S.val hf hs (v := .bool false) rfl rfl rfl (V.pure rfl) (fun a hf => ?_)
                          refine R.nil ?_
                          refine X.then_ ?_
                          exact ⟨false, h, (((((((((((((((((hf.nil.cons (hf.get 124 _ rfl)).cons (hf.get 82 _ rfl)).cons (hf.get 81 _ rfl)).cons (hf.get 80 _ rfl)).cons (hf.get 76 _ rfl)).cons (hf.get 75 _ rfl)).cons (hf.get 74 _ rfl)).cons (hf.get 19 _ rfl)).cons (hf.get 17 _ rfl)).cons (hf.get 15 _ rfl)).cons (hf.get 13 _ rfl)).cons (hf.get 11 _ rfl)).cons (hf.get 9 _ rfl)).cons (hf.get 3 _ rfl)).cons (hf.get 2 _ rfl)).cons (hf.get 1 _ rfl)).cons (hf.get 0 _ rfl)), hs⟩
                      · replace h := h.2 hc
                        refine S.skip hf rfl rfl rfl (fun a hf => ?_)
                        refine S.skip hf rfl rfl rfl (fun a hf => ?_)
                        refine S.skip hf rfl rfl rfl (fun a hf => ?_)
                        refine S.val hf hs (v := .bool false) rfl rfl rfl (V.pure rfl) (fun a hf => ?_)
                        refine S.val hf hs (v := .bool false) rfl rfl rfl (V.pure rfl) (fun a hf => ?_)
                        refine S.skip hf rfl rfl rfl (fun a hf => ?_)
                        refine S.skip hf rfl rfl rfl (fun a hf => ?_)
                        refine S.skip hf rfl rfl rfl (fun a hf => ?_)
                        refine S.skip hf rfl rfl rfl (fun a hf => ?_)
                        refine S.val hf hs (v := .bool false) rfl rfl rfl (V.pure rfl) (fun a hf => ?_)
                        refine S.val hf hs (v := .bool false) rfl rfl rfl (V.pure rfl) (fun a hf => ?_)
                        refine S.val hf hs (v := .bool false) rfl rfl rfl (V.pure rfl) (fun a hf => ?_)
                        refine R.nil ?_
                        refine X.then_ ?_
                        exact ⟨false, h, (((((((((((((((((hf.nil.cons (hf.get 124 _ rfl)).cons (hf.get 82 _ rfl)).cons (hf.get 81 _ rfl)).cons (hf.get 80 _ rfl)).cons (hf.get 76 _ rfl)).cons (hf.get 75 _ rfl)).cons (hf.get 74 _ rfl)).cons (hf.get 19 _ rfl)).cons (hf.get 17 _ rfl)).cons (hf.get 15 _ rfl)).cons (hf.get 13 _ rfl)).cons (hf.get 11 _ rfl)).cons (hf.get 9 _ rfl)).cons (hf.get 3 _ rfl)).cons (hf.get 2 _ rfl)).cons (hf.get 1 _ rfl)).cons (hf.get 0 _ rfl)), hs⟩
                  · replace h := h.2 hc
                    refine S.skip hf rfl rfl rfl (fun a hf => ?_)
                    refine S.skip hf rfl rfl rfl (fun a hf => ?_)
                    refine S.skip hf rfl rfl rfl (fun a hf => ?_)
                    refine S.skip hf rfl rfl rfl (fun a hf => ?_)
                    refine S.val hf hs (v := .bool false) rfl rfl rfl (V.pure rfl) (fun a hf => ?_)
                    refine S.val hf hs (v := .bool false) rfl rfl rfl (V.pure rfl) (fun a hf => ?_)
                    refine S.val hf hs (v := .pointer (some ⟨g1, 0, none⟩)) rfl rfl rfl (V.fieldBox rfl rfl Try.runUnderlying35 rfl Try.sizeOf9 rfl rfl) (fun a hf => ?_)
                    refine S.val hf hs (v := .string (ba xk2.Name)) rfl rfl rfl (V.loadBox 1 rfl rfl rfl Try.isAgg9 Try.sizeOf9 rfl rfl) (fun a hf => ?_)
                    refine S.val hf hs (v := .string (ba b)) rfl rfl rfl (V.pure rfl) (fun a hf => ?_)
                    refine S.val hf hs (v := .bool (xk2.Name == b)) rfl rfl rfl (V.strCmp (xk2.Name == b) rfl rfl rfl rfl) (fun a hf => ?_)
                    refine S.split hf hs (b := xk2.Name == b) rfl rfl rfl (V.pure rfl) (fun hc a hf => ?_) (fun hc a hf => ?_)
                    · replace h := h.1 hc
                      refine S.val hf hs (v := .pointer (some ⟨g2, 1, none⟩)) rfl rfl rfl (V.fieldBox rfl rfl Try.runUnderlying37 rfl Try.sizeOf3 rfl rfl) (fun a hf => ?_)
                      refine S.val hf hs (v := .int .i64 xk3.Kind) rfl rfl rfl (V.loadBox 0 rfl rfl rfl Try.isAgg3 Try.sizeOf3 rfl rfl) (fun a hf => ?_)
                      refine S.val hf hs (v := .bool (xk3.Kind == 1)) rfl rfl rfl (V.pure rfl) (fun a hf => ?_)
                      refine S.val hf hs (v := .bool (xk3.Kind == 1)) rfl rfl rfl (V.pure rfl) (fun a hf => ?_)
                      refine S.split hf hs (b := xk3.Kind == 1) rfl rfl rfl (V.pure rfl) (fun hc a hf => ?_) (fun hc a hf => ?_)
                      · replace h := h.1 hc
                        refine S.val hf hs (v := .slice s_A s_.length s_C) rfl rfl rfl (V.pure rfl) (fun a hf => ?_)
                        refine S.val hf hs (v := .string (ba b)) rfl rfl rfl (V.pure rfl) (fun a hf => ?_)
                        refine S.val hf hs (v := .string (ba a_)) rfl rfl rfl (V.pure rfl) (fun a hf => ?_)
                        refine S.call hf rfl rfl rfl (call_fn (vs := [.slice s_A s_.length s_C, .string (ba b), .string (ba a_)]) rfl rfl rfl Try.call25) (R_ref4_IsUpper s_ b a_ _ s_A s_C ((Ag.args _ _ _).view hv_s_ hs) _ h) (fun v a w' hf hr => ?_)
                        obtain ⟨y13, rfl, h2, hs2⟩ := hr
                        replace h := h2; replace hs := hs.call hs2; clear h2 hs2
                        refine S.val hf hs (v := .bool y13) rfl rfl rfl (V.pure rfl) (fun a hf => ?_)
                        refine S.val hf hs (v := .bool y13) rfl rfl rfl (V.pure rfl) (fun a hf => ?_)
                        refine S.val hf hs (v := .bool y13) rfl rfl rfl (V.pure rfl) (fun a hf => ?_)
                        refine R.nil ?_
                        refine X.then_ ?_
                        exact ⟨y13, h, (((((((((((((((((hf.nil.cons (hf.get 124 _ rfl)).cons (hf.get 82 _ rfl)).cons (hf.get 81 _ rfl)).cons (hf.get 80 _ rfl)).cons (hf.get 76 _ rfl)).cons (hf.get 75 _ rfl)).cons (hf.get 74 _ rfl)).cons (hf.get 19 _ rfl)).cons (hf.get 17 _ rfl)).cons (hf.get 15 _ rfl)).cons (hf.get 13 _ rfl)).cons (hf.get 11 _ rfl)).cons (hf.get 9 _ rfl)).cons (hf.get 3 _ rfl)).cons (hf.get 2 _ rfl)).cons (hf.get 1 _ rfl)).cons (hf.get 0 _ rfl)), hs⟩
                      · replace h := h.2 hc
                        refine S.skip hf rfl rfl rfl (fun a hf => ?_)
                        refine S.skip hf rfl rfl rfl (fun a hf => ?_)
                        refine S.skip hf rfl rfl rfl (fun a hf => ?_)
                        refine S.skip hf rfl rfl rfl (fun a hf => ?_)
                        refine S.val hf hs (v := .bool false) rfl rfl rfl (V.pure rfl) (fun a hf => ?_)
                        refine S.val hf hs (v := .bool false) rfl rfl rfl (V.pure rfl) (fun a hf => ?_)
                        refine S.val hf hs (v := .bool false) rfl rfl rfl (V.pure rfl) (fun a hf => ?_)
                        refine R.nil ?_
                        refine X.then_ ?_
                        exact ⟨false, h, (((((((((((((((((hf.nil.cons (hf.get 124 _ rfl)).cons (hf.get 82 _ rfl)).cons (hf.get 81 _ rfl)).cons (hf.get 80 _ rfl)).cons (hf.get 76 _ rfl)).cons (hf.get 75 _ rfl)).cons (hf.get 74 _ rfl)).cons (hf.get 19 _ rfl)).cons (hf.get 17 _ rfl)).cons (hf.get 15 _ rfl)).cons (hf.get 13 _ rfl)).cons (hf.get 11 _ rfl)).cons (hf.get 9 _ rfl)).cons (hf.get 3 _ rfl)).cons (hf.get 2 _ rfl)).cons (hf.get 1 _ rfl)).cons (hf.get 0 _ rfl)), hs⟩
                    · replace h := h.2 hc
                      refine S.skip hf rfl rfl rfl (fun a hf => ?_)
                      refine S.skip hf rfl rfl rfl (fun a hf => ?_)
                      refine S.skip hf rfl rfl rfl (fun a hf => ?_)
                      refine S.val hf hs (v := .bool false) rfl rfl rfl (V.pure rfl) (fun a hf => ?_)
                      refine S.val hf hs (v := .bool false) rfl rfl rfl (V.pure rfl) (fun a hf => ?_)
                      refine S.skip hf rfl rfl rfl (fun a hf => ?_)
                      refine S.skip hf rfl rfl rfl (fun a hf => ?_)
                      refine S.skip hf rfl rfl rfl (fun a hf => ?_)
                      refine S.skip hf rfl rfl rfl (fun a hf => ?_)
                      refine S.val hf hs (v := .bool false) rfl rfl rfl (V.pure rfl) (fun a hf => ?_)
                      refine S.val hf hs (v := .bool false) rfl rfl rfl (V.pure rfl) (fun a hf => ?_)
                      refine S.val hf hs (v := .bool false) rfl rfl rfl (V.pure rfl) (fun a hf => ?_)
                      refine R.nil ?_
                      refine X.then_ ?_
                      exact ⟨false, h, (((((((((((((((((hf.nil.cons (hf.get 124 _ rfl)).cons (hf.get 82 _ rfl)).cons (hf.get 81 _ rfl)).cons (hf.get 80 _ rfl)).cons (hf.get 76 _ rfl)).cons (hf.get 75 _ rfl)).cons (hf.get 74 _ rfl)).cons (hf.get 19 _ rfl)).cons (hf.get 17 _ rfl)).cons (hf.get 15 _ rfl)).cons (hf.get 13 _ rfl)).cons (hf.get 11 _ rfl)).cons (hf.get 9 _ rfl)).cons (hf.get 3 _ rfl)).cons (hf.get 2 _ rfl)).cons (hf.get 1 _ rfl)).cons (hf.get 0 _ rfl)), hs⟩
                · replace h := h.2 hc
                  refine S.skip hf rfl rfl rfl (fun a hf => ?_)
                  refine S.skip hf rfl rfl rfl (fun a hf => ?_)
                  refine S.skip hf rfl rfl rfl (fun a hf => ?_)
                  refine S.val hf hs (v := .bool false) rfl rfl rfl (V.pure rfl) (fun a hf => ?_)
                  refine S.val hf hs (v := .bool false) rfl rfl rfl (V.pure rfl) (fun a hf => ?_)
                  refine S.skip hf rfl rfl rfl (fun a hf => ?_)
                  refine S.skip hf rfl rfl rfl (fun a hf => ?_)
                  refine S.skip hf rfl rfl rfl (fun a hf => ?_)
                  refine S.skip hf rfl rfl rfl (fun a hf => ?_)
                  refine S.val hf hs (v := .bool false) rfl rfl rfl (V.pure rfl) (fun a hf => ?_)
                  refine S.val hf hs (v := .bool false) rfl rfl rfl (V.pure rfl) (fun a hf => ?_)
                  refine S.val hf hs (v := .pointer (some ⟨g1, 0, none⟩)) rfl rfl rfl (V.fieldBox rfl rfl Try.runUnderlying35 rfl Try.sizeOf9 rfl rfl) (fun a hf => ?_)
                  refine S.val hf hs (v := .string (ba xk2.Name)) rfl rfl rfl (V.loadBox 1 rfl rfl rfl Try.isAgg9 Try.sizeOf9 rfl rfl) (fun a hf => ?_)
                  refine S.val hf hs (v := .string (ba b)) rfl rfl rfl (V.pure rfl) (fun a hf => ?_)
                  refine S.val hf hs (v := .bool (xk2.Name == b)) rfl rfl rfl (V.strCmp (xk2.Name == b) rfl rfl rfl rfl) (fun a hf => ?_)
                  refine S.split hf hs (b := xk2.Name == b) rfl rfl rfl (V.pure rfl) (fun hc a hf => ?_) (fun hc a hf => ?_)
                  · replace h := h.1 hc
                    refine S.val hf hs (v := .pointer (some ⟨g2, 1, none⟩)) rfl rfl rfl (V.fieldBox rfl rfl Try.runUnderlying37 rfl Try.sizeOf3 rfl rfl) (fun a hf => ?_)
                    refine S.val hf hs (v := .int .i64 xk3.Kind) rfl rfl rfl (V.loadBox 0 rfl rfl rfl Try.isAgg3 Try.sizeOf3 rfl rfl) (fun a hf => ?_)
                    refine S.val hf hs (v := .bool (xk3.Kind == 1)) rfl rfl rfl (V.pure rfl) (fun a hf => ?_)
                    refine S.val hf hs (v := .bool (xk3.Kind == 1)) rfl rfl rfl (V.pure rfl) (fun a hf => ?_)
                    refine S.split hf hs (b := xk3.Kind == 1) rfl rfl rfl (V.pure rfl) (fun hc a hf => ?_) (fun hc a hf => ?_)
                    · replace h := h.1 hc
                      refine S.val hf hs (v := .slice s_A s_.length s_C) rfl rfl rfl (V.pure rfl) (fun a hf => ?_)
                      refine S.val hf hs (v := .string (ba b)) rfl rfl rfl (V.pure rfl) (fun a hf => ?_)
                      refine S.val hf hs (v := .string (ba a_)) rfl rfl rfl (V.pure rfl) (fun a hf => ?_)
                      refine S.call hf rfl rfl rfl (call_fn (vs := [.slice s_A s_.length s_C, .string (ba b), .string (ba a_)]) rfl rfl rfl Try.call25) (R_ref4_IsUpper s_ b a_ _ s_A s_C ((Ag.args _ _ _).view hv_s_ hs) _ h) (fun v a w' hf hr => ?_)
                      obtain ⟨y14, rfl, h2, hs2⟩ := hr
                      replace h := h2; replace hs := hs.call hs2; clear h2 hs2
                      refine S.val hf hs (v := .bool y14) rfl rfl rfl (V.pure rfl) (fun a hf => ?_)
                      refine S.val hf hs (v := .bool y14) rfl rfl rfl (V.pure rfl) (fun a hf => ?_)
                      refine S.val hf hs (v := .bool y14) rfl rfl rfl (V.pure rfl) (fun a hf => ?_)
                      refine R.nil ?_
                      refine X.then_ ?_
                      exact ⟨y14, h, (((((((((((((((((hf.nil.cons (hf.get 124 _ rfl)).cons (hf.get 82 _ rfl)).cons (hf.get 81 _ rfl)).cons (hf.get 80 _ rfl)).cons (hf.get 76 _ rfl)).cons (hf.get 75 _ rfl)).cons (hf.get 74 _ rfl)).cons (hf.get 19 _ rfl)).cons (hf.get 17 _ rfl)).cons (hf.get 15 _ rfl)).cons (hf.get 13 _ rfl)).cons (hf.get 11 _ rfl)).cons (hf.get 9 _ rfl)).cons (hf.get 3 _ rfl)).cons (hf.get 2 _ rfl)).cons (hf.get 1 _ rfl)).cons (hf.get 0 _ rfl)), hs⟩
                    · replace h := h.2 hc
                      refine S.skip hf rfl rfl rfl (fun a hf => ?_)
                      refine S.skip hf rfl rfl rfl (fun a hf => ?_)
                      refine S.skip hf rfl rfl rfl (fun a hf => ?_)
                      refine S.skip hf rfl rfl rfl (fun a hf => ?_)
                      refine S.val hf hs (v := .bool false) rfl rfl rfl (V.pure rfl) (fun a hf => ?_)
                      refine S.val hf hs (v := .bool false) rfl rfl rfl (V.pure rfl) (fun a hf => ?_)
                      refine S.val hf hs (v := .bool false) rfl rfl rfl (V.pure rfl) (fun a hf => ?_)
                      refine R.nil ?_
                      refine X.then_ ?_
                      exact ⟨false, h, (((((((((((((((((hf.nil.cons (hf.get 124 _ rfl)).cons (hf.get 82 _ rfl)).cons (hf.get 81 _ rfl)).cons (hf.get 80 _ rfl)).cons (hf.get 76 _ rfl)).cons (hf.get 75 _ rfl)).cons (hf.get 74 _ rfl)).cons (hf.get 19 _ rfl)).cons (hf.get 17 _ rfl)).cons (hf.get 15 _ rfl)).cons (hf.get 13 _ rfl)).cons (hf.get 11 _ rfl)).cons (hf.get 9 _ rfl)).cons (hf.get 3 _ rfl)).cons (hf.get 2 _ rfl)).cons (hf.get 1 _ rfl)).cons (hf.get 0 _ rfl)), hs⟩
                  · replace h := h.2 hc
                    refine S.skip hf rfl rfl rfl (fun a hf => ?_)
                    refine S.skip hf rfl rfl rfl (fun a hf => ?_)
                    refine S.skip hf rfl rfl rfl (fun a hf => ?_)
                    refine S.val hf hs (v := .bool false) rfl rfl rfl (V.pure rfl) (fun a hf => ?_)
                    refine S.val hf hs (v := .bool false) rfl rfl rfl (V.pure rfl) (fun a hf => ?_)
                    refine S.skip hf rfl rfl rfl (fun a hf => ?_)
                    refine S.skip hf rfl rfl rfl (fun a hf => ?_)
                    refine S.skip hf rfl rfl rfl (fun a hf => ?_)
                    refine S.skip hf rfl rfl rfl (fun a hf => ?_)
                    refine S.val hf hs (v := .bool false) rfl rfl rfl (V.pure rfl) (fun a hf => ?_)
                    refine S.val hf hs (v := .bool false) rfl rfl rfl (V.pure rfl) (fun a hf => ?_)
                    refine S.val hf hs (v := .bool false) rfl rfl rfl (V.pure rfl) (fun a hf => ?_)
                    refine R.nil ?_
                    refine X.then_ ?_
                    exact ⟨false, h, (((((((((((((((((hf.nil.cons (hf.get 124 _ rfl)).cons (hf.get 82 _ rfl)).cons (hf.get 81 _ rfl)).cons (hf.get 80 _ rfl)).cons (hf.get 76 _ rfl)).cons (hf.get 75 _ rfl)).cons (hf.get 74 _ rfl)).cons (hf.get 19 _ rfl)).cons (hf.get 17 _ rfl)).cons (hf.get 15 _ rfl)).cons (hf.get 13 _ rfl)).cons (hf.get 11 _ rfl)).cons (hf.get 9 _ rfl)).cons (hf.get 3 _ rfl)).cons (hf.get 2 _ rfl)).cons (hf.get 1 _ rfl)).cons (hf.get 0 _ rfl)), hs⟩
              · replace h := h.2 hc
                refine S.skip hf rfl rfl rfl (fun a hf => ?_)
                refine S.skip hf rfl rfl rfl (fun a hf => ?_)
                refine S.skip hf rfl rfl rfl (fun a hf => ?_)
                refine S.skip hf rfl rfl rfl (fun a hf => ?_)
                refine S.skip hf rfl rfl rfl (fun a hf => ?_)
                refine S.skip hf rfl rfl rfl (fun a hf => ?_)
                refine S.skip hf rfl rfl rfl (fun a hf => ?_)
                refine S.skip hf rfl rfl rfl (fun a hf => ?_)
                refine S.skip hf rfl rfl rfl (fun a hf => ?_)
                refine S.skip hf rfl rfl rfl (fun a hf => ?_)
                refine S.skip hf rfl rfl rfl (fun a hf => ?_)
                refine S.skip hf rfl rfl rfl (fun a hf => ?_)
                refine S.skip hf rfl rfl rfl (fun a hf => ?_)
                refine S.skip hf rfl rfl rfl (fun a hf => ?_)
                refine S.skip hf rfl rfl rfl (fun a hf => ?_)
                refine S.skip hf rfl rfl rfl (fun a hf => ?_)
                refine S.skip hf rfl rfl rfl (fun a hf => ?_)
                refine S.skip hf rfl rfl rfl (fun a hf => ?_)
                refine S.skip hf rfl rfl rfl (fun a hf => ?_)
                refine S.skip hf rfl rfl rfl (fun a hf => ?_)
                refine S.skip hf rfl rfl rfl (fun a hf => ?_)
                refine S.skip hf rfl rfl rfl (fun a hf => ?_)
                refine S.skip hf rfl rfl rfl (fun a hf => ?_)
                refine S.skip hf rfl rfl rfl (fun a hf => ?_)
                refine S.skip hf rfl rfl rfl (fun a hf => ?_)
                refine S.skip hf rfl rfl rfl (fun a hf => ?_)
                refine S.skip hf rfl rfl rfl (fun a hf => ?_)
                refine S.skip hf rfl rfl rfl (fun a hf => ?_)
                refine S.skip hf rfl rfl rfl (fun a hf => ?_)
                refine S.skip hf rfl rfl rfl (fun a hf => ?_)
                refine S.skip hf rfl rfl rfl (fun a hf => ?_)
                refine S.skip hf rfl rfl rfl (fun a hf => ?_)
                refine S.val hf hs (v := .bool false) rfl rfl rfl (V.pure rfl) (fun a hf => ?_)
                refine R.nil ?_
                refine X.then_ ?_
                exact ⟨false, h, (((((((((((((((((hf.nil.cons (hf.get 124 _ rfl)).cons (hf.get 82 _ rfl)).cons (hf.get 81 _ rfl)).cons (hf.get 80 _ rfl)).cons (hf.get 76 _ rfl)).cons (hf.get 75 _ rfl)).cons (hf.get 74 _ rfl)).cons (hf.get 19 _ rfl)).cons (hf.get 17 _ rfl)).cons (hf.get 15 _ rfl)).cons (hf.get 13 _ rfl)).cons (hf.get 11 _ rfl)).cons (hf.get 9 _ rfl)).cons (hf.get 3 _ rfl)).cons (hf.get 2 _ rfl)).cons (hf.get 1 _ rfl)).cons (hf.get 0 _ rfl)), hs⟩
  · skip
    refine R.list ?_
    refine S.val hf hs (v := .int .i64 y2) rfl rfl rfl (V.pure rfl) (fun a hf => ?_)
    refine S.val hf hs (v := .bool (y2 != 0)) rfl rfl rfl (V.pure rfl) (fun a hf => ?_)
    refine S.split hf hs (b := y2 != 0) rfl rfl rfl (V.pure rfl) (fun hc a hf => ?_) (fun hc a hf => ?_)
    · replace h := h.1 hc
      refine S.skip hf rfl rfl rfl (fun a hf => ?_)
      refine S.skip hf rfl rfl rfl (fun a hf => ?_)
      refine S.val hf hs (v := .bool true) rfl rfl rfl (V.pure rfl) (fun a hf => ?_)
      refine S.val hf hs (v := .bool true) rfl rfl rfl (V.pure rfl) (fun a hf => ?_)
      refine S.skip hf rfl rfl rfl (fun a hf => ?_)
      refine S.skip hf rfl rfl rfl (fun a hf => ?_)
      refine S.val hf hs (v := .bool true) rfl rfl rfl (V.pure rfl) (fun a hf => ?_)
      refine R.nil ?_
      refine X.then_ ?_
      exact ⟨true, h, (((((((((hf.nil.cons (hf.get 51 _ rfl)).cons (hf.get 13 _ rfl)).cons (hf.get 11 _ rfl)).cons (hf.get 10 _ rfl)).cons (hf.get 9 _ rfl)).cons (hf.get 3 _ rfl)).cons (hf.get 2 _ rfl)).cons (hf.get 1 _ rfl)).cons (hf.get 0 _ rfl)), hs⟩
    · replace h := h.2 hc
      refine S.val hf hs (v := .int .i64 y4) rfl rfl rfl (V.pure rfl) (fun a hf => ?_)
      refine S.val hf hs (v := .bool (y4 != 0)) rfl rfl rfl (V.pure rfl) (fun a hf => ?_)
      refine S.val hf hs (v := .bool (y4 != 0)) rfl rfl rfl (V.pure rfl) (fun a hf => ?_)
      refine S.split hf hs (b := y4 != 0) rfl rfl rfl (V.pure rfl) (fun hc a hf => ?_) (fun hc a hf => ?_)
      · replace h := h.1 hc
        refine S.skip hf rfl rfl rfl (fun a hf => ?_)
        refine S.skip hf rfl rfl rfl (fun a hf => ?_)
        refine S.val hf hs (v := .bool true) rfl rfl rfl (V.pure rfl) (fun a hf => ?_)
        refine R.nil ?_
        refine X.then_ ?_
        exact ⟨true, h, (((((((((hf.nil.cons (hf.get 51 _ rfl)).cons (hf.get 13 _ rfl)).cons (hf.get 11 _ rfl)).cons (hf.get 10 _ rfl)).cons (hf.get 9 _ rfl)).cons (hf.get 3 _ rfl)).cons (hf.get 2 _ rfl)).cons (hf.get 1 _ rfl)).cons (hf.get 0 _ rfl)), hs⟩
      · replace h := h.2 hc
        refine S.val hf hs (v := .int .i64 y6) rfl rfl rfl (V.pure rfl) (fun a hf => ?_)
        refine S.val hf hs (v := .bool (y6 != 0)) rfl rfl rfl (V.pure rfl) (fun a hf => ?_)
        refine S.val hf hs (v := .bool (y6 != 0)) rfl rfl rfl (V.pure rfl) (fun a hf => ?_)
        refine R.nil ?_
        refine X.then_ ?_
        exact ⟨(y6 != 0), h, (((((((((hf.nil.cons (hf.get 51 _ rfl)).cons (hf.get 13 _ rfl)).cons (hf.get 11 _ rfl)).cons (hf.get 10 _ rfl)).cons (hf.get 9 _ rfl)).cons (hf.get 3 _ rfl)).cons (hf.get 2 _ rfl)).cons (hf.get 1 _ rfl)).cons (hf.get 0 _ rfl)), hs⟩

set_option linter.unusedVariables false
def M_clone_layer (s_ : (List Layer)) (Q : (List Layer) → Prop) : Prop :=
  nilq s_ fun b1 => cnd b1 (Q ([] : List Layer)) (must (room (([] : List Layer) ++ s_).length 32) (Q (([] : List Layer) ++ s_)))
set_option maxHeartbeats 1000000 in
theorem R_clone_layer (s_ : (List Layer)) (w0 : World) (s_A : Option Addr) (s_C : Nat) (hv_s_ : View w0 (old w0 none_) s_A s_C s_) (Q : (List Layer) → Prop) (h : M_clone_layer s_ Q) :
    Ret Try.prog 68 #[.slice s_A s_.length s_C] w0 fun v w' => ∃ (r0 : (List Layer)) (r0A : Option Addr) (r0C : Nat), v = .slice r0A r0.length r0C ∧ Q r0 ∧ Sat w0 none_ [hown 35 r0A r0C r0] w' := by
  refine fn_enter Try.func68 rfl Try.ntmps68 rfl (fs := [(0, .slice s_A s_.length s_C)]) rfl (fun a hf => ?_)
  have hs := Sat.start w0 none_
  unfold M_clone_layer at h
  refine wp_seq ?_
  refine R.list ?_
  refine S.val hf hs (v := .slice none 0 0) rfl rfl rfl (V.pure rfl) (fun a hf => ?_)
  refine R.nil ?_
  refine X.then_ ?_
  refine wp_seq ?_
  refine wp_seq ?_
  refine R.list ?_
  refine S.val hf hs (v := .slice s_A s_.length s_C) rfl rfl rfl (V.pure rfl) (fun a hf => ?_)
  obtain ⟨b1, hb1⟩ : ∃ b : Bool, b = Option.isNone s_A := ⟨_, rfl⟩
  replace h := h b1 (fun e => ((Ag.args _ _ _).view hv_s_ hs).nil_of (hb1.symm.trans e))
  refine S.val hf hs (v := .bool b1) rfl rfl rfl (V.eqNil b1 rfl rfl rfl Try.underlying23 (by kernel_rfl) hb1) (fun a hf => ?_)
  refine R.nil ?_
  refine X.then_ ?_
  refine C.cond hf (b := b1) rfl (fun hc => ?_) (fun hc => ?_)
  · replace h := h.1 hc
    refine wp_seq ?_
    refine R.list ?_
    refine S.val hf hs (v := .slice none 0 0) rfl rfl rfl (V.pure rfl) (fun a hf => ?_)
    refine R.nil ?_
    refine X.then_ ?_
    refine wp_ret ?_
    refine X.then_ret ?_
    replace hs := hs.nilOwn (α := Layer) 35
    replace hs := hs.take 1
    exact L.ret hf (run_results1 Try.results68 (ResIs.tmp hf rfl)) ⟨([] : List Layer), none, 0, rfl, h, hs⟩
  · replace h := h.2 hc
    refine wp_skip ?_
    refine X.then_ ?_
    refine wp_seq ?_
    refine R.list ?_
    refine S.buildEmpty (α := Layer) hf hs rfl rfl rfl rfl Try.runUnderlying23 Try.sizeOf35 (fun A1 a w hf hs => ?_)
    refine S.val hf hs (v := .slice s_A s_.length s_C) rfl rfl rfl (V.pure rfl) (fun a hf => ?_)
    obtain ⟨hroom, h⟩ := h
    refine S.appendAny 0 hf hs rfl rfl rfl rfl rfl rfl rfl Try.underlying23 info35 rfl hroom ((Ag.args _ _ _).view hv_s_ hs) (fun A2 C1 a w hf hs => ?_)
    refine S.val hf hs (v := .slice A2 (([] : List Layer) ++ s_).length C1) rfl rfl rfl (V.pure rfl) (fun a hf => ?_)
    refine R.nil ?_
    refine X.then_ ?_
    refine wp_ret ?_
    replace hs := hs.take 1
    exact L.ret hf (run_results1 Try.results68 (ResIs.tmp hf rfl)) ⟨(([] : List Layer) ++ s_), A2, C1, rfl, h, hs⟩

set_option linter.unusedVariables false
def M_reverse_layer_L1 (Q : (List Layer) → Prop) (again1 : List Layer → Int → Int → Prop) (l2 : List Layer) (n3 : Int) (n4 : Int) : Prop :=
  cnd (decide (n3 < n4)) (idx l2 n4 fun x1 => idx l2 n3 fun x2 => idx (l2.set n3.toNat x1) n4 fun x3 => again1 ((l2.set n3.toNat x1).set n4.toNat x2) (w64 (n3 + 1)) (w64 (n4 - 1))) (Q l2)
def M_reverse_layer (s_ : (List Layer)) (Q : (List Layer) → Prop) : Prop :=
  lp (fun again (s : List Layer × Int × Int) => M_reverse_layer_L1 Q (fun l2 n3 n4 => again (l2, n3, n4)) s.1 s.2.1 s.2.2) (s_, 0, w64 ((s_.length : Int) - 1))
set_option maxHeartbeats 1000000 in
theorem R_reverse_layer (s_ : (List Layer)) (w0 : World) (F0 : Nat → Prop) (s_A : Option Addr) (s_C : Nat) (hs0 : Sat w0 F0 [hown 35 s_A s_C s_] w0) (Q : (List Layer) → Prop) (h : M_reverse_layer s_ Q) :
    Ret Try.prog 69 #[.slice s_A s_.length s_C] w0 fun v w' => ∃ (s_1 : List Layer) (hl_s_1 : s_1.length = s_.length), v = .tuple #[] ∧ Q s_1 ∧ Sat w0 F0 [hown 35 s_A s_C s_1] w' := by
  refine fn_enter Try.func69 rfl Try.ntmps69 rfl (fs := [(0, .slice s_A s_.length s_C)]) rfl (fun a hf => ?_)
  have hs := hs0
  unfold M_reverse_layer at h
  refine wp_seq ?_
  refine R.list ?_
  refine S.val hf hs (v := .slice s_A s_.length s_C) rfl rfl rfl (V.pure rfl) (fun a hf => ?_)
  refine S.val hf hs (v := .int .i64 (s_.length : Int)) rfl rfl rfl (V.len rfl rfl Try.runUnderlying23) (fun a hf => ?_)
  refine S.val hf hs (v := .int .i64 (w64 ((s_.length : Int) - 1))) rfl rfl rfl (V.pure rfl) (fun a hf => ?_)
  refine S.val hf hs (v := .int .i64 0) rfl rfl rfl (V.pure rfl) (fun a hf => ?_)
  refine S.val hf hs (v := .int .i64 (w64 ((s_.length : Int) - 1))) rfl rfl rfl (V.pure rfl) (fun a hf => ?_)
  refine R.nil ?_
  refine X.then_ ?_
  refine wp_block ?_
  obtain ⟨kk, h⟩ := h
  refine C.loop (fun kk a w => ∃ (l2 : List Layer) (hl_l2 : l2.length = s_.length) (n3 : Int) (n4 : Int), iterF (fun again (s : List Layer × Int × Int) => M_reverse_layer_L1 Q (fun l2 n3 n4 => again (l2, n3, n4)) s.1 s.2.1 s.2.2) kk (l2, n3, n4) ∧ FrOk 28 [(0, .slice s_A l2.length s_C), (2, .int .i64 n3), (3, .int .i64 n4)] a ∧ Sat w0 F0 [hown 35 s_A s_C l2] w) kk ⟨s_, rfl, 0, (w64 ((s_.length : Int) - 1)), h, (((hf.nil.cons (hf.get 3 _ rfl)).cons (hf.get 2 _ rfl)).cons (hf.get 0 _ rfl)), hs⟩ (fun a w ⟨_, _, _, _, h, _, _⟩ => h) ?_
  clear h hf hs
  rintro kk a w ⟨l2, hl_l2, n3, n4, h, hf, hs⟩
  obtain ⟨again1, hagain1⟩ : ∃ X : List Layer → Int → Int → Prop, X = (fun l2 n3 n4 => iterF (fun again (s : List Layer × Int × Int) => M_reverse_layer_L1 Q (fun l2 n3 n4 => again (l2, n3, n4)) s.1 s.2.1 s.2.2) kk (l2, n3, n4)) := ⟨_, rfl⟩
  replace h : M_reverse_layer_L1 Q again1 l2 n3 n4 := by rw [hagain1]; exact h
  unfold M_reverse_layer_L1 at h
  refine wp_seq ?_
  refine wp_seq ?_
  refine R.list ?_
  refine S.val hf hs (v := .int .i64 n3) rfl rfl rfl (V.pure rfl) (fun a hf => ?_)
  refine S.val hf hs (v := .int .i64 n4) rfl rfl rfl (V.pure rfl) (fun a hf => ?_)
  refine S.val hf hs (v := .bool (decide (n3 < n4))) rfl rfl rfl (V.pure rfl) (fun a hf => ?_)
  refine R.nil ?_
  refine X.then_ ?_
  refine C.cond hf (b := decide (n3 < n4)) rfl (fun hc => ?_) (fun hc => ?_)
  · replace h := h.1 hc
    refine wp_skip ?_
    refine X.then_ ?_
    refine wp_seq ?_
    refine wp_block ?_
    refine H.start (S := Sat w0 F0 []) mo ?_
    replace hs := hs.drew
    refine H.val hf hs.nil (v := .slice s_A l2.length s_C) (i := 0) rfl rfl rfl rfl (by kernel_rfl) (by kernel_rfl) (by kernel_rfl) (V.pure rfl) (fun a hf => ?_)
    refine H.val hf hs.nil (v := .int .i64 n3) (i := 1) rfl rfl rfl rfl (by kernel_rfl) (by kernel_rfl) (by kernel_rfl) (V.pure rfl) (fun a hf => ?_)
    refine H.val hf hs.nil (v := .slice s_A l2.length s_C) (i := 2) rfl rfl rfl rfl (by kernel_rfl) (by kernel_rfl) (by kernel_rfl) (V.pure rfl) (fun a hf => ?_)
    refine H.val hf hs.nil (v := .int .i64 n4) (i := 3) rfl rfl rfl rfl (by kernel_rfl) (by kernel_rfl) (by kernel_rfl) (V.pure rfl) (fun a hf => ?_)
    refine H.val hf hs.nil (v := .slice s_A l2.length s_C) (i := 4) rfl rfl rfl rfl (by kernel_rfl) (by kernel_rfl) (by kernel_rfl) (V.pure rfl) (fun a hf => ?_)
    refine H.val hf hs.nil (v := .int .i64 n4) (i := 5) rfl rfl rfl rfl (by kernel_rfl) (by kernel_rfl) (by kernel_rfl) (V.pure rfl) (fun a hf => ?_)
    obtain ⟨h0x1, x1, hx1, h⟩ := h
    refine H.val hf hs.nil (v := elemPtr s_A (n4.toNat * 2)) (i := 6) rfl rfl rfl rfl (by kernel_rfl) (by kernel_rfl) (by kernel_rfl) (V.index rfl rfl rfl Try.runUnderlying23 Try.sizeOf35 (hs.ownSome 0 rfl (lt_of_get hx1)) h0x1 (lt_of_get hx1) rfl) (fun a hf => ?_)
    refine H.val hf hs.nil (v := .slice s_A l2.length s_C) (i := 8) rfl rfl rfl rfl (by kernel_rfl) (by kernel_rfl) (by kernel_rfl) (V.pure rfl) (fun a hf => ?_)
    refine H.val hf hs.nil (v := .int .i64 n3) (i := 9) rfl rfl rfl rfl (by kernel_rfl) (by kernel_rfl) (by kernel_rfl) (V.pure rfl) (fun a hf => ?_)
    obtain ⟨h0x2, x2, hx2, h⟩ := h
    refine H.val hf hs.nil (v := elemPtr s_A (n3.toNat * 2)) (i := 10) rfl rfl rfl rfl (by kernel_rfl) (by kernel_rfl) (by kernel_rfl) (V.index rfl rfl rfl Try.runUnderlying23 Try.sizeOf35 (hs.ownSome 0 rfl (lt_of_get hx2)) h0x2 (lt_of_get hx2) rfl) (fun a hf => ?_)
    refine H.two (i := 7) (j := 11) (vi := .agg #[.string (ba x1.Name), .string (ba x1.Material)]) (vj := .agg #[.string (ba x2.Name), .string (ba x2.Material)]) hf hs hs.nil rfl rfl rfl rfl rfl rfl rfl rfl rfl rfl rfl (by kernel_rfl) (by kernel_rfl) (by kernel_rfl) (by kernel_rfl) (V.loadOwn (off := 0) 0 rfl hx1 rfl rfl rfl Try.isAgg35 Try.sizeOf35 rfl rfl) (V.loadOwn (off := 0) 0 rfl hx2 rfl rfl rfl Try.isAgg35 Try.sizeOf35 rfl rfl) (V.loadOwn (off := 0) 0 rfl hx2 rfl rfl rfl Try.isAgg35 Try.sizeOf35 rfl rfl) (V.loadOwn (off := 0) 0 rfl hx1 rfl rfl rfl Try.isAgg35 Try.sizeOf35 rfl rfl) (fun a hf => ?_)
    refine H.val hf hs.nil (v := elemPtr s_A (n3.toNat * 2)) (i := 12) rfl rfl rfl rfl (by kernel_rfl) (by kernel_rfl) (by kernel_rfl) (V.index rfl rfl rfl Try.runUnderlying23 Try.sizeOf35 (hs.ownSome 0 rfl (lt_of_get hx2)) h0x2 (lt_of_get hx2) rfl) (fun a hf => ?_)
    refine H.one (i := 13) rfl (by kernel_rfl) ?_
    refine S.storeOwn (off := 0) 0 hf hs rfl rfl x1 [.string (ba x1.Name), .string (ba x1.Material)] rfl hx2 rfl rfl rfl rfl rfl Try.sizeOf35 rfl (by decide) rfl rfl (fun a w hf hs => ?_)
    replace hf := hf.tell 0 (v := .slice s_A (l2.set n3.toNat x1).length s_C) ((hf.get 0 (.slice s_A l2.length s_C) rfl).trans (congrArg (fun n => Value.slice s_A n s_C) List.length_set.symm))
    replace hf := hf.tell 14 (v := .slice s_A (l2.set n3.toNat x1).length s_C) ((hf.get 14 (.slice s_A l2.length s_C) rfl).trans (congrArg (fun n => Value.slice s_A n s_C) List.length_set.symm))
    replace hf := hf.tell 16 (v := .slice s_A (l2.set n3.toNat x1).length s_C) ((hf.get 16 (.slice s_A l2.length s_C) rfl).trans (congrArg (fun n => Value.slice s_A n s_C) List.length_set.symm))
    replace hf := hf.tell 18 (v := .slice s_A (l2.set n3.toNat x1).length s_C) ((hf.get 18 (.slice s_A l2.length s_C) rfl).trans (congrArg (fun n => Value.slice s_A n s_C) List.length_set.symm))
    replace hf := hf.tell 22 (v := .slice s_A (l2.set n3.toNat x1).length s_C) ((hf.get 22 (.slice s_A l2.length s_C) rfl).trans (congrArg (fun n => Value.slice s_A n s_C) List.length_set.symm))
    refine R.nil ?_
    refine X.then_ ?_
    refine ⟨hs.nil, ?_⟩
    obtain ⟨h0x3, x3, hx3, h⟩ := h
    refine H.val hf hs.nil (v := elemPtr s_A (n4.toNat * 2)) (i := 14) rfl rfl rfl rfl (by kernel_rfl) (by kernel_rfl) (by kernel_rfl) (V.index rfl rfl rfl Try.runUnderlying23 Try.sizeOf35 (hs.ownSome 0 rfl (lt_of_get hx3)) h0x3 (lt_of_get hx3) rfl) (fun a hf => ?_)
    refine H.one (i := 15) rfl (by kernel_rfl) ?_
    refine S.storeOwn (off := 0) 0 hf hs rfl rfl x2 [.string (ba x2.Name), .string (ba x2.Material)] rfl hx3 rfl rfl rfl rfl rfl Try.sizeOf35 rfl (by decide) rfl rfl (fun a w hf hs => ?_)
    replace hf := hf.tell 0 (v := .slice s_A ((l2.set n3.toNat x1).set n4.toNat x2).length s_C) ((hf.get 0 (.slice s_A (l2.set n3.toNat x1).length s_C) rfl).trans (congrArg (fun n => Value.slice s_A n s_C) List.length_set.symm))
    replace hf := hf.tell 14 (v := .slice s_A ((l2.set n3.toNat x1).set n4.toNat x2).length s_C) ((hf.get 14 (.slice s_A (l2.set n3.toNat x1).length s_C) rfl).trans (congrArg (fun n => Value.slice s_A n s_C) List.length_set.symm))
    replace hf := hf.tell 16 (v := .slice s_A ((l2.set n3.toNat x1).set n4.toNat x2).length s_C) ((hf.get 16 (.slice s_A (l2.set n3.toNat x1).length s_C) rfl).trans (congrArg (fun n => Value.slice s_A n s_C) List.length_set.symm))
    replace hf := hf.tell 18 (v := .slice s_A ((l2.set n3.toNat x1).set n4.toNat x2).length s_C) ((hf.get 18 (.slice s_A (l2.set n3.toNat x1).length s_C) rfl).trans (congrArg (fun n => Value.slice s_A n s_C) List.length_set.symm))
    replace hf := hf.tell 22 (v := .slice s_A ((l2.set n3.toNat x1).set n4.toNat x2).length s_C) ((hf.get 22 (.slice s_A (l2.set n3.toNat x1).length s_C) rfl).trans (congrArg (fun n => Value.slice s_A n s_C) List.length_set.symm))
    refine R.nil ?_
    refine X.then_ ?_
    refine ⟨hs.nil, ?_⟩
    refine H.done (by kernel_rfl) ?_
    refine X.blk ?_
    refine X.then_ ?_
    refine R.list ?_
    refine S.val hf hs (v := .int .i64 n3) rfl rfl rfl (V.pure rfl) (fun a hf => ?_)
    refine S.val hf hs (v := .int .i64 (w64 (n3 + 1))) rfl rfl rfl (V.pure rfl) (fun a hf => ?_)
    refine S.val hf hs (v := .int .i64 n4) rfl rfl rfl (V.pure rfl) (fun a hf => ?_)
    refine S.val hf hs (v := .int .i64 (w64 (n4 - 1))) rfl rfl rfl (V.pure rfl) (fun a hf => ?_)
    refine S.val hf hs (v := .int .i64 (w64 (n3 + 1))) rfl rfl rfl (V.pure rfl) (fun a hf => ?_)
    refine S.val hf hs (v := .int .i64 (w64 (n4 - 1))) rfl rfl rfl (V.pure rfl) (fun a hf => ?_)
    refine R.nil ?_
    refine X.then_ ?_
    exact ⟨((l2.set n3.toNat x1).set n4.toNat x2), (List.length_set.trans (List.length_set.trans hl_l2)), (w64 (n3 + 1)), (w64 (n4 - 1)), (by rw [hagain1] at h; exact h), (((hf.nil.cons (hf.get 3 _ rfl)).cons (hf.get 2 _ rfl)).cons (hf.get 0 _ rfl)), hs⟩
  · replace h := h.2 hc
    refine wp_exit ?_
    refine X.then_exit ?_
    refine X.then_exit ?_
    refine X.blk_exit ?_
    replace hs := hs.take 1
    exact L.end0 Try.results69 hf ⟨l2, hl_l2, rfl, h, hs⟩

set_option linter.unusedVariables false
def M_equal_layer_L1 (s2 : (List Layer)) (Q : Bool → Prop) (k1 : Nat) (xk1 : Layer)  (next1 : Prop) : Prop :=
  idx s2 (k1 : Int) fun x1 => cnd (!(decide (xk1 = x1))) (Q false) (next1)
def M_equal_layer (s1 : (List Layer)) (s2 : (List Layer)) (Q : Bool → Prop) : Prop :=
  cnd ((s1.length : Int) != (s2.length : Int)) (Q false) (forIn' (fun k x (s : Unit) next => M_equal_layer_L1 s2 Q k x (next ())) (fun (s : Unit) => Q true) s1 0 ())
set_option maxHeartbeats 1000000 in
theorem R_equal_layer (s1 : (List Layer)) (s2 : (List Layer)) (w0 : World) (s1A : Option Addr) (s1C : Nat) (hv_s1 : View w0 (old w0 none_) s1A s1C s1) (s2A : Option Addr) (s2C : Nat) (hv_s2 : View w0 (old w0 none_) s2A s2C s2) (Q : Bool → Prop) (h : M_equal_layer s1 s2 Q) :
    Ret Try.prog 28 #[.slice s1A s1.length s1C, .slice s2A s2.length s2C] w0 fun v w' => ∃ (r0 : Bool), v = .bool r0 ∧ Q r0 ∧ Sat w0 none_ [] w' := by
  refine fn_enter Try.func28 rfl Try.ntmps28 rfl (fs := [(0, .slice s1A s1.length s1C), (1, .slice s2A s2.length s2C)]) rfl (fun a hf => ?_)
  have hs := Sat.start w0 none_
  unfold M_equal_layer at h
  refine wp_seq ?_
  refine R.list ?_
  refine S.val hf hs (v := .bool false) rfl rfl rfl (V.pure rfl) (fun a hf => ?_)
  refine R.nil ?_
  refine X.then_ ?_
  refine wp_seq ?_
  refine wp_seq ?_
  refine R.list ?_
  refine S.val hf hs (v := .slice s1A s1.length s1C) rfl rfl rfl (V.pure rfl) (fun a hf => ?_)
  refine S.val hf hs (v := .int .i64 (s1.length : Int)) rfl rfl rfl (V.len rfl rfl Try.runUnderlying23) (fun a hf => ?_)
  refine S.val hf hs (v := .slice s2A s2.length s2C) rfl rfl rfl (V.pure rfl) (fun a hf => ?_)
  refine S.val hf hs (v := .int .i64 (s2.length : Int)) rfl rfl rfl (V.len rfl rfl Try.runUnderlying23) (fun a hf => ?_)
  refine S.val hf hs (v := .bool ((s1.length : Int) != (s2.length : Int))) rfl rfl rfl (V.pure rfl) (fun a hf => ?_)
  refine R.nil ?_
  refine X.then_ ?_
  refine C.cond hf (b := (s1.length : Int) != (s2.length : Int)) rfl (fun hc => ?_) (fun hc => ?_)
  · replace h := h.1 hc
    refine wp_seq ?_
    refine R.list ?_
    refine S.val hf hs (v := .bool false) rfl rfl rfl (V.pure rfl) (fun a hf => ?_)
    refine R.nil ?_
    refine X.then_ ?_
    refine wp_ret ?_
    refine X.then_ret ?_
    exact L.ret hf (run_results1 Try.results28 (ResIs.tmp hf rfl)) ⟨false, rfl, h, hs.nil⟩
  · replace h := h.2 hc
    refine wp_skip ?_
    refine X.then_ ?_
    refine wp_seq ?_
    refine wp_seq ?_
    refine R.list ?_
    refine S.val hf hs (v := .slice s1A s1.length s1C) rfl rfl rfl (V.pure rfl) (fun a hf => ?_)
    refine S.val hf hs (v := .int .i64 (s1.length : Int)) rfl rfl rfl (V.len rfl rfl Try.runUnderlying23) (fun a hf => ?_)
    refine S.val hf hs (v := .int .i64 0) rfl rfl rfl (V.pure rfl) (fun a hf => ?_)
    refine R.nil ?_
    refine X.then_ ?_
    refine wp_block ?_
    have hlenk1 := hv_s1.len64
    refine C.range (fun (ll : List Layer) a w => ∃ (k1 : Nat) , s1.drop k1 = ll ∧ k1 + ll.length = s1.length ∧ forIn' (fun k x (s : Unit) next => M_equal_layer_L1 s2 Q k x (next ())) (fun (s : Unit) => Q true) ll k1 () ∧ FrOk 26 [(13, .int .i64 (k1 : Int)), (0, .slice s1A s1.length s1C), (1, .slice s2A s2.length s2C), (12, .int .i64 (s1.length : Int))] a ∧ Sat w0 none_ [] w) s1 ⟨0, rfl, Nat.zero_add _, h, ((((hf.nil.cons (hf.get 12 _ rfl)).cons (hf.get 1 _ rfl)).cons (hf.get 0 _ rfl)).cons (hf.get 13 _ rfl)), hs⟩ ?_
    clear h hf hs
    rintro llk1 a w ⟨k1, hlk1, hkk1, h, hf, hs⟩
    cases llk1 with
    | nil =>
      have hc := range_done hkk1
      replace h : Q true := h
      refine wp_seq ?_
      refine R.list ?_
      refine S.val hf hs (v := .bool false) rfl rfl rfl (V.cmp false rfl rfl rfl rfl hc) (fun a hf => ?_)
      refine R.nil ?_
      refine X.then_ ?_
      refine wp_seq ?_
      refine C.no hf rfl ?_
      refine wp_exit ?_
      refine X.then_exit ?_
      refine X.then_exit ?_
      refine X.blk_exit ?_
      refine X.then_ ?_
      refine wp_seq ?_
      refine R.list ?_
      refine S.val hf hs (v := .bool true) rfl rfl rfl (V.pure rfl) (fun a hf => ?_)
      refine R.nil ?_
      refine X.then_ ?_
      refine wp_ret ?_
      exact L.ret hf (run_results1 Try.results28 (ResIs.tmp hf rfl)) ⟨true, rfl, h, hs.nil⟩
    | cons xk1 llk1 =>
      have hltk1 := range_lt hkk1; have hc := range_go hkk1; have hxk1 := range_get hlk1
      obtain ⟨next1, hnext1⟩ : ∃ X : Prop, X = (forIn' (fun k x (s : Unit) next => M_equal_layer_L1 s2 Q k x (next ())) (fun (s : Unit) => Q true) llk1 (k1 + 1) ()) := ⟨_, rfl⟩
      replace h : M_equal_layer_L1 s2 Q k1 xk1  next1 := by rw [hnext1]; exact h
      unfold M_equal_layer_L1 at h
      refine wp_seq ?_
      refine R.list ?_
      refine S.val hf hs (v := .bool true) rfl rfl rfl (V.cmp true rfl rfl rfl rfl hc) (fun a hf => ?_)
      refine R.nil ?_
      refine X.then_ ?_
      refine wp_seq ?_
      refine C.yes hf rfl ?_
      refine wp_skip ?_
      refine X.then_ ?_
      refine wp_seq ?_
      refine wp_block ?_
      refine wp_seq ?_
      refine R.list ?_
      refine S.val hf hs (v := .int .i64 (k1 : Int)) rfl rfl rfl (V.pure rfl) (fun a hf => ?_)
      refine S.val hf hs (v := .int .i64 (k1 : Int)) rfl rfl rfl (V.pure rfl) (fun a hf => ?_)
      refine R.nil ?_
      refine X.then_ ?_
      refine wp_seq ?_
      refine R.draw mo (by kernel_rfl) hs ?_
      refine D.val hf (v := .slice s1A s1.length s1C) rfl rfl rfl (V.pure rfl) (fun a hf => ?_)
      refine D.val hf (v := .int .i64 (k1 : Int)) rfl rfl rfl (V.pure rfl) (fun a hf => ?_)
      refine D.val hf (v := elemPtr s1A (k1 * 2)) rfl rfl rfl (V.index rfl rfl rfl Try.runUnderlying23 Try.sizeOf35 (hv_s1.some_ (lt_of_get hxk1)) (Int.natCast_nonneg _) (lt_of_get hxk1) rfl) (fun a hf => ?_)
      refine D.val hf (v := .agg #[.string (ba xk1.Name), .string (ba xk1.Material)]) rfl rfl rfl (V.loadEl (off := 0) (Ag.args _ _ _) (hv_s1.flat hxk1) rfl rfl rfl Try.isAgg35 Try.sizeOf35 rfl rfl) (fun a hf => ?_)
      refine D.val hf (v := .slice s2A s2.length s2C) rfl rfl rfl (V.pure rfl) (fun a hf => ?_)
      refine D.val hf (v := .int .i64 (k1 : Int)) rfl rfl rfl (V.pure rfl) (fun a hf => ?_)
      obtain ⟨h0x1, x1, hx1, h⟩ := h
      refine D.val hf (v := elemPtr s2A (k1 * 2)) rfl rfl rfl (V.index rfl rfl rfl Try.runUnderlying23 Try.sizeOf35 (hv_s2.some_ (lt_of_get hx1)) (Int.natCast_nonneg _) (lt_of_get hx1) rfl) (fun a hf => ?_)
      refine D.val hf (v := .agg #[.string (ba x1.Name), .string (ba x1.Material)]) rfl rfl rfl (V.loadEl (off := 0) (Ag.args _ _ _) (hv_s2.flat hx1) rfl rfl rfl Try.isAgg35 Try.sizeOf35 rfl rfl) (fun a hf => ?_)
      refine D.val hf (v := .bool (!(decide (xk1 = x1)))) rfl rfl rfl (V.aggneq rfl rfl rfl (by kernel_rfl) (fun w => eqS35 xk1 x1 w)) (fun a hf => ?_)
      refine D.done (fun w hs => ?_)
      refine X.then_ ?_
      refine C.cond hf (b := !(decide (xk1 = x1))) rfl (fun hc => ?_) (fun hc => ?_)
      · replace h := h.1 hc
        refine wp_seq ?_
        refine R.list ?_
        refine S.val hf hs (v := .bool false) rfl rfl rfl (V.pure rfl) (fun a hf => ?_)
        refine R.nil ?_
        refine X.then_ ?_
        refine wp_ret ?_
        refine X.blk_ret ?_
        refine X.then_ret ?_
        refine X.then_ret ?_
        refine X.blk_ret ?_
        refine X.then_ret ?_
        exact L.ret hf (run_results1 Try.results28 (ResIs.tmp hf rfl)) ⟨false, rfl, h, hs.nil⟩
      · replace h := h.2 hc
        refine wp_skip ?_
        refine X.blk ?_
        refine X.then_ ?_
        refine R.list ?_
        refine S.val hf hs (v := .int .i64 ((k1 + 1 : Nat) : Int)) rfl rfl rfl (V.incr rfl rfl rfl hltk1 hlenk1) (fun a hf => ?_)
        refine S.val hf hs (v := .int .i64 ((k1 + 1 : Nat) : Int)) rfl rfl rfl (V.pure rfl) (fun a hf => ?_)
        refine R.nil ?_
        refine X.then_ ?_
        exact ⟨xk1, llk1, rfl, k1 + 1, range_drop hlk1, range_len hkk1, (by rw [hnext1] at h; exact h), ((((hf.nil.cons (hf.get 12 _ rfl)).cons (hf.get 1 _ rfl)).cons (hf.get 0 _ rfl)).cons (hf.get 13 _ rfl)), hs⟩

set_option linter.unusedVariables false
def M_stack_Mirrored (m : (List Material)) (s_ : (List Layer)) (Q : (List Layer) → Int → Prop) : Prop :=
  M_stack_CheckStack m s_ fun y1 => cnd (y1 != 0) (Q ([] : List Layer) y1) (M_clone_layer s_ fun y2 => M_reverse_layer y2 fun z1 => Q z1 0)
set_option maxHeartbeats 1000000 in
theorem R_stack_Mirrored (m : (List Material)) (s_ : (List Layer)) (w0 : World) (mA : Option Addr) (mC : Nat) (hv_m : View w0 (old w0 none_) mA mC m) (s_A : Option Addr) (s_C : Nat) (hv_s_ : View w0 (old w0 none_) s_A s_C s_) (Q : (List Layer) → Int → Prop) (h : M_stack_Mirrored m s_ Q) :
    Ret Try.prog 26 #[.slice mA m.length mC, .slice s_A s_.length s_C] w0 fun v w' => ∃ (r0 : (List Layer)) (r0A : Option Addr) (r0C : Nat) (r1 : Int), v = .tuple #[.slice r0A r0.length r0C, .int .i64 r1] ∧ Q r0 r1 ∧ Sat w0 none_ [hown 35 r0A r0C r0] w' := by
  refine fn_enter Try.func26 rfl Try.ntmps26 rfl (fs := [(0, .slice mA m.length mC), (1, .slice s_A s_.length s_C)]) rfl (fun a hf => ?_)
  have hs := Sat.start w0 none_
  unfold M_stack_Mirrored at h
  refine wp_seq ?_
  refine R.list ?_
  refine S.val hf hs (v := .slice none 0 0) rfl rfl rfl (V.pure rfl) (fun a hf => ?_)
  refine S.val hf hs (v := .int .i64 0) rfl rfl rfl (V.pure rfl) (fun a hf => ?_)
  refine R.nil ?_
  refine X.then_ ?_
  refine wp_seq ?_
  refine wp_seq ?_
  refine R.list ?_
  refine S.val hf hs (v := .slice mA m.length mC) rfl rfl rfl (V.pure rfl) (fun a hf => ?_)
  refine S.val hf hs (v := .slice s_A s_.length s_C) rfl rfl rfl (V.pure rfl) (fun a hf => ?_)
  refine S.call hf rfl rfl rfl (call_fn (vs := [.slice mA m.length mC, .slice s_A s_.length s_C]) rfl rfl rfl Try.call18) (R_stack_CheckStack m s_ _ mA mC ((Ag.args _ _ _).view hv_m hs) s_A s_C ((Ag.args _ _ _).view hv_s_ hs) _ h) (fun v a w' hf hr => ?_)
  obtain ⟨y1, rfl, h2, hs2⟩ := hr
  replace h := h2; replace hs := hs.call hs2; clear h2 hs2
  refine S.val hf hs (v := .int .i64 y1) rfl rfl rfl (V.pure rfl) (fun a hf => ?_)
  refine R.nil ?_
  refine X.then_ ?_
  refine wp_seq ?_
  refine R.list ?_
  refine S.val hf hs (v := .int .i64 y1) rfl rfl rfl (V.pure rfl) (fun a hf => ?_)
  refine S.val hf hs (v := .bool (y1 != 0)) rfl rfl rfl (V.pure rfl) (fun a hf => ?_)
  refine R.nil ?_
  refine X.then_ ?_
  refine C.cond hf (b := y1 != 0) rfl (fun hc => ?_) (fun hc => ?_)
  · replace h := h.1 hc
    refine wp_seq ?_
    refine R.list ?_
    refine S.val hf hs (v := .int .i64 y1) rfl rfl rfl (V.pure rfl) (fun a hf => ?_)
    refine S.val hf hs (v := .slice none 0 0) rfl rfl rfl (V.pure rfl) (fun a hf => ?_)
    refine S.val hf hs (v := .int .i64 y1) rfl rfl rfl (V.pure rfl) (fun a hf => ?_)
    refine R.nil ?_
    refine X.then_ ?_
    refine wp_ret ?_
    refine X.then_ret ?_
    replace hs := hs.nilOwn (α := Layer) 35
    replace hs := hs.take 1
    exact L.ret hf (run_results2 Try.results26 (ResIs.tmp hf rfl) (ResIs.tmp hf rfl)) ⟨([] : List Layer), none, 0, y1, rfl, h, hs⟩
  · replace h := h.2 hc
    refine wp_skip ?_
    refine X.then_ ?_
    refine wp_seq ?_
    refine R.list ?_
    refine S.val hf hs (v := .slice s_A s_.length s_C) rfl rfl rfl (V.pure rfl) (fun a hf => ?_)
    refine S.call hf rfl rfl rfl (call_fn (vs := [.slice s_A s_.length s_C]) rfl rfl rfl Try.call68) (R_clone_layer s_ _ s_A s_C ((Ag.args _ _ _).view hv_s_ hs) _ h) (fun v a w' hf hr => ?_)
    obtain ⟨y2, y2A, y2C, rfl, h2, hs2⟩ := hr
    replace h := h2; replace hs := hs.call hs2; clear h2 hs2
    refine S.val hf hs (v := .slice y2A y2.length y2C) rfl rfl rfl (V.pure rfl) (fun a hf => ?_)
    refine R.nil ?_
    refine X.then_ ?_
    refine wp_seq ?_
    refine R.list ?_
    refine S.val hf hs (v := .slice y2A y2.length y2C) rfl rfl rfl (V.pure rfl) (fun a hf => ?_)
    obtain ⟨F1, hsF, hback, hold, hrest⟩ := Sat.callOwns [hown 35 y2A y2C y2] (σ := []) hs
    refine S.call hf rfl rfl rfl (call_fn (vs := [.slice y2A y2.length y2C]) rfl rfl rfl Try.call69) (R_reverse_layer y2 _ _ y2A y2C hsF _ h) (fun v a w' hf hr => ?_)
    obtain ⟨z1, hl_z1, rfl, h2, hs2⟩ := hr
    replace h := h2; replace hs := hback _ _ hs2; clear h2 hs2 hback hold hrest hsF
    replace hf := hf.tell 7 (v := .slice y2A z1.length y2C) ((hf.get 7 (.slice y2A y2.length y2C) rfl).trans (congrArg (fun n => Value.slice y2A n y2C) hl_z1.symm))
    replace hf := hf.tell 15 (v := .slice y2A z1.length y2C) ((hf.get 15 (.slice y2A y2.length y2C) rfl).trans (congrArg (fun n => Value.slice y2A n y2C) hl_z1.symm))
    replace hf := hf.tell 16 (v := .slice y2A z1.length y2C) ((hf.get 16 (.slice y2A y2.length y2C) rfl).trans (congrArg (fun n => Value.slice y2A n y2C) hl_z1.symm))
    refine R.nil ?_
    refine X.then_ ?_
    refine wp_seq ?_
    refine R.list ?_
    refine S.val hf hs (v := .slice y2A z1.length y2C) rfl rfl rfl (V.pure rfl) (fun a hf => ?_)
    refine S.val hf hs (v := .slice y2A z1.length y2C) rfl rfl rfl (V.pure rfl) (fun a hf => ?_)
    refine S.val hf hs (v := .int .i64 0) rfl rfl rfl (V.pure rfl) (fun a hf => ?_)
    refine R.nil ?_
    refine X.then_ ?_
    refine wp_ret ?_
    replace hs := hs.take 1
    exact L.ret hf (run_results2 Try.results26 (ResIs.tmp hf rfl) (ResIs.tmp hf rfl)) ⟨z1, y2A, y2C, 0, rfl, h, hs⟩

set_option linter.unusedVariables false
def M_ref4_Mirrored (m : (List Material)) (s_ : (List Layer)) (Q : (List Layer) → Int → Prop) : Prop :=
  M_ref4_CheckStack m s_ fun y1 => cnd (y1 != 0) (Q ([] : List Layer) y1) (M_clone_layer s_ fun y2 => M_reverse_layer y2 fun z1 => Q z1 0)
set_option maxHeartbeats 1000000 in
theorem R_ref4_Mirrored (m : (List Material)) (s_ : (List Layer)) (w0 : World) (mA : Option Addr) (mC : Nat) (hv_m : View w0 (old w0 none_) mA mC m) (s_A : Option Addr) (s_C : Nat) (hv_s_ : View w0 (old w0 none_) s_A s_C s_) (Q : (List Layer) → Int → Prop) (h : M_ref4_Mirrored m s_ Q) :
    Ret Try.prog 27 #[.slice mA m.length mC, .slice s_A s_.length s_C] w0 fun v w' => ∃ (r0 : (List Layer)) (r0A : Option Addr) (r0C : Nat) (r1 : Int), v = .tuple #[.slice r0A r0.length r0C, .int .i64 r1] ∧ Q r0 r1 ∧ Sat w0 none_ [hown 35 r0A r0C r0] w' := by
  refine fn_enter Try.func27 rfl Try.ntmps27 rfl (fs := [(0, .slice mA m.length mC), (1, .slice s_A s_.length s_C)]) rfl (fun a hf => ?_)
  have hs := Sat.start w0 none_
  unfold M_ref4_Mirrored at h
  refine wp_seq ?_
  refine R.list ?_
  refine S.val hf hs (v := .slice none 0 0) rfl rfl rfl (V.pure rfl) (fun a hf => ?_)
  refine S.val hf hs (v := .int .i64 0) rfl rfl rfl (V.pure rfl) (fun a hf => ?_)
  refine R.nil ?_
  refine X.then_ ?_
  refine wp_seq ?_
  refine wp_seq ?_
  refine R.list ?_
  refine S.val hf hs (v := .slice mA m.length mC) rfl rfl rfl (V.pure rfl) (fun a hf => ?_)
  refine S.val hf hs (v := .slice s_A s_.length s_C) rfl rfl rfl (V.pure rfl) (fun a hf => ?_)
  refine S.call hf rfl rfl rfl (call_fn (vs := [.slice mA m.length mC, .slice s_A s_.length s_C]) rfl rfl rfl Try.call19) (R_ref4_CheckStack m s_ _ mA mC ((Ag.args _ _ _).view hv_m hs) s_A s_C ((Ag.args _ _ _).view hv_s_ hs) _ h) (fun v a w' hf hr => ?_)
  obtain ⟨y1, rfl, h2, hs2⟩ := hr
  replace h := h2; replace hs := hs.call hs2; clear h2 hs2
  refine S.val hf hs (v := .int .i64 y1) rfl rfl rfl (V.pure rfl) (fun a hf => ?_)
  refine R.nil ?_
  refine X.then_ ?_
  refine wp_seq ?_
  refine R.list ?_
  refine S.val hf hs (v := .int .i64 y1) rfl rfl rfl (V.pure rfl) (fun a hf => ?_)
  refine S.val hf hs (v := .bool (y1 != 0)) rfl rfl rfl (V.pure rfl) (fun a hf => ?_)
  refine R.nil ?_
  refine X.then_ ?_
  refine C.cond hf (b := y1 != 0) rfl (fun hc => ?_) (fun hc => ?_)
  · replace h := h.1 hc
    refine wp_seq ?_
    refine R.list ?_
    refine S.val hf hs (v := .int .i64 y1) rfl rfl rfl (V.pure rfl) (fun a hf => ?_)
    refine S.val hf hs (v := .slice none 0 0) rfl rfl rfl (V.pure rfl) (fun a hf => ?_)
    refine S.val hf hs (v := .int .i64 y1) rfl rfl rfl (V.pure rfl) (fun a hf => ?_)
    refine R.nil ?_
    refine X.then_ ?_
    refine wp_ret ?_
    refine X.then_ret ?_
    replace hs := hs.nilOwn (α := Layer) 35
    replace hs := hs.take 1
    exact L.ret hf (run_results2 Try.results27 (ResIs.tmp hf rfl) (ResIs.tmp hf rfl)) ⟨([] : List Layer), none, 0, y1, rfl, h, hs⟩
  · replace h := h.2 hc
    refine wp_skip ?_
    refine X.then_ ?_
    refine wp_seq ?_
    refine R.list ?_
    refine S.val hf hs (v := .slice s_A s_.length s_C) rfl rfl rfl (V.pure rfl) (fun a hf => ?_)
    refine S.call hf rfl rfl rfl (call_fn (vs := [.slice s_A s_.length s_C]) rfl rfl rfl Try.call68) (R_clone_layer s_ _ s_A s_C ((Ag.args _ _ _).view hv_s_ hs) _ h) (fun v a w' hf hr => ?_)
    obtain ⟨y2, y2A, y2C, rfl, h2, hs2⟩ := hr
    replace h := h2; replace hs := hs.call hs2; clear h2 hs2
    refine S.val hf hs (v := .slice y2A y2.length y2C) rfl rfl rfl (V.pure rfl) (fun a hf => ?_)
    refine R.nil ?_
    refine X.then_ ?_
    refine wp_seq ?_
    refine R.list ?_
    refine S.val hf hs (v := .slice y2A y2.length y2C) rfl rfl rfl (V.pure rfl) (fun a hf => ?_)
    obtain ⟨F1, hsF, hback, hold, hrest⟩ := Sat.callOwns [hown 35 y2A y2C y2] (σ := []) hs
    refine S.call hf rfl rfl rfl (call_fn (vs := [.slice y2A y2.length y2C]) rfl rfl rfl Try.call69) (R_reverse_layer y2 _ _ y2A y2C hsF _ h) (fun v a w' hf hr => ?_)
    obtain ⟨z1, hl_z1, rfl, h2, hs2⟩ := hr
    replace h := h2; replace hs := hback _ _ hs2; clear h2 hs2 hback hold hrest hsF
    replace hf := hf.tell 7 (v := .slice y2A z1.length y2C) ((hf.get 7 (.slice y2A y2.length y2C) rfl).trans (congrArg (fun n => Value.slice y2A n y2C) hl_z1.symm))
    replace hf := hf.tell 15 (v := .slice y2A z1.length y2C) ((hf.get 15 (.slice y2A y2.length y2C) rfl).trans (congrArg (fun n => Value.slice y2A n y2C) hl_z1.symm))
    replace hf := hf.tell 16 (v := .slice y2A z1.length y2C) ((hf.get 16 (.slice y2A y2.length y2C) rfl).trans (congrArg (fun n => Value.slice y2A n y2C) hl_z1.symm))
    refine R.nil ?_
    refine X.then_ ?_
    refine wp_seq ?_
    refine R.list ?_
    refine S.val hf hs (v := .slice y2A z1.length y2C) rfl rfl rfl (V.pure rfl) (fun a hf => ?_)
    refine S.val hf hs (v := .slice y2A z1.length y2C) rfl rfl rfl (V.pure rfl) (fun a hf => ?_)
    refine S.val hf hs (v := .int .i64 0) rfl rfl rfl (V.pure rfl) (fun a hf => ?_)
    refine R.nil ?_
    refine X.then_ ?_
    refine wp_ret ?_
    replace hs := hs.take 1
    exact L.ret hf (run_results2 Try.results27 (ResIs.tmp hf rfl) (ResIs.tmp hf rfl)) ⟨z1, y2A, y2C, 0, rfl, h, hs⟩

set_option linter.unusedVariables false
def M_stack_Bow_L1 (m : (List Material)) (y2 : Int) (k1 : Nat) (xk1 : Layer) (n3 : Int) (n4 : Int) (next1 : Int → Int → Prop) : Prop :=
  M_stack_materialOf m xk1.Material fun y3 y4 => next1 (w64 (n3 + y3.Thick)) (w64 (n4 + (w64 ((w64 (y3.Thick * y3.Grow)) * (w64 ((w64 ((w64 (2 * n3)) + y3.Thick)) - y2))))))
def M_stack_Bow (m : (List Material)) (s_ : (List Layer)) (Q : Int → Int → Prop) : Prop :=
  M_stack_CheckStack m s_ fun y1 => cnd (y1 != 0) (Q 0 y1) (M_stack_thick m s_ fun y2 => forIn' (fun k x (s : Int × Int) next => M_stack_Bow_L1 m y2 k x s.1 s.2 (fun n3 n4 => next (n3, n4))) (fun (s : Int × Int) => (fun (n3 : Int) (n4 : Int) => Q n4 0) s.1 s.2) s_ 0 (0, 0))
set_option maxHeartbeats 1000000 in
theorem R_stack_Bow (m : (List Material)) (s_ : (List Layer)) (w0 : World) (mA : Option Addr) (mC : Nat) (hv_m : View w0 (old w0 none_) mA mC m) (s_A : Option Addr) (s_C : Nat) (hv_s_ : View w0 (old w0 none_) s_A s_C s_) (Q : Int → Int → Prop) (h : M_stack_Bow m s_ Q) :
    Ret Try.prog 29 #[.slice mA m.length mC, .slice s_A s_.length s_C] w0 fun v w' => ∃ (r0 : Int) (r1 : Int), v = .tuple #[.int .i64 r0, .int .i64 r1] ∧ Q r0 r1 ∧ Sat w0 none_ [] w' := by
  refine fn_enter Try.func29 rfl Try.ntmps29 rfl (fs := [(0, .slice mA m.length mC), (1, .slice s_A s_.length s_C)]) rfl (fun a hf => ?_)
  have hs := Sat.start w0 none_
  unfold M_stack_Bow at h
  refine wp_seq ?_
  refine R.list ?_
  refine S.val hf hs (v := .int .i64 0) rfl rfl rfl (V.pure rfl) (fun a hf => ?_)
  refine S.val hf hs (v := .int .i64 0) rfl rfl rfl (V.pure rfl) (fun a hf => ?_)
  refine R.nil ?_
  refine X.then_ ?_
  refine wp_seq ?_
  refine wp_seq ?_
  refine R.list ?_
  refine S.val hf hs (v := .slice mA m.length mC) rfl rfl rfl (V.pure rfl) (fun a hf => ?_)
  refine S.val hf hs (v := .slice s_A s_.length s_C) rfl rfl rfl (V.pure rfl) (fun a hf => ?_)
  refine S.call hf rfl rfl rfl (call_fn (vs := [.slice mA m.length mC, .slice s_A s_.length s_C]) rfl rfl rfl Try.call18) (R_stack_CheckStack m s_ _ mA mC ((Ag.args _ _ _).view hv_m hs) s_A s_C ((Ag.args _ _ _).view hv_s_ hs) _ h) (fun v a w' hf hr => ?_)
  obtain ⟨y1, rfl, h2, hs2⟩ := hr
  replace h := h2; replace hs := hs.call hs2; clear h2 hs2
  refine S.val hf hs (v := .int .i64 y1) rfl rfl rfl (V.pure rfl) (fun a hf => ?_)
  refine R.nil ?_
  refine X.then_ ?_
  refine wp_seq ?_
  refine R.list ?_
  refine S.val hf hs (v := .int .i64 y1) rfl rfl rfl (V.pure rfl) (fun a hf => ?_)
  refine S.val hf hs (v := .bool (y1 != 0)) rfl rfl rfl (V.pure rfl) (fun a hf => ?_)
  refine R.nil ?_
  refine X.then_ ?_
  refine C.cond hf (b := y1 != 0) rfl (fun hc => ?_) (fun hc => ?_)
  · replace h := h.1 hc
    refine wp_seq ?_
    refine R.list ?_
    refine S.val hf hs (v := .int .i64 y1) rfl rfl rfl (V.pure rfl) (fun a hf => ?_)
    refine S.val hf hs (v := .int .i64 0) rfl rfl rfl (V.pure rfl) (fun a hf => ?_)
    refine S.val hf hs (v := .int .i64 y1) rfl rfl rfl (V.pure rfl) (fun a hf => ?_)
    refine R.nil ?_
    refine X.then_ ?_
    refine wp_ret ?_
    refine X.then_ret ?_
    exact L.ret hf (run_results2 Try.results29 (ResIs.tmp hf rfl) (ResIs.tmp hf rfl)) ⟨0, y1, rfl, h, hs.nil⟩
  · replace h := h.2 hc
    refine wp_skip ?_
    refine X.then_ ?_
    refine wp_seq ?_
    refine R.list ?_
    refine S.val hf hs (v := .slice mA m.length mC) rfl rfl rfl (V.pure rfl) (fun a hf => ?_)
    refine S.val hf hs (v := .slice s_A s_.length s_C) rfl rfl rfl (V.pure rfl) (fun a hf => ?_)
    refine S.call hf rfl rfl rfl (call_fn (vs := [.slice mA m.length mC, .slice s_A s_.length s_C]) rfl rfl rfl Try.call54) (R_stack_thick m s_ _ mA mC ((Ag.args _ _ _).view hv_m hs) s_A s_C ((Ag.args _ _ _).view hv_s_ hs) _ h) (fun v a w' hf hr => ?_)
    obtain ⟨y2, rfl, h2, hs2⟩ := hr
    replace h := h2; replace hs := hs.call hs2; clear h2 hs2
    refine S.val hf hs (v := .int .i64 y2) rfl rfl rfl (V.pure rfl) (fun a hf => ?_)
    refine S.val hf hs (v := .int .i64 0) rfl rfl rfl (V.pure rfl) (fun a hf => ?_)
    refine S.val hf hs (v := .int .i64 0) rfl rfl rfl (V.pure rfl) (fun a hf => ?_)
    refine R.nil ?_
    refine X.then_ ?_
    refine wp_seq ?_
    refine wp_seq ?_
    refine R.list ?_
    refine S.val hf hs (v := .slice s_A s_.length s_C) rfl rfl rfl (V.pure rfl) (fun a hf => ?_)
    refine S.val hf hs (v := .int .i64 (s_.length : Int)) rfl rfl rfl (V.len rfl rfl Try.runUnderlying23) (fun a hf => ?_)
    refine S.val hf hs (v := .int .i64 0) rfl rfl rfl (V.pure rfl) (fun a hf => ?_)
    refine R.nil ?_
    refine X.then_ ?_
    refine wp_block ?_
    have hlenk1 := hv_s_.len64
    refine C.range (fun (ll : List Layer) a w => ∃ (k1 : Nat) (n3 : Int) (n4 : Int), s_.drop k1 = ll ∧ k1 + ll.length = s_.length ∧ forIn' (fun k x (s : Int × Int) next => M_stack_Bow_L1 m y2 k x s.1 s.2 (fun n3 n4 => next (n3, n4))) (fun (s : Int × Int) => (fun (n3 : Int) (n4 : Int) => Q n4 0) s.1 s.2) ll k1 (n3, n4) ∧ FrOk 57 [(25, .int .i64 (k1 : Int)), (0, .slice mA m.length mC), (7, .int .i64 y2), (8, .int .i64 n3), (9, .int .i64 n4), (23, .slice s_A s_.length s_C), (24, .int .i64 (s_.length : Int))] a ∧ Sat w0 none_ [] w) s_ ⟨0, 0, 0, rfl, Nat.zero_add _, h, (((((((hf.nil.cons (hf.get 24 _ rfl)).cons (hf.get 23 _ rfl)).cons (hf.get 9 _ rfl)).cons (hf.get 8 _ rfl)).cons (hf.get 7 _ rfl)).cons (hf.get 0 _ rfl)).cons (hf.get 25 _ rfl)), hs⟩ ?_
    clear h hf hs
    rintro llk1 a w ⟨k1, n3, n4, hlk1, hkk1, h, hf, hs⟩
    cases llk1 with
    | nil =>
      have hc := range_done hkk1
      replace h : (fun (n3 : Int) (n4 : Int) => Q n4 0) n3 n4 := h
      refine wp_seq ?_
      refine R.list ?_
      refine S.val hf hs (v := .bool false) rfl rfl rfl (V.cmp false rfl rfl rfl rfl hc) (fun a hf => ?_)
      refine R.nil ?_
      refine X.then_ ?_
      refine wp_seq ?_
      refine C.no hf rfl ?_
      refine wp_exit ?_
      refine X.then_exit ?_
      refine X.then_exit ?_
      refine X.blk_exit ?_
      refine X.then_ ?_
      refine wp_seq ?_
      refine R.list ?_
      refine S.val hf hs (v := .int .i64 n4) rfl rfl rfl (V.pure rfl) (fun a hf => ?_)
      refine S.val hf hs (v := .int .i64 n4) rfl rfl rfl (V.pure rfl) (fun a hf => ?_)
      refine S.val hf hs (v := .int .i64 0) rfl rfl rfl (V.pure rfl) (fun a hf => ?_)
      refine R.nil ?_
      refine X.then_ ?_
      refine wp_ret ?_
      exact L.ret hf (run_results2 Try.results29 (ResIs.tmp hf rfl) (ResIs.tmp hf rfl)) ⟨n4, 0, rfl, h, hs.nil⟩
    | cons xk1 llk1 =>
      have hltk1 := range_lt hkk1; have hc := range_go hkk1; have hxk1 := range_get hlk1
      obtain ⟨next1, hnext1⟩ : ∃ X : Int → Int → Prop, X = (fun n3 n4 => forIn' (fun k x (s : Int × Int) next => M_stack_Bow_L1 m y2 k x s.1 s.2 (fun n3 n4 => next (n3, n4))) (fun (s : Int × Int) => (fun (n3 : Int) (n4 : Int) => Q n4 0) s.1 s.2) llk1 (k1 + 1) (n3, n4)) := ⟨_, rfl⟩
      replace h : M_stack_Bow_L1 m y2 k1 xk1 n3 n4 next1 := by rw [hnext1]; exact h
      unfold M_stack_Bow_L1 at h
      refine wp_seq ?_
      refine R.list ?_
      refine S.val hf hs (v := .bool true) rfl rfl rfl (V.cmp true rfl rfl rfl rfl hc) (fun a hf => ?_)
      refine R.nil ?_
      refine X.then_ ?_
      refine wp_seq ?_
      refine C.yes hf rfl ?_
      refine wp_skip ?_
      refine X.then_ ?_
      refine wp_seq ?_
      refine wp_block ?_
      refine wp_seq ?_
      refine R.list ?_
      refine S.val hf hs (v := elemPtr s_A (k1 * 2)) rfl rfl rfl (V.index rfl rfl rfl Try.runUnderlying23 Try.sizeOf35 (hv_s_.some_ (lt_of_get hxk1)) (Int.natCast_nonneg _) (lt_of_get hxk1) rfl) (fun a hf => ?_)
      refine S.val hf hs (v := .agg #[.string (ba xk1.Name), .string (ba xk1.Material)]) rfl rfl rfl (V.loadEl (off := 0) (Ag.args _ _ _) (hv_s_.flat hxk1) rfl rfl rfl Try.isAgg35 Try.sizeOf35 rfl rfl) (fun a hf => ?_)
      refine S.alloc hf hs rfl rfl rfl [.string (ba []), .string (ba [])] rfl Try.zeroValue35 rfl (fun g1 a w hf hs => ?_)
      refine S.storeBox 0 hf hs rfl rfl [.string (ba xk1.Name), .string (ba xk1.Material)] [.string (ba xk1.Name), .string (ba xk1.Material)] rfl rfl rfl rfl rfl Try.sizeOf35 rfl rfl rfl rfl (fun a w hf hs => ?_)
      refine R.nil ?_
      refine X.then_ ?_
      refine wp_seq ?_
      refine R.list ?_
      refine S.val hf hs (v := .slice mA m.length mC) rfl rfl rfl (V.pure rfl) (fun a hf => ?_)
      refine S.val hf hs (v := .pointer (some ⟨g1, 1, none⟩)) rfl rfl rfl (V.fieldBox rfl rfl Try.runUnderlying35 rfl Try.sizeOf9 rfl rfl) (fun a hf => ?_)
      refine S.val hf hs (v := .string (ba xk1.Material)) rfl rfl rfl (V.loadBox 0 rfl rfl rfl Try.isAgg9 Try.sizeOf9 rfl rfl) (fun a hf => ?_)
      refine S.call hf rfl rfl rfl (call_fn (vs := [.slice mA m.length mC, .string (ba xk1.Material)]) rfl rfl rfl Try.call60) (R_stack_materialOf m xk1.Material _ mA mC ((Ag.args _ _ _).view hv_m hs) _ h) (fun v a w' hf hr => ?_)
      obtain ⟨y3, y4, rfl, h2, hs2⟩ := hr
      replace h := h2; replace hs := hs.call hs2; clear h2 hs2
      refine S.val hf hs (v := .tuple #[.agg #[.string (ba y3.Name), .int .i64 y3.Kind, .int .i64 y3.Thick, .int .i64 y3.Grow], .bool y4]) rfl rfl rfl (V.pure rfl) (fun a hf => ?_)
      refine S.val hf hs (v := .agg #[.string (ba y3.Name), .int .i64 y3.Kind, .int .i64 y3.Thick, .int .i64 y3.Grow]) rfl rfl rfl (V.pure rfl) (fun a hf => ?_)
      refine S.val hf hs (v := .bool y4) rfl rfl rfl (V.pure rfl) (fun a hf => ?_)
      refine S.alloc hf hs rfl rfl rfl [.string (ba []), .int .i64 0, .int .i64 0, .int .i64 0] rfl Try.zeroValue37 rfl (fun g2 a w hf hs => ?_)
      refine S.storeBox 0 hf hs rfl rfl [.string (ba y3.Name), .int .i64 y3.Kind, .int .i64 y3.Thick, .int .i64 y3.Grow] [.string (ba y3.Name), .int .i64 y3.Kind, .int .i64 y3.Thick, .int .i64 y3.Grow] rfl rfl rfl rfl rfl Try.sizeOf37 rfl rfl rfl rfl (fun a w hf hs => ?_)
      refine S.val hf hs (v := .bool y4) rfl rfl rfl (V.pure rfl) (fun a hf => ?_)
      refine R.nil ?_
      refine X.then_ ?_
      refine wp_seq ?_
      refine R.list ?_
      refine S.val hf hs (v := .int .i64 n4) rfl rfl rfl (V.pure rfl) (fun a hf => ?_)
      refine S.val hf hs (v := .pointer (some ⟨g2, 2, none⟩)) rfl rfl rfl (V.fieldBox rfl rfl Try.runUnderlying37 rfl Try.sizeOf3 rfl rfl) (fun a hf => ?_)
      refine S.val hf hs (v := .int .i64 y3.Thick) rfl rfl rfl (V.loadBox 0 rfl rfl rfl Try.isAgg3 Try.sizeOf3 rfl rfl) (fun a hf => ?_)
      refine S.val hf hs (v := .pointer (some ⟨g2, 3, none⟩)) rfl rfl rfl (V.fieldBox rfl rfl Try.runUnderlying37 rfl Try.sizeOf3 rfl rfl) (fun a hf => ?_)
      refine S.val hf hs (v := .int .i64 y3.Grow) rfl rfl rfl (V.loadBox 0 rfl rfl rfl Try.isAgg3 Try.sizeOf3 rfl rfl) (fun a hf => ?_)
      refine S.val hf hs (v := .int .i64 (w64 (y3.Thick * y3.Grow))) rfl rfl rfl (V.pure rfl) (fun a hf => ?_)
      refine S.val hf hs (v := .int .i64 n3) rfl rfl rfl (V.pure rfl) (fun a hf => ?_)
      refine S.val hf hs (v := .int .i64 (w64 (2 * n3))) rfl rfl rfl (V.pure rfl) (fun a hf => ?_)
      refine S.val hf hs (v := .pointer (some ⟨g2, 2, none⟩)) rfl rfl rfl (V.fieldBox rfl rfl Try.runUnderlying37 rfl Try.sizeOf3 rfl rfl) (fun a hf => ?_)
      refine S.val hf hs (v := .int .i64 y3.Thick) rfl rfl rfl (V.loadBox 0 rfl rfl rfl Try.isAgg3 Try.sizeOf3 rfl rfl) (fun a hf => ?_)
      refine S.val hf hs (v := .int .i64 (w64 ((w64 (2 * n3)) + y3.Thick))) rfl rfl rfl (V.pure rfl) (fun a hf => ?_)
      refine S.val hf hs (v := .int .i64 y2) rfl rfl rfl (V.pure rfl) (fun a hf => ?_)
      refine S.val hf hs (v := .int .i64 (w64 ((w64 ((w64 (2 * n3)) + y3.Thick)) - y2))) rfl rfl rfl (V.pure rfl) (fun a hf => ?_)
      refine S.val hf hs (v := .int .i64 (w64 ((w64 (y3.Thick * y3.Grow)) * (w64 ((w64 ((w64 (2 * n3)) + y3.Thick)) - y2))))) rfl rfl rfl (V.pure rfl) (fun a hf => ?_)
      refine S.val hf hs (v := .int .i64 (w64 (n4 + (w64 ((w64 (y3.Thick * y3.Grow)) * (w64 ((w64 ((w64 (2 * n3)) + y3.Thick)) - y2))))))) rfl rfl rfl (V.pure rfl) (fun a hf => ?_)
      refine S.val hf hs (v := .int .i64 (w64 (n4 + (w64 ((w64 (y3.Thick * y3.Grow)) * (w64 ((w64 ((w64 (2 * n3)) + y3.Thick)) - y2))))))) rfl rfl rfl (V.pure rfl) (fun a hf => ?_)
      refine R.nil ?_
      refine X.then_ ?_
      refine R.list ?_
      refine S.val hf hs (v := .int .i64 n3) rfl rfl rfl (V.pure rfl) (fun a hf => ?_)
      refine S.val hf hs (v := .pointer (some ⟨g2, 2, none⟩)) rfl rfl rfl (V.fieldBox rfl rfl Try.runUnderlying37 rfl Try.sizeOf3 rfl rfl) (fun a hf => ?_)
      refine S.val hf hs (v := .int .i64 y3.Thick) rfl rfl rfl (V.loadBox 0 rfl rfl rfl Try.isAgg3 Try.sizeOf3 rfl rfl) (fun a hf => ?_)
      refine S.val hf hs (v := .int .i64 (w64 (n3 + y3.Thick))) rfl rfl rfl (V.pure rfl) (fun a hf => ?_)
      refine S.val hf hs (v := .int .i64 (w64 (n3 + y3.Thick))) rfl rfl rfl (V.pure rfl) (fun a hf => ?_)
      refine R.nil ?_
      refine X.blk ?_
      refine X.then_ ?_
      refine R.list ?_
      refine S.val hf hs (v := .int .i64 ((k1 + 1 : Nat) : Int)) rfl rfl rfl (V.incr rfl rfl rfl hltk1 hlenk1) (fun a hf => ?_)
      refine S.val hf hs (v := .int .i64 ((k1 + 1 : Nat) : Int)) rfl rfl rfl (V.pure rfl) (fun a hf => ?_)
      refine R.nil ?_
      refine X.then_ ?_
      exact ⟨xk1, llk1, rfl, k1 + 1, (w64 (n3 + y3.Thick)), (w64 (n4 + (w64 ((w64 (y3.Thick * y3.Grow)) * (w64 ((w64 ((w64 (2 * n3)) + y3.Thick)) - y2)))))), range_drop hlk1, range_len hkk1, (by rw [hnext1] at h; exact h), (((((((hf.nil.cons (hf.get 24 _ rfl)).cons (hf.get 23 _ rfl)).cons (hf.get 9 _ rfl)).cons (hf.get 8 _ rfl)).cons (hf.get 7 _ rfl)).cons (hf.get 0 _ rfl)).cons (hf.get 25 _ rfl)), hs.drop.drop⟩

set_option linter.unusedVariables false
def M_ref4_Bow_L1 (m : (List Material)) (y2 : Int) (k1 : Nat) (xk1 : Layer) (n3 : Int) (n4 : Int) (next1 : Int → Int → Prop) : Prop :=
  M_ref4_materialOf m xk1.Material fun y3 => next1 (w64 (n3 + y3.Thick)) (w64 (n4 + (w64 ((w64 (y3.Thick * y3.Grow)) * (w64 ((w64 ((w64 (2 * n3)) + y3.Thick)) - y2))))))
def M_ref4_Bow (m : (List Material)) (s_ : (List Layer)) (Q : Int → Int → Prop) : Prop :=
  M_ref4_CheckStack m s_ fun y1 => cnd (y1 != 0) (Q 0 y1) (M_ref4_thickness m s_ fun y2 => forIn' (fun k x (s : Int × Int) next => M_ref4_Bow_L1 m y2 k x s.1 s.2 (fun n3 n4 => next (n3, n4))) (fun (s : Int × Int) => (fun (n3 : Int) (n4 : Int) => Q n4 0) s.1 s.2) s_ 0 (0, 0))
set_option maxHeartbeats 1000000 in
theorem R_ref4_Bow (m : (List Material)) (s_ : (List Layer)) (w0 : World) (mA : Option Addr) (mC : Nat) (hv_m : View w0 (old w0 none_) mA mC m) (s_A : Option Addr) (s_C : Nat) (hv_s_ : View w0 (old w0 none_) s_A s_C s_) (Q : Int → Int → Prop) (h : M_ref4_Bow m s_ Q) :
    Ret Try.prog 30 #[.slice mA m.length mC, .slice s_A s_.length s_C] w0 fun v w' => ∃ (r0 : Int) (r1 : Int), v = .tuple #[.int .i64 r0, .int .i64 r1] ∧ Q r0 r1 ∧ Sat w0 none_ [] w' := by
  refine fn_enter Try.func30 rfl Try.ntmps30 rfl (fs := [(0, .slice mA m.length mC), (1, .slice s_A s_.length s_C)]) rfl (fun a hf => ?_)
  have hs := Sat.start w0 none_
  unfold M_ref4_Bow at h
  refine wp_seq ?_
  refine R.list ?_
  refine S.val hf hs (v := .int .i64 0) rfl rfl rfl (V.pure rfl) (fun a hf => ?_)
  refine S.val hf hs (v := .int .i64 0) rfl rfl rfl (V.pure rfl) (fun a hf => ?_)
  refine R.nil ?_
  refine X.then_ ?_
  refine wp_seq ?_
  refine wp_seq ?_
  refine R.list ?_
  refine S.val hf hs (v := .slice mA m.length mC) rfl rfl rfl (V.pure rfl) (fun a hf => ?_)
  refine S.val hf hs (v := .slice s_A s_.length s_C) rfl rfl rfl (V.pure rfl) (fun a hf => ?_)
  refine S.call hf rfl rfl rfl (call_fn (vs := [.slice mA m.length mC, .slice s_A s_.length s_C]) rfl rfl rfl Try.call19) (R_ref4_CheckStack m s_ _ mA mC ((Ag.args _ _ _).view hv_m hs) s_A s_C ((Ag.args _ _ _).view hv_s_ hs) _ h) (fun v a w' hf hr => ?_)
  obtain ⟨y1, rfl, h2, hs2⟩ := hr
  replace h := h2; replace hs := hs.call hs2; clear h2 hs2
  refine S.val hf hs (v := .int .i64 y1) rfl rfl rfl (V.pure rfl) (fun a hf => ?_)
  refine R.nil ?_
  refine X.then_ ?_
  refine wp_seq ?_
  refine R.list ?_
  refine S.val hf hs (v := .int .i64 y1) rfl rfl rfl (V.pure rfl) (fun a hf => ?_)
  refine S.val hf hs (v := .bool (y1 != 0)) rfl rfl rfl (V.pure rfl) (fun a hf => ?_)
  refine R.nil ?_
  refine X.then_ ?_
  refine C.cond hf (b := y1 != 0) rfl (fun hc => ?_) (fun hc => ?_)
  · replace h := h.1 hc
    refine wp_seq ?_
    refine R.list ?_
    refine S.val hf hs (v := .int .i64 y1) rfl rfl rfl (V.pure rfl) (fun a hf => ?_)
    refine S.val hf hs (v := .int .i64 0) rfl rfl rfl (V.pure rfl) (fun a hf => ?_)
    refine S.val hf hs (v := .int .i64 y1) rfl rfl rfl (V.pure rfl) (fun a hf => ?_)
    refine R.nil ?_
    refine X.then_ ?_
    refine wp_ret ?_
    refine X.then_ret ?_
    exact L.ret hf (run_results2 Try.results30 (ResIs.tmp hf rfl) (ResIs.tmp hf rfl)) ⟨0, y1, rfl, h, hs.nil⟩
  · replace h := h.2 hc
    refine wp_skip ?_
    refine X.then_ ?_
    refine wp_seq ?_
    refine R.list ?_
    refine S.val hf hs (v := .slice mA m.length mC) rfl rfl rfl (V.pure rfl) (fun a hf => ?_)
    refine S.val hf hs (v := .slice s_A s_.length s_C) rfl rfl rfl (V.pure rfl) (fun a hf => ?_)
    refine S.call hf rfl rfl rfl (call_fn (vs := [.slice mA m.length mC, .slice s_A s_.length s_C]) rfl rfl rfl Try.call55) (R_ref4_thickness m s_ _ mA mC ((Ag.args _ _ _).view hv_m hs) s_A s_C ((Ag.args _ _ _).view hv_s_ hs) _ h) (fun v a w' hf hr => ?_)
    obtain ⟨y2, rfl, h2, hs2⟩ := hr
    replace h := h2; replace hs := hs.call hs2; clear h2 hs2
    refine S.val hf hs (v := .int .i64 y2) rfl rfl rfl (V.pure rfl) (fun a hf => ?_)
    refine S.val hf hs (v := .int .i64 0) rfl rfl rfl (V.pure rfl) (fun a hf => ?_)
    refine S.val hf hs (v := .int .i64 0) rfl rfl rfl (V.pure rfl) (fun a hf => ?_)
    refine R.nil ?_
    refine X.then_ ?_
    refine wp_seq ?_
    refine wp_seq ?_
    refine R.list ?_
    refine S.val hf hs (v := .slice s_A s_.length s_C) rfl rfl rfl (V.pure rfl) (fun a hf => ?_)
    refine S.val hf hs (v := .int .i64 (s_.length : Int)) rfl rfl rfl (V.len rfl rfl Try.runUnderlying23) (fun a hf => ?_)
    refine S.val hf hs (v := .int .i64 0) rfl rfl rfl (V.pure rfl) (fun a hf => ?_)
    refine R.nil ?_
    refine X.then_ ?_
    refine wp_block ?_
    have hlenk1 := hv_s_.len64
    refine C.range (fun (ll : List Layer) a w => ∃ (k1 : Nat) (n3 : Int) (n4 : Int), s_.drop k1 = ll ∧ k1 + ll.length = s_.length ∧ forIn' (fun k x (s : Int × Int) next => M_ref4_Bow_L1 m y2 k x s.1 s.2 (fun n3 n4 => next (n3, n4))) (fun (s : Int × Int) => (fun (n3 : Int) (n4 : Int) => Q n4 0) s.1 s.2) ll k1 (n3, n4) ∧ FrOk 53 [(24, .int .i64 (k1 : Int)), (0, .slice mA m.length mC), (7, .int .i64 y2), (8, .int .i64 n3), (9, .int .i64 n4), (22, .slice s_A s_.length s_C), (23, .int .i64 (s_.length : Int))] a ∧ Sat w0 none_ [] w) s_ ⟨0, 0, 0, rfl, Nat.zero_add _, h, (((((((hf.nil.cons (hf.get 23 _ rfl)).cons (hf.get 22 _ rfl)).cons (hf.get 9 _ rfl)).cons (hf.get 8 _ rfl)).cons (hf.get 7 _ rfl)).cons (hf.get 0 _ rfl)).cons (hf.get 24 _ rfl)), hs⟩ ?_
    clear h hf hs
    rintro llk1 a w ⟨k1, n3, n4, hlk1, hkk1, h, hf, hs⟩
    cases llk1 with
    | nil =>
      have hc := range_done hkk1
      replace h : (fun (n3 : Int) (n4 : Int) => Q n4 0) n3 n4 := h
      refine wp_seq ?_
      refine R.list ?_
      refine S.val hf hs (v := .bool false) rfl rfl rfl (V.cmp false rfl rfl rfl rfl hc) (fun a hf => ?_)
      refine R.nil ?_
      refine X.then_ ?_
      refine wp_seq ?_
      refine C.no hf rfl ?_
      refine wp_exit ?_
      refine X.then_exit ?_
      refine X.then_exit ?_
      refine X.blk_exit ?_
      refine X.then_ ?_
      refine wp_seq ?_
      refine R.list ?_
      refine S.val hf hs (v := .int .i64 n4) rfl rfl rfl (V.pure rfl) (fun a hf => ?_)
      refine S.val hf hs (v := .int .i64 n4) rfl rfl rfl (V.pure rfl) (fun a hf => ?_)
      refine S.val hf hs (v := .int .i64 0) rfl rfl rfl (V.pure rfl) (fun a hf => ?_)
      refine R.nil ?_
      refine X.then_ ?_
      refine wp_ret ?_
      exact L.ret hf (run_results2 Try.results30 (ResIs.tmp hf rfl) (ResIs.tmp hf rfl)) ⟨n4, 0, rfl, h, hs.nil⟩
    | cons xk1 llk1 =>
      have hltk1 := range_lt hkk1; have hc := range_go hkk1; have hxk1 := range_get hlk1
      obtain ⟨next1, hnext1⟩ : ∃ X : Int → Int → Prop, X = (fun n3 n4 => forIn' (fun k x (s : Int × Int) next => M_ref4_Bow_L1 m y2 k x s.1 s.2 (fun n3 n4 => next (n3, n4))) (fun (s : Int × Int) => (fun (n3 : Int) (n4 : Int) => Q n4 0) s.1 s.2) llk1 (k1 + 1) (n3, n4)) := ⟨_, rfl⟩
      replace h : M_ref4_Bow_L1 m y2 k1 xk1 n3 n4 next1 := by rw [hnext1]; exact h
      unfold M_ref4_Bow_L1 at h
      refine wp_seq ?_
      refine R.list ?_
      refine S.val hf hs (v := .bool true) rfl rfl rfl (V.cmp true rfl rfl rfl rfl hc) (fun a hf => ?_)
      refine R.nil ?_
      refine X.then_ ?_
      refine wp_seq ?_
      refine C.yes hf rfl ?_
      refine wp_skip ?_
      refine X.then_ ?_
      refine wp_seq ?_
      refine wp_block ?_
      refine wp_seq ?_
      refine R.list ?_
      refine S.val hf hs (v := elemPtr s_A (k1 * 2)) rfl rfl rfl (V.index rfl rfl rfl Try.runUnderlying23 Try.sizeOf35 (hv_s_.some_ (lt_of_get hxk1)) (Int.natCast_nonneg _) (lt_of_get hxk1) rfl) (fun a hf => ?_)
      refine S.val hf hs (v := .agg #[.string (ba xk1.Name), .string (ba xk1.Material)]) rfl rfl rfl (V.loadEl (off := 0) (Ag.args _ _ _) (hv_s_.flat hxk1) rfl rfl rfl Try.isAgg35 Try.sizeOf35 rfl rfl) (fun a hf => ?_)
      refine S.alloc hf hs rfl rfl rfl [.string (ba []), .string (ba [])] rfl Try.zeroValue35 rfl (fun g1 a w hf hs => ?_)
      refine S.storeBox 0 hf hs rfl rfl [.string (ba xk1.Name), .string (ba xk1.Material)] [.string (ba xk1.Name), .string (ba xk1.Material)] rfl rfl rfl rfl rfl Try.sizeOf35 rfl rfl rfl rfl (fun a w hf hs => ?_)
      refine R.nil ?_
      refine X.then_ ?_
      refine wp_seq ?_
      refine R.list ?_
      refine S.val hf hs (v := .slice mA m.length mC) rfl rfl rfl (V.pure rfl) (fun a hf => ?_)
      refine S.val hf hs (v := .pointer (some ⟨g1, 1, none⟩)) rfl rfl rfl (V.fieldBox rfl rfl Try.runUnderlying35 rfl Try.sizeOf9 rfl rfl) (fun a hf => ?_)
      refine S.val hf hs (v := .string (ba xk1.Material)) rfl rfl rfl (V.loadBox 0 rfl rfl rfl Try.isAgg9 Try.sizeOf9 rfl rfl) (fun a hf => ?_)
      refine S.call hf rfl rfl rfl (call_fn (vs := [.slice mA m.length mC, .string (ba xk1.Material)]) rfl rfl rfl Try.call70) (R_ref4_materialOf m xk1.Material _ mA mC ((Ag.args _ _ _).view hv_m hs) _ h) (fun v a w' hf hr => ?_)
      obtain ⟨y3, rfl, h2, hs2⟩ := hr
      replace h := h2; replace hs := hs.call hs2; clear h2 hs2
      refine S.alloc hf hs rfl rfl rfl [.string (ba []), .int .i64 0, .int .i64 0, .int .i64 0] rfl Try.zeroValue37 rfl (fun g2 a w hf hs => ?_)
      refine S.storeBox 0 hf hs rfl rfl [.string (ba y3.Name), .int .i64 y3.Kind, .int .i64 y3.Thick, .int .i64 y3.Grow] [.string (ba y3.Name), .int .i64 y3.Kind, .int .i64 y3.Thick, .int .i64 y3.Grow] rfl rfl rfl rfl rfl Try.sizeOf37 rfl rfl rfl rfl (fun a w hf hs => ?_)
      refine R.nil ?_
      refine X.then_ ?_
      refine wp_seq ?_
      refine R.list ?_
      refine S.val hf hs (v := .int .i64 n4) rfl rfl rfl (V.pure rfl) (fun a hf => ?_)
      refine S.val hf hs (v := .pointer (some ⟨g2, 2, none⟩)) rfl rfl rfl (V.fieldBox rfl rfl Try.runUnderlying37 rfl Try.sizeOf3 rfl rfl) (fun a hf => ?_)
      refine S.val hf hs (v := .int .i64 y3.Thick) rfl rfl rfl (V.loadBox 0 rfl rfl rfl Try.isAgg3 Try.sizeOf3 rfl rfl) (fun a hf => ?_)
      refine S.val hf hs (v := .pointer (some ⟨g2, 3, none⟩)) rfl rfl rfl (V.fieldBox rfl rfl Try.runUnderlying37 rfl Try.sizeOf3 rfl rfl) (fun a hf => ?_)
      refine S.val hf hs (v := .int .i64 y3.Grow) rfl rfl rfl (V.loadBox 0 rfl rfl rfl Try.isAgg3 Try.sizeOf3 rfl rfl) (fun a hf => ?_)
      refine S.val hf hs (v := .int .i64 (w64 (y3.Thick * y3.Grow))) rfl rfl rfl (V.pure rfl) (fun a hf => ?_)
      refine S.val hf hs (v := .int .i64 n3) rfl rfl rfl (V.pure rfl) (fun a hf => ?_)
      refine S.val hf hs (v := .int .i64 (w64 (2 * n3))) rfl rfl rfl (V.pure rfl) (fun a hf => ?_)
      refine S.val hf hs (v := .pointer (some ⟨g2, 2, none⟩)) rfl rfl rfl (V.fieldBox rfl rfl Try.runUnderlying37 rfl Try.sizeOf3 rfl rfl) (fun a hf => ?_)
      refine S.val hf hs (v := .int .i64 y3.Thick) rfl rfl rfl (V.loadBox 0 rfl rfl rfl Try.isAgg3 Try.sizeOf3 rfl rfl) (fun a hf => ?_)
      refine S.val hf hs (v := .int .i64 (w64 ((w64 (2 * n3)) + y3.Thick))) rfl rfl rfl (V.pure rfl) (fun a hf => ?_)
      refine S.val hf hs (v := .int .i64 y2) rfl rfl rfl (V.pure rfl) (fun a hf => ?_)
      refine S.val hf hs (v := .int .i64 (w64 ((w64 ((w64 (2 * n3)) + y3.Thick)) - y2))) rfl rfl rfl (V.pure rfl) (fun a hf => ?_)
      refine S.val hf hs (v := .int .i64 (w64 ((w64 (y3.Thick * y3.Grow)) * (w64 ((w64 ((w64 (2 * n3)) + y3.Thick)) - y2))))) rfl rfl rfl (V.pure rfl) (fun a hf => ?_)
      refine S.val hf hs (v := .int .i64 (w64 (n4 + (w64 ((w64 (y3.Thick * y3.Grow)) * (w64 ((w64 ((w64 (2 * n3)) + y3.Thick)) - y2))))))) rfl rfl rfl (V.pure rfl) (fun a hf => ?_)
      refine S.val hf hs (v := .int .i64 (w64 (n4 + (w64 ((w64 (y3.Thick * y3.Grow)) * (w64 ((w64 ((w64 (2 * n3)) + y3.Thick)) - y2))))))) rfl rfl rfl (V.pure rfl) (fun a hf => ?_)
      refine R.nil ?_
      refine X.then_ ?_
      refine R.list ?_
      refine S.val hf hs (v := .int .i64 n3) rfl rfl rfl (V.pure rfl) (fun a hf => ?_)
      refine S.val hf hs (v := .pointer (some ⟨g2, 2, none⟩)) rfl rfl rfl (V.fieldBox rfl rfl Try.runUnderlying37 rfl Try.sizeOf3 rfl rfl) (fun a hf => ?_)
      refine S.val hf hs (v := .int .i64 y3.Thick) rfl rfl rfl (V.loadBox 0 rfl rfl rfl Try.isAgg3 Try.sizeOf3 rfl rfl) (fun a hf => ?_)
      refine S.val hf hs (v := .int .i64 (w64 (n3 + y3.Thick))) rfl rfl rfl (V.pure rfl) (fun a hf => ?_)
      refine S.val hf hs (v := .int .i64 (w64 (n3 + y3.Thick))) rfl rfl rfl (V.pure rfl) (fun a hf => ?_)
      refine R.nil ?_
      refine X.blk ?_
      refine X.then_ ?_
      refine R.list ?_
      refine S.val hf hs (v := .int .i64 ((k1 + 1 : Nat) : Int)) rfl rfl rfl (V.incr rfl rfl rfl hltk1 hlenk1) (fun a hf => ?_)
      refine S.val hf hs (v := .int .i64 ((k1 + 1 : Nat) : Int)) rfl rfl rfl (V.pure rfl) (fun a hf => ?_)
      refine R.nil ?_
      refine X.then_ ?_
      exact ⟨xk1, llk1, rfl, k1 + 1, (w64 (n3 + y3.Thick)), (w64 (n4 + (w64 ((w64 (y3.Thick * y3.Grow)) * (w64 ((w64 ((w64 (2 * n3)) + y3.Thick)) - y2)))))), range_drop hlk1, range_len hkk1, (by rw [hnext1] at h; exact h), (((((((hf.nil.cons (hf.get 23 _ rfl)).cons (hf.get 22 _ rfl)).cons (hf.get 9 _ rfl)).cons (hf.get 8 _ rfl)).cons (hf.get 7 _ rfl)).cons (hf.get 0 _ rfl)).cons (hf.get 24 _ rfl)), hs.drop.drop⟩

set_option linter.unusedVariables false
def M_ref4_OwnMirror_L1 (s_ : (List Layer)) (Q : Bool → Prop) (k1 : Nat) (xk1 : Layer)  (next1 : Prop) : Prop :=
  idx s_ (w64 ((w64 ((s_.length : Int) - 1)) - (k1 : Int))) fun x1 => cnd (!(xk1.Material == x1.Material)) (Q false) (next1)
def M_ref4_OwnMirror (s_ : (List Layer)) (Q : Bool → Prop) : Prop :=
  forIn' (fun k x (s : Unit) next => M_ref4_OwnMirror_L1 s_ Q k x (next ())) (fun (s : Unit) => Q true) s_ 0 ()
set_option maxHeartbeats 1000000 in
theorem R_ref4_OwnMirror (s_ : (List Layer)) (w0 : World) (s_A : Option Addr) (s_C : Nat) (hv_s_ : View w0 (old w0 none_) s_A s_C s_) (Q : Bool → Prop) (h : M_ref4_OwnMirror s_ Q) :
    Ret Try.prog 31 #[.slice s_A s_.length s_C] w0 fun v w' => ∃ (r0 : Bool), v = .bool r0 ∧ Q r0 ∧ Sat w0 none_ [] w' := by
  refine fn_enter Try.func31 rfl Try.ntmps31 rfl (fs := [(0, .slice s_A s_.length s_C)]) rfl (fun a hf => ?_)
  have hs := Sat.start w0 none_
  unfold M_ref4_OwnMirror at h
  refine wp_seq ?_
  refine R.list ?_
  refine S.val hf hs (v := .bool false) rfl rfl rfl (V.pure rfl) (fun a hf => ?_)
  refine R.nil ?_
  refine X.then_ ?_
  refine wp_seq ?_
  refine wp_seq ?_
  refine R.list ?_
  refine S.val hf hs (v := .slice s_A s_.length s_C) rfl rfl rfl (V.pure rfl) (fun a hf => ?_)
  refine S.val hf hs (v := .int .i64 (s_.length : Int)) rfl rfl rfl (V.len rfl rfl Try.runUnderlying23) (fun a hf => ?_)
  refine S.val hf hs (v := .int .i64 0) rfl rfl rfl (V.pure rfl) (fun a hf => ?_)
  refine R.nil ?_
  refine X.then_ ?_
  refine wp_block ?_
  have hlenk1 := hv_s_.len64
  refine C.range (fun (ll : List Layer) a w => ∃ (k1 : Nat) , s_.drop k1 = ll ∧ k1 + ll.length = s_.length ∧ forIn' (fun k x (s : Unit) next => M_ref4_OwnMirror_L1 s_ Q k x (next ())) (fun (s : Unit) => Q true) ll k1 () ∧ FrOk 25 [(6, .int .i64 (k1 : Int)), (0, .slice s_A s_.length s_C), (5, .int .i64 (s_.length : Int))] a ∧ Sat w0 none_ [] w) s_ ⟨0, rfl, Nat.zero_add _, h, (((hf.nil.cons (hf.get 5 _ rfl)).cons (hf.get 0 _ rfl)).cons (hf.get 6 _ rfl)), hs⟩ ?_
  clear h hf hs
  rintro llk1 a w ⟨k1, hlk1, hkk1, h, hf, hs⟩
  cases llk1 with
  | nil =>
    have hc := range_done hkk1
    replace h : Q true := h
    refine wp_seq ?_
    refine R.list ?_
    refine S.val hf hs (v := .bool false) rfl rfl rfl (V.cmp false rfl rfl rfl rfl hc) (fun a hf => ?_)
    refine R.nil ?_
    refine X.then_ ?_
    refine wp_seq ?_
    refine C.no hf rfl ?_
    refine wp_exit ?_
    refine X.then_exit ?_
    refine X.then_exit ?_
    refine X.blk_exit ?_
    refine X.then_ ?_
    refine wp_seq ?_
    refine R.list ?_
    refine S.val hf hs (v := .bool true) rfl rfl rfl (V.pure rfl) (fun a hf => ?_)
    refine R.nil ?_
    refine X.then_ ?_
    refine wp_ret ?_
    exact L.ret hf (run_results1 Try.results31 (ResIs.tmp hf rfl)) ⟨true, rfl, h, hs.nil⟩
  | cons xk1 llk1 =>
    have hltk1 := range_lt hkk1; have hc := range_go hkk1; have hxk1 := range_get hlk1
    obtain ⟨next1, hnext1⟩ : ∃ X : Prop, X = (forIn' (fun k x (s : Unit) next => M_ref4_OwnMirror_L1 s_ Q k x (next ())) (fun (s : Unit) => Q true) llk1 (k1 + 1) ()) := ⟨_, rfl⟩
    replace h : M_ref4_OwnMirror_L1 s_ Q k1 xk1  next1 := by rw [hnext1]; exact h
    unfold M_ref4_OwnMirror_L1 at h
    refine wp_seq ?_
    refine R.list ?_
    refine S.val hf hs (v := .bool true) rfl rfl rfl (V.cmp true rfl rfl rfl rfl hc) (fun a hf => ?_)
    refine R.nil ?_
    refine X.then_ ?_
    refine wp_seq ?_
    refine C.yes hf rfl ?_
    refine wp_skip ?_
    refine X.then_ ?_
    refine wp_seq ?_
    refine wp_block ?_
    refine wp_seq ?_
    refine R.list ?_
    refine S.val hf hs (v := .int .i64 (k1 : Int)) rfl rfl rfl (V.pure rfl) (fun a hf => ?_)
    refine S.val hf hs (v := .int .i64 (k1 : Int)) rfl rfl rfl (V.pure rfl) (fun a hf => ?_)
    refine R.nil ?_
    refine X.then_ ?_
    refine wp_seq ?_
    refine R.draw mo (by kernel_rfl) hs ?_
    refine D.val hf (v := .slice s_A s_.length s_C) rfl rfl rfl (V.pure rfl) (fun a hf => ?_)
    refine D.val hf (v := .int .i64 (k1 : Int)) rfl rfl rfl (V.pure rfl) (fun a hf => ?_)
    refine D.val hf (v := elemPtr s_A (k1 * 2)) rfl rfl rfl (V.index rfl rfl rfl Try.runUnderlying23 Try.sizeOf35 (hv_s_.some_ (lt_of_get hxk1)) (Int.natCast_nonneg _) (lt_of_get hxk1) rfl) (fun a hf => ?_)
    refine D.val hf (v := elemPtr s_A (k1 * 2 + 1)) rfl rfl rfl (V.fieldEl rfl rfl (hv_s_.some_ (lt_of_get hxk1)) Try.runUnderlying35 rfl Try.sizeOf9 rfl rfl) (fun a hf => ?_)
    refine D.val hf (v := .string (ba xk1.Material)) rfl rfl rfl (V.loadEl (off := 1) (Ag.args _ _ _) (hv_s_.flat hxk1) rfl rfl rfl Try.isAgg9 Try.sizeOf9 rfl rfl) (fun a hf => ?_)
    refine D.val hf (v := .slice s_A s_.length s_C) rfl rfl rfl (V.pure rfl) (fun a hf => ?_)
    refine D.val hf (v := .slice s_A s_.length s_C) rfl rfl rfl (V.pure rfl) (fun a hf => ?_)
    refine D.val hf (v := .int .i64 (s_.length : Int)) rfl rfl rfl (V.len rfl rfl Try.runUnderlying23) (fun a hf => ?_)
    refine D.val hf (v := .int .i64 (w64 ((s_.length : Int) - 1))) rfl rfl rfl (V.pure rfl) (fun a hf => ?_)
    refine D.val hf (v := .int .i64 (k1 : Int)) rfl rfl rfl (V.pure rfl) (fun a hf => ?_)
    refine D.val hf (v := .int .i64 (w64 ((w64 ((s_.length : Int) - 1)) - (k1 : Int)))) rfl rfl rfl (V.pure rfl) (fun a hf => ?_)
    obtain ⟨h0x1, x1, hx1, h⟩ := h
    refine D.val hf (v := elemPtr s_A ((w64 ((w64 ((s_.length : Int) - 1)) - (k1 : Int))).toNat * 2)) rfl rfl rfl (V.index rfl rfl rfl Try.runUnderlying23 Try.sizeOf35 (hv_s_.some_ (lt_of_get hx1)) h0x1 (lt_of_get hx1) rfl) (fun a hf => ?_)
    refine D.val hf (v := elemPtr s_A ((w64 ((w64 ((s_.length : Int) - 1)) - (k1 : Int))).toNat * 2 + 1)) rfl rfl rfl (V.fieldEl rfl rfl (hv_s_.some_ (lt_of_get hx1)) Try.runUnderlying35 rfl Try.sizeOf9 rfl rfl) (fun a hf => ?_)
    refine D.val hf (v := .string (ba x1.Material)) rfl rfl rfl (V.loadEl (off := 1) (Ag.args _ _ _) (hv_s_.flat hx1) rfl rfl rfl Try.isAgg9 Try.sizeOf9 rfl rfl) (fun a hf => ?_)
    refine D.val hf (v := .bool (!(xk1.Material == x1.Material))) rfl rfl rfl (V.strCmp (!(xk1.Material == x1.Material)) rfl rfl rfl rfl) (fun a hf => ?_)
    refine D.done (fun w hs => ?_)
    refine X.then_ ?_
    refine C.cond hf (b := !(xk1.Material == x1.Material)) rfl (fun hc => ?_) (fun hc => ?_)
    · replace h := h.1 hc
      refine wp_seq ?_
      refine R.list ?_
      refine S.val hf hs (v := .bool false) rfl rfl rfl (V.pure rfl) (fun a hf => ?_)
      refine R.nil ?_
      refine X.then_ ?_
      refine wp_ret ?_
      refine X.blk_ret ?_
      refine X.then_ret ?_
      refine X.then_ret ?_
      refine X.blk_ret ?_
      refine X.then_ret ?_
      exact L.ret hf (run_results1 Try.results31 (ResIs.tmp hf rfl)) ⟨false, rfl, h, hs.nil⟩
    · replace h := h.2 hc
      refine wp_skip ?_
      refine X.blk ?_
      refine X.then_ ?_
      refine R.list ?_
      refine S.val hf hs (v := .int .i64 ((k1 + 1 : Nat) : Int)) rfl rfl rfl (V.incr rfl rfl rfl hltk1 hlenk1) (fun a hf => ?_)
      refine S.val hf hs (v := .int .i64 ((k1 + 1 : Nat) : Int)) rfl rfl rfl (V.pure rfl) (fun a hf => ?_)
      refine R.nil ?_
      refine X.then_ ?_
      exact ⟨xk1, llk1, rfl, k1 + 1, range_drop hlk1, range_len hkk1, (by rw [hnext1] at h; exact h), (((hf.nil.cons (hf.get 5 _ rfl)).cons (hf.get 0 _ rfl)).cons (hf.get 6 _ rfl)), hs⟩

set_option linter.unusedVariables false
def M_law_StackBow_k2 (m : (List Material)) (s_ : (List Layer)) (Q : Bool → Prop) (y1 : (List Layer)) (y5 : Int) (y6 : Int) (c2 : Bool) : Prop :=
  cnd c2 (Q false) (cnd (y6 != 0) (Q true) (M_stack_Bow m y1 fun y9 y10 => cnd (y10 == 0) (cnd (y9 == (w64 (-y5))) (M_ref4_OwnMirror s_ fun y11 => cnd (!y11) (Q true) (Q (y5 == 0))) (Q false)) (Q false)))
def M_law_StackBow_k1 (m : (List Material)) (s_ : (List Layer)) (Q : Bool → Prop) (y1 : (List Layer)) (c1 : Bool) : Prop :=
  cnd c1 (Q false) (M_stack_Bow m s_ fun y5 y6 => M_ref4_Bow m s_ fun y7 y8 => cnd (y6 != y8) (M_law_StackBow_k2 m s_ Q y1 y5 y6 true) (cnd (y5 != y7) (M_law_StackBow_k2 m s_ Q y1 y5 y6 true) (M_awake  fun y12 => M_law_StackBow_k2 m s_ Q y1 y5 y6 (!y12))))
def M_law_StackBow (m : (List Material)) (s_ : (List Layer)) (Q : Bool → Prop) : Prop :=
  M_stack_Mirrored m s_ fun y1 y2 => M_ref4_Mirrored m s_ fun y3 y4 => cnd (y2 != y4) (M_law_StackBow_k1 m s_ Q y1 true) (M_equal_layer y1 y3 fun y13 => M_law_StackBow_k1 m s_ Q y1 (!y13))
set_option maxHeartbeats 1000000 in
theorem R_law_StackBow (m : (List Material)) (s_ : (List Layer)) (w0 : World) (mA : Option Addr) (mC : Nat) (hv_m : View w0 (old w0 none_) mA mC m) (s_A : Option Addr) (s_C : Nat) (hv_s_ : View w0 (old w0 none_) s_A s_C s_) (Q : Bool → Prop) (h : M_law_StackBow m s_ Q) :
    Ret Try.prog 6 #[.slice mA m.length mC, .slice s_A s_.length s_C] w0 fun v w' => ∃ (r0 : Bool), v = .bool r0 ∧ Q r0 ∧ Sat w0 none_ [] w' := by
  refine fn_enter Try.func6 rfl Try.ntmps6 rfl (fs := [(0, .slice mA m.length mC), (1, .slice s_A s_.length s_C)]) rfl (fun a hf => ?_)
  have hs := Sat.start w0 none_
  unfold M_law_StackBow at h
  refine wp_seq ?_
  refine R.list ?_
  refine S.val hf hs (v := .bool false) rfl rfl rfl (V.pure rfl) (fun a hf => ?_)
  refine R.nil ?_
  refine X.then_ ?_
  refine wp_seq ?_
  refine R.list ?_
  refine S.val hf hs (v := .slice mA m.length mC) rfl rfl rfl (V.pure rfl) (fun a hf => ?_)
  refine S.val hf hs (v := .slice s_A s_.length s_C) rfl rfl rfl (V.pure rfl) (fun a hf => ?_)
  refine S.call hf rfl rfl rfl (call_fn (vs := [.slice mA m.length mC, .slice s_A s_.length s_C]) rfl rfl rfl Try.call26) (R_stack_Mirrored m s_ _ mA mC ((Ag.args _ _ _).view hv_m hs) s_A s_C ((Ag.args _ _ _).view hv_s_ hs) _ h) (fun v a w' hf hr => ?_)
  obtain ⟨y1, y1A, y1C, y2, rfl, h2, hs2⟩ := hr
  replace h := h2; replace hs := hs.call hs2; clear h2 hs2
  refine S.val hf hs (v := .tuple #[.slice y1A y1.length y1C, .int .i64 y2]) rfl rfl rfl (V.pure rfl) (fun a hf => ?_)
  refine S.val hf hs (v := .slice y1A y1.length y1C) rfl rfl rfl (V.pure rfl) (fun a hf => ?_)
  refine S.val hf hs (v := .int .i64 y2) rfl rfl rfl (V.pure rfl) (fun a hf => ?_)
  refine S.val hf hs (v := .slice y1A y1.length y1C) rfl rfl rfl (V.pure rfl) (fun a hf => ?_)
  refine S.val hf hs (v := .int .i64 y2) rfl rfl rfl (V.pure rfl) (fun a hf => ?_)
  refine R.nil ?_
  refine X.then_ ?_
  refine wp_seq ?_
  refine R.list ?_
  refine S.val hf hs (v := .slice mA m.length mC) rfl rfl rfl (V.pure rfl) (fun a hf => ?_)
  refine S.val hf hs (v := .slice s_A s_.length s_C) rfl rfl rfl (V.pure rfl) (fun a hf => ?_)
  refine S.call hf rfl rfl rfl (call_fn (vs := [.slice mA m.length mC, .slice s_A s_.length s_C]) rfl rfl rfl Try.call27) (R_ref4_Mirrored m s_ _ mA mC ((Ag.args _ _ _).view hv_m hs) s_A s_C ((Ag.args _ _ _).view hv_s_ hs) _ h) (fun v a w' hf hr => ?_)
  obtain ⟨y3, y3A, y3C, y4, rfl, h2, hs2⟩ := hr
  replace h := h2; replace hs := hs.call hs2; clear h2 hs2
  refine S.val hf hs (v := .tuple #[.slice y3A y3.length y3C, .int .i64 y4]) rfl rfl rfl (V.pure rfl) (fun a hf => ?_)
  refine S.val hf hs (v := .slice y3A y3.length y3C) rfl rfl rfl (V.pure rfl) (fun a hf => ?_)
  refine S.val hf hs (v := .int .i64 y4) rfl rfl rfl (V.pure rfl) (fun a hf => ?_)
  refine S.val hf hs (v := .slice y3A y3.length y3C) rfl rfl rfl (V.pure rfl) (fun a hf => ?_)
  refine S.val hf hs (v := .int .i64 y4) rfl rfl rfl (V.pure rfl) (fun a hf => ?_)
  refine R.nil ?_
  refine X.then_ ?_
  refine wp_seq ?_
  refine wp_seq ?_
  refine C.cut (J := fun a w => ∃ (c1 : Bool), M_law_StackBow_k1 m s_ Q y1 c1 ∧ FrOk 81 [(0, .slice mA m.length mC), (1, .slice s_A s_.length s_C), (5, .slice y1A y1.length y1C), (31, .bool c1)] a ∧ Sat w0 none_ [hown 35 y3A y3C y3, hown 35 y1A y1C y1] w) ?_ ?_
  · rintro a w ⟨c1, h, hf, hs⟩
    unfold M_law_StackBow_k1 at h
    refine C.cond hf (b := c1) rfl (fun hc => ?_) (fun hc => ?_)
    · replace h := h.1 hc
      refine wp_seq ?_
      refine R.list ?_
      refine S.val hf hs (v := .bool false) rfl rfl rfl (V.pure rfl) (fun a hf => ?_)
      refine R.nil ?_
      refine X.then_ ?_
      refine wp_ret ?_
      refine X.then_ret ?_
      exact L.ret hf (run_results1 Try.results6 (ResIs.tmp hf rfl)) ⟨false, rfl, h, hs.nil⟩
    · replace h := h.2 hc
      refine wp_skip ?_
      refine X.then_ ?_
      refine wp_seq ?_
      refine R.list ?_
      refine S.val hf hs (v := .slice mA m.length mC) rfl rfl rfl (V.pure rfl) (fun a hf => ?_)
      refine S.val hf hs (v := .slice s_A s_.length s_C) rfl rfl rfl (V.pure rfl) (fun a hf => ?_)
      refine S.call hf rfl rfl rfl (call_fn (vs := [.slice mA m.length mC, .slice s_A s_.length s_C]) rfl rfl rfl Try.call29) (R_stack_Bow m s_ _ mA mC ((Ag.args _ _ _).view hv_m hs) s_A s_C ((Ag.args _ _ _).view hv_s_ hs) _ h) (fun v a w' hf hr => ?_)
      obtain ⟨y5, y6, rfl, h2, hs2⟩ := hr
      replace h := h2; replace hs := hs.call hs2; clear h2 hs2
      refine S.val hf hs (v := .tuple #[.int .i64 y5, .int .i64 y6]) rfl rfl rfl (V.pure rfl) (fun a hf => ?_)
      refine S.val hf hs (v := .int .i64 y5) rfl rfl rfl (V.pure rfl) (fun a hf => ?_)
      refine S.val hf hs (v := .int .i64 y6) rfl rfl rfl (V.pure rfl) (fun a hf => ?_)
      refine S.val hf hs (v := .int .i64 y5) rfl rfl rfl (V.pure rfl) (fun a hf => ?_)
      refine S.val hf hs (v := .int .i64 y6) rfl rfl rfl (V.pure rfl) (fun a hf => ?_)
      refine R.nil ?_
      refine X.then_ ?_
      refine wp_seq ?_
      refine R.list ?_
      refine S.val hf hs (v := .slice mA m.length mC) rfl rfl rfl (V.pure rfl) (fun a hf => ?_)
      refine S.val hf hs (v := .slice s_A s_.length s_C) rfl rfl rfl (V.pure rfl) (fun a hf => ?_)
      refine S.call hf rfl rfl rfl (call_fn (vs := [.slice mA m.length mC, .slice s_A s_.length s_C]) rfl rfl rfl Try.call30) (R_ref4_Bow m s_ _ mA mC ((Ag.args _ _ _).view hv_m hs) s_A s_C ((Ag.args _ _ _).view hv_s_ hs) _ h) (fun v a w' hf hr => ?_)
      obtain ⟨y7, y8, rfl, h2, hs2⟩ := hr
      replace h := h2; replace hs := hs.call hs2; clear h2 hs2
      refine S.val hf hs (v := .tuple #[.int .i64 y7, .int .i64 y8]) rfl rfl rfl (V.pure rfl) (fun a hf => ?_)
      refine S.val hf hs (v := .int .i64 y7) rfl rfl rfl (V.pure rfl) (fun a hf => ?_)
      refine S.val hf hs (v := .int .i64 y8) rfl rfl rfl (V.pure rfl) (fun a hf => ?_)
      refine S.val hf hs (v := .int .i64 y7) rfl rfl rfl (V.pure rfl) (fun a hf => ?_)
      refine S.val hf hs (v := .int .i64 y8) rfl rfl rfl (V.pure rfl) (fun a hf => ?_)
      refine R.nil ?_
      refine X.then_ ?_
      refine wp_seq ?_
      refine wp_seq ?_
      refine C.cut (J := fun a w => ∃ (c2 : Bool), M_law_StackBow_k2 m s_ Q y1 y5 y6 c2 ∧ FrOk 81 [(0, .slice mA m.length mC), (1, .slice s_A s_.length s_C), (5, .slice y1A y1.length y1C), (6, .int .i64 y6), (9, .int .i64 y5), (55, .bool c2)] a ∧ Sat w0 none_ [hown 35 y3A y3C y3, hown 35 y1A y1C y1] w) ?_ ?_
      · rintro a w ⟨c2, h, hf, hs⟩
        unfold M_law_StackBow_k2 at h
        refine C.cond hf (b := c2) rfl (fun hc => ?_) (fun hc => ?_)
        · replace h := h.1 hc
          refine wp_seq ?_
          refine R.list ?_
          refine S.val hf hs (v := .bool false) rfl rfl rfl (V.pure rfl) (fun a hf => ?_)
          refine R.nil ?_
          refine X.then_ ?_
          refine wp_ret ?_
          refine X.then_ret ?_
          exact L.ret hf (run_results1 Try.results6 (ResIs.tmp hf rfl)) ⟨false, rfl, h, hs.nil⟩
        · replace h := h.2 hc
          refine wp_skip ?_
          refine X.then_ ?_
          refine wp_seq ?_
          refine wp_seq ?_
          refine R.list ?_
          refine S.val hf hs (v := .int .i64 y6) rfl rfl rfl (V.pure rfl) (fun a hf => ?_)
          refine S.val hf hs (v := .bool (y6 != 0)) rfl rfl rfl (V.pure rfl) (fun a hf => ?_)
          refine R.nil ?_
          refine X.then_ ?_
          refine C.cond hf (b := y6 != 0) rfl (fun hc => ?_) (fun hc => ?_)
          · replace h := h.1 hc
            refine wp_seq ?_
            refine R.list ?_
            refine S.val hf hs (v := .bool true) rfl rfl rfl (V.pure rfl) (fun a hf => ?_)
            refine R.nil ?_
            refine X.then_ ?_
            refine wp_ret ?_
            refine X.then_ret ?_
            exact L.ret hf (run_results1 Try.results6 (ResIs.tmp hf rfl)) ⟨true, rfl, h, hs.nil⟩
          · replace h := h.2 hc
            refine wp_skip ?_
            refine X.then_ ?_
            refine wp_seq ?_
            refine R.list ?_
            refine S.val hf hs (v := .slice mA m.length mC) rfl rfl rfl (V.pure rfl) (fun a hf => ?_)
            refine S.val hf hs (v := .slice y1A y1.length y1C) rfl rfl rfl (V.pure rfl) (fun a hf => ?_)
            refine S.call hf rfl rfl rfl (call_fn (vs := [.slice mA m.length mC, .slice y1A y1.length y1C]) rfl rfl rfl Try.call29) (R_stack_Bow m y1 _ mA mC ((Ag.args _ _ _).view hv_m hs) y1A y1C (hs.ownView 1 rfl) _ h) (fun v a w' hf hr => ?_)
            obtain ⟨y9, y10, rfl, h2, hs2⟩ := hr
            replace h := h2; replace hs := hs.call hs2; clear h2 hs2
            refine S.val hf hs (v := .tuple #[.int .i64 y9, .int .i64 y10]) rfl rfl rfl (V.pure rfl) (fun a hf => ?_)
            refine S.val hf hs (v := .int .i64 y9) rfl rfl rfl (V.pure rfl) (fun a hf => ?_)
            refine S.val hf hs (v := .int .i64 y10) rfl rfl rfl (V.pure rfl) (fun a hf => ?_)
            refine S.val hf hs (v := .int .i64 y9) rfl rfl rfl (V.pure rfl) (fun a hf => ?_)
            refine S.val hf hs (v := .int .i64 y10) rfl rfl rfl (V.pure rfl) (fun a hf => ?_)
            refine R.nil ?_
            refine X.then_ ?_
            refine wp_seq ?_
            refine R.list ?_
            refine S.val hf hs (v := .int .i64 y10) rfl rfl rfl (V.pure rfl) (fun a hf => ?_)
            refine S.val hf hs (v := .bool (y10 == 0)) rfl rfl rfl (V.pure rfl) (fun a hf => ?_)
            refine S.split hf hs (b := y10 == 0) rfl rfl rfl (V.pure rfl) (fun hc a hf => ?_) (fun hc a hf => ?_)
            · replace h := h.1 hc
              refine S.val hf hs (v := .int .i64 y9) rfl rfl rfl (V.pure rfl) (fun a hf => ?_)
              refine S.val hf hs (v := .int .i64 y5) rfl rfl rfl (V.pure rfl) (fun a hf => ?_)
              refine S.val hf hs (v := .int .i64 (w64 (-y5))) rfl rfl rfl (V.pure rfl) (fun a hf => ?_)
              refine S.val hf hs (v := .bool (y9 == (w64 (-y5)))) rfl rfl rfl (V.pure rfl) (fun a hf => ?_)
              refine S.val hf hs (v := .bool (y9 == (w64 (-y5)))) rfl rfl rfl (V.pure rfl) (fun a hf => ?_)
              refine S.split hf hs (b := y9 == (w64 (-y5))) rfl rfl rfl (V.pure rfl) (fun hc a hf => ?_) (fun hc a hf => ?_)
              · replace h := h.1 hc
                refine S.val hf hs (v := .slice s_A s_.length s_C) rfl rfl rfl (V.pure rfl) (fun a hf => ?_)
                refine S.call hf rfl rfl rfl (call_fn (vs := [.slice s_A s_.length s_C]) rfl rfl rfl Try.call31) (R_ref4_OwnMirror s_ _ s_A s_C ((Ag.args _ _ _).view hv_s_ hs) _ h) (fun v a w' hf hr => ?_)
                obtain ⟨y11, rfl, h2, hs2⟩ := hr
                replace h := h2; replace hs := hs.call hs2; clear h2 hs2
                refine S.val hf hs (v := .bool (!y11)) rfl rfl rfl (V.pure rfl) (fun a hf => ?_)
                refine S.split hf hs (b := !y11) rfl rfl rfl (V.pure rfl) (fun hc a hf => ?_) (fun hc a hf => ?_)
                · replace h := h.1 hc
                  refine S.skip hf rfl rfl rfl (fun a hf => ?_)
                  refine S.skip hf rfl rfl rfl (fun a hf => ?_)
                  refine S.val hf hs (v := .bool true) rfl rfl rfl (V.pure rfl) (fun a hf => ?_)
                  refine S.val hf hs (v := .bool true) rfl rfl rfl (V.pure rfl) (fun a hf => ?_)
                  refine S.val hf hs (v := .bool true) rfl rfl rfl (V.pure rfl) (fun a hf => ?_)
                  refine R.nil ?_
                  refine X.then_ ?_
                  refine wp_ret ?_
                  exact L.ret hf (run_results1 Try.results6 (ResIs.tmp hf rfl)) ⟨true, rfl, h, hs.nil⟩
                · replace h := h.2 hc
                  refine S.val hf hs (v := .int .i64 y5) rfl rfl rfl (V.pure rfl) (fun a hf => ?_)
                  refine S.val hf hs (v := .bool (y5 == 0)) rfl rfl rfl (V.pure rfl) (fun a hf => ?_)
                  refine S.val hf hs (v := .bool (y5 == 0)) rfl rfl rfl (V.pure rfl) (fun a hf => ?_)
                  refine S.val hf hs (v := .bool (y5 == 0)) rfl rfl rfl (V.pure rfl) (fun a hf => ?_)
                  refine S.val hf hs (v := .bool (y5 == 0)) rfl rfl rfl (V.pure rfl) (fun a hf => ?_)
                  refine R.nil ?_
                  refine X.then_ ?_
                  refine wp_ret ?_
                  exact L.ret hf (run_results1 Try.results6 (ResIs.tmp hf rfl)) ⟨(y5 == 0), rfl, h, hs.nil⟩
              · replace h := h.2 hc
                refine S.skip hf rfl rfl rfl (fun a hf => ?_)
                refine S.skip hf rfl rfl rfl (fun a hf => ?_)
                refine S.skip hf rfl rfl rfl (fun a hf => ?_)
                refine S.skip hf rfl rfl rfl (fun a hf => ?_)
                refine S.skip hf rfl rfl rfl (fun a hf => ?_)
                refine S.skip hf rfl rfl rfl (fun a hf => ?_)
                refine S.skip hf rfl rfl rfl (fun a hf => ?_)
                refine S.val hf hs (v := .bool false) rfl rfl rfl (V.pure rfl) (fun a hf => ?_)
                refine S.val hf hs (v := .bool false) rfl rfl rfl (V.pure rfl) (fun a hf => ?_)
                refine R.nil ?_
                refine X.then_ ?_
                refine wp_ret ?_
                exact L.ret hf (run_results1 Try.results6 (ResIs.tmp hf rfl)) ⟨false, rfl, h, hs.nil⟩
            · replace h := h.2 hc
              refine S.skip hf rfl rfl rfl (fun a hf => ?_)
              refine S.skip hf rfl rfl rfl (fun a hf => ?_)
              refine S.skip hf rfl rfl rfl (fun a hf => ?_)
              refine S.skip hf rfl rfl rfl (fun a hf => ?_)
              refine S.val hf hs (v := .bool false) rfl rfl rfl (V.pure rfl) (fun a hf => ?_)
              refine S.val hf hs (v := .bool false) rfl rfl rfl (V.pure rfl) (fun a hf => ?_)
              refine S.skip hf rfl rfl rfl (fun a hf => ?_)
              refine S.skip hf rfl rfl rfl (fun a hf => ?_)
              refine S.skip hf rfl rfl rfl (fun a hf => ?_)
              refine S.skip hf rfl rfl rfl (fun a hf => ?_)
              refine S.skip hf rfl rfl rfl (fun a hf => ?_)
              refine S.skip hf rfl rfl rfl (fun a hf => ?_)
              refine S.skip hf rfl rfl rfl (fun a hf => ?_)
              refine S.val hf hs (v := .bool false) rfl rfl rfl (V.pure rfl) (fun a hf => ?_)
              refine S.val hf hs (v := .bool false) rfl rfl rfl (V.pure rfl) (fun a hf => ?_)
              refine R.nil ?_
              refine X.then_ ?_
              refine wp_ret ?_
              exact L.ret hf (run_results1 Try.results6 (ResIs.tmp hf rfl)) ⟨false, rfl, h, hs.nil⟩
      · skip
        refine R.list ?_
        refine S.val hf hs (v := .int .i64 y6) rfl rfl rfl (V.pure rfl) (fun a hf => ?_)
        refine S.val hf hs (v := .int .i64 y8) rfl rfl rfl (V.pure rfl) (fun a hf => ?_)
        refine S.val hf hs (v := .bool (y6 != y8)) rfl rfl rfl (V.pure rfl) (fun a hf => ?_)
        refine S.split hf hs (b := y6 != y8) rfl rfl rfl (V.pure rfl) (fun hc a hf => ?_) (fun hc a hf => ?_)
        · replace h := h.1 hc
          refine S.skip hf rfl rfl rfl (fun a hf => ?_)
          refine S.skip hf rfl rfl rfl (fun a hf => ?_)
          refine S.skip hf rfl rfl rfl (fun a hf => ?_)
          refine S.val hf hs (v := .bool true) rfl rfl rfl (V.pure rfl) (fun a hf => ?_)
          refine S.val hf hs (v := .bool true) rfl rfl rfl (V.pure rfl) (fun a hf => ?_)
          refine S.skip hf rfl rfl rfl (fun a hf => ?_)
          refine S.skip hf rfl rfl rfl (fun a hf => ?_)
          refine S.val hf hs (v := .bool true) rfl rfl rfl (V.pure rfl) (fun a hf => ?_)
          refine R.nil ?_
          refine X.then_ ?_
          exact ⟨true, h, ((((((hf.nil.cons (hf.get 55 _ rfl)).cons (hf.get 9 _ rfl)).cons (hf.get 6 _ rfl)).cons (hf.get 5 _ rfl)).cons (hf.get 1 _ rfl)).cons (hf.get 0 _ rfl)), hs⟩
        · replace h := h.2 hc
          refine S.val hf hs (v := .int .i64 y5) rfl rfl rfl (V.pure rfl) (fun a hf => ?_)
          refine S.val hf hs (v := .int .i64 y7) rfl rfl rfl (V.pure rfl) (fun a hf => ?_)
          refine S.val hf hs (v := .bool (y5 != y7)) rfl rfl rfl (V.pure rfl) (fun a hf => ?_)
          refine S.val hf hs (v := .bool (y5 != y7)) rfl rfl rfl (V.pure rfl) (fun a hf => ?_)
          refine S.split hf hs (b := y5 != y7) rfl rfl rfl (V.pure rfl) (fun hc a hf => ?_) (fun hc a hf => ?_)
          · replace h := h.1 hc
            refine S.skip hf rfl rfl rfl (fun a hf => ?_)
            refine S.skip hf rfl rfl rfl (fun a hf => ?_)
            refine S.val hf hs (v := .bool true) rfl rfl rfl (V.pure rfl) (fun a hf => ?_)
            refine R.nil ?_
            refine X.then_ ?_
            exact ⟨true, h, ((((((hf.nil.cons (hf.get 55 _ rfl)).cons (hf.get 9 _ rfl)).cons (hf.get 6 _ rfl)).cons (hf.get 5 _ rfl)).cons (hf.get 1 _ rfl)).cons (hf.get 0 _ rfl)), hs⟩
          · replace h := h.2 hc
            refine S.call hf rfl rfl rfl (call_fn (vs := []) rfl rfl rfl Try.call20) (R_awake  _  _ h) (fun v a w' hf hr => ?_)
            obtain ⟨y12, rfl, h2, hs2⟩ := hr
            replace h := h2; replace hs := hs.call hs2; clear h2 hs2
            refine S.val hf hs (v := .bool (!y12)) rfl rfl rfl (V.pure rfl) (fun a hf => ?_)
            refine S.val hf hs (v := .bool (!y12)) rfl rfl rfl (V.pure rfl) (fun a hf => ?_)
            refine R.nil ?_
            refine X.then_ ?_
            exact ⟨(!y12), h, ((((((hf.nil.cons (hf.get 55 _ rfl)).cons (hf.get 9 _ rfl)).cons (hf.get 6 _ rfl)).cons (hf.get 5 _ rfl)).cons (hf.get 1 _ rfl)).cons (hf.get 0 _ rfl)), hs⟩
  · skip
    refine R.list ?_
    refine S.val hf hs (v := .int .i64 y2) rfl rfl rfl (V.pure rfl) (fun a hf => ?_)
    refine S.val hf hs (v := .int .i64 y4) rfl rfl rfl (V.pure rfl) (fun a hf => ?_)
    refine S.val hf hs (v := .bool (y2 != y4)) rfl rfl rfl (V.pure rfl) (fun a hf => ?_)
    refine S.split hf hs (b := y2 != y4) rfl rfl rfl (V.pure rfl) (fun hc a hf => ?_) (fun hc a hf => ?_)
    · replace h := h.1 hc
      refine S.skip hf rfl rfl rfl (fun a hf => ?_)
      refine S.skip hf rfl rfl rfl (fun a hf => ?_)
      refine S.skip hf rfl rfl rfl (fun a hf => ?_)
      refine S.skip hf rfl rfl rfl (fun a hf => ?_)
      refine S.val hf hs (v := .bool true) rfl rfl rfl (V.pure rfl) (fun a hf => ?_)
      refine R.nil ?_
      refine X.then_ ?_
      exact ⟨true, h, ((((hf.nil.cons (hf.get 31 _ rfl)).cons (hf.get 5 _ rfl)).cons (hf.get 1 _ rfl)).cons (hf.get 0 _ rfl)), hs⟩
    · replace h := h.2 hc
      refine S.val hf hs (v := .slice y1A y1.length y1C) rfl rfl rfl (V.pure rfl) (fun a hf => ?_)
      refine S.val hf hs (v := .slice y3A y3.length y3C) rfl rfl rfl (V.pure rfl) (fun a hf => ?_)
      refine S.call hf rfl rfl rfl (call_fn (vs := [.slice y1A y1.length y1C, .slice y3A y3.length y3C]) rfl rfl rfl Try.call28) (R_equal_layer y1 y3 _ y1A y1C (hs.ownView 1 rfl) y3A y3C (hs.ownView 0 rfl) _ h) (fun v a w' hf hr => ?_)
      obtain ⟨y13, rfl, h2, hs2⟩ := hr
      replace h := h2; replace hs := hs.call hs2; clear h2 hs2
      refine S.val hf hs (v := .bool (!y13)) rfl rfl rfl (V.pure rfl) (fun a hf => ?_)
      refine S.val hf hs (v := .bool (!y13)) rfl rfl rfl (V.pure rfl) (fun a hf => ?_)
      refine R.nil ?_
      refine X.then_ ?_
      exact ⟨(!y13), h, ((((hf.nil.cons (hf.get 31 _ rfl)).cons (hf.get 5 _ rfl)).cons (hf.get 1 _ rfl)).cons (hf.get 0 _ rfl)), hs⟩

end Go.Proofs.Ytjkkefhfbcgahaa
