/- Chapter texts of ours, as far as the claim needs them. -/
import Derived.Shelf.Strings.Split
import Derived.Test.YtcmlcgjjkccaeaaDoorShelf
import Derived.Test.YtcmlcgjjkccaeaaDoorTypes
import Derived.Test.YtcmlcgjjkccaeaaDoorShort
namespace Go.Proofs.YtcmlcgjjkccaeaaDoor
open Go Go.RowKit
set_option linter.unusedVariables false
set_option linter.unusedSimpArgs false
def within (n lo hi : Int) : Bool := decide (lo ≤ n) && decide (n ≤ hi)
set_option linter.unusedVariables false
def M_mount_within (n : Int) (lo : Int) (hi : Int) (Q : Bool → Prop) : Prop :=
  cnd (decide (n ≥ lo)) (Q (decide (n ≤ hi))) (Q false)
set_option maxHeartbeats 1000000 in
theorem R_mount_within (n : Int) (lo : Int) (hi : Int) (w0 : World)  (Q : Bool → Prop) (h : M_mount_within n lo hi Q) :
  Ret Tryd.prog 47 #[iv n, iv lo, iv hi] w0 fun v w' => ∃ (r0 : Bool), v = .bool r0 ∧ Q r0 ∧ Sat w0 none_ [] w' := by
 refine fn_enter Tryd.func47 rfl Tryd.ntmps47 rfl (fs := [(0, iv n), (1, iv lo), (2, iv hi)]) rfl (fun a hf => ?_)
 have hs := Sat.start w0 none_
 unfold M_mount_within at h
 refine wp_seq (R.list ?_)
 refine S.p hf hs (.bool false) rfl rfl fun a hf => ?_
 refine R.nil (X.then_ (wp_seq (R.list ?_)))
 refine S.p hf hs (iv n) rfl rfl fun a hf => ?_
 refine S.p hf hs (iv lo) rfl rfl fun a hf => ?_
 refine S.p hf hs (.bool (decide (n ≥ lo))) rfl rfl fun a hf => ?_
 refine S.split hf hs (b := decide (n ≥ lo)) rfl rfl rfl (V.pure rfl) (fun hc a hf => ?_) (fun hc a hf => ?_)
 ·replace h := h.1 hc
  refine S.p hf hs (iv n) rfl rfl fun a hf => ?_
  refine S.p hf hs (iv hi) rfl rfl fun a hf => ?_
  refine S.p hf hs (.bool (decide (n ≤ hi))) rfl rfl fun a hf => ?_
  refine S.p hf hs (.bool (decide (n ≤ hi))) rfl rfl fun a hf => ?_
  refine S.p hf hs (.bool (decide (n ≤ hi))) rfl rfl fun a hf => ?_
  refine R.nil (X.then_ (wp_ret ?_))
  exact L.ret hf (run_results1 Tryd.results47 (ResIs.tmp hf rfl)) ⟨(decide (n ≤ hi)), rfl, h, hs.nil⟩
 ·replace h := h.2 hc
  refine S.k hf rfl fun a hf => ?_
  refine S.k hf rfl fun a hf => ?_
  refine S.k hf rfl fun a hf => ?_
  refine S.p hf hs (.bool false) rfl rfl fun a hf => ?_
  refine S.p hf hs (.bool false) rfl rfl fun a hf => ?_
  refine R.nil (X.then_ (wp_ret ?_))
  exact L.ret hf (run_results1 Tryd.results47 (ResIs.tmp hf rfl)) ⟨false, rfl, h, hs.nil⟩
theorem E_mount_within (n lo hi : Int) : M_mount_within n lo hi (· = within n lo hi) := by
  unfold M_mount_within within; constructor <;> intro h <;> simp_all <;> omega
theorem C_mount_within (n : Int) (lo : Int) (hi : Int) (w0 : World)  : Ret Tryd.prog 47 #[.int .i64 n, .int .i64 lo, .int .i64 hi] w0 fun v w' => v = .bool (within n lo hi) ∧ Sat w0 none_ [] w' :=
  (R_mount_within n lo hi w0  (· = (within n lo hi)) (E_mount_within n lo hi)).mono fun v w' ⟨r0, hv, hr, hs⟩ => ⟨by subst hr; exact hv, hs⟩
set_option linter.unusedVariables false
def M_shape_within (n : Int) (lo : Int) (hi : Int) (Q : Bool → Prop) : Prop :=
  cnd (decide (n ≥ lo)) (Q (decide (n ≤ hi))) (Q false)
set_option maxHeartbeats 1000000 in
theorem R_shape_within (n : Int) (lo : Int) (hi : Int) (w0 : World)  (Q : Bool → Prop) (h : M_shape_within n lo hi Q) :
  Ret Tryd.prog 114 #[iv n, iv lo, iv hi] w0 fun v w' => ∃ (r0 : Bool), v = .bool r0 ∧ Q r0 ∧ Sat w0 none_ [] w' := by
 refine fn_enter Tryd.func114 rfl Tryd.ntmps114 rfl (fs := [(0, iv n), (1, iv lo), (2, iv hi)]) rfl (fun a hf => ?_)
 have hs := Sat.start w0 none_
 unfold M_shape_within at h
 refine wp_seq (R.list ?_)
 refine S.p hf hs (.bool false) rfl rfl fun a hf => ?_
 refine R.nil (X.then_ (wp_seq (R.list ?_)))
 refine S.p hf hs (iv n) rfl rfl fun a hf => ?_
 refine S.p hf hs (iv lo) rfl rfl fun a hf => ?_
 refine S.p hf hs (.bool (decide (n ≥ lo))) rfl rfl fun a hf => ?_
 refine S.split hf hs (b := decide (n ≥ lo)) rfl rfl rfl (V.pure rfl) (fun hc a hf => ?_) (fun hc a hf => ?_)
 ·replace h := h.1 hc
  refine S.p hf hs (iv n) rfl rfl fun a hf => ?_
  refine S.p hf hs (iv hi) rfl rfl fun a hf => ?_
  refine S.p hf hs (.bool (decide (n ≤ hi))) rfl rfl fun a hf => ?_
  refine S.p hf hs (.bool (decide (n ≤ hi))) rfl rfl fun a hf => ?_
  refine S.p hf hs (.bool (decide (n ≤ hi))) rfl rfl fun a hf => ?_
  refine R.nil (X.then_ (wp_ret ?_))
  exact L.ret hf (run_results1 Tryd.results114 (ResIs.tmp hf rfl)) ⟨(decide (n ≤ hi)), rfl, h, hs.nil⟩
 ·replace h := h.2 hc
  refine S.k hf rfl fun a hf => ?_
  refine S.k hf rfl fun a hf => ?_
  refine S.k hf rfl fun a hf => ?_
  refine S.p hf hs (.bool false) rfl rfl fun a hf => ?_
  refine S.p hf hs (.bool false) rfl rfl fun a hf => ?_
  refine R.nil (X.then_ (wp_ret ?_))
  exact L.ret hf (run_results1 Tryd.results114 (ResIs.tmp hf rfl)) ⟨false, rfl, h, hs.nil⟩
theorem E_shape_within (n lo hi : Int) : M_shape_within n lo hi (· = within n lo hi) := by
  unfold M_shape_within within; constructor <;> intro h <;> simp_all <;> omega
theorem C_shape_within (n : Int) (lo : Int) (hi : Int) (w0 : World)  : Ret Tryd.prog 114 #[.int .i64 n, .int .i64 lo, .int .i64 hi] w0 fun v w' => v = .bool (within n lo hi) ∧ Sat w0 none_ [] w' :=
  (R_shape_within n lo hi w0  (· = (within n lo hi)) (E_shape_within n lo hi)).mono fun v w' ⟨r0, hv, hr, hs⟩ => ⟨by subst hr; exact hv, hs⟩
set_option linter.unusedVariables false
def M_ref10_within (n : Int) (lo : Int) (hi : Int) (Q : Bool → Prop) : Prop :=
  cnd (decide (lo ≤ n)) (Q (decide (n ≤ hi))) (Q false)
set_option maxHeartbeats 1000000 in
theorem R_ref10_within (n : Int) (lo : Int) (hi : Int) (w0 : World)  (Q : Bool → Prop) (h : M_ref10_within n lo hi Q) :
  Ret Tryd.prog 51 #[iv n, iv lo, iv hi] w0 fun v w' => ∃ (r0 : Bool), v = .bool r0 ∧ Q r0 ∧ Sat w0 none_ [] w' := by
 refine fn_enter Tryd.func51 rfl Tryd.ntmps51 rfl (fs := [(0, iv n), (1, iv lo), (2, iv hi)]) rfl (fun a hf => ?_)
 have hs := Sat.start w0 none_
 unfold M_ref10_within at h
 refine wp_seq (R.list ?_)
 refine S.p hf hs (.bool false) rfl rfl fun a hf => ?_
 refine R.nil (X.then_ (wp_seq (R.list ?_)))
 refine S.p hf hs (iv lo) rfl rfl fun a hf => ?_
 refine S.p hf hs (iv n) rfl rfl fun a hf => ?_
 refine S.p hf hs (.bool (decide (lo ≤ n))) rfl rfl fun a hf => ?_
 refine S.split hf hs (b := decide (lo ≤ n)) rfl rfl rfl (V.pure rfl) (fun hc a hf => ?_) (fun hc a hf => ?_)
 ·replace h := h.1 hc
  refine S.p hf hs (iv n) rfl rfl fun a hf => ?_
  refine S.p hf hs (iv hi) rfl rfl fun a hf => ?_
  refine S.p hf hs (.bool (decide (n ≤ hi))) rfl rfl fun a hf => ?_
  refine S.p hf hs (.bool (decide (n ≤ hi))) rfl rfl fun a hf => ?_
  refine S.p hf hs (.bool (decide (n ≤ hi))) rfl rfl fun a hf => ?_
  refine R.nil (X.then_ (wp_ret ?_))
  exact L.ret hf (run_results1 Tryd.results51 (ResIs.tmp hf rfl)) ⟨(decide (n ≤ hi)), rfl, h, hs.nil⟩
 ·replace h := h.2 hc
  refine S.k hf rfl fun a hf => ?_
  refine S.k hf rfl fun a hf => ?_
  refine S.k hf rfl fun a hf => ?_
  refine S.p hf hs (.bool false) rfl rfl fun a hf => ?_
  refine S.p hf hs (.bool false) rfl rfl fun a hf => ?_
  refine R.nil (X.then_ (wp_ret ?_))
  exact L.ret hf (run_results1 Tryd.results51 (ResIs.tmp hf rfl)) ⟨false, rfl, h, hs.nil⟩
theorem E_ref10_within (n lo hi : Int) : M_ref10_within n lo hi (· = within n lo hi) := by
  unfold M_ref10_within within; constructor <;> intro h <;> simp_all <;> omega
theorem C_ref10_within (n : Int) (lo : Int) (hi : Int) (w0 : World)  : Ret Tryd.prog 51 #[.int .i64 n, .int .i64 lo, .int .i64 hi] w0 fun v w' => v = .bool (within n lo hi) ∧ Sat w0 none_ [] w' :=
  (R_ref10_within n lo hi w0  (· = (within n lo hi)) (E_ref10_within n lo hi)).mono fun v w' ⟨r0, hv, hr, hs⟩ => ⟨by subst hr; exact hv, hs⟩
set_option linter.unusedVariables false
def M_lite_IndexByte (s_ : Str) (c : Int) (Q : Int → Prop) : Prop :=
  Q (byteAt s_ c)
set_option maxHeartbeats 1000000 in
theorem R_lite_IndexByte (s_ : Str) (c : Int) (w0 : World)  (Q : Int → Prop) (h : M_lite_IndexByte s_ c Q) :
  Ret Tryd.prog 111 #[.string (ba s_), .int .u8 c] w0 fun v w' => ∃ (r0 : Int), v = iv r0 ∧ Q r0 ∧ Sat w0 none_ [] w' := by
 refine fn_enter Tryd.func111 rfl Tryd.ntmps111 rfl (fs := [(0, .string (ba s_)), (1, .int .u8 c)]) rfl (fun a hf => ?_)
 have hs := Sat.start w0 none_
 unfold M_lite_IndexByte at h
 refine wp_seq (R.list ?_)
 refine S.p hf hs (iv 0) rfl rfl fun a hf => ?_
 refine R.nil (X.then_ (wp_seq (R.list ?_)))
 refine S.p hf hs (.string (ba s_)) rfl rfl fun a hf => ?_
 refine S.p hf hs (.int .u8 c) rfl rfl fun a hf => ?_
 refine S.v hf hs (iv (byteAt s_ c)) rfl (V.extern Tryd.func127 (by kernel_rfl) (by kernel_rfl) (by kernel_rfl) (by kernel_rfl) rfl rfl rfl (run_byteAt _ _)) fun a hf => ?_
 refine S.p hf hs (iv (byteAt s_ c)) rfl rfl fun a hf => ?_
 refine R.nil (X.then_ (wp_ret ?_))
 exact L.ret hf (run_results1 Tryd.results111 (ResIs.tmp hf rfl)) ⟨(byteAt s_ c), rfl, h, hs.nil⟩
theorem E_lite_IndexByte (s : Str) (c : Int) : M_lite_IndexByte s c (· = byteAt s c) := rfl
theorem C_lite_IndexByte (s_ : Str) (c : Int) (w0 : World)  : Ret Tryd.prog 111 #[.string (ba s_), .int .u8 c] w0 fun v w' => v = .int .i64 (byteAt s_ c) ∧ Sat w0 none_ [] w' :=
  (R_lite_IndexByte s_ c w0  (· = (byteAt s_ c)) (E_lite_IndexByte s_ c)).mono fun v w' ⟨r0, hv, hr, hs⟩ => ⟨by subst hr; exact hv, hs⟩
set_option linter.unusedVariables false
def M_strings_IndexByte (s_ : Str) (c : Int) (Q : Int → Prop) : Prop :=
  Q (byteAt s_ c)
set_option maxHeartbeats 1000000 in
theorem R_strings_IndexByte (s_ : Str) (c : Int) (w0 : World)  (Q : Int → Prop) (h : M_strings_IndexByte s_ c Q) :
  Ret Tryd.prog 98 #[.string (ba s_), .int .u8 c] w0 fun v w' => ∃ (r0 : Int), v = iv r0 ∧ Q r0 ∧ Sat w0 none_ [] w' := by
 refine fn_enter Tryd.func98 rfl Tryd.ntmps98 rfl (fs := [(0, .string (ba s_)), (1, .int .u8 c)]) rfl (fun a hf => ?_)
 have hs := Sat.start w0 none_
 unfold M_strings_IndexByte at h
 refine wp_seq (R.list ?_)
 refine S.p hf hs (iv 0) rfl rfl fun a hf => ?_
 refine R.nil (X.then_ (wp_seq (R.list ?_)))
 refine S.p hf hs (.string (ba s_)) rfl rfl fun a hf => ?_
 refine S.p hf hs (.int .u8 c) rfl rfl fun a hf => ?_
 refine S.callv hf rfl rfl rfl (call_fn (vs := [.string (ba s_), .int .u8 c]) rfl rfl rfl Tryd.call111) (C_lite_IndexByte s_ c _ ) (fun a w hf hs' => ?_)
 replace hs := hs.call hs'; clear hs'
 refine S.p hf hs (iv (byteAt s_ c)) rfl rfl fun a hf => ?_
 refine R.nil (X.then_ (wp_ret ?_))
 exact L.ret hf (run_results1 Tryd.results98 (ResIs.tmp hf rfl)) ⟨(byteAt s_ c), rfl, h, hs.nil⟩
theorem E_strings_IndexByte (s : Str) (c : Int) : M_strings_IndexByte s c (· = byteAt s c) := rfl
theorem C_strings_IndexByte (s_ : Str) (c : Int) (w0 : World)  : Ret Tryd.prog 98 #[.string (ba s_), .int .u8 c] w0 fun v w' => v = .int .i64 (byteAt s_ c) ∧ Sat w0 none_ [] w' :=
  (R_strings_IndexByte s_ c w0  (· = (byteAt s_ c)) (E_strings_IndexByte s_ c)).mono fun v w' ⟨r0, hv, hr, hs⟩ => ⟨by subst hr; exact hv, hs⟩
set_option linter.unusedVariables false
def M_bytealg_CompareString (a_ : Str) (b : Str) (Q : Int → Prop) : Prop :=
  Q (cmpStr a_ b)
set_option maxHeartbeats 1000000 in
theorem R_bytealg_CompareString (a_ : Str) (b : Str) (w0 : World)  (Q : Int → Prop) (h : M_bytealg_CompareString a_ b Q) :
  Ret Tryd.prog 94 #[.string (ba a_), .string (ba b)] w0 fun v w' => ∃ (r0 : Int), v = iv r0 ∧ Q r0 ∧ Sat w0 none_ [] w' := by
 refine fn_enter Tryd.func94 rfl Tryd.ntmps94 rfl (fs := [(0, .string (ba a_)), (1, .string (ba b))]) rfl (fun a hf => ?_)
 have hs := Sat.start w0 none_
 unfold M_bytealg_CompareString at h
 refine wp_seq (R.list ?_)
 refine S.p hf hs (iv 0) rfl rfl fun a hf => ?_
 refine R.nil (X.then_ (wp_seq (R.list ?_)))
 refine S.p hf hs (.string (ba a_)) rfl rfl fun a hf => ?_
 refine S.p hf hs (.string (ba b)) rfl rfl fun a hf => ?_
 refine S.v hf hs (iv (cmpStr a_ b)) rfl (V.extern Tryd.func108 (by kernel_rfl) (by kernel_rfl) (by kernel_rfl) (by kernel_rfl) rfl rfl rfl (run_cmpStr _ _)) fun a hf => ?_
 refine S.p hf hs (iv (cmpStr a_ b)) rfl rfl fun a hf => ?_
 refine R.nil (X.then_ (wp_ret ?_))
 exact L.ret hf (run_results1 Tryd.results94 (ResIs.tmp hf rfl)) ⟨(cmpStr a_ b), rfl, h, hs.nil⟩
theorem E_bytealg_CompareString (a b : Str) : M_bytealg_CompareString a b (· = cmpStr a b) := rfl
theorem C_bytealg_CompareString (a_ : Str) (b : Str) (w0 : World)  : Ret Tryd.prog 94 #[.string (ba a_), .string (ba b)] w0 fun v w' => v = .int .i64 (cmpStr a_ b) ∧ Sat w0 none_ [] w' :=
  (R_bytealg_CompareString a_ b w0  (· = (cmpStr a_ b)) (E_bytealg_CompareString a_ b)).mono fun v w' ⟨r0, hv, hr, hs⟩ => ⟨by subst hr; exact hv, hs⟩
set_option linter.unusedVariables false
def M_strings_Compare (a_ : Str) (b : Str) (Q : Int → Prop) : Prop :=
  Q (cmpStr a_ b)
set_option maxHeartbeats 1000000 in
theorem R_strings_Compare (a_ : Str) (b : Str) (w0 : World)  (Q : Int → Prop) (h : M_strings_Compare a_ b Q) :
  Ret Tryd.prog 65 #[.string (ba a_), .string (ba b)] w0 fun v w' => ∃ (r0 : Int), v = iv r0 ∧ Q r0 ∧ Sat w0 none_ [] w' := by
 refine fn_enter Tryd.func65 rfl Tryd.ntmps65 rfl (fs := [(0, .string (ba a_)), (1, .string (ba b))]) rfl (fun a hf => ?_)
 have hs := Sat.start w0 none_
 unfold M_strings_Compare at h
 refine wp_seq (R.list ?_)
 refine S.p hf hs (iv 0) rfl rfl fun a hf => ?_
 refine R.nil (X.then_ (wp_seq (R.list ?_)))
 refine S.p hf hs (.string (ba a_)) rfl rfl fun a hf => ?_
 refine S.p hf hs (.string (ba b)) rfl rfl fun a hf => ?_
 refine S.callv hf rfl rfl rfl (call_fn (vs := [.string (ba a_), .string (ba b)]) rfl rfl rfl Tryd.call94) (C_bytealg_CompareString a_ b _ ) (fun a w hf hs' => ?_)
 replace hs := hs.call hs'; clear hs'
 refine S.p hf hs (iv (cmpStr a_ b)) rfl rfl fun a hf => ?_
 refine R.nil (X.then_ (wp_ret ?_))
 exact L.ret hf (run_results1 Tryd.results65 (ResIs.tmp hf rfl)) ⟨(cmpStr a_ b), rfl, h, hs.nil⟩
theorem E_strings_Compare (a b : Str) : M_strings_Compare a b (· = cmpStr a b) := rfl
theorem C_strings_Compare (a_ : Str) (b : Str) (w0 : World)  : Ret Tryd.prog 65 #[.string (ba a_), .string (ba b)] w0 fun v w' => v = .int .i64 (cmpStr a_ b) ∧ Sat w0 none_ [] w' :=
  (R_strings_Compare a_ b w0  (· = (cmpStr a_ b)) (E_strings_Compare a_ b)).mono fun v w' ⟨r0, hv, hr, hs⟩ => ⟨by subst hr; exact hv, hs⟩
def M_strings_genSplit (s sep : Str) (sv n : Int) (Q : List Str → Prop) : Prop := must (s.length < 4294967281 ∧ (∃ c, sep = [c]) ∧ sv = 0 ∧ n = -1) (Q (Lib.split s sep))
theorem R_strings_genSplit (s sep : Str) (sv n : Int) (w0 : World) (Q : List Str → Prop) (h : M_strings_genSplit s sep sv n Q) :
  Ret Tryd.prog 113 #[.string (ba s), .string (ba sep), .int .i64 sv, .int .i64 n] w0 fun v w' => ∃ (r0 : List Str) (r0A : Option Addr) (r0C : Nat), v = .slice r0A r0.length r0C ∧ Q r0 ∧ Sat w0 none_ [hown 9 r0A r0C r0] w' := by
 obtain ⟨⟨hsl, ⟨c, rfl⟩, rfl, rfl⟩, hq⟩ := h
 have hsz : (ba s).size < 4294967281 := by rw [ba_size]; exact hsl
 have hb1 : (ba [c]).size = 1 := by rw [ba_size]; rfl
 have hle := Lib.countB_le (ba [c]) (Nat.le_of_eq hb1.symm) (ba s).size (ba s) (Nat.le_refl _)
 have hlen := Lib.splitB_all (ba [c]) (Nat.le_of_eq hb1.symm) 0 _ (ba s) rfl
 have key := Any.strings_genSplit_core (P := Tryd.prog) Tryd.lays221 (by kernel_rfl) (ba s) (ba [c]) 0 (-1) (Lib.countB (ba s) (ba [c]) + 1) w0 hsz (Nat.le_of_eq hb1.symm) (Nat.zero_le _)
  (fun x cc _ => by
   have hx := Any.strings_Index_one (P := Tryd.prog) { Tryd.lays221 with } x c (w0.alloc (.cells cc (Tryd.lays221_ren.t 9)))
   rw [← Lib.index_one] at hx
   exact hx)
  (by
   have hx := Any.strings_Count_one (P := Tryd.prog) { Tryd.lays221 with } (ba s) c w0
   have e : Lib.countB (ba s) (ba [c]) = Lib.countByte (ba s).data.toList c := Lib.count_one c _
   rw [e]
   exact hx)
  (by decide) (by decide) (by rw [if_pos (by decide)]; omega)
 rw [Nat.add_sub_cancel, hlen] at key
 have es : (Lib.splitB (ba [c]) 0 (Lib.countB (ba s) (ba [c])) (ba s)).map (·.data.toList) = Lib.split s [c] := by
  rw [Lib.splitB_data, ba_toList, ba_toList]
  show _ = Lib.splitK [c] 0 (Lib.count s [c]) s
  have : Lib.countB (ba s) (ba [c]) = Lib.count s [c] := by
   show Lib.count (ba s).data.toList (ba [c]).data.toList = _
   rw [ba_toList, ba_toList]
  rw [this]
 have el : Lib.countB (ba s) (ba [c]) + 1 = (Lib.split s [c]).length := by rw [← es, List.length_map, hlen]
 have ec : Lib.cellsOf (Lib.splitB (ba [c]) 0 (Lib.countB (ba s) (ba [c])) (ba s)) (Lib.countB (ba s) (ba [c]) + 1) = ((Lib.split s [c]).flatMap Flat.enc).toArray := by
  have e2 : Lib.cellsOf (Lib.splitB (ba [c]) 0 (Lib.countB (ba s) (ba [c])) (ba s)) (Lib.countB (ba s) (ba [c]) + 1) = ((Lib.splitB (ba [c]) 0 (Lib.countB (ba s) (ba [c])) (ba s)).map Value.string).toArray := by rw [← hlen]; exact Lib.cellsOf_full _
  rw [e2, ← es, List.flatMap_map]
  congr 1
  generalize Lib.splitB (ba [c]) 0 (Lib.countB (ba s) (ba [c])) (ba s) = l
  induction l with
  | nil => rfl
  | cons x l ih => rw [List.map_cons, ih]; rfl
 rw [ec, el] at key
 refine Calls.mono key fun e w' ⟨he, hw⟩ => ⟨_, he, Lib.split s [c], some ⟨w0.heap.size, 0, none⟩, (Lib.split s [c]).length, rfl, hq, ?_⟩
 rw [hw]
 refine (Sat.start w0 none_).add (Keeps.alloc w0 (.cells ((Lib.split s [c]).flatMap Flat.enc).toArray 9) _) (F' := fun b => b = w0.heap.size) ⟨⟨?_, ?_⟩, fun b => by simp [Value.ownBlock]; exact eq_comm⟩ (fun b hb => by subst hb; simp)
 ·rw [length_flatMap_enc]
 ·refine .inr ⟨w0.heap.size, (Lib.split s [c]).length, ((Lib.split s [c]).flatMap Flat.enc).toArray, rfl, Nat.zero_le _, heap_alloc_self w0 _, Nat.le_refl _, by rw [ba_size] at hle; unfold maxLen; omega, by rw [List.size_toArray, length_flatMap_enc], ?_⟩
  show List.take _ ((Lib.split s [c]).flatMap Flat.enc) = _
  exact List.take_of_length_le (by rw [length_flatMap_enc]; exact Nat.le_refl _)
theorem splitK_le (sep : Str) : ∀ (k : Nat) (s x : Str), x ∈ Lib.splitK sep 0 k s → x.length ≤ s.length
  | 0, s, x, h => by simp [Lib.splitK] at h; rw [h]; exact Nat.le_refl _
  | k + 1, s, x, h => by
    unfold Lib.splitK at h
    split at h
    · simp at h; rw [h]; exact Nat.le_refl _
    · rcases List.mem_cons.1 h with h | h
      · rw [h, List.length_take]; omega
      · have := splitK_le sep k _ x h
        rw [List.length_drop] at this; omega
set_option linter.unusedVariables false
def M_strings_Split (s_ : Str) (sep : Str) (Q : (List Str) → Prop) : Prop :=
  M_strings_genSplit s_ sep 0 (-1) fun y1 => Q y1
set_option maxHeartbeats 1000000 in
theorem R_strings_Split (s_ : Str) (sep : Str) (w0 : World)  (Q : (List Str) → Prop) (h : M_strings_Split s_ sep Q) :
  Ret Tryd.prog 100 #[.string (ba s_), .string (ba sep)] w0 fun v w' => ∃ (r0 : (List Str)) (r0A : Option Addr) (r0C : Nat), v = .slice r0A r0.length r0C ∧ Q r0 ∧ Sat w0 none_ [hown 9 r0A r0C r0] w' := by
 refine fn_enter Tryd.func100 rfl Tryd.ntmps100 rfl (fs := [(0, .string (ba s_)), (1, .string (ba sep))]) rfl (fun a hf => ?_)
 have hs := Sat.start w0 none_
 unfold M_strings_Split at h
 refine wp_seq (R.list ?_)
 refine S.p hf hs (.slice none 0 0) rfl rfl fun a hf => ?_
 refine R.nil (X.then_ (wp_seq (R.list ?_)))
 refine S.p hf hs (.string (ba s_)) rfl rfl fun a hf => ?_
 refine S.p hf hs (.string (ba sep)) rfl rfl fun a hf => ?_
 refine S.call hf rfl rfl rfl (call_fn (vs := [.string (ba s_), .string (ba sep), iv 0, iv (-1)]) rfl rfl rfl Tryd.call113) (R_strings_genSplit s_ sep 0 (-1) _  _ h) (fun v a w' hf hr => ?_)
 obtain ⟨y1, y1A, y1C, rfl, h2, hs2⟩ := hr
 replace h := h2; replace hs := hs.call hs2; clear h2 hs2
 refine S.p hf hs (.slice y1A y1.length y1C) rfl rfl fun a hf => ?_
 refine R.nil (X.then_ (wp_ret ?_))
 replace hs := hs.take 1
 exact L.ret hf (run_results1 Tryd.results100 (ResIs.tmp hf rfl)) ⟨y1, y1A, y1C, rfl, h, hs⟩
set_option linter.unusedVariables false
def M_netlist_IsWord_k2 (Q : Bool → Prop) (n2 : Int) (again1 : Int → Prop) (c1 : Bool) : Prop :=
  cnd c1 (Q false) (again1 (w64 (n2 + 1)))
def M_netlist_IsWord_L1 (s_ : Str) (Q : Bool → Prop) (again1 : Int → Prop) (n2 : Int) : Prop :=
  cnd (decide (n2 < (s_.length : Int))) (idx s_ n2 fun x1 => cnd (decide ((x1.toNat : Int) < 65)) (cnd (decide ((x1.toNat : Int) < 97)) (cnd (decide ((x1.toNat : Int) < 48)) (M_netlist_IsWord_k2 Q n2 again1 (decide ((byteAt [95, 43, 45, 35] (x1.toNat : Int)) < 0))) (cnd (decide ((x1.toNat : Int) > 57)) (M_netlist_IsWord_k2 Q n2 again1 (decide ((byteAt [95, 43, 45, 35] (x1.toNat : Int)) < 0))) (M_netlist_IsWord_k2 Q n2 again1 false))) (cnd (decide ((x1.toNat : Int) > 122)) (cnd (decide ((x1.toNat : Int) < 48)) (M_netlist_IsWord_k2 Q n2 again1 (decide ((byteAt [95, 43, 45, 35] (x1.toNat : Int)) < 0))) (cnd (decide ((x1.toNat : Int) > 57)) (M_netlist_IsWord_k2 Q n2 again1 (decide ((byteAt [95, 43, 45, 35] (x1.toNat : Int)) < 0))) (M_netlist_IsWord_k2 Q n2 again1 false))) (M_netlist_IsWord_k2 Q n2 again1 false))) (cnd (decide ((x1.toNat : Int) > 90)) (cnd (decide ((x1.toNat : Int) < 97)) (cnd (decide ((x1.toNat : Int) < 48)) (M_netlist_IsWord_k2 Q n2 again1 (decide ((byteAt [95, 43, 45, 35] (x1.toNat : Int)) < 0))) (cnd (decide ((x1.toNat : Int) > 57)) (M_netlist_IsWord_k2 Q n2 again1 (decide ((byteAt [95, 43, 45, 35] (x1.toNat : Int)) < 0))) (M_netlist_IsWord_k2 Q n2 again1 false))) (cnd (decide ((x1.toNat : Int) > 122)) (cnd (decide ((x1.toNat : Int) < 48)) (M_netlist_IsWord_k2 Q n2 again1 (decide ((byteAt [95, 43, 45, 35] (x1.toNat : Int)) < 0))) (cnd (decide ((x1.toNat : Int) > 57)) (M_netlist_IsWord_k2 Q n2 again1 (decide ((byteAt [95, 43, 45, 35] (x1.toNat : Int)) < 0))) (M_netlist_IsWord_k2 Q n2 again1 false))) (M_netlist_IsWord_k2 Q n2 again1 false))) (M_netlist_IsWord_k2 Q n2 again1 false))) (cnd (decide ((s_.length : Int) ≥ 1)) (Q (decide ((s_.length : Int) ≤ 40))) (Q false))
def M_netlist_IsWord (s_ : Str) (Q : Bool → Prop) : Prop :=
  lp (fun again (s : Int) => M_netlist_IsWord_L1 s_ Q (fun n2 => again n2) s) 0
set_option maxHeartbeats 1000000 in
theorem R_netlist_IsWord (s_ : Str) (w0 : World)  (Q : Bool → Prop) (h : M_netlist_IsWord s_ Q) :
  Ret Tryd.prog 74 #[.string (ba s_)] w0 fun v w' => ∃ (r0 : Bool), v = .bool r0 ∧ Q r0 ∧ Sat w0 none_ [] w' := by
 refine fn_enter Tryd.func74 rfl Tryd.ntmps74 rfl (fs := [(0, .string (ba s_))]) rfl (fun a hf => ?_)
 have hs := Sat.start w0 none_
 unfold M_netlist_IsWord at h
 refine wp_seq (R.list ?_)
 refine S.p hf hs (.bool false) rfl rfl fun a hf => ?_
 refine R.nil (X.then_ (wp_seq (wp_seq (R.list ?_))))
 refine S.p hf hs (.string (ba s_)) rfl rfl fun a hf => ?_
 refine S.v hf hs (iv (s_.length : Int)) rfl (V.lenStr rfl rfl Tryd.runUnderlying9) fun a hf => ?_
 refine S.p hf hs (iv 0) rfl rfl fun a hf => ?_
 refine R.nil (X.then_ (wp_block ?_))
 obtain ⟨kk, h⟩ := h
 refine C.loop (fun kk a w => ∃ (n2 : Int), iterF (fun again (s : Int) => M_netlist_IsWord_L1 s_ Q (fun n2 => again n2) s) kk n2 ∧ FrOk 49 [(0, .string (ba s_)), (6, iv (s_.length : Int)), (7, iv n2)] a ∧ Sat w0 none_ [] w) kk ⟨0, h, (((hf.nil.cons (hf.get 7 _ rfl)).cons (hf.get 6 _ rfl)).cons (hf.get 0 _ rfl)), hs⟩ (fun a w ⟨_, h, _, _⟩ => h) ?_
 clear h hf hs
 rintro kk a w ⟨n2, h, hf, hs⟩
 obtain ⟨again1, hagain1⟩ : ∃ X : Int → Prop, X = (fun n2 => iterF (fun again (s : Int) => M_netlist_IsWord_L1 s_ Q (fun n2 => again n2) s) kk n2) := ⟨_, rfl⟩
 replace h : M_netlist_IsWord_L1 s_ Q again1 n2 := by rw [hagain1]; exact h
 unfold M_netlist_IsWord_L1 at h
 refine wp_seq (R.list ?_)
 refine S.p hf hs (.bool (decide (n2 < (s_.length : Int)))) rfl rfl fun a hf => ?_
 refine R.nil (X.then_ (wp_seq ?_))
 refine C.cond hf (b := decide (n2 < (s_.length : Int))) rfl (fun hc => ?_) (fun hc => ?_)
 ·replace h := h.1 hc
  refine wp_skip (X.then_ (wp_seq (wp_block (wp_seq (R.list ?_)))))
  refine S.p hf hs (iv n2) rfl rfl fun a hf => ?_
  refine S.p hf hs (iv n2) rfl rfl fun a hf => ?_
  refine R.nil (X.then_ (wp_seq (R.list ?_)))
  refine S.p hf hs (.string (ba s_)) rfl rfl fun a hf => ?_
  refine S.p hf hs (iv n2) rfl rfl fun a hf => ?_
  obtain ⟨h0x1, x1, hx1, h⟩ := h
  refine S.v hf hs (.int .u8 (x1.toNat : Int)) rfl (V.indexStr rfl rfl rfl Tryd.runUnderlying9 h0x1 hx1) fun a hf => ?_
  refine S.p hf hs (.int .u8 (x1.toNat : Int)) rfl rfl fun a hf => ?_
  refine R.nil (X.then_ (wp_seq ?_))
  refine C.cut (J := fun a w => ∃ (c1 : Bool), M_netlist_IsWord_k2 Q n2 again1 c1 ∧ FrOk 49 [(0, .string (ba s_)), (6, iv (s_.length : Int)), (7, iv n2), (39, .bool c1)] a ∧ Sat w0 none_ [] w) ?_ ?_
  ·rintro a w ⟨c1, h, hf, hs⟩
   unfold M_netlist_IsWord_k2 at h
   refine C.cond hf (b := c1) rfl (fun hc => ?_) (fun hc => ?_)
   ·replace h := h.1 hc
    refine wp_seq (R.list ?_)
    refine S.p hf hs (.bool false) rfl rfl fun a hf => ?_
    refine R.nil (X.then_ (wp_ret (X.blk_ret (X.then_ret (X.then_ret (X.blk_ret (X.then_ret ?_)))))))
    exact L.ret hf (run_results1 Tryd.results74 (ResIs.tmp hf rfl)) ⟨false, rfl, h, hs.nil⟩
   ·replace h := h.2 hc
    refine wp_skip (X.blk (X.then_ (R.list ?_)))
    refine S.p hf hs (iv (w64 (n2 + 1))) rfl rfl fun a hf => ?_
    refine S.p hf hs (iv (w64 (n2 + 1))) rfl rfl fun a hf => ?_
    refine R.nil (X.then_ ?_)
    exact ⟨(w64 (n2 + 1)), (by rw [hagain1] at h; exact h), (((hf.nil.cons (hf.get 7 _ rfl)).cons (hf.get 6 _ rfl)).cons (hf.get 0 _ rfl)), hs⟩
  ·skip
   refine R.list ?_
   refine S.p hf hs (.int .u8 (x1.toNat : Int)) rfl rfl fun a hf => ?_
   refine S.p hf hs (.bool (decide ((x1.toNat : Int) < 65))) rfl rfl fun a hf => ?_
   refine S.split hf hs (b := decide ((x1.toNat : Int) < 65)) rfl rfl rfl (V.pure rfl) (fun hc a hf => ?_) (fun hc a hf => ?_)
   ·replace h := h.1 hc
    refine S.k hf rfl fun a hf => ?_
    refine S.k hf rfl fun a hf => ?_
    refine S.p hf hs (.bool true) rfl rfl fun a hf => ?_
    refine S.p hf hs (.bool true) rfl rfl fun a hf => ?_
    refine S.p hf hs (.int .u8 (x1.toNat : Int)) rfl rfl fun a hf => ?_
    refine S.p hf hs (.bool (decide ((x1.toNat : Int) < 97))) rfl rfl fun a hf => ?_
    refine S.split hf hs (b := decide ((x1.toNat : Int) < 97)) rfl rfl rfl (V.pure rfl) (fun hc a hf => ?_) (fun hc a hf => ?_)
    ·replace h := h.1 hc
     refine S.k hf rfl fun a hf => ?_
     refine S.k hf rfl fun a hf => ?_
     refine S.p hf hs (.bool true) rfl rfl fun a hf => ?_
     refine S.p hf hs (.bool true) rfl rfl fun a hf => ?_
     refine S.p hf hs (.bool true) rfl rfl fun a hf => ?_
     refine S.p hf hs (.int .u8 (x1.toNat : Int)) rfl rfl fun a hf => ?_
     refine S.p hf hs (.bool (decide ((x1.toNat : Int) < 48))) rfl rfl fun a hf => ?_
     refine S.split hf hs (b := decide ((x1.toNat : Int) < 48)) rfl rfl rfl (V.pure rfl) (fun hc a hf => ?_) (fun hc a hf => ?_)
     ·replace h := h.1 hc
      refine S.k hf rfl fun a hf => ?_
      refine S.k hf rfl fun a hf => ?_
      refine S.p hf hs (.bool true) rfl rfl fun a hf => ?_
      refine S.p hf hs (.bool true) rfl rfl fun a hf => ?_
      refine S.p hf hs (.bool true) rfl rfl fun a hf => ?_
      refine S.p hf hs (.int .u8 (x1.toNat : Int)) rfl rfl fun a hf => ?_
      refine S.callv hf rfl rfl rfl (call_fn (vs := [.string (ba [95, 43, 45, 35]), .int .u8 (x1.toNat : Int)]) rfl rfl rfl Tryd.call98) (C_strings_IndexByte [95, 43, 45, 35] (x1.toNat : Int) _ ) (fun a w hf hs' => ?_)
      replace hs := hs.call hs'; clear hs'
      refine S.p hf hs (.bool (decide ((byteAt [95, 43, 45, 35] (x1.toNat : Int)) < 0))) rfl rfl fun a hf => ?_
      refine S.p hf hs (.bool (decide ((byteAt [95, 43, 45, 35] (x1.toNat : Int)) < 0))) rfl rfl fun a hf => ?_
      refine R.nil (X.then_ ?_)
      exact ⟨(decide ((byteAt [95, 43, 45, 35] (x1.toNat : Int)) < 0)), h, ((((hf.nil.cons (hf.get 39 _ rfl)).cons (hf.get 7 _ rfl)).cons (hf.get 6 _ rfl)).cons (hf.get 0 _ rfl)), hs⟩
     ·replace h := h.2 hc
      refine S.p hf hs (.int .u8 (x1.toNat : Int)) rfl rfl fun a hf => ?_
      refine S.p hf hs (.bool (decide ((x1.toNat : Int) > 57))) rfl rfl fun a hf => ?_
      refine S.p hf hs (.bool (decide ((x1.toNat : Int) > 57))) rfl rfl fun a hf => ?_
      refine S.p hf hs (.bool (decide ((x1.toNat : Int) > 57))) rfl rfl fun a hf => ?_
      refine S.split hf hs (b := decide ((x1.toNat : Int) > 57)) rfl rfl rfl (V.pure rfl) (fun hc a hf => ?_) (fun hc a hf => ?_)
      ·replace h := h.1 hc
       refine S.p hf hs (.int .u8 (x1.toNat : Int)) rfl rfl fun a hf => ?_
       refine S.callv hf rfl rfl rfl (call_fn (vs := [.string (ba [95, 43, 45, 35]), .int .u8 (x1.toNat : Int)]) rfl rfl rfl Tryd.call98) (C_strings_IndexByte [95, 43, 45, 35] (x1.toNat : Int) _ ) (fun a w hf hs' => ?_)
       replace hs := hs.call hs'; clear hs'
       refine S.p hf hs (.bool (decide ((byteAt [95, 43, 45, 35] (x1.toNat : Int)) < 0))) rfl rfl fun a hf => ?_
       refine S.p hf hs (.bool (decide ((byteAt [95, 43, 45, 35] (x1.toNat : Int)) < 0))) rfl rfl fun a hf => ?_
       refine R.nil (X.then_ ?_)
       exact ⟨(decide ((byteAt [95, 43, 45, 35] (x1.toNat : Int)) < 0)), h, ((((hf.nil.cons (hf.get 39 _ rfl)).cons (hf.get 7 _ rfl)).cons (hf.get 6 _ rfl)).cons (hf.get 0 _ rfl)), hs⟩
      ·replace h := h.2 hc
       refine S.k hf rfl fun a hf => ?_
       refine S.k hf rfl fun a hf => ?_
       refine S.k hf rfl fun a hf => ?_
       refine S.p hf hs (.bool false) rfl rfl fun a hf => ?_
       refine R.nil (X.then_ ?_)
       exact ⟨false, h, ((((hf.nil.cons (hf.get 39 _ rfl)).cons (hf.get 7 _ rfl)).cons (hf.get 6 _ rfl)).cons (hf.get 0 _ rfl)), hs⟩
    ·replace h := h.2 hc
     refine S.p hf hs (.int .u8 (x1.toNat : Int)) rfl rfl fun a hf => ?_
     refine S.p hf hs (.bool (decide ((x1.toNat : Int) > 122))) rfl rfl fun a hf => ?_
     refine S.p hf hs (.bool (decide ((x1.toNat : Int) > 122))) rfl rfl fun a hf => ?_
     refine S.p hf hs (.bool (decide ((x1.toNat : Int) > 122))) rfl rfl fun a hf => ?_
     refine S.split hf hs (b := decide ((x1.toNat : Int) > 122)) rfl rfl rfl (V.pure rfl) (fun hc a hf => ?_) (fun hc a hf => ?_)
     ·replace h := h.1 hc
      refine S.p hf hs (.int .u8 (x1.toNat : Int)) rfl rfl fun a hf => ?_
      refine S.p hf hs (.bool (decide ((x1.toNat : Int) < 48))) rfl rfl fun a hf => ?_
      refine S.split hf hs (b := decide ((x1.toNat : Int) < 48)) rfl rfl rfl (V.pure rfl) (fun hc a hf => ?_) (fun hc a hf => ?_)
      ·replace h := h.1 hc
       refine S.k hf rfl fun a hf => ?_
       refine S.k hf rfl fun a hf => ?_
       refine S.p hf hs (.bool true) rfl rfl fun a hf => ?_
       refine S.p hf hs (.bool true) rfl rfl fun a hf => ?_
       refine S.p hf hs (.bool true) rfl rfl fun a hf => ?_
       refine S.p hf hs (.int .u8 (x1.toNat : Int)) rfl rfl fun a hf => ?_
       refine S.callv hf rfl rfl rfl (call_fn (vs := [.string (ba [95, 43, 45, 35]), .int .u8 (x1.toNat : Int)]) rfl rfl rfl Tryd.call98) (C_strings_IndexByte [95, 43, 45, 35] (x1.toNat : Int) _ ) (fun a w hf hs' => ?_)
       replace hs := hs.call hs'; clear hs'
       refine S.p hf hs (.bool (decide ((byteAt [95, 43, 45, 35] (x1.toNat : Int)) < 0))) rfl rfl fun a hf => ?_
       refine S.p hf hs (.bool (decide ((byteAt [95, 43, 45, 35] (x1.toNat : Int)) < 0))) rfl rfl fun a hf => ?_
       refine R.nil (X.then_ ?_)
       exact ⟨(decide ((byteAt [95, 43, 45, 35] (x1.toNat : Int)) < 0)), h, ((((hf.nil.cons (hf.get 39 _ rfl)).cons (hf.get 7 _ rfl)).cons (hf.get 6 _ rfl)).cons (hf.get 0 _ rfl)), hs⟩
      ·replace h := h.2 hc
       refine S.p hf hs (.int .u8 (x1.toNat : Int)) rfl rfl fun a hf => ?_
       refine S.p hf hs (.bool (decide ((x1.toNat : Int) > 57))) rfl rfl fun a hf => ?_
       refine S.p hf hs (.bool (decide ((x1.toNat : Int) > 57))) rfl rfl fun a hf => ?_
       refine S.p hf hs (.bool (decide ((x1.toNat : Int) > 57))) rfl rfl fun a hf => ?_
       refine S.split hf hs (b := decide ((x1.toNat : Int) > 57)) rfl rfl rfl (V.pure rfl) (fun hc a hf => ?_) (fun hc a hf => ?_)
       ·replace h := h.1 hc
        refine S.p hf hs (.int .u8 (x1.toNat : Int)) rfl rfl fun a hf => ?_
        refine S.callv hf rfl rfl rfl (call_fn (vs := [.string (ba [95, 43, 45, 35]), .int .u8 (x1.toNat : Int)]) rfl rfl rfl Tryd.call98) (C_strings_IndexByte [95, 43, 45, 35] (x1.toNat : Int) _ ) (fun a w hf hs' => ?_)
        replace hs := hs.call hs'; clear hs'
        refine S.p hf hs (.bool (decide ((byteAt [95, 43, 45, 35] (x1.toNat : Int)) < 0))) rfl rfl fun a hf => ?_
        refine S.p hf hs (.bool (decide ((byteAt [95, 43, 45, 35] (x1.toNat : Int)) < 0))) rfl rfl fun a hf => ?_
        refine R.nil (X.then_ ?_)
        exact ⟨(decide ((byteAt [95, 43, 45, 35] (x1.toNat : Int)) < 0)), h, ((((hf.nil.cons (hf.get 39 _ rfl)).cons (hf.get 7 _ rfl)).cons (hf.get 6 _ rfl)).cons (hf.get 0 _ rfl)), hs⟩
       ·replace h := h.2 hc
        refine S.k hf rfl fun a hf => ?_
        refine S.k hf rfl fun a hf => ?_
        refine S.k hf rfl fun a hf => ?_
        refine S.p hf hs (.bool false) rfl rfl fun a hf => ?_
        refine R.nil (X.then_ ?_)
        exact ⟨false, h, ((((hf.nil.cons (hf.get 39 _ rfl)).cons (hf.get 7 _ rfl)).cons (hf.get 6 _ rfl)).cons (hf.get 0 _ rfl)), hs⟩
     ·replace h := h.2 hc
      refine S.k hf rfl fun a hf => ?_
      refine S.k hf rfl fun a hf => ?_
      refine S.k hf rfl fun a hf => ?_
      refine S.k hf rfl fun a hf => ?_
      refine S.k hf rfl fun a hf => ?_
      refine S.k hf rfl fun a hf => ?_
      refine S.p hf hs (.bool false) rfl rfl fun a hf => ?_
      refine S.p hf hs (.bool false) rfl rfl fun a hf => ?_
      refine S.k hf rfl fun a hf => ?_
      refine S.k hf rfl fun a hf => ?_
      refine S.k hf rfl fun a hf => ?_
      refine S.p hf hs (.bool false) rfl rfl fun a hf => ?_
      refine R.nil (X.then_ ?_)
      exact ⟨false, h, ((((hf.nil.cons (hf.get 39 _ rfl)).cons (hf.get 7 _ rfl)).cons (hf.get 6 _ rfl)).cons (hf.get 0 _ rfl)), hs⟩
   ·replace h := h.2 hc
    refine S.p hf hs (.int .u8 (x1.toNat : Int)) rfl rfl fun a hf => ?_
    refine S.p hf hs (.bool (decide ((x1.toNat : Int) > 90))) rfl rfl fun a hf => ?_
    refine S.p hf hs (.bool (decide ((x1.toNat : Int) > 90))) rfl rfl fun a hf => ?_
    refine S.split hf hs (b := decide ((x1.toNat : Int) > 90)) rfl rfl rfl (V.pure rfl) (fun hc a hf => ?_) (fun hc a hf => ?_)
    ·replace h := h.1 hc
     refine S.p hf hs (.int .u8 (x1.toNat : Int)) rfl rfl fun a hf => ?_
     refine S.p hf hs (.bool (decide ((x1.toNat : Int) < 97))) rfl rfl fun a hf => ?_
     refine S.split hf hs (b := decide ((x1.toNat : Int) < 97)) rfl rfl rfl (V.pure rfl) (fun hc a hf => ?_) (fun hc a hf => ?_)
     ·replace h := h.1 hc
      refine S.k hf rfl fun a hf => ?_
      refine S.k hf rfl fun a hf => ?_
      refine S.p hf hs (.bool true) rfl rfl fun a hf => ?_
      refine S.p hf hs (.bool true) rfl rfl fun a hf => ?_
      refine S.p hf hs (.bool true) rfl rfl fun a hf => ?_
      refine S.p hf hs (.int .u8 (x1.toNat : Int)) rfl rfl fun a hf => ?_
      refine S.p hf hs (.bool (decide ((x1.toNat : Int) < 48))) rfl rfl fun a hf => ?_
      refine S.split hf hs (b := decide ((x1.toNat : Int) < 48)) rfl rfl rfl (V.pure rfl) (fun hc a hf => ?_) (fun hc a hf => ?_)
      ·replace h := h.1 hc
       refine S.k hf rfl fun a hf => ?_
       refine S.k hf rfl fun a hf => ?_
       refine S.p hf hs (.bool true) rfl rfl fun a hf => ?_
       refine S.p hf hs (.bool true) rfl rfl fun a hf => ?_
       refine S.p hf hs (.bool true) rfl rfl fun a hf => ?_
       refine S.p hf hs (.int .u8 (x1.toNat : Int)) rfl rfl fun a hf => ?_
       refine S.callv hf rfl rfl rfl (call_fn (vs := [.string (ba [95, 43, 45, 35]), .int .u8 (x1.toNat : Int)]) rfl rfl rfl Tryd.call98) (C_strings_IndexByte [95, 43, 45, 35] (x1.toNat : Int) _ ) (fun a w hf hs' => ?_)
       replace hs := hs.call hs'; clear hs'
       refine S.p hf hs (.bool (decide ((byteAt [95, 43, 45, 35] (x1.toNat : Int)) < 0))) rfl rfl fun a hf => ?_
       refine S.p hf hs (.bool (decide ((byteAt [95, 43, 45, 35] (x1.toNat : Int)) < 0))) rfl rfl fun a hf => ?_
       refine R.nil (X.then_ ?_)
       exact ⟨(decide ((byteAt [95, 43, 45, 35] (x1.toNat : Int)) < 0)), h, ((((hf.nil.cons (hf.get 39 _ rfl)).cons (hf.get 7 _ rfl)).cons (hf.get 6 _ rfl)).cons (hf.get 0 _ rfl)), hs⟩
      ·replace h := h.2 hc
       refine S.p hf hs (.int .u8 (x1.toNat : Int)) rfl rfl fun a hf => ?_
       refine S.p hf hs (.bool (decide ((x1.toNat : Int) > 57))) rfl rfl fun a hf => ?_
       refine S.p hf hs (.bool (decide ((x1.toNat : Int) > 57))) rfl rfl fun a hf => ?_
       refine S.p hf hs (.bool (decide ((x1.toNat : Int) > 57))) rfl rfl fun a hf => ?_
       refine S.split hf hs (b := decide ((x1.toNat : Int) > 57)) rfl rfl rfl (V.pure rfl) (fun hc a hf => ?_) (fun hc a hf => ?_)
       ·replace h := h.1 hc
        refine S.p hf hs (.int .u8 (x1.toNat : Int)) rfl rfl fun a hf => ?_
        refine S.callv hf rfl rfl rfl (call_fn (vs := [.string (ba [95, 43, 45, 35]), .int .u8 (x1.toNat : Int)]) rfl rfl rfl Tryd.call98) (C_strings_IndexByte [95, 43, 45, 35] (x1.toNat : Int) _ ) (fun a w hf hs' => ?_)
        replace hs := hs.call hs'; clear hs'
        refine S.p hf hs (.bool (decide ((byteAt [95, 43, 45, 35] (x1.toNat : Int)) < 0))) rfl rfl fun a hf => ?_
        refine S.p hf hs (.bool (decide ((byteAt [95, 43, 45, 35] (x1.toNat : Int)) < 0))) rfl rfl fun a hf => ?_
        refine R.nil (X.then_ ?_)
        exact ⟨(decide ((byteAt [95, 43, 45, 35] (x1.toNat : Int)) < 0)), h, ((((hf.nil.cons (hf.get 39 _ rfl)).cons (hf.get 7 _ rfl)).cons (hf.get 6 _ rfl)).cons (hf.get 0 _ rfl)), hs⟩
       ·replace h := h.2 hc
        refine S.k hf rfl fun a hf => ?_
        refine S.k hf rfl fun a hf => ?_
        refine S.k hf rfl fun a hf => ?_
        refine S.p hf hs (.bool false) rfl rfl fun a hf => ?_
        refine R.nil (X.then_ ?_)
        exact ⟨false, h, ((((hf.nil.cons (hf.get 39 _ rfl)).cons (hf.get 7 _ rfl)).cons (hf.get 6 _ rfl)).cons (hf.get 0 _ rfl)), hs⟩
     ·replace h := h.2 hc
      refine S.p hf hs (.int .u8 (x1.toNat : Int)) rfl rfl fun a hf => ?_
      refine S.p hf hs (.bool (decide ((x1.toNat : Int) > 122))) rfl rfl fun a hf => ?_
      refine S.p hf hs (.bool (decide ((x1.toNat : Int) > 122))) rfl rfl fun a hf => ?_
      refine S.p hf hs (.bool (decide ((x1.toNat : Int) > 122))) rfl rfl fun a hf => ?_
      refine S.split hf hs (b := decide ((x1.toNat : Int) > 122)) rfl rfl rfl (V.pure rfl) (fun hc a hf => ?_) (fun hc a hf => ?_)
      ·replace h := h.1 hc
       refine S.p hf hs (.int .u8 (x1.toNat : Int)) rfl rfl fun a hf => ?_
       refine S.p hf hs (.bool (decide ((x1.toNat : Int) < 48))) rfl rfl fun a hf => ?_
       refine S.split hf hs (b := decide ((x1.toNat : Int) < 48)) rfl rfl rfl (V.pure rfl) (fun hc a hf => ?_) (fun hc a hf => ?_)
       ·replace h := h.1 hc
        refine S.k hf rfl fun a hf => ?_
        refine S.k hf rfl fun a hf => ?_
        refine S.p hf hs (.bool true) rfl rfl fun a hf => ?_
        refine S.p hf hs (.bool true) rfl rfl fun a hf => ?_
        refine S.p hf hs (.bool true) rfl rfl fun a hf => ?_
        refine S.p hf hs (.int .u8 (x1.toNat : Int)) rfl rfl fun a hf => ?_
        refine S.callv hf rfl rfl rfl (call_fn (vs := [.string (ba [95, 43, 45, 35]), .int .u8 (x1.toNat : Int)]) rfl rfl rfl Tryd.call98) (C_strings_IndexByte [95, 43, 45, 35] (x1.toNat : Int) _ ) (fun a w hf hs' => ?_)
        replace hs := hs.call hs'; clear hs'
        refine S.p hf hs (.bool (decide ((byteAt [95, 43, 45, 35] (x1.toNat : Int)) < 0))) rfl rfl fun a hf => ?_
        refine S.p hf hs (.bool (decide ((byteAt [95, 43, 45, 35] (x1.toNat : Int)) < 0))) rfl rfl fun a hf => ?_
        refine R.nil (X.then_ ?_)
        exact ⟨(decide ((byteAt [95, 43, 45, 35] (x1.toNat : Int)) < 0)), h, ((((hf.nil.cons (hf.get 39 _ rfl)).cons (hf.get 7 _ rfl)).cons (hf.get 6 _ rfl)).cons (hf.get 0 _ rfl)), hs⟩
       ·replace h := h.2 hc
        refine S.p hf hs (.int .u8 (x1.toNat : Int)) rfl rfl fun a hf => ?_
        refine S.p hf hs (.bool (decide ((x1.toNat : Int) > 57))) rfl rfl fun a hf => ?_
        refine S.p hf hs (.bool (decide ((x1.toNat : Int) > 57))) rfl rfl fun a hf => ?_
        refine S.p hf hs (.bool (decide ((x1.toNat : Int) > 57))) rfl rfl fun a hf => ?_
        refine S.split hf hs (b := decide ((x1.toNat : Int) > 57)) rfl rfl rfl (V.pure rfl) (fun hc a hf => ?_) (fun hc a hf => ?_)
        ·replace h := h.1 hc
         refine S.p hf hs (.int .u8 (x1.toNat : Int)) rfl rfl fun a hf => ?_
         refine S.callv hf rfl rfl rfl (call_fn (vs := [.string (ba [95, 43, 45, 35]), .int .u8 (x1.toNat : Int)]) rfl rfl rfl Tryd.call98) (C_strings_IndexByte [95, 43, 45, 35] (x1.toNat : Int) _ ) (fun a w hf hs' => ?_)
         replace hs := hs.call hs'; clear hs'
         refine S.p hf hs (.bool (decide ((byteAt [95, 43, 45, 35] (x1.toNat : Int)) < 0))) rfl rfl fun a hf => ?_
         refine S.p hf hs (.bool (decide ((byteAt [95, 43, 45, 35] (x1.toNat : Int)) < 0))) rfl rfl fun a hf => ?_
         refine R.nil (X.then_ ?_)
         exact ⟨(decide ((byteAt [95, 43, 45, 35] (x1.toNat : Int)) < 0)), h, ((((hf.nil.cons (hf.get 39 _ rfl)).cons (hf.get 7 _ rfl)).cons (hf.get 6 _ rfl)).cons (hf.get 0 _ rfl)), hs⟩
        ·replace h := h.2 hc
         refine S.k hf rfl fun a hf => ?_
         refine S.k hf rfl fun a hf => ?_
         refine S.k hf rfl fun a hf => ?_
         refine S.p hf hs (.bool false) rfl rfl fun a hf => ?_
         refine R.nil (X.then_ ?_)
         exact ⟨false, h, ((((hf.nil.cons (hf.get 39 _ rfl)).cons (hf.get 7 _ rfl)).cons (hf.get 6 _ rfl)).cons (hf.get 0 _ rfl)), hs⟩
      ·replace h := h.2 hc
       refine S.k hf rfl fun a hf => ?_
       refine S.k hf rfl fun a hf => ?_
       refine S.k hf rfl fun a hf => ?_
       refine S.k hf rfl fun a hf => ?_
       refine S.k hf rfl fun a hf => ?_
       refine S.k hf rfl fun a hf => ?_
       refine S.p hf hs (.bool false) rfl rfl fun a hf => ?_
       refine S.p hf hs (.bool false) rfl rfl fun a hf => ?_
       refine S.k hf rfl fun a hf => ?_
       refine S.k hf rfl fun a hf => ?_
       refine S.k hf rfl fun a hf => ?_
       refine S.p hf hs (.bool false) rfl rfl fun a hf => ?_
       refine R.nil (X.then_ ?_)
       exact ⟨false, h, ((((hf.nil.cons (hf.get 39 _ rfl)).cons (hf.get 7 _ rfl)).cons (hf.get 6 _ rfl)).cons (hf.get 0 _ rfl)), hs⟩
    ·replace h := h.2 hc
     refine S.k hf rfl fun a hf => ?_
     refine S.k hf rfl fun a hf => ?_
     refine S.k hf rfl fun a hf => ?_
     refine S.k hf rfl fun a hf => ?_
     refine S.k hf rfl fun a hf => ?_
     refine S.k hf rfl fun a hf => ?_
     refine S.p hf hs (.bool false) rfl rfl fun a hf => ?_
     refine S.p hf hs (.bool false) rfl rfl fun a hf => ?_
     refine S.k hf rfl fun a hf => ?_
     refine S.k hf rfl fun a hf => ?_
     refine S.k hf rfl fun a hf => ?_
     refine S.k hf rfl fun a hf => ?_
     refine S.k hf rfl fun a hf => ?_
     refine S.k hf rfl fun a hf => ?_
     refine S.p hf hs (.bool false) rfl rfl fun a hf => ?_
     refine S.p hf hs (.bool false) rfl rfl fun a hf => ?_
     refine S.k hf rfl fun a hf => ?_
     refine S.k hf rfl fun a hf => ?_
     refine S.k hf rfl fun a hf => ?_
     refine S.p hf hs (.bool false) rfl rfl fun a hf => ?_
     refine R.nil (X.then_ ?_)
     exact ⟨false, h, ((((hf.nil.cons (hf.get 39 _ rfl)).cons (hf.get 7 _ rfl)).cons (hf.get 6 _ rfl)).cons (hf.get 0 _ rfl)), hs⟩
 ·replace h := h.2 hc
  refine wp_exit (X.then_exit (X.then_exit (X.blk_exit (X.then_ (wp_seq (R.list ?_))))))
  refine S.p hf hs (.string (ba s_)) rfl rfl fun a hf => ?_
  refine S.v hf hs (iv (s_.length : Int)) rfl (V.lenStr rfl rfl Tryd.runUnderlying9) fun a hf => ?_
  refine S.p hf hs (.bool (decide ((s_.length : Int) ≥ 1))) rfl rfl fun a hf => ?_
  refine S.split hf hs (b := decide ((s_.length : Int) ≥ 1)) rfl rfl rfl (V.pure rfl) (fun hc a hf => ?_) (fun hc a hf => ?_)
  ·replace h := h.1 hc
   refine S.p hf hs (.string (ba s_)) rfl rfl fun a hf => ?_
   refine S.v hf hs (iv (s_.length : Int)) rfl (V.lenStr rfl rfl Tryd.runUnderlying9) fun a hf => ?_
   refine S.p hf hs (.bool (decide ((s_.length : Int) ≤ 40))) rfl rfl fun a hf => ?_
   refine S.p hf hs (.bool (decide ((s_.length : Int) ≤ 40))) rfl rfl fun a hf => ?_
   refine S.p hf hs (.bool (decide ((s_.length : Int) ≤ 40))) rfl rfl fun a hf => ?_
   refine R.nil (X.then_ (wp_ret ?_))
   exact L.ret hf (run_results1 Tryd.results74 (ResIs.tmp hf rfl)) ⟨(decide ((s_.length : Int) ≤ 40)), rfl, h, hs.nil⟩
  ·replace h := h.2 hc
   refine S.k hf rfl fun a hf => ?_
   refine S.k hf rfl fun a hf => ?_
   refine S.k hf rfl fun a hf => ?_
   refine S.p hf hs (.bool false) rfl rfl fun a hf => ?_
   refine S.p hf hs (.bool false) rfl rfl fun a hf => ?_
   refine R.nil (X.then_ (wp_ret ?_))
   exact L.ret hf (run_results1 Tryd.results74 (ResIs.tmp hf rfl)) ⟨false, rfl, h, hs.nil⟩
set_option linter.unusedVariables false
def M_ref10_isWord_k2 (Q : Bool → Prop) (n2 : Int) (again1 : Int → Prop) (c1 : Bool) : Prop :=
  cnd c1 (Q false) (again1 (w64 (n2 + 1)))
def M_ref10_isWord_L1 (s_ : Str) (Q : Bool → Prop) (again1 : Int → Prop) (n2 : Int) : Prop :=
  cnd (decide (n2 < (s_.length : Int))) (idx s_ n2 fun x1 => cnd (decide ((x1.toNat : Int) < 97)) (cnd (decide ((x1.toNat : Int) < 65)) (cnd (decide ((x1.toNat : Int) < 48)) (M_ref10_isWord_k2 Q n2 again1 (decide ((byteAt [95, 43, 45, 35] (x1.toNat : Int)) < 0))) (cnd (decide ((x1.toNat : Int) > 57)) (M_ref10_isWord_k2 Q n2 again1 (decide ((byteAt [95, 43, 45, 35] (x1.toNat : Int)) < 0))) (M_ref10_isWord_k2 Q n2 again1 false))) (cnd (decide ((x1.toNat : Int) > 90)) (cnd (decide ((x1.toNat : Int) < 48)) (M_ref10_isWord_k2 Q n2 again1 (decide ((byteAt [95, 43, 45, 35] (x1.toNat : Int)) < 0))) (cnd (decide ((x1.toNat : Int) > 57)) (M_ref10_isWord_k2 Q n2 again1 (decide ((byteAt [95, 43, 45, 35] (x1.toNat : Int)) < 0))) (M_ref10_isWord_k2 Q n2 again1 false))) (M_ref10_isWord_k2 Q n2 again1 false))) (cnd (decide ((x1.toNat : Int) > 122)) (cnd (decide ((x1.toNat : Int) < 65)) (cnd (decide ((x1.toNat : Int) < 48)) (M_ref10_isWord_k2 Q n2 again1 (decide ((byteAt [95, 43, 45, 35] (x1.toNat : Int)) < 0))) (cnd (decide ((x1.toNat : Int) > 57)) (M_ref10_isWord_k2 Q n2 again1 (decide ((byteAt [95, 43, 45, 35] (x1.toNat : Int)) < 0))) (M_ref10_isWord_k2 Q n2 again1 false))) (cnd (decide ((x1.toNat : Int) > 90)) (cnd (decide ((x1.toNat : Int) < 48)) (M_ref10_isWord_k2 Q n2 again1 (decide ((byteAt [95, 43, 45, 35] (x1.toNat : Int)) < 0))) (cnd (decide ((x1.toNat : Int) > 57)) (M_ref10_isWord_k2 Q n2 again1 (decide ((byteAt [95, 43, 45, 35] (x1.toNat : Int)) < 0))) (M_ref10_isWord_k2 Q n2 again1 false))) (M_ref10_isWord_k2 Q n2 again1 false))) (M_ref10_isWord_k2 Q n2 again1 false))) (Q (within (s_.length : Int) 1 40))
def M_ref10_isWord (s_ : Str) (Q : Bool → Prop) : Prop :=
  lp (fun again (s : Int) => M_ref10_isWord_L1 s_ Q (fun n2 => again n2) s) 0
set_option maxHeartbeats 1000000 in
theorem R_ref10_isWord (s_ : Str) (w0 : World)  (Q : Bool → Prop) (h : M_ref10_isWord s_ Q) :
  Ret Tryd.prog 75 #[.string (ba s_)] w0 fun v w' => ∃ (r0 : Bool), v = .bool r0 ∧ Q r0 ∧ Sat w0 none_ [] w' := by
 refine fn_enter Tryd.func75 rfl Tryd.ntmps75 rfl (fs := [(0, .string (ba s_))]) rfl (fun a hf => ?_)
 have hs := Sat.start w0 none_
 unfold M_ref10_isWord at h
 refine wp_seq (R.list ?_)
 refine S.p hf hs (.bool false) rfl rfl fun a hf => ?_
 refine R.nil (X.then_ (wp_seq (wp_seq (R.list ?_))))
 refine S.p hf hs (.string (ba s_)) rfl rfl fun a hf => ?_
 refine S.v hf hs (iv (s_.length : Int)) rfl (V.lenStr rfl rfl Tryd.runUnderlying9) fun a hf => ?_
 refine S.p hf hs (iv 0) rfl rfl fun a hf => ?_
 refine R.nil (X.then_ (wp_block ?_))
 obtain ⟨kk, h⟩ := h
 refine C.loop (fun kk a w => ∃ (n2 : Int), iterF (fun again (s : Int) => M_ref10_isWord_L1 s_ Q (fun n2 => again n2) s) kk n2 ∧ FrOk 44 [(0, .string (ba s_)), (6, iv (s_.length : Int)), (7, iv n2)] a ∧ Sat w0 none_ [] w) kk ⟨0, h, (((hf.nil.cons (hf.get 7 _ rfl)).cons (hf.get 6 _ rfl)).cons (hf.get 0 _ rfl)), hs⟩ (fun a w ⟨_, h, _, _⟩ => h) ?_
 clear h hf hs
 rintro kk a w ⟨n2, h, hf, hs⟩
 obtain ⟨again1, hagain1⟩ : ∃ X : Int → Prop, X = (fun n2 => iterF (fun again (s : Int) => M_ref10_isWord_L1 s_ Q (fun n2 => again n2) s) kk n2) := ⟨_, rfl⟩
 replace h : M_ref10_isWord_L1 s_ Q again1 n2 := by rw [hagain1]; exact h
 unfold M_ref10_isWord_L1 at h
 refine wp_seq (R.list ?_)
 refine S.p hf hs (.bool (decide (n2 < (s_.length : Int)))) rfl rfl fun a hf => ?_
 refine R.nil (X.then_ (wp_seq ?_))
 refine C.cond hf (b := decide (n2 < (s_.length : Int))) rfl (fun hc => ?_) (fun hc => ?_)
 ·replace h := h.1 hc
  refine wp_skip (X.then_ (wp_seq (wp_block (wp_seq (R.list ?_)))))
  refine S.p hf hs (iv n2) rfl rfl fun a hf => ?_
  refine S.p hf hs (iv n2) rfl rfl fun a hf => ?_
  refine R.nil (X.then_ (wp_seq (R.list ?_)))
  refine S.p hf hs (.string (ba s_)) rfl rfl fun a hf => ?_
  refine S.p hf hs (iv n2) rfl rfl fun a hf => ?_
  obtain ⟨h0x1, x1, hx1, h⟩ := h
  refine S.v hf hs (.int .u8 (x1.toNat : Int)) rfl (V.indexStr rfl rfl rfl Tryd.runUnderlying9 h0x1 hx1) fun a hf => ?_
  refine S.p hf hs (.int .u8 (x1.toNat : Int)) rfl rfl fun a hf => ?_
  refine R.nil (X.then_ (wp_seq ?_))
  refine C.cut (J := fun a w => ∃ (c1 : Bool), M_ref10_isWord_k2 Q n2 again1 c1 ∧ FrOk 44 [(0, .string (ba s_)), (6, iv (s_.length : Int)), (7, iv n2), (39, .bool c1)] a ∧ Sat w0 none_ [] w) ?_ ?_
  ·rintro a w ⟨c1, h, hf, hs⟩
   unfold M_ref10_isWord_k2 at h
   refine C.cond hf (b := c1) rfl (fun hc => ?_) (fun hc => ?_)
   ·replace h := h.1 hc
    refine wp_seq (R.list ?_)
    refine S.p hf hs (.bool false) rfl rfl fun a hf => ?_
    refine R.nil (X.then_ (wp_ret (X.blk_ret (X.then_ret (X.then_ret (X.blk_ret (X.then_ret ?_)))))))
    exact L.ret hf (run_results1 Tryd.results75 (ResIs.tmp hf rfl)) ⟨false, rfl, h, hs.nil⟩
   ·replace h := h.2 hc
    refine wp_skip (X.blk (X.then_ (R.list ?_)))
    refine S.p hf hs (iv (w64 (n2 + 1))) rfl rfl fun a hf => ?_
    refine S.p hf hs (iv (w64 (n2 + 1))) rfl rfl fun a hf => ?_
    refine R.nil (X.then_ ?_)
    exact ⟨(w64 (n2 + 1)), (by rw [hagain1] at h; exact h), (((hf.nil.cons (hf.get 7 _ rfl)).cons (hf.get 6 _ rfl)).cons (hf.get 0 _ rfl)), hs⟩
  ·skip
   refine R.list ?_
   refine S.p hf hs (.int .u8 (x1.toNat : Int)) rfl rfl fun a hf => ?_
   refine S.p hf hs (.bool (decide ((x1.toNat : Int) < 97))) rfl rfl fun a hf => ?_
   refine S.split hf hs (b := decide ((x1.toNat : Int) < 97)) rfl rfl rfl (V.pure rfl) (fun hc a hf => ?_) (fun hc a hf => ?_)
   ·replace h := h.1 hc
    refine S.k hf rfl fun a hf => ?_
    refine S.k hf rfl fun a hf => ?_
    refine S.p hf hs (.bool true) rfl rfl fun a hf => ?_
    refine S.p hf hs (.bool true) rfl rfl fun a hf => ?_
    refine S.p hf hs (.int .u8 (x1.toNat : Int)) rfl rfl fun a hf => ?_
    refine S.p hf hs (.bool (decide ((x1.toNat : Int) < 65))) rfl rfl fun a hf => ?_
    refine S.split hf hs (b := decide ((x1.toNat : Int) < 65)) rfl rfl rfl (V.pure rfl) (fun hc a hf => ?_) (fun hc a hf => ?_)
    ·replace h := h.1 hc
     refine S.k hf rfl fun a hf => ?_
     refine S.k hf rfl fun a hf => ?_
     refine S.p hf hs (.bool true) rfl rfl fun a hf => ?_
     refine S.p hf hs (.bool true) rfl rfl fun a hf => ?_
     refine S.p hf hs (.bool true) rfl rfl fun a hf => ?_
     refine S.p hf hs (.int .u8 (x1.toNat : Int)) rfl rfl fun a hf => ?_
     refine S.p hf hs (.bool (decide ((x1.toNat : Int) < 48))) rfl rfl fun a hf => ?_
     refine S.split hf hs (b := decide ((x1.toNat : Int) < 48)) rfl rfl rfl (V.pure rfl) (fun hc a hf => ?_) (fun hc a hf => ?_)
     ·replace h := h.1 hc
      refine S.k hf rfl fun a hf => ?_
      refine S.k hf rfl fun a hf => ?_
      refine S.p hf hs (.bool true) rfl rfl fun a hf => ?_
      refine S.p hf hs (.bool true) rfl rfl fun a hf => ?_
      refine S.p hf hs (.bool true) rfl rfl fun a hf => ?_
      refine S.p hf hs (.int .u8 (x1.toNat : Int)) rfl rfl fun a hf => ?_
      refine S.callv hf rfl rfl rfl (call_fn (vs := [.string (ba [95, 43, 45, 35]), .int .u8 (x1.toNat : Int)]) rfl rfl rfl Tryd.call98) (C_strings_IndexByte [95, 43, 45, 35] (x1.toNat : Int) _ ) (fun a w hf hs' => ?_)
      replace hs := hs.call hs'; clear hs'
      refine S.p hf hs (.bool (decide ((byteAt [95, 43, 45, 35] (x1.toNat : Int)) < 0))) rfl rfl fun a hf => ?_
      refine S.p hf hs (.bool (decide ((byteAt [95, 43, 45, 35] (x1.toNat : Int)) < 0))) rfl rfl fun a hf => ?_
      refine R.nil (X.then_ ?_)
      exact ⟨(decide ((byteAt [95, 43, 45, 35] (x1.toNat : Int)) < 0)), h, ((((hf.nil.cons (hf.get 39 _ rfl)).cons (hf.get 7 _ rfl)).cons (hf.get 6 _ rfl)).cons (hf.get 0 _ rfl)), hs⟩
     ·replace h := h.2 hc
      refine S.p hf hs (.int .u8 (x1.toNat : Int)) rfl rfl fun a hf => ?_
      refine S.p hf hs (.bool (decide ((x1.toNat : Int) > 57))) rfl rfl fun a hf => ?_
      refine S.p hf hs (.bool (decide ((x1.toNat : Int) > 57))) rfl rfl fun a hf => ?_
      refine S.p hf hs (.bool (decide ((x1.toNat : Int) > 57))) rfl rfl fun a hf => ?_
      refine S.split hf hs (b := decide ((x1.toNat : Int) > 57)) rfl rfl rfl (V.pure rfl) (fun hc a hf => ?_) (fun hc a hf => ?_)
      ·replace h := h.1 hc
       refine S.p hf hs (.int .u8 (x1.toNat : Int)) rfl rfl fun a hf => ?_
       refine S.callv hf rfl rfl rfl (call_fn (vs := [.string (ba [95, 43, 45, 35]), .int .u8 (x1.toNat : Int)]) rfl rfl rfl Tryd.call98) (C_strings_IndexByte [95, 43, 45, 35] (x1.toNat : Int) _ ) (fun a w hf hs' => ?_)
       replace hs := hs.call hs'; clear hs'
       refine S.p hf hs (.bool (decide ((byteAt [95, 43, 45, 35] (x1.toNat : Int)) < 0))) rfl rfl fun a hf => ?_
       refine S.p hf hs (.bool (decide ((byteAt [95, 43, 45, 35] (x1.toNat : Int)) < 0))) rfl rfl fun a hf => ?_
       refine R.nil (X.then_ ?_)
       exact ⟨(decide ((byteAt [95, 43, 45, 35] (x1.toNat : Int)) < 0)), h, ((((hf.nil.cons (hf.get 39 _ rfl)).cons (hf.get 7 _ rfl)).cons (hf.get 6 _ rfl)).cons (hf.get 0 _ rfl)), hs⟩
      ·replace h := h.2 hc
       refine S.k hf rfl fun a hf => ?_
       refine S.k hf rfl fun a hf => ?_
       refine S.k hf rfl fun a hf => ?_
       refine S.p hf hs (.bool false) rfl rfl fun a hf => ?_
       refine R.nil (X.then_ ?_)
       exact ⟨false, h, ((((hf.nil.cons (hf.get 39 _ rfl)).cons (hf.get 7 _ rfl)).cons (hf.get 6 _ rfl)).cons (hf.get 0 _ rfl)), hs⟩
    ·replace h := h.2 hc
     refine S.p hf hs (.int .u8 (x1.toNat : Int)) rfl rfl fun a hf => ?_
     refine S.p hf hs (.bool (decide ((x1.toNat : Int) > 90))) rfl rfl fun a hf => ?_
     refine S.p hf hs (.bool (decide ((x1.toNat : Int) > 90))) rfl rfl fun a hf => ?_
     refine S.p hf hs (.bool (decide ((x1.toNat : Int) > 90))) rfl rfl fun a hf => ?_
     refine S.split hf hs (b := decide ((x1.toNat : Int) > 90)) rfl rfl rfl (V.pure rfl) (fun hc a hf => ?_) (fun hc a hf => ?_)
     ·replace h := h.1 hc
      refine S.p hf hs (.int .u8 (x1.toNat : Int)) rfl rfl fun a hf => ?_
      refine S.p hf hs (.bool (decide ((x1.toNat : Int) < 48))) rfl rfl fun a hf => ?_
      refine S.split hf hs (b := decide ((x1.toNat : Int) < 48)) rfl rfl rfl (V.pure rfl) (fun hc a hf => ?_) (fun hc a hf => ?_)
      ·replace h := h.1 hc
       refine S.k hf rfl fun a hf => ?_
       refine S.k hf rfl fun a hf => ?_
       refine S.p hf hs (.bool true) rfl rfl fun a hf => ?_
       refine S.p hf hs (.bool true) rfl rfl fun a hf => ?_
       refine S.p hf hs (.bool true) rfl rfl fun a hf => ?_
       refine S.p hf hs (.int .u8 (x1.toNat : Int)) rfl rfl fun a hf => ?_
       refine S.callv hf rfl rfl rfl (call_fn (vs := [.string (ba [95, 43, 45, 35]), .int .u8 (x1.toNat : Int)]) rfl rfl rfl Tryd.call98) (C_strings_IndexByte [95, 43, 45, 35] (x1.toNat : Int) _ ) (fun a w hf hs' => ?_)
       replace hs := hs.call hs'; clear hs'
       refine S.p hf hs (.bool (decide ((byteAt [95, 43, 45, 35] (x1.toNat : Int)) < 0))) rfl rfl fun a hf => ?_
       refine S.p hf hs (.bool (decide ((byteAt [95, 43, 45, 35] (x1.toNat : Int)) < 0))) rfl rfl fun a hf => ?_
       refine R.nil (X.then_ ?_)
       exact ⟨(decide ((byteAt [95, 43, 45, 35] (x1.toNat : Int)) < 0)), h, ((((hf.nil.cons (hf.get 39 _ rfl)).cons (hf.get 7 _ rfl)).cons (hf.get 6 _ rfl)).cons (hf.get 0 _ rfl)), hs⟩
      ·replace h := h.2 hc
       refine S.p hf hs (.int .u8 (x1.toNat : Int)) rfl rfl fun a hf => ?_
       refine S.p hf hs (.bool (decide ((x1.toNat : Int) > 57))) rfl rfl fun a hf => ?_
       refine S.p hf hs (.bool (decide ((x1.toNat : Int) > 57))) rfl rfl fun a hf => ?_
       refine S.p hf hs (.bool (decide ((x1.toNat : Int) > 57))) rfl rfl fun a hf => ?_
       refine S.split hf hs (b := decide ((x1.toNat : Int) > 57)) rfl rfl rfl (V.pure rfl) (fun hc a hf => ?_) (fun hc a hf => ?_)
       ·replace h := h.1 hc
        refine S.p hf hs (.int .u8 (x1.toNat : Int)) rfl rfl fun a hf => ?_
        refine S.callv hf rfl rfl rfl (call_fn (vs := [.string (ba [95, 43, 45, 35]), .int .u8 (x1.toNat : Int)]) rfl rfl rfl Tryd.call98) (C_strings_IndexByte [95, 43, 45, 35] (x1.toNat : Int) _ ) (fun a w hf hs' => ?_)
        replace hs := hs.call hs'; clear hs'
        refine S.p hf hs (.bool (decide ((byteAt [95, 43, 45, 35] (x1.toNat : Int)) < 0))) rfl rfl fun a hf => ?_
        refine S.p hf hs (.bool (decide ((byteAt [95, 43, 45, 35] (x1.toNat : Int)) < 0))) rfl rfl fun a hf => ?_
        refine R.nil (X.then_ ?_)
        exact ⟨(decide ((byteAt [95, 43, 45, 35] (x1.toNat : Int)) < 0)), h, ((((hf.nil.cons (hf.get 39 _ rfl)).cons (hf.get 7 _ rfl)).cons (hf.get 6 _ rfl)).cons (hf.get 0 _ rfl)), hs⟩
       ·replace h := h.2 hc
        refine S.k hf rfl fun a hf => ?_
        refine S.k hf rfl fun a hf => ?_
        refine S.k hf rfl fun a hf => ?_
        refine S.p hf hs (.bool false) rfl rfl fun a hf => ?_
        refine R.nil (X.then_ ?_)
        exact ⟨false, h, ((((hf.nil.cons (hf.get 39 _ rfl)).cons (hf.get 7 _ rfl)).cons (hf.get 6 _ rfl)).cons (hf.get 0 _ rfl)), hs⟩
     ·replace h := h.2 hc
      refine S.k hf rfl fun a hf => ?_
      refine S.k hf rfl fun a hf => ?_
      refine S.k hf rfl fun a hf => ?_
      refine S.k hf rfl fun a hf => ?_
      refine S.k hf rfl fun a hf => ?_
      refine S.k hf rfl fun a hf => ?_
      refine S.p hf hs (.bool false) rfl rfl fun a hf => ?_
      refine S.p hf hs (.bool false) rfl rfl fun a hf => ?_
      refine S.k hf rfl fun a hf => ?_
      refine S.k hf rfl fun a hf => ?_
      refine S.k hf rfl fun a hf => ?_
      refine S.p hf hs (.bool false) rfl rfl fun a hf => ?_
      refine R.nil (X.then_ ?_)
      exact ⟨false, h, ((((hf.nil.cons (hf.get 39 _ rfl)).cons (hf.get 7 _ rfl)).cons (hf.get 6 _ rfl)).cons (hf.get 0 _ rfl)), hs⟩
   ·replace h := h.2 hc
    refine S.p hf hs (.int .u8 (x1.toNat : Int)) rfl rfl fun a hf => ?_
    refine S.p hf hs (.bool (decide ((x1.toNat : Int) > 122))) rfl rfl fun a hf => ?_
    refine S.p hf hs (.bool (decide ((x1.toNat : Int) > 122))) rfl rfl fun a hf => ?_
    refine S.split hf hs (b := decide ((x1.toNat : Int) > 122)) rfl rfl rfl (V.pure rfl) (fun hc a hf => ?_) (fun hc a hf => ?_)
    ·replace h := h.1 hc
     refine S.p hf hs (.int .u8 (x1.toNat : Int)) rfl rfl fun a hf => ?_
     refine S.p hf hs (.bool (decide ((x1.toNat : Int) < 65))) rfl rfl fun a hf => ?_
     refine S.split hf hs (b := decide ((x1.toNat : Int) < 65)) rfl rfl rfl (V.pure rfl) (fun hc a hf => ?_) (fun hc a hf => ?_)
     ·replace h := h.1 hc
      refine S.k hf rfl fun a hf => ?_
      refine S.k hf rfl fun a hf => ?_
      refine S.p hf hs (.bool true) rfl rfl fun a hf => ?_
      refine S.p hf hs (.bool true) rfl rfl fun a hf => ?_
      refine S.p hf hs (.bool true) rfl rfl fun a hf => ?_
      refine S.p hf hs (.int .u8 (x1.toNat : Int)) rfl rfl fun a hf => ?_
      refine S.p hf hs (.bool (decide ((x1.toNat : Int) < 48))) rfl rfl fun a hf => ?_
      refine S.split hf hs (b := decide ((x1.toNat : Int) < 48)) rfl rfl rfl (V.pure rfl) (fun hc a hf => ?_) (fun hc a hf => ?_)
      ·replace h := h.1 hc
       refine S.k hf rfl fun a hf => ?_
       refine S.k hf rfl fun a hf => ?_
       refine S.p hf hs (.bool true) rfl rfl fun a hf => ?_
       refine S.p hf hs (.bool true) rfl rfl fun a hf => ?_
       refine S.p hf hs (.bool true) rfl rfl fun a hf => ?_
       refine S.p hf hs (.int .u8 (x1.toNat : Int)) rfl rfl fun a hf => ?_
       refine S.callv hf rfl rfl rfl (call_fn (vs := [.string (ba [95, 43, 45, 35]), .int .u8 (x1.toNat : Int)]) rfl rfl rfl Tryd.call98) (C_strings_IndexByte [95, 43, 45, 35] (x1.toNat : Int) _ ) (fun a w hf hs' => ?_)
       replace hs := hs.call hs'; clear hs'
       refine S.p hf hs (.bool (decide ((byteAt [95, 43, 45, 35] (x1.toNat : Int)) < 0))) rfl rfl fun a hf => ?_
       refine S.p hf hs (.bool (decide ((byteAt [95, 43, 45, 35] (x1.toNat : Int)) < 0))) rfl rfl fun a hf => ?_
       refine R.nil (X.then_ ?_)
       exact ⟨(decide ((byteAt [95, 43, 45, 35] (x1.toNat : Int)) < 0)), h, ((((hf.nil.cons (hf.get 39 _ rfl)).cons (hf.get 7 _ rfl)).cons (hf.get 6 _ rfl)).cons (hf.get 0 _ rfl)), hs⟩
      ·replace h := h.2 hc
       refine S.p hf hs (.int .u8 (x1.toNat : Int)) rfl rfl fun a hf => ?_
       refine S.p hf hs (.bool (decide ((x1.toNat : Int) > 57))) rfl rfl fun a hf => ?_
       refine S.p hf hs (.bool (decide ((x1.toNat : Int) > 57))) rfl rfl fun a hf => ?_
       refine S.p hf hs (.bool (decide ((x1.toNat : Int) > 57))) rfl rfl fun a hf => ?_
       refine S.split hf hs (b := decide ((x1.toNat : Int) > 57)) rfl rfl rfl (V.pure rfl) (fun hc a hf => ?_) (fun hc a hf => ?_)
       ·replace h := h.1 hc
        refine S.p hf hs (.int .u8 (x1.toNat : Int)) rfl rfl fun a hf => ?_
        refine S.callv hf rfl rfl rfl (call_fn (vs := [.string (ba [95, 43, 45, 35]), .int .u8 (x1.toNat : Int)]) rfl rfl rfl Tryd.call98) (C_strings_IndexByte [95, 43, 45, 35] (x1.toNat : Int) _ ) (fun a w hf hs' => ?_)
        replace hs := hs.call hs'; clear hs'
        refine S.p hf hs (.bool (decide ((byteAt [95, 43, 45, 35] (x1.toNat : Int)) < 0))) rfl rfl fun a hf => ?_
        refine S.p hf hs (.bool (decide ((byteAt [95, 43, 45, 35] (x1.toNat : Int)) < 0))) rfl rfl fun a hf => ?_
        refine R.nil (X.then_ ?_)
        exact ⟨(decide ((byteAt [95, 43, 45, 35] (x1.toNat : Int)) < 0)), h, ((((hf.nil.cons (hf.get 39 _ rfl)).cons (hf.get 7 _ rfl)).cons (hf.get 6 _ rfl)).cons (hf.get 0 _ rfl)), hs⟩
       ·replace h := h.2 hc
        refine S.k hf rfl fun a hf => ?_
        refine S.k hf rfl fun a hf => ?_
        refine S.k hf rfl fun a hf => ?_
        refine S.p hf hs (.bool false) rfl rfl fun a hf => ?_
        refine R.nil (X.then_ ?_)
        exact ⟨false, h, ((((hf.nil.cons (hf.get 39 _ rfl)).cons (hf.get 7 _ rfl)).cons (hf.get 6 _ rfl)).cons (hf.get 0 _ rfl)), hs⟩
     ·replace h := h.2 hc
      refine S.p hf hs (.int .u8 (x1.toNat : Int)) rfl rfl fun a hf => ?_
      refine S.p hf hs (.bool (decide ((x1.toNat : Int) > 90))) rfl rfl fun a hf => ?_
      refine S.p hf hs (.bool (decide ((x1.toNat : Int) > 90))) rfl rfl fun a hf => ?_
      refine S.p hf hs (.bool (decide ((x1.toNat : Int) > 90))) rfl rfl fun a hf => ?_
      refine S.split hf hs (b := decide ((x1.toNat : Int) > 90)) rfl rfl rfl (V.pure rfl) (fun hc a hf => ?_) (fun hc a hf => ?_)
      ·replace h := h.1 hc
       refine S.p hf hs (.int .u8 (x1.toNat : Int)) rfl rfl fun a hf => ?_
       refine S.p hf hs (.bool (decide ((x1.toNat : Int) < 48))) rfl rfl fun a hf => ?_
       refine S.split hf hs (b := decide ((x1.toNat : Int) < 48)) rfl rfl rfl (V.pure rfl) (fun hc a hf => ?_) (fun hc a hf => ?_)
       ·replace h := h.1 hc
        refine S.k hf rfl fun a hf => ?_
        refine S.k hf rfl fun a hf => ?_
        refine S.p hf hs (.bool true) rfl rfl fun a hf => ?_
        refine S.p hf hs (.bool true) rfl rfl fun a hf => ?_
        refine S.p hf hs (.bool true) rfl rfl fun a hf => ?_
        refine S.p hf hs (.int .u8 (x1.toNat : Int)) rfl rfl fun a hf => ?_
        refine S.callv hf rfl rfl rfl (call_fn (vs := [.string (ba [95, 43, 45, 35]), .int .u8 (x1.toNat : Int)]) rfl rfl rfl Tryd.call98) (C_strings_IndexByte [95, 43, 45, 35] (x1.toNat : Int) _ ) (fun a w hf hs' => ?_)
        replace hs := hs.call hs'; clear hs'
        refine S.p hf hs (.bool (decide ((byteAt [95, 43, 45, 35] (x1.toNat : Int)) < 0))) rfl rfl fun a hf => ?_
        refine S.p hf hs (.bool (decide ((byteAt [95, 43, 45, 35] (x1.toNat : Int)) < 0))) rfl rfl fun a hf => ?_
        refine R.nil (X.then_ ?_)
        exact ⟨(decide ((byteAt [95, 43, 45, 35] (x1.toNat : Int)) < 0)), h, ((((hf.nil.cons (hf.get 39 _ rfl)).cons (hf.get 7 _ rfl)).cons (hf.get 6 _ rfl)).cons (hf.get 0 _ rfl)), hs⟩
       ·replace h := h.2 hc
        refine S.p hf hs (.int .u8 (x1.toNat : Int)) rfl rfl fun a hf => ?_
        refine S.p hf hs (.bool (decide ((x1.toNat : Int) > 57))) rfl rfl fun a hf => ?_
        refine S.p hf hs (.bool (decide ((x1.toNat : Int) > 57))) rfl rfl fun a hf => ?_
        refine S.p hf hs (.bool (decide ((x1.toNat : Int) > 57))) rfl rfl fun a hf => ?_
        refine S.split hf hs (b := decide ((x1.toNat : Int) > 57)) rfl rfl rfl (V.pure rfl) (fun hc a hf => ?_) (fun hc a hf => ?_)
        ·replace h := h.1 hc
         refine S.p hf hs (.int .u8 (x1.toNat : Int)) rfl rfl fun a hf => ?_
         refine S.callv hf rfl rfl rfl (call_fn (vs := [.string (ba [95, 43, 45, 35]), .int .u8 (x1.toNat : Int)]) rfl rfl rfl Tryd.call98) (C_strings_IndexByte [95, 43, 45, 35] (x1.toNat : Int) _ ) (fun a w hf hs' => ?_)
         replace hs := hs.call hs'; clear hs'
         refine S.p hf hs (.bool (decide ((byteAt [95, 43, 45, 35] (x1.toNat : Int)) < 0))) rfl rfl fun a hf => ?_
         refine S.p hf hs (.bool (decide ((byteAt [95, 43, 45, 35] (x1.toNat : Int)) < 0))) rfl rfl fun a hf => ?_
         refine R.nil (X.then_ ?_)
         exact ⟨(decide ((byteAt [95, 43, 45, 35] (x1.toNat : Int)) < 0)), h, ((((hf.nil.cons (hf.get 39 _ rfl)).cons (hf.get 7 _ rfl)).cons (hf.get 6 _ rfl)).cons (hf.get 0 _ rfl)), hs⟩
        ·replace h := h.2 hc
         refine S.k hf rfl fun a hf => ?_
         refine S.k hf rfl fun a hf => ?_
         refine S.k hf rfl fun a hf => ?_
         refine S.p hf hs (.bool false) rfl rfl fun a hf => ?_
         refine R.nil (X.then_ ?_)
         exact ⟨false, h, ((((hf.nil.cons (hf.get 39 _ rfl)).cons (hf.get 7 _ rfl)).cons (hf.get 6 _ rfl)).cons (hf.get 0 _ rfl)), hs⟩
      ·replace h := h.2 hc
       refine S.k hf rfl fun a hf => ?_
       refine S.k hf rfl fun a hf => ?_
       refine S.k hf rfl fun a hf => ?_
       refine S.k hf rfl fun a hf => ?_
       refine S.k hf rfl fun a hf => ?_
       refine S.k hf rfl fun a hf => ?_
       refine S.p hf hs (.bool false) rfl rfl fun a hf => ?_
       refine S.p hf hs (.bool false) rfl rfl fun a hf => ?_
       refine S.k hf rfl fun a hf => ?_
       refine S.k hf rfl fun a hf => ?_
       refine S.k hf rfl fun a hf => ?_
       refine S.p hf hs (.bool false) rfl rfl fun a hf => ?_
       refine R.nil (X.then_ ?_)
       exact ⟨false, h, ((((hf.nil.cons (hf.get 39 _ rfl)).cons (hf.get 7 _ rfl)).cons (hf.get 6 _ rfl)).cons (hf.get 0 _ rfl)), hs⟩
    ·replace h := h.2 hc
     refine S.k hf rfl fun a hf => ?_
     refine S.k hf rfl fun a hf => ?_
     refine S.k hf rfl fun a hf => ?_
     refine S.k hf rfl fun a hf => ?_
     refine S.k hf rfl fun a hf => ?_
     refine S.k hf rfl fun a hf => ?_
     refine S.p hf hs (.bool false) rfl rfl fun a hf => ?_
     refine S.p hf hs (.bool false) rfl rfl fun a hf => ?_
     refine S.k hf rfl fun a hf => ?_
     refine S.k hf rfl fun a hf => ?_
     refine S.k hf rfl fun a hf => ?_
     refine S.k hf rfl fun a hf => ?_
     refine S.k hf rfl fun a hf => ?_
     refine S.k hf rfl fun a hf => ?_
     refine S.p hf hs (.bool false) rfl rfl fun a hf => ?_
     refine S.p hf hs (.bool false) rfl rfl fun a hf => ?_
     refine S.k hf rfl fun a hf => ?_
     refine S.k hf rfl fun a hf => ?_
     refine S.k hf rfl fun a hf => ?_
     refine S.p hf hs (.bool false) rfl rfl fun a hf => ?_
     refine R.nil (X.then_ ?_)
     exact ⟨false, h, ((((hf.nil.cons (hf.get 39 _ rfl)).cons (hf.get 7 _ rfl)).cons (hf.get 6 _ rfl)).cons (hf.get 0 _ rfl)), hs⟩
 ·replace h := h.2 hc
  refine wp_exit (X.then_exit (X.then_exit (X.blk_exit (X.then_ (wp_seq (R.list ?_))))))
  refine S.p hf hs (.string (ba s_)) rfl rfl fun a hf => ?_
  refine S.v hf hs (iv (s_.length : Int)) rfl (V.lenStr rfl rfl Tryd.runUnderlying9) fun a hf => ?_
  refine S.callv hf rfl rfl rfl (call_fn (vs := [iv (s_.length : Int), iv 1, iv 40]) rfl rfl rfl Tryd.call51) (C_ref10_within (s_.length : Int) 1 40 _ ) (fun a w hf hs' => ?_)
  replace hs := hs.call hs'; clear hs'
  refine S.p hf hs (.bool (within (s_.length : Int) 1 40)) rfl rfl fun a hf => ?_
  refine R.nil (X.then_ (wp_ret ?_))
  exact L.ret hf (run_results1 Tryd.results75 (ResIs.tmp hf rfl)) ⟨(within (s_.length : Int) 1 40), rfl, h, hs.nil⟩
set_option linter.unusedVariables false
def M_IsPath1 (w_ : Str) (Q : Bool → Prop) : Prop :=
  M_netlist_IsWord w_ fun y1 => Q (!y1)
set_option maxHeartbeats 1000000 in
theorem R_IsPath1 (w_ : Str) (w0 : World)  (Q : Bool → Prop) (h : M_IsPath1 w_ Q) :
  Ret Tryd.prog 101 #[.string (ba w_)] w0 fun v w' => ∃ (r0 : Bool), v = .bool r0 ∧ Q r0 ∧ Sat w0 none_ [] w' := by
 refine fn_enter Tryd.func101 rfl Tryd.ntmps101 rfl (fs := [(0, .string (ba w_))]) rfl (fun a hf => ?_)
 have hs := Sat.start w0 none_
 unfold M_IsPath1 at h
 refine wp_seq (R.list ?_)
 refine S.p hf hs (.bool false) rfl rfl fun a hf => ?_
 refine R.nil (X.then_ (wp_seq (R.list ?_)))
 refine S.p hf hs (.string (ba w_)) rfl rfl fun a hf => ?_
 refine S.call hf rfl rfl rfl (call_fn (vs := [.string (ba w_)]) rfl rfl rfl Tryd.call74) (R_netlist_IsWord w_ _  _ h) (fun v a w' hf hr => ?_)
 obtain ⟨y1, rfl, h2, hs2⟩ := hr
 replace h := h2; replace hs := hs.call hs2; clear h2 hs2
 refine S.p hf hs (.bool (!y1)) rfl rfl fun a hf => ?_
 refine S.p hf hs (.bool (!y1)) rfl rfl fun a hf => ?_
 refine R.nil (X.then_ (wp_ret ?_))
 exact L.ret hf (run_results1 Tryd.results101 (ResIs.tmp hf rfl)) ⟨(!y1), rfl, h, hs.nil⟩
set_option linter.unusedVariables false
def M_indexfunc_str_L1 (Q : Int → Prop) (k1 : Nat) (xk1 : Str)  (next1 : Prop) : Prop :=
  M_IsPath1 xk1 fun y1 => cnd y1 (Q (k1 : Int)) (next1)
def M_indexfunc_str (s_ : (List Str)) (Q : Int → Prop) : Prop :=
  forIn' (fun k x (s : Unit) next => M_indexfunc_str_L1 Q k x (next ())) (fun (s : Unit) => Q (-1)) s_ 0 ()
set_option maxHeartbeats 1000000 in
theorem R_indexfunc_str (s_ : (List Str)) (w0 : World) (s_A : Option Addr) (s_C : Nat) (hv_s_ : View w0 (old w0 none_) s_A s_C s_) (Q : Int → Prop) (h : M_indexfunc_str s_ Q) :
  Ret Tryd.prog 112 #[.slice s_A s_.length s_C, .func (.func 101) #[] #[]] w0 fun v w' => ∃ (r0 : Int), v = iv r0 ∧ Q r0 ∧ Sat w0 none_ [] w' := by
 refine fn_enter Tryd.func112 rfl Tryd.ntmps112 rfl (fs := [(0, .slice s_A s_.length s_C), (1, .func (.func 101) #[] #[])]) rfl (fun a hf => ?_)
 have hs := Sat.start w0 none_
 unfold M_indexfunc_str at h
 refine wp_seq (R.list ?_)
 refine S.p hf hs (iv 0) rfl rfl fun a hf => ?_
 refine R.nil (X.then_ (wp_seq (wp_seq (R.list ?_))))
 refine S.p hf hs (.slice s_A s_.length s_C) rfl rfl fun a hf => ?_
 refine S.v hf hs (iv (s_.length : Int)) rfl (V.len rfl rfl Tryd.runUnderlying116) fun a hf => ?_
 refine S.p hf hs (iv 0) rfl rfl fun a hf => ?_
 refine R.nil (X.then_ (wp_block ?_))
 have hlenk1 := hv_s_.len64
 refine C.range (fun (ll : List Str) a w => ∃ (k1 : Nat) , s_.drop k1 = ll ∧ k1 + ll.length = s_.length ∧ forIn' (fun k x (s : Unit) next => M_indexfunc_str_L1 Q k x (next ())) (fun (s : Unit) => Q (-1)) ll k1 () ∧ FrOk 19 [(8, iv (k1 : Int)), (0, .slice s_A s_.length s_C), (1, .func (.func 101) #[] #[]), (7, iv (s_.length : Int))] a ∧ Sat w0 none_ [] w) s_ ⟨0, rfl, Nat.zero_add _, h, ((((hf.nil.cons (hf.get 7 _ rfl)).cons (hf.get 1 _ rfl)).cons (hf.get 0 _ rfl)).cons (hf.get 8 _ rfl)), hs⟩ ?_
 clear h hf hs
 rintro llk1 a w ⟨k1, hlk1, hkk1, h, hf, hs⟩
 cases llk1 with
 | nil =>
  have hc := range_done hkk1
  replace h : Q (-1) := h
  refine wp_seq (R.list ?_)
  refine S.v hf hs (.bool false) rfl (V.cmp false rfl rfl rfl rfl hc) fun a hf => ?_
  refine R.nil (X.then_ (wp_seq ?_))
  refine C.no hf rfl ?_
  refine wp_exit (X.then_exit (X.then_exit (X.blk_exit (X.then_ (wp_seq (R.list ?_))))))
  refine S.p hf hs (iv (-1)) rfl rfl fun a hf => ?_
  refine R.nil (X.then_ (wp_ret ?_))
  exact L.ret hf (run_results1 Tryd.results112 (ResIs.tmp hf rfl)) ⟨(-1), rfl, h, hs.nil⟩
 | cons xk1 llk1 =>
  have hltk1 := range_lt hkk1; have hc := range_go hkk1; have hxk1 := range_get hlk1
  obtain ⟨next1, hnext1⟩ : ∃ X : Prop, X = (forIn' (fun k x (s : Unit) next => M_indexfunc_str_L1 Q k x (next ())) (fun (s : Unit) => Q (-1)) llk1 (k1 + 1) ()) := ⟨_, rfl⟩
  replace h : M_indexfunc_str_L1 Q k1 xk1  next1 := by rw [hnext1]; exact h
  unfold M_indexfunc_str_L1 at h
  refine wp_seq (R.list ?_)
  refine S.v hf hs (.bool true) rfl (V.cmp true rfl rfl rfl rfl hc) fun a hf => ?_
  refine R.nil (X.then_ (wp_seq ?_))
  refine C.yes hf rfl ?_
  refine wp_skip (X.then_ (wp_seq (wp_block (wp_seq (R.list ?_)))))
  refine S.p hf hs (iv (k1 : Int)) rfl rfl fun a hf => ?_
  refine S.p hf hs (iv (k1 : Int)) rfl rfl fun a hf => ?_
  refine R.nil (X.then_ (wp_seq (R.list ?_)))
  refine S.p hf hs (.func (.func 101) #[] #[]) rfl rfl fun a hf => ?_
  refine S.p hf hs (.slice s_A s_.length s_C) rfl rfl fun a hf => ?_
  refine S.p hf hs (iv (k1 : Int)) rfl rfl fun a hf => ?_
  refine S.v hf hs (elemPtr s_A (k1 * 1)) rfl (V.index rfl rfl rfl Tryd.runUnderlying116 Tryd.sizeOf9 (hv_s_.some_ (lt_of_get hxk1)) (Int.natCast_nonneg _) (lt_of_get hxk1) rfl) fun a hf => ?_
  refine S.v hf hs (.string (ba xk1)) rfl (V.loadEl (off := 0) (Ag.args _ _ _) (hv_s_.flat hxk1) rfl rfl rfl Tryd.isAgg9 Tryd.sizeOf9 rfl rfl) fun a hf => ?_
  refine S.call hf rfl rfl rfl (call_fn (vs := [.string (ba xk1)]) rfl rfl rfl Tryd.call101) (R_IsPath1 xk1 _  _ h) (fun v a w' hf hr => ?_)
  obtain ⟨y1, rfl, h2, hs2⟩ := hr
  replace h := h2; replace hs := hs.call hs2; clear h2 hs2
  refine R.nil (X.then_ ?_)
  refine C.cond hf (b := y1) rfl (fun hc => ?_) (fun hc => ?_)
  ·replace h := h.1 hc
   refine wp_seq (R.list ?_)
   refine S.p hf hs (iv (k1 : Int)) rfl rfl fun a hf => ?_
   refine S.p hf hs (iv (k1 : Int)) rfl rfl fun a hf => ?_
   refine R.nil (X.then_ (wp_ret (X.blk_ret (X.then_ret (X.then_ret (X.blk_ret (X.then_ret ?_)))))))
   exact L.ret hf (run_results1 Tryd.results112 (ResIs.tmp hf rfl)) ⟨(k1 : Int), rfl, h, hs.nil⟩
  ·replace h := h.2 hc
   refine wp_skip (X.blk (X.then_ (R.list ?_)))
   refine S.v hf hs (iv ((k1 + 1 : Nat) : Int)) rfl (V.incr rfl rfl rfl hltk1 hlenk1) fun a hf => ?_
   refine S.p hf hs (iv ((k1 + 1 : Nat) : Int)) rfl rfl fun a hf => ?_
   refine R.nil (X.then_ ?_)
   exact ⟨xk1, llk1, rfl, k1 + 1, range_drop hlk1, range_len hkk1, (by rw [hnext1] at h; exact h), ((((hf.nil.cons (hf.get 7 _ rfl)).cons (hf.get 1 _ rfl)).cons (hf.get 0 _ rfl)).cons (hf.get 8 _ rfl)), hs⟩
set_option linter.unusedVariables false
def M_containsfunc_str (s_ : (List Str)) (Q : Bool → Prop) : Prop :=
  M_indexfunc_str s_ fun y1 => Q (decide (y1 ≥ 0))
set_option maxHeartbeats 1000000 in
theorem R_containsfunc_str (s_ : (List Str)) (w0 : World) (s_A : Option Addr) (s_C : Nat) (hv_s_ : View w0 (old w0 none_) s_A s_C s_) (Q : Bool → Prop) (h : M_containsfunc_str s_ Q) :
  Ret Tryd.prog 99 #[.slice s_A s_.length s_C, .func (.func 101) #[] #[]] w0 fun v w' => ∃ (r0 : Bool), v = .bool r0 ∧ Q r0 ∧ Sat w0 none_ [] w' := by
 refine fn_enter Tryd.func99 rfl Tryd.ntmps99 rfl (fs := [(0, .slice s_A s_.length s_C), (1, .func (.func 101) #[] #[])]) rfl (fun a hf => ?_)
 have hs := Sat.start w0 none_
 unfold M_containsfunc_str at h
 refine wp_seq (R.list ?_)
 refine S.p hf hs (.bool false) rfl rfl fun a hf => ?_
 refine R.nil (X.then_ (wp_seq (R.list ?_)))
 refine S.p hf hs (.slice s_A s_.length s_C) rfl rfl fun a hf => ?_
 refine S.p hf hs (.func (.func 101) #[] #[]) rfl rfl fun a hf => ?_
 refine S.call hf rfl rfl rfl (call_fn (vs := [.slice s_A s_.length s_C, .func (.func 101) #[] #[]]) rfl rfl rfl Tryd.call112) (R_indexfunc_str s_ _ s_A s_C ((Ag.args _ _ _).view hv_s_ hs) _ h) (fun v a w' hf hr => ?_)
 obtain ⟨y1, rfl, h2, hs2⟩ := hr
 replace h := h2; replace hs := hs.call hs2; clear h2 hs2
 refine S.p hf hs (.bool (decide (y1 ≥ 0))) rfl rfl fun a hf => ?_
 refine S.p hf hs (.bool (decide (y1 ≥ 0))) rfl rfl fun a hf => ?_
 refine R.nil (X.then_ (wp_ret ?_))
 exact L.ret hf (run_results1 Tryd.results99 (ResIs.tmp hf rfl)) ⟨(decide (y1 ≥ 0)), rfl, h, hs.nil⟩
set_option linter.unusedVariables false
def M_netlist_IsPath (s_ : Str) (Q : Bool → Prop) : Prop :=
  cnd (decide ((s_.length : Int) ≤ 200)) (M_strings_Split s_ [47] fun y1 => M_containsfunc_str y1 fun y2 => Q (!y2)) (Q false)
set_option maxHeartbeats 1000000 in
theorem R_netlist_IsPath (s_ : Str) (w0 : World)  (Q : Bool → Prop) (h : M_netlist_IsPath s_ Q) :
  Ret Tryd.prog 76 #[.string (ba s_)] w0 fun v w' => ∃ (r0 : Bool), v = .bool r0 ∧ Q r0 ∧ Sat w0 none_ [] w' := by
 refine fn_enter Tryd.func76 rfl Tryd.ntmps76 rfl (fs := [(0, .string (ba s_))]) rfl (fun a hf => ?_)
 have hs := Sat.start w0 none_
 unfold M_netlist_IsPath at h
 refine wp_seq (R.list ?_)
 refine S.p hf hs (.bool false) rfl rfl fun a hf => ?_
 refine R.nil (X.then_ (wp_seq (R.list ?_)))
 refine S.p hf hs (.string (ba s_)) rfl rfl fun a hf => ?_
 refine S.v hf hs (iv (s_.length : Int)) rfl (V.lenStr rfl rfl Tryd.runUnderlying9) fun a hf => ?_
 refine S.p hf hs (.bool (decide ((s_.length : Int) ≤ 200))) rfl rfl fun a hf => ?_
 refine S.split hf hs (b := decide ((s_.length : Int) ≤ 200)) rfl rfl rfl (V.pure rfl) (fun hc a hf => ?_) (fun hc a hf => ?_)
 ·replace h := h.1 hc
  refine S.p hf hs (.string (ba s_)) rfl rfl fun a hf => ?_
  refine S.call hf rfl rfl rfl (call_fn (vs := [.string (ba s_), .string (ba [47])]) rfl rfl rfl Tryd.call100) (R_strings_Split s_ [47] _  _ h) (fun v a w' hf hr => ?_)
  obtain ⟨y1, y1A, y1C, rfl, h2, hs2⟩ := hr
  replace h := h2; replace hs := hs.call hs2; clear h2 hs2
  refine S.call hf rfl rfl rfl (call_fn (vs := [.slice y1A y1.length y1C, .func (.func 101) #[] #[]]) rfl rfl rfl Tryd.call99) (R_containsfunc_str y1 _ y1A y1C (hs.ownView 0 rfl) _ h) (fun v a w' hf hr => ?_)
  obtain ⟨y2, rfl, h2, hs2⟩ := hr
  replace h := h2; replace hs := hs.call hs2; clear h2 hs2
  refine S.p hf hs (.bool (!y2)) rfl rfl fun a hf => ?_
  refine S.p hf hs (.bool (!y2)) rfl rfl fun a hf => ?_
  refine S.p hf hs (.bool (!y2)) rfl rfl fun a hf => ?_
  refine R.nil (X.then_ (wp_ret ?_))
  exact L.ret hf (run_results1 Tryd.results76 (ResIs.tmp hf rfl)) ⟨(!y2), rfl, h, hs.nil⟩
 ·replace h := h.2 hc
  refine S.k hf rfl fun a hf => ?_
  refine S.k hf rfl fun a hf => ?_
  refine S.k hf rfl fun a hf => ?_
  refine S.k hf rfl fun a hf => ?_
  refine S.p hf hs (.bool false) rfl rfl fun a hf => ?_
  refine S.p hf hs (.bool false) rfl rfl fun a hf => ?_
  refine R.nil (X.then_ (wp_ret ?_))
  exact L.ret hf (run_results1 Tryd.results76 (ResIs.tmp hf rfl)) ⟨false, rfl, h, hs.nil⟩
set_option linter.unusedVariables false
def M_ref10_isPath_L1 (Q : Bool → Prop) (k1 : Nat) (xk1 : Str)  (next1 : Prop) : Prop :=
  M_ref10_isWord xk1 fun y2 => cnd (!y2) (Q false) (next1)
def M_ref10_isPath (s_ : Str) (Q : Bool → Prop) : Prop :=
  M_strings_Split s_ [47] fun y1 => forIn' (fun k x (s : Unit) next => M_ref10_isPath_L1 Q k x (next ())) (fun (s : Unit) => Q (decide ((s_.length : Int) ≤ 200))) y1 0 ()
set_option maxHeartbeats 1000000 in
theorem R_ref10_isPath (s_ : Str) (w0 : World)  (Q : Bool → Prop) (h : M_ref10_isPath s_ Q) :
  Ret Tryd.prog 82 #[.string (ba s_)] w0 fun v w' => ∃ (r0 : Bool), v = .bool r0 ∧ Q r0 ∧ Sat w0 none_ [] w' := by
 refine fn_enter Tryd.func82 rfl Tryd.ntmps82 rfl (fs := [(0, .string (ba s_))]) rfl (fun a hf => ?_)
 have hs := Sat.start w0 none_
 unfold M_ref10_isPath at h
 refine wp_seq (R.list ?_)
 refine S.p hf hs (.bool false) rfl rfl fun a hf => ?_
 refine R.nil (X.then_ (wp_seq (wp_seq (R.list ?_))))
 refine S.p hf hs (.string (ba s_)) rfl rfl fun a hf => ?_
 refine S.call hf rfl rfl rfl (call_fn (vs := [.string (ba s_), .string (ba [47])]) rfl rfl rfl Tryd.call100) (R_strings_Split s_ [47] _  _ h) (fun v a w' hf hr => ?_)
 obtain ⟨y1, y1A, y1C, rfl, h2, hs2⟩ := hr
 replace h := h2; replace hs := hs.call hs2; clear h2 hs2
 refine S.v hf hs (iv (y1.length : Int)) rfl (V.len rfl rfl Tryd.runUnderlying116) fun a hf => ?_
 refine S.p hf hs (iv 0) rfl rfl fun a hf => ?_
 refine R.nil (X.then_ (wp_block ?_))
 have hlenk1 := (hs.ownView 0 rfl).len64
 refine C.range (fun (ll : List Str) a w => ∃ (k1 : Nat) , y1.drop k1 = ll ∧ k1 + ll.length = y1.length ∧ forIn' (fun k x (s : Unit) next => M_ref10_isPath_L1 Q k x (next ())) (fun (s : Unit) => Q (decide ((s_.length : Int) ≤ 200))) ll k1 () ∧ FrOk 19 [(8, iv (k1 : Int)), (0, .string (ba s_)), (6, .slice y1A y1.length y1C), (7, iv (y1.length : Int))] a ∧ Sat w0 none_ [hown 9 y1A y1C y1] w) y1 ⟨0, rfl, Nat.zero_add _, h, ((((hf.nil.cons (hf.get 7 _ rfl)).cons (hf.get 6 _ rfl)).cons (hf.get 0 _ rfl)).cons (hf.get 8 _ rfl)), hs⟩ ?_
 clear h hf hs
 rintro llk1 a w ⟨k1, hlk1, hkk1, h, hf, hs⟩
 cases llk1 with
 | nil =>
  have hc := range_done hkk1
  replace h : Q (decide ((s_.length : Int) ≤ 200)) := h
  refine wp_seq (R.list ?_)
  refine S.v hf hs (.bool false) rfl (V.cmp false rfl rfl rfl rfl hc) fun a hf => ?_
  refine R.nil (X.then_ (wp_seq ?_))
  refine C.no hf rfl ?_
  refine wp_exit (X.then_exit (X.then_exit (X.blk_exit (X.then_ (wp_seq (R.list ?_))))))
  refine S.p hf hs (.string (ba s_)) rfl rfl fun a hf => ?_
  refine S.v hf hs (iv (s_.length : Int)) rfl (V.lenStr rfl rfl Tryd.runUnderlying9) fun a hf => ?_
  refine S.p hf hs (.bool (decide ((s_.length : Int) ≤ 200))) rfl rfl fun a hf => ?_
  refine S.p hf hs (.bool (decide ((s_.length : Int) ≤ 200))) rfl rfl fun a hf => ?_
  refine R.nil (X.then_ (wp_ret ?_))
  exact L.ret hf (run_results1 Tryd.results82 (ResIs.tmp hf rfl)) ⟨(decide ((s_.length : Int) ≤ 200)), rfl, h, hs.nil⟩
 | cons xk1 llk1 =>
  have hltk1 := range_lt hkk1; have hc := range_go hkk1; have hxk1 := range_get hlk1
  obtain ⟨next1, hnext1⟩ : ∃ X : Prop, X = (forIn' (fun k x (s : Unit) next => M_ref10_isPath_L1 Q k x (next ())) (fun (s : Unit) => Q (decide ((s_.length : Int) ≤ 200))) llk1 (k1 + 1) ()) := ⟨_, rfl⟩
  replace h : M_ref10_isPath_L1 Q k1 xk1  next1 := by rw [hnext1]; exact h
  unfold M_ref10_isPath_L1 at h
  refine wp_seq (R.list ?_)
  refine S.v hf hs (.bool true) rfl (V.cmp true rfl rfl rfl rfl hc) fun a hf => ?_
  refine R.nil (X.then_ (wp_seq ?_))
  refine C.yes hf rfl ?_
  refine wp_skip (X.then_ (wp_seq (wp_block (wp_seq (R.list ?_)))))
  refine S.v hf hs (elemPtr y1A (k1 * 1)) rfl (V.index rfl rfl rfl Tryd.runUnderlying116 Tryd.sizeOf9 (hs.ownSome 0 rfl (lt_of_get hxk1)) (Int.natCast_nonneg _) (lt_of_get hxk1) rfl) fun a hf => ?_
  refine S.v hf hs (.string (ba xk1)) rfl (V.loadOwn (off := 0) 0 rfl hxk1 rfl rfl rfl Tryd.isAgg9 Tryd.sizeOf9 rfl rfl) fun a hf => ?_
  refine S.p hf hs (.string (ba xk1)) rfl rfl fun a hf => ?_
  refine R.nil (X.then_ (wp_seq (R.list ?_)))
  refine S.p hf hs (.string (ba xk1)) rfl rfl fun a hf => ?_
  refine S.call hf rfl rfl rfl (call_fn (vs := [.string (ba xk1)]) rfl rfl rfl Tryd.call75) (R_ref10_isWord xk1 _  _ h) (fun v a w' hf hr => ?_)
  obtain ⟨y2, rfl, h2, hs2⟩ := hr
  replace h := h2; replace hs := hs.call hs2; clear h2 hs2
  refine S.p hf hs (.bool (!y2)) rfl rfl fun a hf => ?_
  refine R.nil (X.then_ ?_)
  refine C.cond hf (b := !y2) rfl (fun hc => ?_) (fun hc => ?_)
  ·replace h := h.1 hc
   refine wp_seq (R.list ?_)
   refine S.p hf hs (.bool false) rfl rfl fun a hf => ?_
   refine R.nil (X.then_ (wp_ret (X.blk_ret (X.then_ret (X.then_ret (X.blk_ret (X.then_ret ?_)))))))
   exact L.ret hf (run_results1 Tryd.results82 (ResIs.tmp hf rfl)) ⟨false, rfl, h, hs.nil⟩
  ·replace h := h.2 hc
   refine wp_skip (X.blk (X.then_ (R.list ?_)))
   refine S.v hf hs (iv ((k1 + 1 : Nat) : Int)) rfl (V.incr rfl rfl rfl hltk1 hlenk1) fun a hf => ?_
   refine S.p hf hs (iv ((k1 + 1 : Nat) : Int)) rfl rfl fun a hf => ?_
   refine R.nil (X.then_ ?_)
   exact ⟨xk1, llk1, rfl, k1 + 1, range_drop hlk1, range_len hkk1, (by rw [hnext1] at h; exact h), ((((hf.nil.cons (hf.get 7 _ rfl)).cons (hf.get 6 _ rfl)).cons (hf.get 0 _ rfl)).cons (hf.get 8 _ rfl)), hs⟩
set_option linter.unusedVariables false
def M_shape_IsAt (n : Int) (Q : Bool → Prop) : Prop :=
  Q (within n (-1000000) 1000000)
set_option maxHeartbeats 1000000 in
theorem R_shape_IsAt (n : Int) (w0 : World)  (Q : Bool → Prop) (h : M_shape_IsAt n Q) :
  Ret Tryd.prog 102 #[iv n] w0 fun v w' => ∃ (r0 : Bool), v = .bool r0 ∧ Q r0 ∧ Sat w0 none_ [] w' := by
 refine fn_enter Tryd.func102 rfl Tryd.ntmps102 rfl (fs := [(0, iv n)]) rfl (fun a hf => ?_)
 have hs := Sat.start w0 none_
 unfold M_shape_IsAt at h
 refine wp_seq (R.list ?_)
 refine S.p hf hs (.bool false) rfl rfl fun a hf => ?_
 refine R.nil (X.then_ (wp_seq (R.list ?_)))
 refine S.p hf hs (iv n) rfl rfl fun a hf => ?_
 refine S.callv hf rfl rfl rfl (call_fn (vs := [iv n, iv (-1000000), iv 1000000]) rfl rfl rfl Tryd.call114) (C_shape_within n (-1000000) 1000000 _ ) (fun a w hf hs' => ?_)
 replace hs := hs.call hs'; clear hs'
 refine S.p hf hs (.bool (within n (-1000000) 1000000)) rfl rfl fun a hf => ?_
 refine R.nil (X.then_ (wp_ret ?_))
 exact L.ret hf (run_results1 Tryd.results102 (ResIs.tmp hf rfl)) ⟨(within n (-1000000) 1000000), rfl, h, hs.nil⟩
set_option linter.unusedVariables false
def M_shape_IsPoint (p : Point) (Q : Bool → Prop) : Prop :=
  M_shape_IsAt p.X fun y1 => cnd y1 (M_shape_IsAt p.Y fun y2 => Q y2) (Q false)
set_option maxHeartbeats 1000000 in
theorem R_shape_IsPoint (p : Point) (w0 : World)  (Q : Bool → Prop) (h : M_shape_IsPoint p Q) :
  Ret Tryd.prog 77 #[.agg #[iv p.X, iv p.Y]] w0 fun v w' => ∃ (r0 : Bool), v = .bool r0 ∧ Q r0 ∧ Sat w0 none_ [] w' := by
 refine fn_enter Tryd.func77 rfl Tryd.ntmps77 rfl (fs := [(0, .agg #[iv p.X, iv p.Y])]) rfl (fun a hf => ?_)
 have hs := Sat.start w0 none_
 unfold M_shape_IsPoint at h
 refine wp_seq (R.list ?_)
 refine S.box hf hs rfl rfl rfl [iv p.X, iv p.Y] rfl rfl rfl (fun g1 a w hf hs => ?_)
 refine S.p hf hs (.bool false) rfl rfl fun a hf => ?_
 refine R.nil (X.then_ (wp_seq (R.list ?_)))
 refine S.v hf hs ((pn g1 0)) rfl (V.fieldBox rfl rfl Tryd.runUnderlying25 rfl Tryd.sizeOf3 rfl rfl) fun a hf => ?_
 refine S.v hf hs (iv p.X) rfl (V.loadBox 0 rfl rfl rfl Tryd.isAgg3 Tryd.sizeOf3 rfl rfl) fun a hf => ?_
 refine S.call hf rfl rfl rfl (call_fn (vs := [iv p.X]) rfl rfl rfl Tryd.call102) (R_shape_IsAt p.X _  _ h) (fun v a w' hf hr => ?_)
 obtain ⟨y1, rfl, h2, hs2⟩ := hr
 replace h := h2; replace hs := hs.call hs2; clear h2 hs2
 refine S.split hf hs (b := y1) rfl rfl rfl (V.pure rfl) (fun hc a hf => ?_) (fun hc a hf => ?_)
 ·replace h := h.1 hc
  refine S.v hf hs ((pn g1 1)) rfl (V.fieldBox rfl rfl Tryd.runUnderlying25 rfl Tryd.sizeOf3 rfl rfl) fun a hf => ?_
  refine S.v hf hs (iv p.Y) rfl (V.loadBox 0 rfl rfl rfl Tryd.isAgg3 Tryd.sizeOf3 rfl rfl) fun a hf => ?_
  refine S.call hf rfl rfl rfl (call_fn (vs := [iv p.Y]) rfl rfl rfl Tryd.call102) (R_shape_IsAt p.Y _  _ h) (fun v a w' hf hr => ?_)
  obtain ⟨y2, rfl, h2, hs2⟩ := hr
  replace h := h2; replace hs := hs.call hs2; clear h2 hs2
  refine S.p hf hs (.bool y2) rfl rfl fun a hf => ?_
  refine S.p hf hs (.bool y2) rfl rfl fun a hf => ?_
  refine R.nil (X.then_ (wp_ret ?_))
  exact L.ret hf (run_results1 Tryd.results77 (ResIs.tmp hf rfl)) ⟨y2, rfl, h, hs.nil⟩
 ·replace h := h.2 hc
  refine S.k hf rfl fun a hf => ?_
  refine S.k hf rfl fun a hf => ?_
  refine S.k hf rfl fun a hf => ?_
  refine S.p hf hs (.bool false) rfl rfl fun a hf => ?_
  refine S.p hf hs (.bool false) rfl rfl fun a hf => ?_
  refine R.nil (X.then_ (wp_ret ?_))
  exact L.ret hf (run_results1 Tryd.results77 (ResIs.tmp hf rfl)) ⟨false, rfl, h, hs.nil⟩
set_option linter.unusedVariables false
def M_mount_CheckBodies_k3 (Q : Int → Prop) (next1 : Prop) (c2 : Bool) : Prop :=
  cnd c2 (Q 8) (next1)
def M_mount_CheckBodies_k2 (b : (List Body)) (Q : Int → Prop) (k1 : Nat) (xk1 : Body) (next1 : Prop) (c1 : Bool) : Prop :=
  cnd c1 (Q 1) (M_netlist_IsWord xk1.Nozzle fun y2 => cnd (!y2) (Q 5) (cnd (decide ((k1 : Int) > 0)) (idx b (w64 ((k1 : Int) - 1)) fun x1 => M_mount_CheckBodies_k3 Q next1 (strLt xk1.Typ x1.Typ || xk1.Typ == x1.Typ)) (M_mount_CheckBodies_k3 Q next1 false)))
def M_mount_CheckBodies_L1 (b : (List Body)) (Q : Int → Prop) (k1 : Nat) (xk1 : Body)  (next1 : Prop) : Prop :=
  M_netlist_IsWord xk1.Typ fun y1 => cnd (!y1) (Q 5) (cnd (!(within xk1.W 1 100000)) (M_mount_CheckBodies_k2 b Q k1 xk1 next1 true) (cnd (!(within xk1.H 1 100000)) (M_mount_CheckBodies_k2 b Q k1 xk1 next1 true) (M_mount_CheckBodies_k2 b Q k1 xk1 next1 (!(within xk1.Tall 1 100000)))))
def M_mount_CheckBodies (b : (List Body)) (Q : Int → Prop) : Prop :=
  cnd (decide ((b.length : Int) > 200)) (Q 2) (forIn' (fun k x (s : Unit) next => M_mount_CheckBodies_L1 b Q k x (next ())) (fun (s : Unit) => Q 0) b 0 ())
set_option maxHeartbeats 1000000 in
theorem R_mount_CheckBodies (b : (List Body)) (w0 : World) (bA : Option Addr) (bC : Nat) (hv_b : View w0 (old w0 none_) bA bC b) (Q : Int → Prop) (h : M_mount_CheckBodies b Q) :
  Ret Tryd.prog 33 #[.slice bA b.length bC] w0 fun v w' => ∃ (r0 : Int), v = iv r0 ∧ Q r0 ∧ Sat w0 none_ [] w' := by
 refine fn_enter Tryd.func33 rfl Tryd.ntmps33 rfl (fs := [(0, .slice bA b.length bC)]) rfl (fun a hf => ?_)
 have hs := Sat.start w0 none_
 unfold M_mount_CheckBodies at h
 refine wp_seq (R.list ?_)
 refine S.p hf hs (iv 0) rfl rfl fun a hf => ?_
 refine R.nil (X.then_ (wp_seq (wp_seq (R.list ?_))))
 refine S.p hf hs (.slice bA b.length bC) rfl rfl fun a hf => ?_
 refine S.v hf hs (iv (b.length : Int)) rfl (V.len rfl rfl Tryd.runUnderlying22) fun a hf => ?_
 refine S.p hf hs (.bool (decide ((b.length : Int) > 200))) rfl rfl fun a hf => ?_
 refine R.nil (X.then_ ?_)
 refine C.cond hf (b := decide ((b.length : Int) > 200)) rfl (fun hc => ?_) (fun hc => ?_)
 ·replace h := h.1 hc
  refine wp_seq (R.list ?_)
  refine S.p hf hs (iv 2) rfl rfl fun a hf => ?_
  refine R.nil (X.then_ (wp_ret (X.then_ret ?_)))
  exact L.ret hf (run_results1 Tryd.results33 (ResIs.tmp hf rfl)) ⟨2, rfl, h, hs.nil⟩
 ·replace h := h.2 hc
  refine wp_skip (X.then_ (wp_seq (wp_seq (R.list ?_))))
  refine S.p hf hs (.slice bA b.length bC) rfl rfl fun a hf => ?_
  refine S.v hf hs (iv (b.length : Int)) rfl (V.len rfl rfl Tryd.runUnderlying22) fun a hf => ?_
  refine S.p hf hs (iv 0) rfl rfl fun a hf => ?_
  refine R.nil (X.then_ (wp_block ?_))
  have hlenk1 := hv_b.len64
  refine C.range (fun (ll : List Body) a w => ∃ (k1 : Nat) , b.drop k1 = ll ∧ k1 + ll.length = b.length ∧ forIn' (fun k x (s : Unit) next => M_mount_CheckBodies_L1 b Q k x (next ())) (fun (s : Unit) => Q 0) ll k1 () ∧ FrOk 57 [(10, iv (k1 : Int)), (0, .slice bA b.length bC), (8, .slice bA b.length bC), (9, iv (b.length : Int))] a ∧ Sat w0 none_ [] w) b ⟨0, rfl, Nat.zero_add _, h, ((((hf.nil.cons (hf.get 9 _ rfl)).cons (hf.get 8 _ rfl)).cons (hf.get 0 _ rfl)).cons (hf.get 10 _ rfl)), hs⟩ ?_
  clear h hf hs
  rintro llk1 a w ⟨k1, hlk1, hkk1, h, hf, hs⟩
  cases llk1 with
  | nil =>
   have hc := range_done hkk1
   replace h : Q 0 := h
   refine wp_seq (R.list ?_)
   refine S.v hf hs (.bool false) rfl (V.cmp false rfl rfl rfl rfl hc) fun a hf => ?_
   refine R.nil (X.then_ (wp_seq ?_))
   refine C.no hf rfl ?_
   refine wp_exit (X.then_exit (X.then_exit (X.blk_exit (X.then_ (wp_seq (R.list ?_))))))
   refine S.p hf hs (iv 0) rfl rfl fun a hf => ?_
   refine R.nil (X.then_ (wp_ret ?_))
   exact L.ret hf (run_results1 Tryd.results33 (ResIs.tmp hf rfl)) ⟨0, rfl, h, hs.nil⟩
  | cons xk1 llk1 =>
   have hltk1 := range_lt hkk1; have hc := range_go hkk1; have hxk1 := range_get hlk1
   obtain ⟨next1, hnext1⟩ : ∃ X : Prop, X = (forIn' (fun k x (s : Unit) next => M_mount_CheckBodies_L1 b Q k x (next ())) (fun (s : Unit) => Q 0) llk1 (k1 + 1) ()) := ⟨_, rfl⟩
   replace h : M_mount_CheckBodies_L1 b Q k1 xk1  next1 := by rw [hnext1]; exact h
   unfold M_mount_CheckBodies_L1 at h
   refine wp_seq (R.list ?_)
   refine S.v hf hs (.bool true) rfl (V.cmp true rfl rfl rfl rfl hc) fun a hf => ?_
   refine R.nil (X.then_ (wp_seq ?_))
   refine C.yes hf rfl ?_
   refine wp_skip (X.then_ (wp_seq (wp_block (wp_seq (R.list ?_)))))
   refine S.p hf hs (iv (k1 : Int)) rfl rfl fun a hf => ?_
   refine S.v hf hs (elemPtr bA (k1 * 5)) rfl (V.index rfl rfl rfl Tryd.runUnderlying22 Tryd.sizeOf95 (hv_b.some_ (lt_of_get hxk1)) (Int.natCast_nonneg _) (lt_of_get hxk1) rfl) fun a hf => ?_
   refine S.v hf hs (.agg #[.string (ba xk1.Typ), iv xk1.W, iv xk1.H, iv xk1.Tall, .string (ba xk1.Nozzle)]) rfl (V.loadEl (off := 0) (Ag.args _ _ _) (hv_b.flat hxk1) rfl rfl rfl Tryd.isAgg95 Tryd.sizeOf95 rfl rfl) fun a hf => ?_
   refine S.alloc hf hs rfl rfl rfl [.string (ba []), iv 0, iv 0, iv 0, .string (ba [])] rfl Tryd.zeroValue95 rfl (fun g1 a w hf hs => ?_)
   refine S.p hf hs (iv (k1 : Int)) rfl rfl fun a hf => ?_
   refine S.storeBox 0 hf hs rfl rfl [.string (ba xk1.Typ), iv xk1.W, iv xk1.H, iv xk1.Tall, .string (ba xk1.Nozzle)] [.string (ba xk1.Typ), iv xk1.W, iv xk1.H, iv xk1.Tall, .string (ba xk1.Nozzle)] rfl rfl rfl rfl rfl Tryd.sizeOf95 rfl rfl rfl rfl (fun a w hf hs => ?_)
   refine R.nil (X.then_ (wp_block (wp_seq (R.list ?_))))
   refine S.v hf hs ((pn g1 0)) rfl (V.fieldBox rfl rfl Tryd.runUnderlying95 rfl Tryd.sizeOf9 rfl rfl) fun a hf => ?_
   refine S.v hf hs (.string (ba xk1.Typ)) rfl (V.loadBox 0 rfl rfl rfl Tryd.isAgg9 Tryd.sizeOf9 rfl rfl) fun a hf => ?_
   refine S.call hf rfl rfl rfl (call_fn (vs := [.string (ba xk1.Typ)]) rfl rfl rfl Tryd.call74) (R_netlist_IsWord xk1.Typ _  _ h) (fun v a w' hf hr => ?_)
   obtain ⟨y1, rfl, h2, hs2⟩ := hr
   replace h := h2; replace hs := hs.call hs2; clear h2 hs2
   refine S.p hf hs (.bool (!y1)) rfl rfl fun a hf => ?_
   refine S.p hf hs (.bool (!y1)) rfl rfl fun a hf => ?_
   refine R.nil (X.then_ ?_)
   refine C.cond hf (b := !y1) rfl (fun hc => ?_) (fun hc => ?_)
   ·replace h := h.1 hc
    refine wp_seq (R.list ?_)
    refine S.p hf hs (iv 5) rfl rfl fun a hf => ?_
    refine R.nil (X.then_ (wp_ret (X.blk_ret (X.blk_ret (X.then_ret (X.then_ret (X.blk_ret (X.then_ret ?_))))))))
    exact L.ret hf (run_results1 Tryd.results33 (ResIs.tmp hf rfl)) ⟨5, rfl, h, hs.nil⟩
   ·replace h := h.2 hc
    refine wp_seq ?_
    refine C.cut (J := fun a w => ∃ (c1 : Bool), M_mount_CheckBodies_k2 b Q k1 xk1 next1 c1 ∧ FrOk 57 [(0, .slice bA b.length bC), (3, iv (k1 : Int)), (4, (pn g1 0)), (8, .slice bA b.length bC), (9, iv (b.length : Int)), (10, iv (k1 : Int)), (20, .bool c1)] a ∧ Sat w0 none_ [hbox g1 95 [.string (ba xk1.Typ), iv xk1.W, iv xk1.H, iv xk1.Tall, .string (ba xk1.Nozzle)]] w) ?_ ?_
    ·rintro a w ⟨c1, h, hf, hs⟩
     unfold M_mount_CheckBodies_k2 at h
     refine C.cond hf (b := c1) rfl (fun hc => ?_) (fun hc => ?_)
     ·replace h := h.1 hc
      refine wp_seq (R.list ?_)
      refine S.p hf hs (iv 1) rfl rfl fun a hf => ?_
      refine R.nil (X.then_ (wp_ret (X.blk_ret (X.blk_ret (X.then_ret (X.then_ret (X.blk_ret (X.then_ret ?_))))))))
      exact L.ret hf (run_results1 Tryd.results33 (ResIs.tmp hf rfl)) ⟨1, rfl, h, hs.nil⟩
     ·replace h := h.2 hc
      refine wp_seq (R.list ?_)
      refine S.v hf hs ((pn g1 4)) rfl (V.fieldBox rfl rfl Tryd.runUnderlying95 rfl Tryd.sizeOf9 rfl rfl) fun a hf => ?_
      refine S.v hf hs (.string (ba xk1.Nozzle)) rfl (V.loadBox 0 rfl rfl rfl Tryd.isAgg9 Tryd.sizeOf9 rfl rfl) fun a hf => ?_
      refine S.call hf rfl rfl rfl (call_fn (vs := [.string (ba xk1.Nozzle)]) rfl rfl rfl Tryd.call74) (R_netlist_IsWord xk1.Nozzle _  _ h) (fun v a w' hf hr => ?_)
      obtain ⟨y2, rfl, h2, hs2⟩ := hr
      replace h := h2; replace hs := hs.call hs2; clear h2 hs2
      refine S.p hf hs (.bool (!y2)) rfl rfl fun a hf => ?_
      refine S.p hf hs (.bool (!y2)) rfl rfl fun a hf => ?_
      refine R.nil (X.then_ ?_)
      refine C.cond hf (b := !y2) rfl (fun hc => ?_) (fun hc => ?_)
      ·replace h := h.1 hc
       refine wp_seq (R.list ?_)
       refine S.p hf hs (iv 5) rfl rfl fun a hf => ?_
       refine R.nil (X.then_ (wp_ret (X.blk_ret (X.blk_ret (X.then_ret (X.then_ret (X.blk_ret (X.then_ret ?_))))))))
       exact L.ret hf (run_results1 Tryd.results33 (ResIs.tmp hf rfl)) ⟨5, rfl, h, hs.nil⟩
      ·replace h := h.2 hc
       refine wp_seq ?_
       refine C.cut (J := fun a w => ∃ (c2 : Bool), M_mount_CheckBodies_k3 Q next1 c2 ∧ FrOk 57 [(0, .slice bA b.length bC), (8, .slice bA b.length bC), (9, iv (b.length : Int)), (10, iv (k1 : Int)), (42, .bool c2)] a ∧ Sat w0 none_ [hbox g1 95 [.string (ba xk1.Typ), iv xk1.W, iv xk1.H, iv xk1.Tall, .string (ba xk1.Nozzle)]] w) ?_ ?_
       ·rintro a w ⟨c2, h, hf, hs⟩
        unfold M_mount_CheckBodies_k3 at h
        refine C.cond hf (b := c2) rfl (fun hc => ?_) (fun hc => ?_)
        ·replace h := h.1 hc
         refine wp_seq (R.list ?_)
         refine S.p hf hs (iv 8) rfl rfl fun a hf => ?_
         refine R.nil (X.then_ (wp_ret (X.blk_ret (X.blk_ret (X.then_ret (X.then_ret (X.blk_ret (X.then_ret ?_))))))))
         exact L.ret hf (run_results1 Tryd.results33 (ResIs.tmp hf rfl)) ⟨8, rfl, h, hs.nil⟩
        ·replace h := h.2 hc
         refine wp_skip (X.blk (X.blk (X.then_ (R.list ?_))))
         refine S.v hf hs (iv ((k1 + 1 : Nat) : Int)) rfl (V.incr rfl rfl rfl hltk1 hlenk1) fun a hf => ?_
         refine S.p hf hs (iv ((k1 + 1 : Nat) : Int)) rfl rfl fun a hf => ?_
         refine R.nil (X.then_ ?_)
         exact ⟨xk1, llk1, rfl, k1 + 1, range_drop hlk1, range_len hkk1, (by rw [hnext1] at h; exact h), ((((hf.nil.cons (hf.get 9 _ rfl)).cons (hf.get 8 _ rfl)).cons (hf.get 0 _ rfl)).cons (hf.get 10 _ rfl)), hs.drop⟩
       ·skip
        refine R.draw mo (by kernel_rfl) hs ?_
        refine D.p hf (iv (k1 : Int)) rfl rfl fun a hf => ?_
        refine D.p hf (.bool (decide ((k1 : Int) > 0))) rfl rfl fun a hf => ?_
        refine D.split hf (b := decide ((k1 : Int) > 0)) rfl rfl rfl (V.pure rfl) (fun hc a hf => ?_) (fun hc a hf => ?_)
        ·replace h := h.1 hc
         refine D.v hf ((pn g1 0)) rfl (V.fieldBox rfl rfl Tryd.runUnderlying95 rfl Tryd.sizeOf9 rfl rfl) fun a hf => ?_
         refine D.v hf (.string (ba xk1.Typ)) rfl (V.loadBox 0 rfl rfl rfl Tryd.isAgg9 Tryd.sizeOf9 rfl rfl) fun a hf => ?_
         refine D.p hf (.slice bA b.length bC) rfl rfl fun a hf => ?_
         refine D.p hf (iv (k1 : Int)) rfl rfl fun a hf => ?_
         refine D.p hf (iv (w64 ((k1 : Int) - 1))) rfl rfl fun a hf => ?_
         obtain ⟨h0x1, x1, hx1, h⟩ := h
         refine D.v hf (elemPtr bA ((w64 ((k1 : Int) - 1)).toNat * 5)) rfl (V.index rfl rfl rfl Tryd.runUnderlying22 Tryd.sizeOf95 (hv_b.some_ (lt_of_get hx1)) h0x1 (lt_of_get hx1) rfl) fun a hf => ?_
         refine D.v hf (elemPtr bA ((w64 ((k1 : Int) - 1)).toNat * 5)) rfl (V.fieldEl rfl rfl (hv_b.some_ (lt_of_get hx1)) Tryd.runUnderlying95 rfl Tryd.sizeOf9 rfl rfl) fun a hf => ?_
         refine D.v hf (.string (ba x1.Typ)) rfl (V.loadEl (off := 0) (Ag.args _ _ _) (hv_b.flat hx1) rfl rfl rfl Tryd.isAgg9 Tryd.sizeOf9 rfl rfl) fun a hf => ?_
         refine D.v hf (.bool (strLt xk1.Typ x1.Typ || xk1.Typ == x1.Typ)) rfl (V.strCmp (strLt xk1.Typ x1.Typ || xk1.Typ == x1.Typ) rfl rfl rfl rfl) fun a hf => ?_
         refine D.p hf (.bool (strLt xk1.Typ x1.Typ || xk1.Typ == x1.Typ)) rfl rfl fun a hf => ?_
         refine D.p hf (.bool (strLt xk1.Typ x1.Typ || xk1.Typ == x1.Typ)) rfl rfl fun a hf => ?_
         refine D.done (fun w hs => ?_)
         refine X.then_ ?_
         exact ⟨(strLt xk1.Typ x1.Typ || xk1.Typ == x1.Typ), h, (((((hf.nil.cons (hf.get 42 _ rfl)).cons (hf.get 10 _ rfl)).cons (hf.get 9 _ rfl)).cons (hf.get 8 _ rfl)).cons (hf.get 0 _ rfl)), hs⟩
        ·replace h := h.2 hc
         refine D.k hf rfl fun a hf => ?_
         refine D.k hf rfl fun a hf => ?_
         refine D.k hf rfl fun a hf => ?_
         refine D.k hf rfl fun a hf => ?_
         refine D.k hf rfl fun a hf => ?_
         refine D.k hf rfl fun a hf => ?_
         refine D.k hf rfl fun a hf => ?_
         refine D.k hf rfl fun a hf => ?_
         refine D.k hf rfl fun a hf => ?_
         refine D.p hf (.bool false) rfl rfl fun a hf => ?_
         refine D.p hf (.bool false) rfl rfl fun a hf => ?_
         refine D.done (fun w hs => ?_)
         refine X.then_ ?_
         exact ⟨false, h, (((((hf.nil.cons (hf.get 42 _ rfl)).cons (hf.get 10 _ rfl)).cons (hf.get 9 _ rfl)).cons (hf.get 8 _ rfl)).cons (hf.get 0 _ rfl)), hs⟩
    ·skip
     refine R.list ?_
     refine S.v hf hs ((pn g1 1)) rfl (V.fieldBox rfl rfl Tryd.runUnderlying95 rfl Tryd.sizeOf3 rfl rfl) fun a hf => ?_
     refine S.v hf hs (iv xk1.W) rfl (V.loadBox 0 rfl rfl rfl Tryd.isAgg3 Tryd.sizeOf3 rfl rfl) fun a hf => ?_
     refine S.callv hf rfl rfl rfl (call_fn (vs := [iv xk1.W, iv 1, iv 100000]) rfl rfl rfl Tryd.call47) (C_mount_within xk1.W 1 100000 _ ) (fun a w hf hs' => ?_)
     replace hs := hs.call hs'; clear hs'
     refine S.p hf hs (.bool (!(within xk1.W 1 100000))) rfl rfl fun a hf => ?_
     refine S.split hf hs (b := !(within xk1.W 1 100000)) rfl rfl rfl (V.pure rfl) (fun hc a hf => ?_) (fun hc a hf => ?_)
     ·replace h := h.1 hc
      refine S.k hf rfl fun a hf => ?_
      refine S.k hf rfl fun a hf => ?_
      refine S.k hf rfl fun a hf => ?_
      refine S.k hf rfl fun a hf => ?_
      refine S.p hf hs (.bool true) rfl rfl fun a hf => ?_
      refine S.p hf hs (.bool true) rfl rfl fun a hf => ?_
      refine S.k hf rfl fun a hf => ?_
      refine S.k hf rfl fun a hf => ?_
      refine S.k hf rfl fun a hf => ?_
      refine S.k hf rfl fun a hf => ?_
      refine S.p hf hs (.bool true) rfl rfl fun a hf => ?_
      refine S.p hf hs (.bool true) rfl rfl fun a hf => ?_
      refine R.nil (X.then_ ?_)
      exact ⟨true, h, (((((((hf.nil.cons (hf.get 20 _ rfl)).cons (hf.get 10 _ rfl)).cons (hf.get 9 _ rfl)).cons (hf.get 8 _ rfl)).cons (hf.get 4 _ rfl)).cons (hf.get 3 _ rfl)).cons (hf.get 0 _ rfl)), hs⟩
     ·replace h := h.2 hc
      refine S.v hf hs ((pn g1 2)) rfl (V.fieldBox rfl rfl Tryd.runUnderlying95 rfl Tryd.sizeOf3 rfl rfl) fun a hf => ?_
      refine S.v hf hs (iv xk1.H) rfl (V.loadBox 0 rfl rfl rfl Tryd.isAgg3 Tryd.sizeOf3 rfl rfl) fun a hf => ?_
      refine S.callv hf rfl rfl rfl (call_fn (vs := [iv xk1.H, iv 1, iv 100000]) rfl rfl rfl Tryd.call47) (C_mount_within xk1.H 1 100000 _ ) (fun a w hf hs' => ?_)
      replace hs := hs.call hs'; clear hs'
      refine S.p hf hs (.bool (!(within xk1.H 1 100000))) rfl rfl fun a hf => ?_
      refine S.p hf hs (.bool (!(within xk1.H 1 100000))) rfl rfl fun a hf => ?_
      refine S.split hf hs (b := !(within xk1.H 1 100000)) rfl rfl rfl (V.pure rfl) (fun hc a hf => ?_) (fun hc a hf => ?_)
      ·replace h := h.1 hc
       refine S.k hf rfl fun a hf => ?_
       refine S.k hf rfl fun a hf => ?_
       refine S.k hf rfl fun a hf => ?_
       refine S.k hf rfl fun a hf => ?_
       refine S.p hf hs (.bool true) rfl rfl fun a hf => ?_
       refine S.p hf hs (.bool true) rfl rfl fun a hf => ?_
       refine R.nil (X.then_ ?_)
       exact ⟨true, h, (((((((hf.nil.cons (hf.get 20 _ rfl)).cons (hf.get 10 _ rfl)).cons (hf.get 9 _ rfl)).cons (hf.get 8 _ rfl)).cons (hf.get 4 _ rfl)).cons (hf.get 3 _ rfl)).cons (hf.get 0 _ rfl)), hs⟩
      ·replace h := h.2 hc
       refine S.v hf hs ((pn g1 3)) rfl (V.fieldBox rfl rfl Tryd.runUnderlying95 rfl Tryd.sizeOf3 rfl rfl) fun a hf => ?_
       refine S.v hf hs (iv xk1.Tall) rfl (V.loadBox 0 rfl rfl rfl Tryd.isAgg3 Tryd.sizeOf3 rfl rfl) fun a hf => ?_
       refine S.callv hf rfl rfl rfl (call_fn (vs := [iv xk1.Tall, iv 1, iv 100000]) rfl rfl rfl Tryd.call47) (C_mount_within xk1.Tall 1 100000 _ ) (fun a w hf hs' => ?_)
       replace hs := hs.call hs'; clear hs'
       refine S.p hf hs (.bool (!(within xk1.Tall 1 100000))) rfl rfl fun a hf => ?_
       refine S.p hf hs (.bool (!(within xk1.Tall 1 100000))) rfl rfl fun a hf => ?_
       refine S.p hf hs (.bool (!(within xk1.Tall 1 100000))) rfl rfl fun a hf => ?_
       refine R.nil (X.then_ ?_)
       exact ⟨(!(within xk1.Tall 1 100000)), h, (((((((hf.nil.cons (hf.get 20 _ rfl)).cons (hf.get 10 _ rfl)).cons (hf.get 9 _ rfl)).cons (hf.get 8 _ rfl)).cons (hf.get 4 _ rfl)).cons (hf.get 3 _ rfl)).cons (hf.get 0 _ rfl)), hs⟩
set_option linter.unusedVariables false
def M_ref10_CheckBodies_k3 (Q : Int → Prop) (next1 : Prop) (c2 : Bool) : Prop :=
  cnd c2 (Q 8) (next1)
def M_ref10_CheckBodies_k2 (b : (List Body)) (Q : Int → Prop) (k1 : Nat) (xk1 : Body) (next1 : Prop) (c1 : Bool) : Prop :=
  cnd c1 (Q 1) (M_ref10_isWord xk1.Nozzle fun y2 => cnd (!y2) (Q 5) (cnd (decide ((k1 : Int) > 0)) (idx b (w64 ((k1 : Int) - 1)) fun x1 => M_ref10_CheckBodies_k3 Q next1 (strLt xk1.Typ x1.Typ || xk1.Typ == x1.Typ)) (M_ref10_CheckBodies_k3 Q next1 false)))
def M_ref10_CheckBodies_L1 (b : (List Body)) (Q : Int → Prop) (k1 : Nat) (xk1 : Body)  (next1 : Prop) : Prop :=
  M_ref10_isWord xk1.Typ fun y1 => cnd (!y1) (Q 5) (cnd (!(within xk1.W 1 100000)) (M_ref10_CheckBodies_k2 b Q k1 xk1 next1 true) (cnd (!(within xk1.H 1 100000)) (M_ref10_CheckBodies_k2 b Q k1 xk1 next1 true) (M_ref10_CheckBodies_k2 b Q k1 xk1 next1 (!(within xk1.Tall 1 100000)))))
def M_ref10_CheckBodies (b : (List Body)) (Q : Int → Prop) : Prop :=
  cnd (decide ((b.length : Int) > 200)) (Q 2) (forIn' (fun k x (s : Unit) next => M_ref10_CheckBodies_L1 b Q k x (next ())) (fun (s : Unit) => Q 0) b 0 ())
set_option maxHeartbeats 1000000 in
theorem R_ref10_CheckBodies (b : (List Body)) (w0 : World) (bA : Option Addr) (bC : Nat) (hv_b : View w0 (old w0 none_) bA bC b) (Q : Int → Prop) (h : M_ref10_CheckBodies b Q) :
  Ret Tryd.prog 34 #[.slice bA b.length bC] w0 fun v w' => ∃ (r0 : Int), v = iv r0 ∧ Q r0 ∧ Sat w0 none_ [] w' := by
 refine fn_enter Tryd.func34 rfl Tryd.ntmps34 rfl (fs := [(0, .slice bA b.length bC)]) rfl (fun a hf => ?_)
 have hs := Sat.start w0 none_
 unfold M_ref10_CheckBodies at h
 refine wp_seq (R.list ?_)
 refine S.p hf hs (iv 0) rfl rfl fun a hf => ?_
 refine R.nil (X.then_ (wp_seq (wp_seq (R.list ?_))))
 refine S.p hf hs (.slice bA b.length bC) rfl rfl fun a hf => ?_
 refine S.v hf hs (iv (b.length : Int)) rfl (V.len rfl rfl Tryd.runUnderlying22) fun a hf => ?_
 refine S.p hf hs (.bool (decide ((b.length : Int) > 200))) rfl rfl fun a hf => ?_
 refine R.nil (X.then_ ?_)
 refine C.cond hf (b := decide ((b.length : Int) > 200)) rfl (fun hc => ?_) (fun hc => ?_)
 ·replace h := h.1 hc
  refine wp_seq (R.list ?_)
  refine S.p hf hs (iv 2) rfl rfl fun a hf => ?_
  refine R.nil (X.then_ (wp_ret (X.then_ret ?_)))
  exact L.ret hf (run_results1 Tryd.results34 (ResIs.tmp hf rfl)) ⟨2, rfl, h, hs.nil⟩
 ·replace h := h.2 hc
  refine wp_skip (X.then_ (wp_seq (wp_seq (R.list ?_))))
  refine S.p hf hs (.slice bA b.length bC) rfl rfl fun a hf => ?_
  refine S.v hf hs (iv (b.length : Int)) rfl (V.len rfl rfl Tryd.runUnderlying22) fun a hf => ?_
  refine S.p hf hs (iv 0) rfl rfl fun a hf => ?_
  refine R.nil (X.then_ (wp_block ?_))
  have hlenk1 := hv_b.len64
  refine C.range (fun (ll : List Body) a w => ∃ (k1 : Nat) , b.drop k1 = ll ∧ k1 + ll.length = b.length ∧ forIn' (fun k x (s : Unit) next => M_ref10_CheckBodies_L1 b Q k x (next ())) (fun (s : Unit) => Q 0) ll k1 () ∧ FrOk 57 [(10, iv (k1 : Int)), (0, .slice bA b.length bC), (8, .slice bA b.length bC), (9, iv (b.length : Int))] a ∧ Sat w0 none_ [] w) b ⟨0, rfl, Nat.zero_add _, h, ((((hf.nil.cons (hf.get 9 _ rfl)).cons (hf.get 8 _ rfl)).cons (hf.get 0 _ rfl)).cons (hf.get 10 _ rfl)), hs⟩ ?_
  clear h hf hs
  rintro llk1 a w ⟨k1, hlk1, hkk1, h, hf, hs⟩
  cases llk1 with
  | nil =>
   have hc := range_done hkk1
   replace h : Q 0 := h
   refine wp_seq (R.list ?_)
   refine S.v hf hs (.bool false) rfl (V.cmp false rfl rfl rfl rfl hc) fun a hf => ?_
   refine R.nil (X.then_ (wp_seq ?_))
   refine C.no hf rfl ?_
   refine wp_exit (X.then_exit (X.then_exit (X.blk_exit (X.then_ (wp_seq (R.list ?_))))))
   refine S.p hf hs (iv 0) rfl rfl fun a hf => ?_
   refine R.nil (X.then_ (wp_ret ?_))
   exact L.ret hf (run_results1 Tryd.results34 (ResIs.tmp hf rfl)) ⟨0, rfl, h, hs.nil⟩
  | cons xk1 llk1 =>
   have hltk1 := range_lt hkk1; have hc := range_go hkk1; have hxk1 := range_get hlk1
   obtain ⟨next1, hnext1⟩ : ∃ X : Prop, X = (forIn' (fun k x (s : Unit) next => M_ref10_CheckBodies_L1 b Q k x (next ())) (fun (s : Unit) => Q 0) llk1 (k1 + 1) ()) := ⟨_, rfl⟩
   replace h : M_ref10_CheckBodies_L1 b Q k1 xk1  next1 := by rw [hnext1]; exact h
   unfold M_ref10_CheckBodies_L1 at h
   refine wp_seq (R.list ?_)
   refine S.v hf hs (.bool true) rfl (V.cmp true rfl rfl rfl rfl hc) fun a hf => ?_
   refine R.nil (X.then_ (wp_seq ?_))
   refine C.yes hf rfl ?_
   refine wp_skip (X.then_ (wp_seq (wp_block (wp_seq (R.list ?_)))))
   refine S.p hf hs (iv (k1 : Int)) rfl rfl fun a hf => ?_
   refine S.v hf hs (elemPtr bA (k1 * 5)) rfl (V.index rfl rfl rfl Tryd.runUnderlying22 Tryd.sizeOf95 (hv_b.some_ (lt_of_get hxk1)) (Int.natCast_nonneg _) (lt_of_get hxk1) rfl) fun a hf => ?_
   refine S.v hf hs (.agg #[.string (ba xk1.Typ), iv xk1.W, iv xk1.H, iv xk1.Tall, .string (ba xk1.Nozzle)]) rfl (V.loadEl (off := 0) (Ag.args _ _ _) (hv_b.flat hxk1) rfl rfl rfl Tryd.isAgg95 Tryd.sizeOf95 rfl rfl) fun a hf => ?_
   refine S.alloc hf hs rfl rfl rfl [.string (ba []), iv 0, iv 0, iv 0, .string (ba [])] rfl Tryd.zeroValue95 rfl (fun g1 a w hf hs => ?_)
   refine S.p hf hs (iv (k1 : Int)) rfl rfl fun a hf => ?_
   refine S.storeBox 0 hf hs rfl rfl [.string (ba xk1.Typ), iv xk1.W, iv xk1.H, iv xk1.Tall, .string (ba xk1.Nozzle)] [.string (ba xk1.Typ), iv xk1.W, iv xk1.H, iv xk1.Tall, .string (ba xk1.Nozzle)] rfl rfl rfl rfl rfl Tryd.sizeOf95 rfl rfl rfl rfl (fun a w hf hs => ?_)
   refine R.nil (X.then_ (wp_block (wp_seq (R.list ?_))))
   refine S.v hf hs ((pn g1 0)) rfl (V.fieldBox rfl rfl Tryd.runUnderlying95 rfl Tryd.sizeOf9 rfl rfl) fun a hf => ?_
   refine S.v hf hs (.string (ba xk1.Typ)) rfl (V.loadBox 0 rfl rfl rfl Tryd.isAgg9 Tryd.sizeOf9 rfl rfl) fun a hf => ?_
   refine S.call hf rfl rfl rfl (call_fn (vs := [.string (ba xk1.Typ)]) rfl rfl rfl Tryd.call75) (R_ref10_isWord xk1.Typ _  _ h) (fun v a w' hf hr => ?_)
   obtain ⟨y1, rfl, h2, hs2⟩ := hr
   replace h := h2; replace hs := hs.call hs2; clear h2 hs2
   refine S.p hf hs (.bool (!y1)) rfl rfl fun a hf => ?_
   refine S.p hf hs (.bool (!y1)) rfl rfl fun a hf => ?_
   refine R.nil (X.then_ ?_)
   refine C.cond hf (b := !y1) rfl (fun hc => ?_) (fun hc => ?_)
   ·replace h := h.1 hc
    refine wp_seq (R.list ?_)
    refine S.p hf hs (iv 5) rfl rfl fun a hf => ?_
    refine R.nil (X.then_ (wp_ret (X.blk_ret (X.blk_ret (X.then_ret (X.then_ret (X.blk_ret (X.then_ret ?_))))))))
    exact L.ret hf (run_results1 Tryd.results34 (ResIs.tmp hf rfl)) ⟨5, rfl, h, hs.nil⟩
   ·replace h := h.2 hc
    refine wp_seq ?_
    refine C.cut (J := fun a w => ∃ (c1 : Bool), M_ref10_CheckBodies_k2 b Q k1 xk1 next1 c1 ∧ FrOk 57 [(0, .slice bA b.length bC), (3, iv (k1 : Int)), (4, (pn g1 0)), (8, .slice bA b.length bC), (9, iv (b.length : Int)), (10, iv (k1 : Int)), (20, .bool c1)] a ∧ Sat w0 none_ [hbox g1 95 [.string (ba xk1.Typ), iv xk1.W, iv xk1.H, iv xk1.Tall, .string (ba xk1.Nozzle)]] w) ?_ ?_
    ·rintro a w ⟨c1, h, hf, hs⟩
     unfold M_ref10_CheckBodies_k2 at h
     refine C.cond hf (b := c1) rfl (fun hc => ?_) (fun hc => ?_)
     ·replace h := h.1 hc
      refine wp_seq (R.list ?_)
      refine S.p hf hs (iv 1) rfl rfl fun a hf => ?_
      refine R.nil (X.then_ (wp_ret (X.blk_ret (X.blk_ret (X.then_ret (X.then_ret (X.blk_ret (X.then_ret ?_))))))))
      exact L.ret hf (run_results1 Tryd.results34 (ResIs.tmp hf rfl)) ⟨1, rfl, h, hs.nil⟩
     ·replace h := h.2 hc
      refine wp_seq (R.list ?_)
      refine S.v hf hs ((pn g1 4)) rfl (V.fieldBox rfl rfl Tryd.runUnderlying95 rfl Tryd.sizeOf9 rfl rfl) fun a hf => ?_
      refine S.v hf hs (.string (ba xk1.Nozzle)) rfl (V.loadBox 0 rfl rfl rfl Tryd.isAgg9 Tryd.sizeOf9 rfl rfl) fun a hf => ?_
      refine S.call hf rfl rfl rfl (call_fn (vs := [.string (ba xk1.Nozzle)]) rfl rfl rfl Tryd.call75) (R_ref10_isWord xk1.Nozzle _  _ h) (fun v a w' hf hr => ?_)
      obtain ⟨y2, rfl, h2, hs2⟩ := hr
      replace h := h2; replace hs := hs.call hs2; clear h2 hs2
      refine S.p hf hs (.bool (!y2)) rfl rfl fun a hf => ?_
      refine S.p hf hs (.bool (!y2)) rfl rfl fun a hf => ?_
      refine R.nil (X.then_ ?_)
      refine C.cond hf (b := !y2) rfl (fun hc => ?_) (fun hc => ?_)
      ·replace h := h.1 hc
       refine wp_seq (R.list ?_)
       refine S.p hf hs (iv 5) rfl rfl fun a hf => ?_
       refine R.nil (X.then_ (wp_ret (X.blk_ret (X.blk_ret (X.then_ret (X.then_ret (X.blk_ret (X.then_ret ?_))))))))
       exact L.ret hf (run_results1 Tryd.results34 (ResIs.tmp hf rfl)) ⟨5, rfl, h, hs.nil⟩
      ·replace h := h.2 hc
       refine wp_seq ?_
       refine C.cut (J := fun a w => ∃ (c2 : Bool), M_ref10_CheckBodies_k3 Q next1 c2 ∧ FrOk 57 [(0, .slice bA b.length bC), (8, .slice bA b.length bC), (9, iv (b.length : Int)), (10, iv (k1 : Int)), (42, .bool c2)] a ∧ Sat w0 none_ [hbox g1 95 [.string (ba xk1.Typ), iv xk1.W, iv xk1.H, iv xk1.Tall, .string (ba xk1.Nozzle)]] w) ?_ ?_
       ·rintro a w ⟨c2, h, hf, hs⟩
        unfold M_ref10_CheckBodies_k3 at h
        refine C.cond hf (b := c2) rfl (fun hc => ?_) (fun hc => ?_)
        ·replace h := h.1 hc
         refine wp_seq (R.list ?_)
         refine S.p hf hs (iv 8) rfl rfl fun a hf => ?_
         refine R.nil (X.then_ (wp_ret (X.blk_ret (X.blk_ret (X.then_ret (X.then_ret (X.blk_ret (X.then_ret ?_))))))))
         exact L.ret hf (run_results1 Tryd.results34 (ResIs.tmp hf rfl)) ⟨8, rfl, h, hs.nil⟩
        ·replace h := h.2 hc
         refine wp_skip (X.blk (X.blk (X.then_ (R.list ?_))))
         refine S.v hf hs (iv ((k1 + 1 : Nat) : Int)) rfl (V.incr rfl rfl rfl hltk1 hlenk1) fun a hf => ?_
         refine S.p hf hs (iv ((k1 + 1 : Nat) : Int)) rfl rfl fun a hf => ?_
         refine R.nil (X.then_ ?_)
         exact ⟨xk1, llk1, rfl, k1 + 1, range_drop hlk1, range_len hkk1, (by rw [hnext1] at h; exact h), ((((hf.nil.cons (hf.get 9 _ rfl)).cons (hf.get 8 _ rfl)).cons (hf.get 0 _ rfl)).cons (hf.get 10 _ rfl)), hs.drop⟩
       ·skip
        refine R.draw mo (by kernel_rfl) hs ?_
        refine D.p hf (iv (k1 : Int)) rfl rfl fun a hf => ?_
        refine D.p hf (.bool (decide ((k1 : Int) > 0))) rfl rfl fun a hf => ?_
        refine D.split hf (b := decide ((k1 : Int) > 0)) rfl rfl rfl (V.pure rfl) (fun hc a hf => ?_) (fun hc a hf => ?_)
        ·replace h := h.1 hc
         refine D.v hf ((pn g1 0)) rfl (V.fieldBox rfl rfl Tryd.runUnderlying95 rfl Tryd.sizeOf9 rfl rfl) fun a hf => ?_
         refine D.v hf (.string (ba xk1.Typ)) rfl (V.loadBox 0 rfl rfl rfl Tryd.isAgg9 Tryd.sizeOf9 rfl rfl) fun a hf => ?_
         refine D.p hf (.slice bA b.length bC) rfl rfl fun a hf => ?_
         refine D.p hf (iv (k1 : Int)) rfl rfl fun a hf => ?_
         refine D.p hf (iv (w64 ((k1 : Int) - 1))) rfl rfl fun a hf => ?_
         obtain ⟨h0x1, x1, hx1, h⟩ := h
         refine D.v hf (elemPtr bA ((w64 ((k1 : Int) - 1)).toNat * 5)) rfl (V.index rfl rfl rfl Tryd.runUnderlying22 Tryd.sizeOf95 (hv_b.some_ (lt_of_get hx1)) h0x1 (lt_of_get hx1) rfl) fun a hf => ?_
         refine D.v hf (elemPtr bA ((w64 ((k1 : Int) - 1)).toNat * 5)) rfl (V.fieldEl rfl rfl (hv_b.some_ (lt_of_get hx1)) Tryd.runUnderlying95 rfl Tryd.sizeOf9 rfl rfl) fun a hf => ?_
         refine D.v hf (.string (ba x1.Typ)) rfl (V.loadEl (off := 0) (Ag.args _ _ _) (hv_b.flat hx1) rfl rfl rfl Tryd.isAgg9 Tryd.sizeOf9 rfl rfl) fun a hf => ?_
         refine D.v hf (.bool (strLt xk1.Typ x1.Typ || xk1.Typ == x1.Typ)) rfl (V.strCmp (strLt xk1.Typ x1.Typ || xk1.Typ == x1.Typ) rfl rfl rfl rfl) fun a hf => ?_
         refine D.p hf (.bool (strLt xk1.Typ x1.Typ || xk1.Typ == x1.Typ)) rfl rfl fun a hf => ?_
         refine D.p hf (.bool (strLt xk1.Typ x1.Typ || xk1.Typ == x1.Typ)) rfl rfl fun a hf => ?_
         refine D.done (fun w hs => ?_)
         refine X.then_ ?_
         exact ⟨(strLt xk1.Typ x1.Typ || xk1.Typ == x1.Typ), h, (((((hf.nil.cons (hf.get 42 _ rfl)).cons (hf.get 10 _ rfl)).cons (hf.get 9 _ rfl)).cons (hf.get 8 _ rfl)).cons (hf.get 0 _ rfl)), hs⟩
        ·replace h := h.2 hc
         refine D.k hf rfl fun a hf => ?_
         refine D.k hf rfl fun a hf => ?_
         refine D.k hf rfl fun a hf => ?_
         refine D.k hf rfl fun a hf => ?_
         refine D.k hf rfl fun a hf => ?_
         refine D.k hf rfl fun a hf => ?_
         refine D.k hf rfl fun a hf => ?_
         refine D.k hf rfl fun a hf => ?_
         refine D.k hf rfl fun a hf => ?_
         refine D.p hf (.bool false) rfl rfl fun a hf => ?_
         refine D.p hf (.bool false) rfl rfl fun a hf => ?_
         refine D.done (fun w hs => ?_)
         refine X.then_ ?_
         exact ⟨false, h, (((((hf.nil.cons (hf.get 42 _ rfl)).cons (hf.get 10 _ rfl)).cons (hf.get 9 _ rfl)).cons (hf.get 8 _ rfl)).cons (hf.get 0 _ rfl)), hs⟩
    ·skip
     refine R.list ?_
     refine S.v hf hs ((pn g1 1)) rfl (V.fieldBox rfl rfl Tryd.runUnderlying95 rfl Tryd.sizeOf3 rfl rfl) fun a hf => ?_
     refine S.v hf hs (iv xk1.W) rfl (V.loadBox 0 rfl rfl rfl Tryd.isAgg3 Tryd.sizeOf3 rfl rfl) fun a hf => ?_
     refine S.callv hf rfl rfl rfl (call_fn (vs := [iv xk1.W, iv 1, iv 100000]) rfl rfl rfl Tryd.call51) (C_ref10_within xk1.W 1 100000 _ ) (fun a w hf hs' => ?_)
     replace hs := hs.call hs'; clear hs'
     refine S.p hf hs (.bool (!(within xk1.W 1 100000))) rfl rfl fun a hf => ?_
     refine S.split hf hs (b := !(within xk1.W 1 100000)) rfl rfl rfl (V.pure rfl) (fun hc a hf => ?_) (fun hc a hf => ?_)
     ·replace h := h.1 hc
      refine S.k hf rfl fun a hf => ?_
      refine S.k hf rfl fun a hf => ?_
      refine S.k hf rfl fun a hf => ?_
      refine S.k hf rfl fun a hf => ?_
      refine S.p hf hs (.bool true) rfl rfl fun a hf => ?_
      refine S.p hf hs (.bool true) rfl rfl fun a hf => ?_
      refine S.k hf rfl fun a hf => ?_
      refine S.k hf rfl fun a hf => ?_
      refine S.k hf rfl fun a hf => ?_
      refine S.k hf rfl fun a hf => ?_
      refine S.p hf hs (.bool true) rfl rfl fun a hf => ?_
      refine S.p hf hs (.bool true) rfl rfl fun a hf => ?_
      refine R.nil (X.then_ ?_)
      exact ⟨true, h, (((((((hf.nil.cons (hf.get 20 _ rfl)).cons (hf.get 10 _ rfl)).cons (hf.get 9 _ rfl)).cons (hf.get 8 _ rfl)).cons (hf.get 4 _ rfl)).cons (hf.get 3 _ rfl)).cons (hf.get 0 _ rfl)), hs⟩
     ·replace h := h.2 hc
      refine S.v hf hs ((pn g1 2)) rfl (V.fieldBox rfl rfl Tryd.runUnderlying95 rfl Tryd.sizeOf3 rfl rfl) fun a hf => ?_
      refine S.v hf hs (iv xk1.H) rfl (V.loadBox 0 rfl rfl rfl Tryd.isAgg3 Tryd.sizeOf3 rfl rfl) fun a hf => ?_
      refine S.callv hf rfl rfl rfl (call_fn (vs := [iv xk1.H, iv 1, iv 100000]) rfl rfl rfl Tryd.call51) (C_ref10_within xk1.H 1 100000 _ ) (fun a w hf hs' => ?_)
      replace hs := hs.call hs'; clear hs'
      refine S.p hf hs (.bool (!(within xk1.H 1 100000))) rfl rfl fun a hf => ?_
      refine S.p hf hs (.bool (!(within xk1.H 1 100000))) rfl rfl fun a hf => ?_
      refine S.split hf hs (b := !(within xk1.H 1 100000)) rfl rfl rfl (V.pure rfl) (fun hc a hf => ?_) (fun hc a hf => ?_)
      ·replace h := h.1 hc
       refine S.k hf rfl fun a hf => ?_
       refine S.k hf rfl fun a hf => ?_
       refine S.k hf rfl fun a hf => ?_
       refine S.k hf rfl fun a hf => ?_
       refine S.p hf hs (.bool true) rfl rfl fun a hf => ?_
       refine S.p hf hs (.bool true) rfl rfl fun a hf => ?_
       refine R.nil (X.then_ ?_)
       exact ⟨true, h, (((((((hf.nil.cons (hf.get 20 _ rfl)).cons (hf.get 10 _ rfl)).cons (hf.get 9 _ rfl)).cons (hf.get 8 _ rfl)).cons (hf.get 4 _ rfl)).cons (hf.get 3 _ rfl)).cons (hf.get 0 _ rfl)), hs⟩
      ·replace h := h.2 hc
       refine S.v hf hs ((pn g1 3)) rfl (V.fieldBox rfl rfl Tryd.runUnderlying95 rfl Tryd.sizeOf3 rfl rfl) fun a hf => ?_
       refine S.v hf hs (iv xk1.Tall) rfl (V.loadBox 0 rfl rfl rfl Tryd.isAgg3 Tryd.sizeOf3 rfl rfl) fun a hf => ?_
       refine S.callv hf rfl rfl rfl (call_fn (vs := [iv xk1.Tall, iv 1, iv 100000]) rfl rfl rfl Tryd.call51) (C_ref10_within xk1.Tall 1 100000 _ ) (fun a w hf hs' => ?_)
       replace hs := hs.call hs'; clear hs'
       refine S.p hf hs (.bool (!(within xk1.Tall 1 100000))) rfl rfl fun a hf => ?_
       refine S.p hf hs (.bool (!(within xk1.Tall 1 100000))) rfl rfl fun a hf => ?_
       refine S.p hf hs (.bool (!(within xk1.Tall 1 100000))) rfl rfl fun a hf => ?_
       refine R.nil (X.then_ ?_)
       exact ⟨(!(within xk1.Tall 1 100000)), h, (((((((hf.nil.cons (hf.get 20 _ rfl)).cons (hf.get 10 _ rfl)).cons (hf.get 9 _ rfl)).cons (hf.get 8 _ rfl)).cons (hf.get 4 _ rfl)).cons (hf.get 3 _ rfl)).cons (hf.get 0 _ rfl)), hs⟩
set_option linter.unusedVariables false
def M_bodyOf1 (x_ : Body) (s_ : Str) (Q : Int → Prop) : Prop :=
  Q (cmpStr x_.Typ s_)
set_option maxHeartbeats 1000000 in
theorem R_bodyOf1 (x_ : Body) (s_ : Str) (w0 : World)  (Q : Int → Prop) (h : M_bodyOf1 x_ s_ Q) :
  Ret Tryd.prog 92 #[.agg #[.string (ba x_.Typ), iv x_.W, iv x_.H, iv x_.Tall, .string (ba x_.Nozzle)], .string (ba s_)] w0 fun v w' => ∃ (r0 : Int), v = iv r0 ∧ Q r0 ∧ Sat w0 none_ [] w' := by
 refine fn_enter Tryd.func92 rfl Tryd.ntmps92 rfl (fs := [(0, .agg #[.string (ba x_.Typ), iv x_.W, iv x_.H, iv x_.Tall, .string (ba x_.Nozzle)]), (1, .string (ba s_))]) rfl (fun a hf => ?_)
 have hs := Sat.start w0 none_
 unfold M_bodyOf1 at h
 refine wp_seq (R.list ?_)
 refine S.box hf hs rfl rfl rfl [.string (ba x_.Typ), iv x_.W, iv x_.H, iv x_.Tall, .string (ba x_.Nozzle)] rfl rfl rfl (fun g1 a w hf hs => ?_)
 refine S.p hf hs (iv 0) rfl rfl fun a hf => ?_
 refine R.nil (X.then_ (wp_seq (R.list ?_)))
 refine S.v hf hs ((pn g1 0)) rfl (V.fieldBox rfl rfl Tryd.runUnderlying95 rfl Tryd.sizeOf9 rfl rfl) fun a hf => ?_
 refine S.v hf hs (.string (ba x_.Typ)) rfl (V.loadBox 0 rfl rfl rfl Tryd.isAgg9 Tryd.sizeOf9 rfl rfl) fun a hf => ?_
 refine S.p hf hs (.string (ba s_)) rfl rfl fun a hf => ?_
 refine S.callv hf rfl rfl rfl (call_fn (vs := [.string (ba x_.Typ), .string (ba s_)]) rfl rfl rfl Tryd.call65) (C_strings_Compare x_.Typ s_ _ ) (fun a w hf hs' => ?_)
 replace hs := hs.call hs'; clear hs'
 refine S.p hf hs (iv (cmpStr x_.Typ s_)) rfl rfl fun a hf => ?_
 refine R.nil (X.then_ (wp_ret ?_))
 exact L.ret hf (run_results1 Tryd.results92 (ResIs.tmp hf rfl)) ⟨(cmpStr x_.Typ s_), rfl, h, hs.nil⟩
set_option linter.unusedVariables false
def M_search_body_L1 (x_ : (List Body)) (target : Str) (Q : Int → Bool → Prop) (again1 : Int → Int → Prop) (n3 : Int) (n4 : Int) : Prop :=
  cnd (decide (n3 < n4)) (idx x_ (cvt .i64 (shrI .u64 (cvt .u64 (w64 (n3 + n4))) 1)) fun x1 => M_bodyOf1 x1 target fun y1 => cnd (decide (y1 < 0)) (again1 (w64 ((cvt .i64 (shrI .u64 (cvt .u64 (w64 (n3 + n4))) 1)) + 1)) n4) (again1 n3 (cvt .i64 (shrI .u64 (cvt .u64 (w64 (n3 + n4))) 1)))) (cnd (decide (n3 < (x_.length : Int))) (idx x_ n3 fun x2 => M_bodyOf1 x2 target fun y2 => Q n3 (y2 == 0)) (Q n3 false))
def M_search_body (x_ : (List Body)) (target : Str) (Q : Int → Bool → Prop) : Prop :=
  lp (fun again (s : Int × Int) => M_search_body_L1 x_ target Q (fun n3 n4 => again (n3, n4)) s.1 s.2) (0, (x_.length : Int))
set_option maxHeartbeats 1000000 in
theorem R_search_body (x_ : (List Body)) (target : Str) (w0 : World) (x_A : Option Addr) (x_C : Nat) (hv_x_ : View w0 (old w0 none_) x_A x_C x_) (Q : Int → Bool → Prop) (h : M_search_body x_ target Q) :
  Ret Tryd.prog 91 #[.slice x_A x_.length x_C, .string (ba target), .func (.func 92) #[] #[]] w0 fun v w' => ∃ (r0 : Int) (r1 : Bool), v = .tuple #[iv r0, .bool r1] ∧ Q r0 r1 ∧ Sat w0 none_ [] w' := by
 refine fn_enter Tryd.func91 rfl Tryd.ntmps91 rfl (fs := [(0, .slice x_A x_.length x_C), (1, .string (ba target)), (2, .func (.func 92) #[] #[])]) rfl (fun a hf => ?_)
 have hs := Sat.start w0 none_
 unfold M_search_body at h
 refine wp_seq (R.list ?_)
 refine S.p hf hs (iv 0) rfl rfl fun a hf => ?_
 refine S.p hf hs (.bool false) rfl rfl fun a hf => ?_
 refine R.nil (X.then_ (wp_seq (R.list ?_)))
 refine S.p hf hs (.slice x_A x_.length x_C) rfl rfl fun a hf => ?_
 refine S.v hf hs (iv (x_.length : Int)) rfl (V.len rfl rfl Tryd.runUnderlying22) fun a hf => ?_
 refine S.p hf hs (iv (x_.length : Int)) rfl rfl fun a hf => ?_
 refine R.nil (X.then_ (wp_seq (R.list ?_)))
 refine S.p hf hs (iv (x_.length : Int)) rfl rfl fun a hf => ?_
 refine S.p hf hs (iv 0) rfl rfl fun a hf => ?_
 refine S.p hf hs (iv (x_.length : Int)) rfl rfl fun a hf => ?_
 refine R.nil (X.then_ (wp_seq (wp_block ?_)))
 obtain ⟨kk, h⟩ := h
 refine C.loop (fun kk a w => ∃ (n3 : Int) (n4 : Int), iterF (fun again (s : Int × Int) => M_search_body_L1 x_ target Q (fun n3 n4 => again (n3, n4)) s.1 s.2) kk (n3, n4) ∧ FrOk 49 [(0, .slice x_A x_.length x_C), (1, .string (ba target)), (2, .func (.func 92) #[] #[]), (8, iv (x_.length : Int)), (9, iv n3), (10, iv n4)] a ∧ Sat w0 none_ [] w) kk ⟨0, (x_.length : Int), h, ((((((hf.nil.cons (hf.get 10 _ rfl)).cons (hf.get 9 _ rfl)).cons (hf.get 8 _ rfl)).cons (hf.get 2 _ rfl)).cons (hf.get 1 _ rfl)).cons (hf.get 0 _ rfl)), hs⟩ (fun a w ⟨_, _, h, _, _⟩ => h) ?_
 clear h hf hs
 rintro kk a w ⟨n3, n4, h, hf, hs⟩
 obtain ⟨again1, hagain1⟩ : ∃ X : Int → Int → Prop, X = (fun n3 n4 => iterF (fun again (s : Int × Int) => M_search_body_L1 x_ target Q (fun n3 n4 => again (n3, n4)) s.1 s.2) kk (n3, n4)) := ⟨_, rfl⟩
 replace h : M_search_body_L1 x_ target Q again1 n3 n4 := by rw [hagain1]; exact h
 unfold M_search_body_L1 at h
 refine wp_seq (wp_seq (R.list ?_))
 refine S.p hf hs (iv n3) rfl rfl fun a hf => ?_
 refine S.p hf hs (iv n4) rfl rfl fun a hf => ?_
 refine S.p hf hs (.bool (decide (n3 < n4))) rfl rfl fun a hf => ?_
 refine R.nil (X.then_ ?_)
 refine C.cond hf (b := decide (n3 < n4)) rfl (fun hc => ?_) (fun hc => ?_)
 ·replace h := h.1 hc
  refine wp_skip (X.then_ (wp_block (wp_seq (R.list ?_))))
  refine S.p hf hs (iv n3) rfl rfl fun a hf => ?_
  refine S.p hf hs (iv n4) rfl rfl fun a hf => ?_
  refine S.p hf hs (iv (w64 (n3 + n4))) rfl rfl fun a hf => ?_
  refine S.v hf hs (.int .u64 (cvt .u64 (w64 (n3 + n4)))) rfl (V.conv rfl rfl Tryd.runUnderlying3 Tryd.runUnderlying140) fun a hf => ?_
  refine S.v hf hs (.int .u64 (shrI .u64 (cvt .u64 (w64 (n3 + n4))) 1)) rfl (V.shr rfl rfl rfl (by decide)) fun a hf => ?_
  refine S.v hf hs (iv (cvt .i64 (shrI .u64 (cvt .u64 (w64 (n3 + n4))) 1))) rfl (V.conv rfl rfl Tryd.runUnderlying140 Tryd.runUnderlying3) fun a hf => ?_
  refine S.p hf hs (iv (cvt .i64 (shrI .u64 (cvt .u64 (w64 (n3 + n4))) 1))) rfl rfl fun a hf => ?_
  refine R.nil (X.then_ (wp_seq (R.list ?_)))
  refine S.p hf hs (.func (.func 92) #[] #[]) rfl rfl fun a hf => ?_
  refine S.p hf hs (.slice x_A x_.length x_C) rfl rfl fun a hf => ?_
  refine S.p hf hs (iv (cvt .i64 (shrI .u64 (cvt .u64 (w64 (n3 + n4))) 1))) rfl rfl fun a hf => ?_
  obtain ⟨h0x1, x1, hx1, h⟩ := h
  refine S.v hf hs (elemPtr x_A ((cvt .i64 (shrI .u64 (cvt .u64 (w64 (n3 + n4))) 1)).toNat * 5)) rfl (V.index rfl rfl rfl Tryd.runUnderlying22 Tryd.sizeOf95 (hv_x_.some_ (lt_of_get hx1)) h0x1 (lt_of_get hx1) rfl) fun a hf => ?_
  refine S.v hf hs (.agg #[.string (ba x1.Typ), iv x1.W, iv x1.H, iv x1.Tall, .string (ba x1.Nozzle)]) rfl (V.loadEl (off := 0) (Ag.args _ _ _) (hv_x_.flat hx1) rfl rfl rfl Tryd.isAgg95 Tryd.sizeOf95 rfl rfl) fun a hf => ?_
  refine S.p hf hs (.string (ba target)) rfl rfl fun a hf => ?_
  refine S.call hf rfl rfl rfl (call_fn (vs := [.agg #[.string (ba x1.Typ), iv x1.W, iv x1.H, iv x1.Tall, .string (ba x1.Nozzle)], .string (ba target)]) rfl rfl rfl Tryd.call92) (R_bodyOf1 x1 target _  _ h) (fun v a w' hf hr => ?_)
  obtain ⟨y1, rfl, h2, hs2⟩ := hr
  replace h := h2; replace hs := hs.call hs2; clear h2 hs2
  refine S.p hf hs (.bool (decide (y1 < 0))) rfl rfl fun a hf => ?_
  refine R.nil (X.then_ ?_)
  refine C.cond hf (b := decide (y1 < 0)) rfl (fun hc => ?_) (fun hc => ?_)
  ·replace h := h.1 hc
   refine R.list ?_
   refine S.p hf hs (iv (cvt .i64 (shrI .u64 (cvt .u64 (w64 (n3 + n4))) 1))) rfl rfl fun a hf => ?_
   refine S.p hf hs (iv (w64 ((cvt .i64 (shrI .u64 (cvt .u64 (w64 (n3 + n4))) 1)) + 1))) rfl rfl fun a hf => ?_
   refine S.p hf hs (iv (w64 ((cvt .i64 (shrI .u64 (cvt .u64 (w64 (n3 + n4))) 1)) + 1))) rfl rfl fun a hf => ?_
   refine R.nil (X.blk (X.then_ ?_))
   exact ⟨(w64 ((cvt .i64 (shrI .u64 (cvt .u64 (w64 (n3 + n4))) 1)) + 1)), n4, (by rw [hagain1] at h; exact h), ((((((hf.nil.cons (hf.get 10 _ rfl)).cons (hf.get 9 _ rfl)).cons (hf.get 8 _ rfl)).cons (hf.get 2 _ rfl)).cons (hf.get 1 _ rfl)).cons (hf.get 0 _ rfl)), hs⟩
  ·replace h := h.2 hc
   refine R.list ?_
   refine S.p hf hs (iv (cvt .i64 (shrI .u64 (cvt .u64 (w64 (n3 + n4))) 1))) rfl rfl fun a hf => ?_
   refine S.p hf hs (iv (cvt .i64 (shrI .u64 (cvt .u64 (w64 (n3 + n4))) 1))) rfl rfl fun a hf => ?_
   refine R.nil (X.blk (X.then_ ?_))
   exact ⟨n3, (cvt .i64 (shrI .u64 (cvt .u64 (w64 (n3 + n4))) 1)), (by rw [hagain1] at h; exact h), ((((((hf.nil.cons (hf.get 10 _ rfl)).cons (hf.get 9 _ rfl)).cons (hf.get 8 _ rfl)).cons (hf.get 2 _ rfl)).cons (hf.get 1 _ rfl)).cons (hf.get 0 _ rfl)), hs⟩
 ·replace h := h.2 hc
  refine wp_exit (X.then_exit (X.then_exit (X.blk_exit (X.then_ (wp_seq (R.list ?_))))))
  refine S.p hf hs (iv n3) rfl rfl fun a hf => ?_
  refine S.p hf hs (iv n3) rfl rfl fun a hf => ?_
  refine S.p hf hs (iv (x_.length : Int)) rfl rfl fun a hf => ?_
  refine S.p hf hs (.bool (decide (n3 < (x_.length : Int)))) rfl rfl fun a hf => ?_
  refine S.split hf hs (b := decide (n3 < (x_.length : Int))) rfl rfl rfl (V.pure rfl) (fun hc a hf => ?_) (fun hc a hf => ?_)
  ·replace h := h.1 hc
   refine S.p hf hs (.func (.func 92) #[] #[]) rfl rfl fun a hf => ?_
   refine S.p hf hs (.slice x_A x_.length x_C) rfl rfl fun a hf => ?_
   refine S.p hf hs (iv n3) rfl rfl fun a hf => ?_
   obtain ⟨h0x2, x2, hx2, h⟩ := h
   refine S.v hf hs (elemPtr x_A (n3.toNat * 5)) rfl (V.index rfl rfl rfl Tryd.runUnderlying22 Tryd.sizeOf95 (hv_x_.some_ (lt_of_get hx2)) h0x2 (lt_of_get hx2) rfl) fun a hf => ?_
   refine S.v hf hs (.agg #[.string (ba x2.Typ), iv x2.W, iv x2.H, iv x2.Tall, .string (ba x2.Nozzle)]) rfl (V.loadEl (off := 0) (Ag.args _ _ _) (hv_x_.flat hx2) rfl rfl rfl Tryd.isAgg95 Tryd.sizeOf95 rfl rfl) fun a hf => ?_
   refine S.p hf hs (.string (ba target)) rfl rfl fun a hf => ?_
   refine S.call hf rfl rfl rfl (call_fn (vs := [.agg #[.string (ba x2.Typ), iv x2.W, iv x2.H, iv x2.Tall, .string (ba x2.Nozzle)], .string (ba target)]) rfl rfl rfl Tryd.call92) (R_bodyOf1 x2 target _  _ h) (fun v a w' hf hr => ?_)
   obtain ⟨y2, rfl, h2, hs2⟩ := hr
   replace h := h2; replace hs := hs.call hs2; clear h2 hs2
   refine S.p hf hs (.bool (y2 == 0)) rfl rfl fun a hf => ?_
   refine S.p hf hs (.bool (y2 == 0)) rfl rfl fun a hf => ?_
   refine S.p hf hs (iv n3) rfl rfl fun a hf => ?_
   refine S.p hf hs (.bool (y2 == 0)) rfl rfl fun a hf => ?_
   refine R.nil (X.then_ (wp_ret ?_))
   exact L.ret hf (run_results2 Tryd.results91 (ResIs.tmp hf rfl) (ResIs.tmp hf rfl)) ⟨n3, (y2 == 0), rfl, h, hs.nil⟩
  ·replace h := h.2 hc
   refine S.k hf rfl fun a hf => ?_
   refine S.k hf rfl fun a hf => ?_
   refine S.k hf rfl fun a hf => ?_
   refine S.k hf rfl fun a hf => ?_
   refine S.k hf rfl fun a hf => ?_
   refine S.k hf rfl fun a hf => ?_
   refine S.k hf rfl fun a hf => ?_
   refine S.k hf rfl fun a hf => ?_
   refine S.p hf hs (.bool false) rfl rfl fun a hf => ?_
   refine S.p hf hs (iv n3) rfl rfl fun a hf => ?_
   refine S.p hf hs (.bool false) rfl rfl fun a hf => ?_
   refine R.nil (X.then_ (wp_ret ?_))
   exact L.ret hf (run_results2 Tryd.results91 (ResIs.tmp hf rfl) (ResIs.tmp hf rfl)) ⟨n3, false, rfl, h, hs.nil⟩
set_option linter.unusedVariables false
def M_mount_bodyOf (b : (List Body)) (name : Str) (Q : Body → Bool → Prop) : Prop :=
  M_search_body b name fun y1 y2 => cnd (!y2) (Q (⟨[], 0, 0, 0, []⟩ : Body) false) (idx b y1 fun x1 => Q x1 true)
set_option maxHeartbeats 1000000 in
theorem R_mount_bodyOf (b : (List Body)) (name : Str) (w0 : World) (bA : Option Addr) (bC : Nat) (hv_b : View w0 (old w0 none_) bA bC b) (Q : Body → Bool → Prop) (h : M_mount_bodyOf b name Q) :
  Ret Tryd.prog 61 #[.slice bA b.length bC, .string (ba name)] w0 fun v w' => ∃ (r0 : Body) (r1 : Bool), v = .tuple #[.agg #[.string (ba r0.Typ), iv r0.W, iv r0.H, iv r0.Tall, .string (ba r0.Nozzle)], .bool r1] ∧ Q r0 r1 ∧ Sat w0 none_ [] w' := by
 refine fn_enter Tryd.func61 rfl Tryd.ntmps61 rfl (fs := [(0, .slice bA b.length bC), (1, .string (ba name))]) rfl (fun a hf => ?_)
 have hs := Sat.start w0 none_
 unfold M_mount_bodyOf at h
 refine wp_seq (R.list ?_)
 refine S.alloc hf hs rfl rfl rfl [.string (ba []), iv 0, iv 0, iv 0, .string (ba [])] rfl Tryd.zeroValue95 rfl (fun g1 a w hf hs => ?_)
 refine S.p hf hs (.bool false) rfl rfl fun a hf => ?_
 refine R.nil (X.then_ (wp_seq (R.list ?_)))
 refine S.p hf hs (.slice bA b.length bC) rfl rfl fun a hf => ?_
 refine S.p hf hs (.string (ba name)) rfl rfl fun a hf => ?_
 refine S.call hf rfl rfl rfl (call_fn (vs := [.slice bA b.length bC, .string (ba name), .func (.func 92) #[] #[]]) rfl rfl rfl Tryd.call91) (R_search_body b name _ bA bC ((Ag.args _ _ _).view hv_b hs) _ h) (fun v a w' hf hr => ?_)
 obtain ⟨y1, y2, rfl, h2, hs2⟩ := hr
 replace h := h2; replace hs := hs.call hs2; clear h2 hs2
 refine S.p hf hs (.tuple #[iv y1, .bool y2]) rfl rfl fun a hf => ?_
 refine S.p hf hs (iv y1) rfl rfl fun a hf => ?_
 refine S.p hf hs (.bool y2) rfl rfl fun a hf => ?_
 refine S.p hf hs (iv y1) rfl rfl fun a hf => ?_
 refine S.p hf hs (.bool y2) rfl rfl fun a hf => ?_
 refine R.nil (X.then_ (wp_seq (wp_seq (R.list ?_))))
 refine S.p hf hs (.bool y2) rfl rfl fun a hf => ?_
 refine S.p hf hs (.bool (!y2)) rfl rfl fun a hf => ?_
 refine R.nil (X.then_ ?_)
 refine C.cond hf (b := !y2) rfl (fun hc => ?_) (fun hc => ?_)
 ·replace h := h.1 hc
  refine wp_seq (R.list ?_)
  refine S.v hf hs (.agg #[.string (ba []), iv 0, iv 0, iv 0, .string (ba [])]) rfl (V.build (places := #[(0, 1), (1, 1), (2, 1), (3, 1), (4, 1)]) rfl Tryd.zeroValue95 Tryd.runUnderlying95 (by intro w; simp [Tryd.sizeOf3, Tryd.sizeOf9]) rfl rfl) fun a hf => ?_
  refine S.storeBox 0 hf hs rfl rfl [.string (ba []), iv 0, iv 0, iv 0, .string (ba [])] [.string (ba []), iv 0, iv 0, iv 0, .string (ba [])] rfl rfl rfl rfl rfl Tryd.sizeOf95 rfl rfl rfl rfl (fun a w hf hs => ?_)
  refine S.p hf hs (.bool false) rfl rfl fun a hf => ?_
  refine R.nil (X.then_ (wp_ret (X.then_ret ?_)))
  have hsR := hs
  exact L.ret hf (run_results2 Tryd.results61 (ResIs.box hf hsR 0 rfl rfl Tryd.isAgg95 Tryd.sizeOf95 rfl rfl) (ResIs.tmp hf rfl)) ⟨(⟨[], 0, 0, 0, []⟩ : Body), false, rfl, h, hs.nil⟩
 ·replace h := h.2 hc
  refine wp_skip (X.then_ (wp_seq (R.list ?_)))
  refine S.p hf hs (.slice bA b.length bC) rfl rfl fun a hf => ?_
  refine S.p hf hs (iv y1) rfl rfl fun a hf => ?_
  obtain ⟨h0x1, x1, hx1, h⟩ := h
  refine S.v hf hs (elemPtr bA (y1.toNat * 5)) rfl (V.index rfl rfl rfl Tryd.runUnderlying22 Tryd.sizeOf95 (hv_b.some_ (lt_of_get hx1)) h0x1 (lt_of_get hx1) rfl) fun a hf => ?_
  refine S.v hf hs (.agg #[.string (ba x1.Typ), iv x1.W, iv x1.H, iv x1.Tall, .string (ba x1.Nozzle)]) rfl (V.loadEl (off := 0) (Ag.args _ _ _) (hv_b.flat hx1) rfl rfl rfl Tryd.isAgg95 Tryd.sizeOf95 rfl rfl) fun a hf => ?_
  refine S.storeBox 0 hf hs rfl rfl [.string (ba x1.Typ), iv x1.W, iv x1.H, iv x1.Tall, .string (ba x1.Nozzle)] [.string (ba x1.Typ), iv x1.W, iv x1.H, iv x1.Tall, .string (ba x1.Nozzle)] rfl rfl rfl rfl rfl Tryd.sizeOf95 rfl rfl rfl rfl (fun a w hf hs => ?_)
  refine S.p hf hs (.bool true) rfl rfl fun a hf => ?_
  refine R.nil (X.then_ (wp_ret ?_))
  have hsR := hs
  exact L.ret hf (run_results2 Tryd.results61 (ResIs.box hf hsR 0 rfl rfl Tryd.isAgg95 Tryd.sizeOf95 rfl rfl) (ResIs.tmp hf rfl)) ⟨x1, true, rfl, h, hs.nil⟩
set_option linter.unusedVariables false
def M_ref10_bodyOf_L1 (name : Str) (Q : Int → Prop) (k1 : Nat) (xk1 : Body)  (next1 : Prop) : Prop :=
  cnd (xk1.Typ == name) (Q (k1 : Int)) (next1)
def M_ref10_bodyOf (b : (List Body)) (name : Str) (Q : Int → Prop) : Prop :=
  forIn' (fun k x (s : Unit) next => M_ref10_bodyOf_L1 name Q k x (next ())) (fun (s : Unit) => Q (-1)) b 0 ()
set_option maxHeartbeats 1000000 in
theorem R_ref10_bodyOf (b : (List Body)) (name : Str) (w0 : World) (bA : Option Addr) (bC : Nat) (hv_b : View w0 (old w0 none_) bA bC b) (Q : Int → Prop) (h : M_ref10_bodyOf b name Q) :
  Ret Tryd.prog 66 #[.slice bA b.length bC, .string (ba name)] w0 fun v w' => ∃ (r0 : Int), v = iv r0 ∧ Q r0 ∧ Sat w0 none_ [] w' := by
 refine fn_enter Tryd.func66 rfl Tryd.ntmps66 rfl (fs := [(0, .slice bA b.length bC), (1, .string (ba name))]) rfl (fun a hf => ?_)
 have hs := Sat.start w0 none_
 unfold M_ref10_bodyOf at h
 refine wp_seq (R.list ?_)
 refine S.p hf hs (iv 0) rfl rfl fun a hf => ?_
 refine R.nil (X.then_ (wp_seq (wp_seq (R.list ?_))))
 refine S.p hf hs (.slice bA b.length bC) rfl rfl fun a hf => ?_
 refine S.v hf hs (iv (b.length : Int)) rfl (V.len rfl rfl Tryd.runUnderlying22) fun a hf => ?_
 refine S.p hf hs (iv 0) rfl rfl fun a hf => ?_
 refine R.nil (X.then_ (wp_block ?_))
 have hlenk1 := hv_b.len64
 refine C.range (fun (ll : List Body) a w => ∃ (k1 : Nat) , b.drop k1 = ll ∧ k1 + ll.length = b.length ∧ forIn' (fun k x (s : Unit) next => M_ref10_bodyOf_L1 name Q k x (next ())) (fun (s : Unit) => Q (-1)) ll k1 () ∧ FrOk 20 [(9, iv (k1 : Int)), (1, .string (ba name)), (7, .slice bA b.length bC), (8, iv (b.length : Int))] a ∧ Sat w0 none_ [] w) b ⟨0, rfl, Nat.zero_add _, h, ((((hf.nil.cons (hf.get 8 _ rfl)).cons (hf.get 7 _ rfl)).cons (hf.get 1 _ rfl)).cons (hf.get 9 _ rfl)), hs⟩ ?_
 clear h hf hs
 rintro llk1 a w ⟨k1, hlk1, hkk1, h, hf, hs⟩
 cases llk1 with
 | nil =>
  have hc := range_done hkk1
  replace h : Q (-1) := h
  refine wp_seq (R.list ?_)
  refine S.v hf hs (.bool false) rfl (V.cmp false rfl rfl rfl rfl hc) fun a hf => ?_
  refine R.nil (X.then_ (wp_seq ?_))
  refine C.no hf rfl ?_
  refine wp_exit (X.then_exit (X.then_exit (X.blk_exit (X.then_ (wp_seq (R.list ?_))))))
  refine S.p hf hs (iv (-1)) rfl rfl fun a hf => ?_
  refine R.nil (X.then_ (wp_ret ?_))
  exact L.ret hf (run_results1 Tryd.results66 (ResIs.tmp hf rfl)) ⟨(-1), rfl, h, hs.nil⟩
 | cons xk1 llk1 =>
  have hltk1 := range_lt hkk1; have hc := range_go hkk1; have hxk1 := range_get hlk1
  obtain ⟨next1, hnext1⟩ : ∃ X : Prop, X = (forIn' (fun k x (s : Unit) next => M_ref10_bodyOf_L1 name Q k x (next ())) (fun (s : Unit) => Q (-1)) llk1 (k1 + 1) ()) := ⟨_, rfl⟩
  replace h : M_ref10_bodyOf_L1 name Q k1 xk1  next1 := by rw [hnext1]; exact h
  unfold M_ref10_bodyOf_L1 at h
  refine wp_seq (R.list ?_)
  refine S.v hf hs (.bool true) rfl (V.cmp true rfl rfl rfl rfl hc) fun a hf => ?_
  refine R.nil (X.then_ (wp_seq ?_))
  refine C.yes hf rfl ?_
  refine wp_skip (X.then_ (wp_seq (wp_block (wp_seq (R.list ?_)))))
  refine S.p hf hs (iv (k1 : Int)) rfl rfl fun a hf => ?_
  refine S.v hf hs (elemPtr bA (k1 * 5)) rfl (V.index rfl rfl rfl Tryd.runUnderlying22 Tryd.sizeOf95 (hv_b.some_ (lt_of_get hxk1)) (Int.natCast_nonneg _) (lt_of_get hxk1) rfl) fun a hf => ?_
  refine S.v hf hs (.agg #[.string (ba xk1.Typ), iv xk1.W, iv xk1.H, iv xk1.Tall, .string (ba xk1.Nozzle)]) rfl (V.loadEl (off := 0) (Ag.args _ _ _) (hv_b.flat hxk1) rfl rfl rfl Tryd.isAgg95 Tryd.sizeOf95 rfl rfl) fun a hf => ?_
  refine S.alloc hf hs rfl rfl rfl [.string (ba []), iv 0, iv 0, iv 0, .string (ba [])] rfl Tryd.zeroValue95 rfl (fun g1 a w hf hs => ?_)
  refine S.p hf hs (iv (k1 : Int)) rfl rfl fun a hf => ?_
  refine S.storeBox 0 hf hs rfl rfl [.string (ba xk1.Typ), iv xk1.W, iv xk1.H, iv xk1.Tall, .string (ba xk1.Nozzle)] [.string (ba xk1.Typ), iv xk1.W, iv xk1.H, iv xk1.Tall, .string (ba xk1.Nozzle)] rfl rfl rfl rfl rfl Tryd.sizeOf95 rfl rfl rfl rfl (fun a w hf hs => ?_)
  refine R.nil (X.then_ (wp_seq (R.list ?_)))
  refine S.v hf hs ((pn g1 0)) rfl (V.fieldBox rfl rfl Tryd.runUnderlying95 rfl Tryd.sizeOf9 rfl rfl) fun a hf => ?_
  refine S.v hf hs (.string (ba xk1.Typ)) rfl (V.loadBox 0 rfl rfl rfl Tryd.isAgg9 Tryd.sizeOf9 rfl rfl) fun a hf => ?_
  refine S.p hf hs (.string (ba name)) rfl rfl fun a hf => ?_
  refine S.v hf hs (.bool (xk1.Typ == name)) rfl (V.strCmp (xk1.Typ == name) rfl rfl rfl rfl) fun a hf => ?_
  refine R.nil (X.then_ ?_)
  refine C.cond hf (b := xk1.Typ == name) rfl (fun hc => ?_) (fun hc => ?_)
  ·replace h := h.1 hc
   refine wp_seq (R.list ?_)
   refine S.p hf hs (iv (k1 : Int)) rfl rfl fun a hf => ?_
   refine S.p hf hs (iv (k1 : Int)) rfl rfl fun a hf => ?_
   refine R.nil (X.then_ (wp_ret (X.blk_ret (X.then_ret (X.then_ret (X.blk_ret (X.then_ret ?_)))))))
   exact L.ret hf (run_results1 Tryd.results66 (ResIs.tmp hf rfl)) ⟨(k1 : Int), rfl, h, hs.nil⟩
  ·replace h := h.2 hc
   refine wp_skip (X.blk (X.then_ (R.list ?_)))
   refine S.v hf hs (iv ((k1 + 1 : Nat) : Int)) rfl (V.incr rfl rfl rfl hltk1 hlenk1) fun a hf => ?_
   refine S.p hf hs (iv ((k1 + 1 : Nat) : Int)) rfl rfl fun a hf => ?_
   refine R.nil (X.then_ ?_)
   exact ⟨xk1, llk1, rfl, k1 + 1, range_drop hlk1, range_len hkk1, (by rw [hnext1] at h; exact h), ((((hf.nil.cons (hf.get 8 _ rfl)).cons (hf.get 7 _ rfl)).cons (hf.get 1 _ rfl)).cons (hf.get 9 _ rfl)), hs.drop⟩
set_option linter.unusedVariables false
def M_mount_CheckPlaces_k3 (Q : Int → Prop) (next1 : Prop) (c2 : Bool) : Prop :=
  cnd c2 (Q 8) (next1)
def M_mount_CheckPlaces_k2 (l : (List Place)) (Q : Int → Prop) (k1 : Nat) (xk1 : Place) (next1 : Prop) (c1 : Bool) : Prop :=
  cnd c1 (Q 1) (cnd (decide ((k1 : Int) > 0)) (idx l (w64 ((k1 : Int) - 1)) fun x1 => M_mount_CheckPlaces_k3 Q next1 (strLt xk1.Part x1.Part || xk1.Part == x1.Part)) (M_mount_CheckPlaces_k3 Q next1 false))
def M_mount_CheckPlaces_L1 (b : (List Body)) (l : (List Place)) (Q : Int → Prop) (k1 : Nat) (xk1 : Place)  (next1 : Prop) : Prop :=
  M_mount_bodyOf b xk1.Typ fun y2 y3 => M_netlist_IsPath xk1.Part fun y4 => cnd (!y4) (Q 5) (cnd (!y3) (Q 9) (M_shape_IsPoint xk1.At fun y5 => cnd (!y5) (M_mount_CheckPlaces_k2 l Q k1 xk1 next1 true) (M_mount_CheckPlaces_k2 l Q k1 xk1 next1 (!(within xk1.Quarters 0 3)))))
def M_mount_CheckPlaces (b : (List Body)) (l : (List Place)) (Q : Int → Prop) : Prop :=
  M_mount_CheckBodies b fun y1 => cnd (y1 != 0) (Q y1) (cnd (decide ((l.length : Int) > 1000)) (Q 2) (forIn' (fun k x (s : Unit) next => M_mount_CheckPlaces_L1 b l Q k x (next ())) (fun (s : Unit) => Q 0) l 0 ()))
set_option maxHeartbeats 1000000 in
theorem R_mount_CheckPlaces (b : (List Body)) (l : (List Place)) (w0 : World) (bA : Option Addr) (bC : Nat) (hv_b : View w0 (old w0 none_) bA bC b) (lA : Option Addr) (lC : Nat) (hv_l : View w0 (old w0 none_) lA lC l) (Q : Int → Prop) (h : M_mount_CheckPlaces b l Q) :
  Ret Tryd.prog 35 #[.slice bA b.length bC, .slice lA l.length lC] w0 fun v w' => ∃ (r0 : Int), v = iv r0 ∧ Q r0 ∧ Sat w0 none_ [] w' := by
 refine fn_enter Tryd.func35 rfl Tryd.ntmps35 rfl (fs := [(0, .slice bA b.length bC), (1, .slice lA l.length lC)]) rfl (fun a hf => ?_)
 have hs := Sat.start w0 none_
 unfold M_mount_CheckPlaces at h
 refine wp_seq (R.list ?_)
 refine S.p hf hs (iv 0) rfl rfl fun a hf => ?_
 refine R.nil (X.then_ (wp_seq (wp_seq (R.list ?_))))
 refine S.p hf hs (.slice bA b.length bC) rfl rfl fun a hf => ?_
 refine S.call hf rfl rfl rfl (call_fn (vs := [.slice bA b.length bC]) rfl rfl rfl Tryd.call33) (R_mount_CheckBodies b _ bA bC ((Ag.args _ _ _).view hv_b hs) _ h) (fun v a w' hf hr => ?_)
 obtain ⟨y1, rfl, h2, hs2⟩ := hr
 replace h := h2; replace hs := hs.call hs2; clear h2 hs2
 refine S.p hf hs (iv y1) rfl rfl fun a hf => ?_
 refine R.nil (X.then_ (wp_seq (R.list ?_)))
 refine S.p hf hs (iv y1) rfl rfl fun a hf => ?_
 refine S.p hf hs (.bool (y1 != 0)) rfl rfl fun a hf => ?_
 refine R.nil (X.then_ ?_)
 refine C.cond hf (b := y1 != 0) rfl (fun hc => ?_) (fun hc => ?_)
 ·replace h := h.1 hc
  refine wp_seq (R.list ?_)
  refine S.p hf hs (iv y1) rfl rfl fun a hf => ?_
  refine S.p hf hs (iv y1) rfl rfl fun a hf => ?_
  refine R.nil (X.then_ (wp_ret (X.then_ret ?_)))
  exact L.ret hf (run_results1 Tryd.results35 (ResIs.tmp hf rfl)) ⟨y1, rfl, h, hs.nil⟩
 ·replace h := h.2 hc
  refine wp_skip (X.then_ (wp_seq (wp_seq (R.list ?_))))
  refine S.p hf hs (.slice lA l.length lC) rfl rfl fun a hf => ?_
  refine S.v hf hs (iv (l.length : Int)) rfl (V.len rfl rfl Tryd.runUnderlying23) fun a hf => ?_
  refine S.p hf hs (.bool (decide ((l.length : Int) > 1000))) rfl rfl fun a hf => ?_
  refine R.nil (X.then_ ?_)
  refine C.cond hf (b := decide ((l.length : Int) > 1000)) rfl (fun hc => ?_) (fun hc => ?_)
  ·replace h := h.1 hc
   refine wp_seq (R.list ?_)
   refine S.p hf hs (iv 2) rfl rfl fun a hf => ?_
   refine R.nil (X.then_ (wp_ret (X.then_ret ?_)))
   exact L.ret hf (run_results1 Tryd.results35 (ResIs.tmp hf rfl)) ⟨2, rfl, h, hs.nil⟩
  ·replace h := h.2 hc
   refine wp_skip (X.then_ (wp_seq (wp_seq (R.list ?_))))
   refine S.p hf hs (.slice lA l.length lC) rfl rfl fun a hf => ?_
   refine S.v hf hs (iv (l.length : Int)) rfl (V.len rfl rfl Tryd.runUnderlying23) fun a hf => ?_
   refine S.p hf hs (iv 0) rfl rfl fun a hf => ?_
   refine R.nil (X.then_ (wp_block ?_))
   have hlenk1 := hv_l.len64
   refine C.range (fun (ll : List Place) a w => ∃ (k1 : Nat) , l.drop k1 = ll ∧ k1 + ll.length = l.length ∧ forIn' (fun k x (s : Unit) next => M_mount_CheckPlaces_L1 b l Q k x (next ())) (fun (s : Unit) => Q 0) ll k1 () ∧ FrOk 66 [(20, iv (k1 : Int)), (0, .slice bA b.length bC), (1, .slice lA l.length lC), (18, .slice lA l.length lC), (19, iv (l.length : Int))] a ∧ Sat w0 none_ [] w) l ⟨0, rfl, Nat.zero_add _, h, (((((hf.nil.cons (hf.get 19 _ rfl)).cons (hf.get 18 _ rfl)).cons (hf.get 1 _ rfl)).cons (hf.get 0 _ rfl)).cons (hf.get 20 _ rfl)), hs⟩ ?_
   clear h hf hs
   rintro llk1 a w ⟨k1, hlk1, hkk1, h, hf, hs⟩
   cases llk1 with
   | nil =>
    have hc := range_done hkk1
    replace h : Q 0 := h
    refine wp_seq (R.list ?_)
    refine S.v hf hs (.bool false) rfl (V.cmp false rfl rfl rfl rfl hc) fun a hf => ?_
    refine R.nil (X.then_ (wp_seq ?_))
    refine C.no hf rfl ?_
    refine wp_exit (X.then_exit (X.then_exit (X.blk_exit (X.then_ (wp_seq (R.list ?_))))))
    refine S.p hf hs (iv 0) rfl rfl fun a hf => ?_
    refine R.nil (X.then_ (wp_ret ?_))
    exact L.ret hf (run_results1 Tryd.results35 (ResIs.tmp hf rfl)) ⟨0, rfl, h, hs.nil⟩
   | cons xk1 llk1 =>
    have hltk1 := range_lt hkk1; have hc := range_go hkk1; have hxk1 := range_get hlk1
    obtain ⟨next1, hnext1⟩ : ∃ X : Prop, X = (forIn' (fun k x (s : Unit) next => M_mount_CheckPlaces_L1 b l Q k x (next ())) (fun (s : Unit) => Q 0) llk1 (k1 + 1) ()) := ⟨_, rfl⟩
    replace h : M_mount_CheckPlaces_L1 b l Q k1 xk1  next1 := by rw [hnext1]; exact h
    unfold M_mount_CheckPlaces_L1 at h
    refine wp_seq (R.list ?_)
    refine S.v hf hs (.bool true) rfl (V.cmp true rfl rfl rfl rfl hc) fun a hf => ?_
    refine R.nil (X.then_ (wp_seq ?_))
    refine C.yes hf rfl ?_
    refine wp_skip (X.then_ (wp_seq (wp_block (wp_seq (R.list ?_)))))
    refine S.p hf hs (iv (k1 : Int)) rfl rfl fun a hf => ?_
    refine S.v hf hs (elemPtr lA (k1 * 6)) rfl (V.index rfl rfl rfl Tryd.runUnderlying23 Tryd.sizeOf28 (hv_l.some_ (lt_of_get hxk1)) (Int.natCast_nonneg _) (lt_of_get hxk1) rfl) fun a hf => ?_
    refine S.v hf hs (.agg #[.string (ba xk1.Part), .string (ba xk1.Typ), iv xk1.At.X, iv xk1.At.Y, iv xk1.Quarters, .bool xk1.Below]) rfl (V.loadEl (off := 0) (Ag.args _ _ _) (hv_l.flat hxk1) rfl rfl rfl Tryd.isAgg28 Tryd.sizeOf28 rfl rfl) fun a hf => ?_
    refine S.alloc hf hs rfl rfl rfl [.string (ba []), .string (ba []), iv 0, iv 0, iv 0, .bool false] rfl Tryd.zeroValue28 rfl (fun g1 a w hf hs => ?_)
    refine S.p hf hs (iv (k1 : Int)) rfl rfl fun a hf => ?_
    refine S.storeBox 0 hf hs rfl rfl [.string (ba xk1.Part), .string (ba xk1.Typ), iv xk1.At.X, iv xk1.At.Y, iv xk1.Quarters, .bool xk1.Below] [.string (ba xk1.Part), .string (ba xk1.Typ), iv xk1.At.X, iv xk1.At.Y, iv xk1.Quarters, .bool xk1.Below] rfl rfl rfl rfl rfl Tryd.sizeOf28 rfl rfl rfl rfl (fun a w hf hs => ?_)
    refine R.nil (X.then_ (wp_seq (R.list ?_)))
    refine S.p hf hs (.slice bA b.length bC) rfl rfl fun a hf => ?_
    refine S.v hf hs ((pn g1 1)) rfl (V.fieldBox rfl rfl Tryd.runUnderlying28 rfl Tryd.sizeOf9 rfl rfl) fun a hf => ?_
    refine S.v hf hs (.string (ba xk1.Typ)) rfl (V.loadBox 0 rfl rfl rfl Tryd.isAgg9 Tryd.sizeOf9 rfl rfl) fun a hf => ?_
    refine S.call hf rfl rfl rfl (call_fn (vs := [.slice bA b.length bC, .string (ba xk1.Typ)]) rfl rfl rfl Tryd.call61) (R_mount_bodyOf b xk1.Typ _ bA bC ((Ag.args _ _ _).view hv_b hs) _ h) (fun v a w' hf hr => ?_)
    obtain ⟨y2, y3, rfl, h2, hs2⟩ := hr
    replace h := h2; replace hs := hs.call hs2; clear h2 hs2
    refine S.p hf hs (.tuple #[.agg #[.string (ba y2.Typ), iv y2.W, iv y2.H, iv y2.Tall, .string (ba y2.Nozzle)], .bool y3]) rfl rfl fun a hf => ?_
    refine S.p hf hs (.agg #[.string (ba y2.Typ), iv y2.W, iv y2.H, iv y2.Tall, .string (ba y2.Nozzle)]) rfl rfl fun a hf => ?_
    refine S.p hf hs (.bool y3) rfl rfl fun a hf => ?_
    refine S.alloc hf hs rfl rfl rfl [.string (ba []), iv 0, iv 0, iv 0, .string (ba [])] rfl Tryd.zeroValue95 rfl (fun g2 a w hf hs => ?_)
    refine S.storeBox 0 hf hs rfl rfl [.string (ba y2.Typ), iv y2.W, iv y2.H, iv y2.Tall, .string (ba y2.Nozzle)] [.string (ba y2.Typ), iv y2.W, iv y2.H, iv y2.Tall, .string (ba y2.Nozzle)] rfl rfl rfl rfl rfl Tryd.sizeOf95 rfl rfl rfl rfl (fun a w hf hs => ?_)
    refine S.p hf hs (.bool y3) rfl rfl fun a hf => ?_
    refine R.nil (X.then_ (wp_block (wp_seq (R.list ?_))))
    refine S.v hf hs ((pn g1 0)) rfl (V.fieldBox rfl rfl Tryd.runUnderlying28 rfl Tryd.sizeOf9 rfl rfl) fun a hf => ?_
    refine S.v hf hs (.string (ba xk1.Part)) rfl (V.loadBox 1 rfl rfl rfl Tryd.isAgg9 Tryd.sizeOf9 rfl rfl) fun a hf => ?_
    refine S.call hf rfl rfl rfl (call_fn (vs := [.string (ba xk1.Part)]) rfl rfl rfl Tryd.call76) (R_netlist_IsPath xk1.Part _  _ h) (fun v a w' hf hr => ?_)
    obtain ⟨y4, rfl, h2, hs2⟩ := hr
    replace h := h2; replace hs := hs.call hs2; clear h2 hs2
    refine S.p hf hs (.bool (!y4)) rfl rfl fun a hf => ?_
    refine S.p hf hs (.bool (!y4)) rfl rfl fun a hf => ?_
    refine R.nil (X.then_ ?_)
    refine C.cond hf (b := !y4) rfl (fun hc => ?_) (fun hc => ?_)
    ·replace h := h.1 hc
     refine wp_seq (R.list ?_)
     refine S.p hf hs (iv 5) rfl rfl fun a hf => ?_
     refine R.nil (X.then_ (wp_ret (X.blk_ret (X.blk_ret (X.then_ret (X.then_ret (X.blk_ret (X.then_ret ?_))))))))
     exact L.ret hf (run_results1 Tryd.results35 (ResIs.tmp hf rfl)) ⟨5, rfl, h, hs.nil⟩
    ·replace h := h.2 hc
     refine wp_seq (R.list ?_)
     refine S.p hf hs (.bool y3) rfl rfl fun a hf => ?_
     refine S.p hf hs (.bool (!y3)) rfl rfl fun a hf => ?_
     refine S.p hf hs (.bool (!y3)) rfl rfl fun a hf => ?_
     refine R.nil (X.then_ ?_)
     refine C.cond hf (b := !y3) rfl (fun hc => ?_) (fun hc => ?_)
     ·replace h := h.1 hc
      refine wp_seq (R.list ?_)
      refine S.p hf hs (iv 9) rfl rfl fun a hf => ?_
      refine R.nil (X.then_ (wp_ret (X.blk_ret (X.blk_ret (X.then_ret (X.then_ret (X.blk_ret (X.then_ret ?_))))))))
      exact L.ret hf (run_results1 Tryd.results35 (ResIs.tmp hf rfl)) ⟨9, rfl, h, hs.nil⟩
     ·replace h := h.2 hc
      refine wp_seq ?_
      refine C.cut (J := fun a w => ∃ (c1 : Bool), M_mount_CheckPlaces_k2 l Q k1 xk1 next1 c1 ∧ FrOk 66 [(0, .slice bA b.length bC), (1, .slice lA l.length lC), (6, iv (k1 : Int)), (7, (pn g1 0)), (18, .slice lA l.length lC), (19, iv (l.length : Int)), (20, iv (k1 : Int)), (40, .bool c1)] a ∧ Sat w0 none_ [hbox g2 95 [.string (ba y2.Typ), iv y2.W, iv y2.H, iv y2.Tall, .string (ba y2.Nozzle)], hbox g1 28 [.string (ba xk1.Part), .string (ba xk1.Typ), iv xk1.At.X, iv xk1.At.Y, iv xk1.Quarters, .bool xk1.Below]] w) ?_ ?_
      ·rintro a w ⟨c1, h, hf, hs⟩
       unfold M_mount_CheckPlaces_k2 at h
       refine C.cond hf (b := c1) rfl (fun hc => ?_) (fun hc => ?_)
       ·replace h := h.1 hc
        refine wp_seq (R.list ?_)
        refine S.p hf hs (iv 1) rfl rfl fun a hf => ?_
        refine R.nil (X.then_ (wp_ret (X.blk_ret (X.blk_ret (X.then_ret (X.then_ret (X.blk_ret (X.then_ret ?_))))))))
        exact L.ret hf (run_results1 Tryd.results35 (ResIs.tmp hf rfl)) ⟨1, rfl, h, hs.nil⟩
       ·replace h := h.2 hc
        refine wp_seq ?_
        refine C.cut (J := fun a w => ∃ (c2 : Bool), M_mount_CheckPlaces_k3 Q next1 c2 ∧ FrOk 66 [(0, .slice bA b.length bC), (1, .slice lA l.length lC), (18, .slice lA l.length lC), (19, iv (l.length : Int)), (20, iv (k1 : Int)), (51, .bool c2)] a ∧ Sat w0 none_ [hbox g2 95 [.string (ba y2.Typ), iv y2.W, iv y2.H, iv y2.Tall, .string (ba y2.Nozzle)], hbox g1 28 [.string (ba xk1.Part), .string (ba xk1.Typ), iv xk1.At.X, iv xk1.At.Y, iv xk1.Quarters, .bool xk1.Below]] w) ?_ ?_
        ·rintro a w ⟨c2, h, hf, hs⟩
         unfold M_mount_CheckPlaces_k3 at h
         refine C.cond hf (b := c2) rfl (fun hc => ?_) (fun hc => ?_)
         ·replace h := h.1 hc
          refine wp_seq (R.list ?_)
          refine S.p hf hs (iv 8) rfl rfl fun a hf => ?_
          refine R.nil (X.then_ (wp_ret (X.blk_ret (X.blk_ret (X.then_ret (X.then_ret (X.blk_ret (X.then_ret ?_))))))))
          exact L.ret hf (run_results1 Tryd.results35 (ResIs.tmp hf rfl)) ⟨8, rfl, h, hs.nil⟩
         ·replace h := h.2 hc
          refine wp_skip (X.blk (X.blk (X.then_ (R.list ?_))))
          refine S.v hf hs (iv ((k1 + 1 : Nat) : Int)) rfl (V.incr rfl rfl rfl hltk1 hlenk1) fun a hf => ?_
          refine S.p hf hs (iv ((k1 + 1 : Nat) : Int)) rfl rfl fun a hf => ?_
          refine R.nil (X.then_ ?_)
          exact ⟨xk1, llk1, rfl, k1 + 1, range_drop hlk1, range_len hkk1, (by rw [hnext1] at h; exact h), (((((hf.nil.cons (hf.get 19 _ rfl)).cons (hf.get 18 _ rfl)).cons (hf.get 1 _ rfl)).cons (hf.get 0 _ rfl)).cons (hf.get 20 _ rfl)), hs.drop.drop⟩
        ·skip
         refine R.draw mo (by kernel_rfl) hs ?_
         refine D.p hf (iv (k1 : Int)) rfl rfl fun a hf => ?_
         refine D.p hf (.bool (decide ((k1 : Int) > 0))) rfl rfl fun a hf => ?_
         refine D.split hf (b := decide ((k1 : Int) > 0)) rfl rfl rfl (V.pure rfl) (fun hc a hf => ?_) (fun hc a hf => ?_)
         ·replace h := h.1 hc
          refine D.v hf ((pn g1 0)) rfl (V.fieldBox rfl rfl Tryd.runUnderlying28 rfl Tryd.sizeOf9 rfl rfl) fun a hf => ?_
          refine D.v hf (.string (ba xk1.Part)) rfl (V.loadBox 1 rfl rfl rfl Tryd.isAgg9 Tryd.sizeOf9 rfl rfl) fun a hf => ?_
          refine D.p hf (.slice lA l.length lC) rfl rfl fun a hf => ?_
          refine D.p hf (iv (k1 : Int)) rfl rfl fun a hf => ?_
          refine D.p hf (iv (w64 ((k1 : Int) - 1))) rfl rfl fun a hf => ?_
          obtain ⟨h0x1, x1, hx1, h⟩ := h
          refine D.v hf (elemPtr lA ((w64 ((k1 : Int) - 1)).toNat * 6)) rfl (V.index rfl rfl rfl Tryd.runUnderlying23 Tryd.sizeOf28 (hv_l.some_ (lt_of_get hx1)) h0x1 (lt_of_get hx1) rfl) fun a hf => ?_
          refine D.v hf (elemPtr lA ((w64 ((k1 : Int) - 1)).toNat * 6)) rfl (V.fieldEl rfl rfl (hv_l.some_ (lt_of_get hx1)) Tryd.runUnderlying28 rfl Tryd.sizeOf9 rfl rfl) fun a hf => ?_
          refine D.v hf (.string (ba x1.Part)) rfl (V.loadEl (off := 0) (Ag.args _ _ _) (hv_l.flat hx1) rfl rfl rfl Tryd.isAgg9 Tryd.sizeOf9 rfl rfl) fun a hf => ?_
          refine D.v hf (.bool (strLt xk1.Part x1.Part || xk1.Part == x1.Part)) rfl (V.strCmp (strLt xk1.Part x1.Part || xk1.Part == x1.Part) rfl rfl rfl rfl) fun a hf => ?_
          refine D.p hf (.bool (strLt xk1.Part x1.Part || xk1.Part == x1.Part)) rfl rfl fun a hf => ?_
          refine D.p hf (.bool (strLt xk1.Part x1.Part || xk1.Part == x1.Part)) rfl rfl fun a hf => ?_
          refine D.done (fun w hs => ?_)
          refine X.then_ ?_
          exact ⟨(strLt xk1.Part x1.Part || xk1.Part == x1.Part), h, ((((((hf.nil.cons (hf.get 51 _ rfl)).cons (hf.get 20 _ rfl)).cons (hf.get 19 _ rfl)).cons (hf.get 18 _ rfl)).cons (hf.get 1 _ rfl)).cons (hf.get 0 _ rfl)), hs⟩
         ·replace h := h.2 hc
          refine D.k hf rfl fun a hf => ?_
          refine D.k hf rfl fun a hf => ?_
          refine D.k hf rfl fun a hf => ?_
          refine D.k hf rfl fun a hf => ?_
          refine D.k hf rfl fun a hf => ?_
          refine D.k hf rfl fun a hf => ?_
          refine D.k hf rfl fun a hf => ?_
          refine D.k hf rfl fun a hf => ?_
          refine D.k hf rfl fun a hf => ?_
          refine D.p hf (.bool false) rfl rfl fun a hf => ?_
          refine D.p hf (.bool false) rfl rfl fun a hf => ?_
          refine D.done (fun w hs => ?_)
          refine X.then_ ?_
          exact ⟨false, h, ((((((hf.nil.cons (hf.get 51 _ rfl)).cons (hf.get 20 _ rfl)).cons (hf.get 19 _ rfl)).cons (hf.get 18 _ rfl)).cons (hf.get 1 _ rfl)).cons (hf.get 0 _ rfl)), hs⟩
      ·skip
       refine R.list ?_
       refine S.v hf hs ((pn g1 2)) rfl (V.fieldBox rfl rfl Tryd.runUnderlying28 rfl Tryd.sizeOf25 rfl rfl) fun a hf => ?_
       refine S.v hf hs (.agg #[iv xk1.At.X, iv xk1.At.Y]) rfl (V.loadBox 1 rfl rfl rfl Tryd.isAgg25 Tryd.sizeOf25 rfl rfl) fun a hf => ?_
       refine S.call hf rfl rfl rfl (call_fn (vs := [.agg #[iv xk1.At.X, iv xk1.At.Y]]) rfl rfl rfl Tryd.call77) (R_shape_IsPoint xk1.At _  _ h) (fun v a w' hf hr => ?_)
       obtain ⟨y5, rfl, h2, hs2⟩ := hr
       replace h := h2; replace hs := hs.call hs2; clear h2 hs2
       refine S.p hf hs (.bool (!y5)) rfl rfl fun a hf => ?_
       refine S.split hf hs (b := !y5) rfl rfl rfl (V.pure rfl) (fun hc a hf => ?_) (fun hc a hf => ?_)
       ·replace h := h.1 hc
        refine S.k hf rfl fun a hf => ?_
        refine S.k hf rfl fun a hf => ?_
        refine S.k hf rfl fun a hf => ?_
        refine S.k hf rfl fun a hf => ?_
        refine S.p hf hs (.bool true) rfl rfl fun a hf => ?_
        refine S.p hf hs (.bool true) rfl rfl fun a hf => ?_
        refine R.nil (X.then_ ?_)
        exact ⟨true, h, ((((((((hf.nil.cons (hf.get 40 _ rfl)).cons (hf.get 20 _ rfl)).cons (hf.get 19 _ rfl)).cons (hf.get 18 _ rfl)).cons (hf.get 7 _ rfl)).cons (hf.get 6 _ rfl)).cons (hf.get 1 _ rfl)).cons (hf.get 0 _ rfl)), hs⟩
       ·replace h := h.2 hc
        refine S.v hf hs ((pn g1 4)) rfl (V.fieldBox rfl rfl Tryd.runUnderlying28 rfl Tryd.sizeOf3 rfl rfl) fun a hf => ?_
        refine S.v hf hs (iv xk1.Quarters) rfl (V.loadBox 1 rfl rfl rfl Tryd.isAgg3 Tryd.sizeOf3 rfl rfl) fun a hf => ?_
        refine S.callv hf rfl rfl rfl (call_fn (vs := [iv xk1.Quarters, iv 0, iv 3]) rfl rfl rfl Tryd.call47) (C_mount_within xk1.Quarters 0 3 _ ) (fun a w hf hs' => ?_)
        replace hs := hs.call hs'; clear hs'
        refine S.p hf hs (.bool (!(within xk1.Quarters 0 3))) rfl rfl fun a hf => ?_
        refine S.p hf hs (.bool (!(within xk1.Quarters 0 3))) rfl rfl fun a hf => ?_
        refine S.p hf hs (.bool (!(within xk1.Quarters 0 3))) rfl rfl fun a hf => ?_
        refine R.nil (X.then_ ?_)
        exact ⟨(!(within xk1.Quarters 0 3)), h, ((((((((hf.nil.cons (hf.get 40 _ rfl)).cons (hf.get 20 _ rfl)).cons (hf.get 19 _ rfl)).cons (hf.get 18 _ rfl)).cons (hf.get 7 _ rfl)).cons (hf.get 6 _ rfl)).cons (hf.get 1 _ rfl)).cons (hf.get 0 _ rfl)), hs⟩
set_option linter.unusedVariables false
def M_ref10_checkPlace_k1 (Q : Int → Prop) (c1 : Bool) : Prop :=
  cnd c1 (Q 1) (Q 0)
def M_ref10_checkPlace (b : (List Body)) (p : Place) (Q : Int → Prop) : Prop :=
  M_ref10_isPath p.Part fun y1 => cnd (!y1) (Q 5) (M_ref10_bodyOf b p.Typ fun y2 => cnd (decide (y2 < 0)) (Q 9) (cnd (!(within p.At.X (-1000000) 1000000)) (M_ref10_checkPlace_k1 Q true) (cnd (!(within p.At.Y (-1000000) 1000000)) (M_ref10_checkPlace_k1 Q true) (M_ref10_checkPlace_k1 Q (!(within p.Quarters 0 3))))))
set_option maxHeartbeats 1000000 in
theorem R_ref10_checkPlace (b : (List Body)) (p : Place) (w0 : World) (bA : Option Addr) (bC : Nat) (hv_b : View w0 (old w0 none_) bA bC b) (Q : Int → Prop) (h : M_ref10_checkPlace b p Q) :
  Ret Tryd.prog 49 #[.slice bA b.length bC, .agg #[.string (ba p.Part), .string (ba p.Typ), iv p.At.X, iv p.At.Y, iv p.Quarters, .bool p.Below]] w0 fun v w' => ∃ (r0 : Int), v = iv r0 ∧ Q r0 ∧ Sat w0 none_ [] w' := by
 refine fn_enter Tryd.func49 rfl Tryd.ntmps49 rfl (fs := [(0, .slice bA b.length bC), (1, .agg #[.string (ba p.Part), .string (ba p.Typ), iv p.At.X, iv p.At.Y, iv p.Quarters, .bool p.Below])]) rfl (fun a hf => ?_)
 have hs := Sat.start w0 none_
 unfold M_ref10_checkPlace at h
 refine wp_seq (R.list ?_)
 refine S.box hf hs rfl rfl rfl [.string (ba p.Part), .string (ba p.Typ), iv p.At.X, iv p.At.Y, iv p.Quarters, .bool p.Below] rfl rfl rfl (fun g1 a w hf hs => ?_)
 refine S.p hf hs (iv 0) rfl rfl fun a hf => ?_
 refine R.nil (X.then_ (wp_seq (wp_block (wp_seq (R.list ?_)))))
 refine S.v hf hs ((pn g1 0)) rfl (V.fieldBox rfl rfl Tryd.runUnderlying28 rfl Tryd.sizeOf9 rfl rfl) fun a hf => ?_
 refine S.v hf hs (.string (ba p.Part)) rfl (V.loadBox 0 rfl rfl rfl Tryd.isAgg9 Tryd.sizeOf9 rfl rfl) fun a hf => ?_
 refine S.call hf rfl rfl rfl (call_fn (vs := [.string (ba p.Part)]) rfl rfl rfl Tryd.call82) (R_ref10_isPath p.Part _  _ h) (fun v a w' hf hr => ?_)
 obtain ⟨y1, rfl, h2, hs2⟩ := hr
 replace h := h2; replace hs := hs.call hs2; clear h2 hs2
 refine S.p hf hs (.bool (!y1)) rfl rfl fun a hf => ?_
 refine S.p hf hs (.bool (!y1)) rfl rfl fun a hf => ?_
 refine R.nil (X.then_ ?_)
 refine C.cond hf (b := !y1) rfl (fun hc => ?_) (fun hc => ?_)
 ·replace h := h.1 hc
  refine wp_seq (R.list ?_)
  refine S.p hf hs (iv 5) rfl rfl fun a hf => ?_
  refine R.nil (X.then_ (wp_ret (X.blk_ret (X.then_ret ?_))))
  exact L.ret hf (run_results1 Tryd.results49 (ResIs.tmp hf rfl)) ⟨5, rfl, h, hs.nil⟩
 ·replace h := h.2 hc
  refine wp_seq (R.list ?_)
  refine S.p hf hs (.slice bA b.length bC) rfl rfl fun a hf => ?_
  refine S.v hf hs ((pn g1 1)) rfl (V.fieldBox rfl rfl Tryd.runUnderlying28 rfl Tryd.sizeOf9 rfl rfl) fun a hf => ?_
  refine S.v hf hs (.string (ba p.Typ)) rfl (V.loadBox 0 rfl rfl rfl Tryd.isAgg9 Tryd.sizeOf9 rfl rfl) fun a hf => ?_
  refine S.call hf rfl rfl rfl (call_fn (vs := [.slice bA b.length bC, .string (ba p.Typ)]) rfl rfl rfl Tryd.call66) (R_ref10_bodyOf b p.Typ _ bA bC ((Ag.args _ _ _).view hv_b hs) _ h) (fun v a w' hf hr => ?_)
  obtain ⟨y2, rfl, h2, hs2⟩ := hr
  replace h := h2; replace hs := hs.call hs2; clear h2 hs2
  refine S.p hf hs (.bool (decide (y2 < 0))) rfl rfl fun a hf => ?_
  refine S.p hf hs (.bool (decide (y2 < 0))) rfl rfl fun a hf => ?_
  refine R.nil (X.then_ ?_)
  refine C.cond hf (b := decide (y2 < 0)) rfl (fun hc => ?_) (fun hc => ?_)
  ·replace h := h.1 hc
   refine wp_seq (R.list ?_)
   refine S.p hf hs (iv 9) rfl rfl fun a hf => ?_
   refine R.nil (X.then_ (wp_ret (X.blk_ret (X.then_ret ?_))))
   exact L.ret hf (run_results1 Tryd.results49 (ResIs.tmp hf rfl)) ⟨9, rfl, h, hs.nil⟩
  ·replace h := h.2 hc
   refine wp_seq ?_
   refine C.cut (J := fun a w => ∃ (c1 : Bool), M_ref10_checkPlace_k1 Q c1 ∧ FrOk 35 [(16, .bool c1)] a ∧ Sat w0 none_ [hbox g1 28 [.string (ba p.Part), .string (ba p.Typ), iv p.At.X, iv p.At.Y, iv p.Quarters, .bool p.Below]] w) ?_ ?_
   ·rintro a w ⟨c1, h, hf, hs⟩
    unfold M_ref10_checkPlace_k1 at h
    refine C.cond hf (b := c1) rfl (fun hc => ?_) (fun hc => ?_)
    ·replace h := h.1 hc
     refine wp_seq (R.list ?_)
     refine S.p hf hs (iv 1) rfl rfl fun a hf => ?_
     refine R.nil (X.then_ (wp_ret (X.blk_ret (X.then_ret ?_))))
     exact L.ret hf (run_results1 Tryd.results49 (ResIs.tmp hf rfl)) ⟨1, rfl, h, hs.nil⟩
    ·replace h := h.2 hc
     refine wp_skip (X.blk (X.then_ (wp_seq (R.list ?_))))
     refine S.p hf hs (iv 0) rfl rfl fun a hf => ?_
     refine R.nil (X.then_ (wp_ret ?_))
     exact L.ret hf (run_results1 Tryd.results49 (ResIs.tmp hf rfl)) ⟨0, rfl, h, hs.nil⟩
   ·skip
    refine R.list ?_
    refine S.v hf hs ((pn g1 2)) rfl (V.fieldBox rfl rfl Tryd.runUnderlying28 rfl Tryd.sizeOf25 rfl rfl) fun a hf => ?_
    refine S.v hf hs ((pn g1 2)) rfl (V.fieldBox rfl rfl Tryd.runUnderlying25 rfl Tryd.sizeOf3 rfl rfl) fun a hf => ?_
    refine S.v hf hs (iv p.At.X) rfl (V.loadBox 0 rfl rfl rfl Tryd.isAgg3 Tryd.sizeOf3 rfl rfl) fun a hf => ?_
    refine S.callv hf rfl rfl rfl (call_fn (vs := [iv p.At.X, iv (-1000000), iv 1000000]) rfl rfl rfl Tryd.call51) (C_ref10_within p.At.X (-1000000) 1000000 _ ) (fun a w hf hs' => ?_)
    replace hs := hs.call hs'; clear hs'
    refine S.p hf hs (.bool (!(within p.At.X (-1000000) 1000000))) rfl rfl fun a hf => ?_
    refine S.split hf hs (b := !(within p.At.X (-1000000) 1000000)) rfl rfl rfl (V.pure rfl) (fun hc a hf => ?_) (fun hc a hf => ?_)
    ·replace h := h.1 hc
     refine S.k hf rfl fun a hf => ?_
     refine S.k hf rfl fun a hf => ?_
     refine S.k hf rfl fun a hf => ?_
     refine S.k hf rfl fun a hf => ?_
     refine S.k hf rfl fun a hf => ?_
     refine S.p hf hs (.bool true) rfl rfl fun a hf => ?_
     refine S.p hf hs (.bool true) rfl rfl fun a hf => ?_
     refine S.k hf rfl fun a hf => ?_
     refine S.k hf rfl fun a hf => ?_
     refine S.k hf rfl fun a hf => ?_
     refine S.k hf rfl fun a hf => ?_
     refine S.p hf hs (.bool true) rfl rfl fun a hf => ?_
     refine S.p hf hs (.bool true) rfl rfl fun a hf => ?_
     refine R.nil (X.then_ ?_)
     exact ⟨true, h, (hf.nil.cons (hf.get 16 _ rfl)), hs⟩
    ·replace h := h.2 hc
     refine S.v hf hs ((pn g1 2)) rfl (V.fieldBox rfl rfl Tryd.runUnderlying28 rfl Tryd.sizeOf25 rfl rfl) fun a hf => ?_
     refine S.v hf hs ((pn g1 3)) rfl (V.fieldBox rfl rfl Tryd.runUnderlying25 rfl Tryd.sizeOf3 rfl rfl) fun a hf => ?_
     refine S.v hf hs (iv p.At.Y) rfl (V.loadBox 0 rfl rfl rfl Tryd.isAgg3 Tryd.sizeOf3 rfl rfl) fun a hf => ?_
     refine S.callv hf rfl rfl rfl (call_fn (vs := [iv p.At.Y, iv (-1000000), iv 1000000]) rfl rfl rfl Tryd.call51) (C_ref10_within p.At.Y (-1000000) 1000000 _ ) (fun a w hf hs' => ?_)
     replace hs := hs.call hs'; clear hs'
     refine S.p hf hs (.bool (!(within p.At.Y (-1000000) 1000000))) rfl rfl fun a hf => ?_
     refine S.p hf hs (.bool (!(within p.At.Y (-1000000) 1000000))) rfl rfl fun a hf => ?_
     refine S.split hf hs (b := !(within p.At.Y (-1000000) 1000000)) rfl rfl rfl (V.pure rfl) (fun hc a hf => ?_) (fun hc a hf => ?_)
     ·replace h := h.1 hc
      refine S.k hf rfl fun a hf => ?_
      refine S.k hf rfl fun a hf => ?_
      refine S.k hf rfl fun a hf => ?_
      refine S.k hf rfl fun a hf => ?_
      refine S.p hf hs (.bool true) rfl rfl fun a hf => ?_
      refine S.p hf hs (.bool true) rfl rfl fun a hf => ?_
      refine R.nil (X.then_ ?_)
      exact ⟨true, h, (hf.nil.cons (hf.get 16 _ rfl)), hs⟩
     ·replace h := h.2 hc
      refine S.v hf hs ((pn g1 4)) rfl (V.fieldBox rfl rfl Tryd.runUnderlying28 rfl Tryd.sizeOf3 rfl rfl) fun a hf => ?_
      refine S.v hf hs (iv p.Quarters) rfl (V.loadBox 0 rfl rfl rfl Tryd.isAgg3 Tryd.sizeOf3 rfl rfl) fun a hf => ?_
      refine S.callv hf rfl rfl rfl (call_fn (vs := [iv p.Quarters, iv 0, iv 3]) rfl rfl rfl Tryd.call51) (C_ref10_within p.Quarters 0 3 _ ) (fun a w hf hs' => ?_)
      replace hs := hs.call hs'; clear hs'
      refine S.p hf hs (.bool (!(within p.Quarters 0 3))) rfl rfl fun a hf => ?_
      refine S.p hf hs (.bool (!(within p.Quarters 0 3))) rfl rfl fun a hf => ?_
      refine S.p hf hs (.bool (!(within p.Quarters 0 3))) rfl rfl fun a hf => ?_
      refine R.nil (X.then_ ?_)
      exact ⟨(!(within p.Quarters 0 3)), h, (hf.nil.cons (hf.get 16 _ rfl)), hs⟩
set_option linter.unusedVariables false
def M_ref10_CheckPlaces_k2 (Q : Int → Prop) (next1 : Prop) (c1 : Bool) : Prop :=
  cnd c1 (Q 8) (next1)
def M_ref10_CheckPlaces_L1 (b : (List Body)) (l : (List Place)) (Q : Int → Prop) (k1 : Nat) (xk1 : Place)  (next1 : Prop) : Prop :=
  M_ref10_checkPlace b xk1 fun y2 => cnd (y2 != 0) (Q y2) (cnd (decide ((k1 : Int) > 0)) (idx l (w64 ((k1 : Int) - 1)) fun x1 => M_ref10_CheckPlaces_k2 Q next1 (strLt xk1.Part x1.Part || xk1.Part == x1.Part)) (M_ref10_CheckPlaces_k2 Q next1 false))
def M_ref10_CheckPlaces (b : (List Body)) (l : (List Place)) (Q : Int → Prop) : Prop :=
  M_ref10_CheckBodies b fun y1 => cnd (y1 != 0) (Q y1) (cnd (decide ((l.length : Int) > 1000)) (Q 2) (forIn' (fun k x (s : Unit) next => M_ref10_CheckPlaces_L1 b l Q k x (next ())) (fun (s : Unit) => Q 0) l 0 ()))
set_option maxHeartbeats 1000000 in
theorem R_ref10_CheckPlaces (b : (List Body)) (l : (List Place)) (w0 : World) (bA : Option Addr) (bC : Nat) (hv_b : View w0 (old w0 none_) bA bC b) (lA : Option Addr) (lC : Nat) (hv_l : View w0 (old w0 none_) lA lC l) (Q : Int → Prop) (h : M_ref10_CheckPlaces b l Q) :
  Ret Tryd.prog 36 #[.slice bA b.length bC, .slice lA l.length lC] w0 fun v w' => ∃ (r0 : Int), v = iv r0 ∧ Q r0 ∧ Sat w0 none_ [] w' := by
 refine fn_enter Tryd.func36 rfl Tryd.ntmps36 rfl (fs := [(0, .slice bA b.length bC), (1, .slice lA l.length lC)]) rfl (fun a hf => ?_)
 have hs := Sat.start w0 none_
 unfold M_ref10_CheckPlaces at h
 refine wp_seq (R.list ?_)
 refine S.p hf hs (iv 0) rfl rfl fun a hf => ?_
 refine R.nil (X.then_ (wp_seq (wp_seq (R.list ?_))))
 refine S.p hf hs (.slice bA b.length bC) rfl rfl fun a hf => ?_
 refine S.call hf rfl rfl rfl (call_fn (vs := [.slice bA b.length bC]) rfl rfl rfl Tryd.call34) (R_ref10_CheckBodies b _ bA bC ((Ag.args _ _ _).view hv_b hs) _ h) (fun v a w' hf hr => ?_)
 obtain ⟨y1, rfl, h2, hs2⟩ := hr
 replace h := h2; replace hs := hs.call hs2; clear h2 hs2
 refine S.p hf hs (iv y1) rfl rfl fun a hf => ?_
 refine R.nil (X.then_ (wp_seq (R.list ?_)))
 refine S.p hf hs (iv y1) rfl rfl fun a hf => ?_
 refine S.p hf hs (.bool (y1 != 0)) rfl rfl fun a hf => ?_
 refine R.nil (X.then_ ?_)
 refine C.cond hf (b := y1 != 0) rfl (fun hc => ?_) (fun hc => ?_)
 ·replace h := h.1 hc
  refine wp_seq (R.list ?_)
  refine S.p hf hs (iv y1) rfl rfl fun a hf => ?_
  refine S.p hf hs (iv y1) rfl rfl fun a hf => ?_
  refine R.nil (X.then_ (wp_ret (X.then_ret ?_)))
  exact L.ret hf (run_results1 Tryd.results36 (ResIs.tmp hf rfl)) ⟨y1, rfl, h, hs.nil⟩
 ·replace h := h.2 hc
  refine wp_skip (X.then_ (wp_seq (wp_seq (R.list ?_))))
  refine S.p hf hs (.slice lA l.length lC) rfl rfl fun a hf => ?_
  refine S.v hf hs (iv (l.length : Int)) rfl (V.len rfl rfl Tryd.runUnderlying23) fun a hf => ?_
  refine S.p hf hs (.bool (decide ((l.length : Int) > 1000))) rfl rfl fun a hf => ?_
  refine R.nil (X.then_ ?_)
  refine C.cond hf (b := decide ((l.length : Int) > 1000)) rfl (fun hc => ?_) (fun hc => ?_)
  ·replace h := h.1 hc
   refine wp_seq (R.list ?_)
   refine S.p hf hs (iv 2) rfl rfl fun a hf => ?_
   refine R.nil (X.then_ (wp_ret (X.then_ret ?_)))
   exact L.ret hf (run_results1 Tryd.results36 (ResIs.tmp hf rfl)) ⟨2, rfl, h, hs.nil⟩
  ·replace h := h.2 hc
   refine wp_skip (X.then_ (wp_seq (wp_seq (R.list ?_))))
   refine S.p hf hs (.slice lA l.length lC) rfl rfl fun a hf => ?_
   refine S.v hf hs (iv (l.length : Int)) rfl (V.len rfl rfl Tryd.runUnderlying23) fun a hf => ?_
   refine S.p hf hs (iv 0) rfl rfl fun a hf => ?_
   refine R.nil (X.then_ (wp_block ?_))
   have hlenk1 := hv_l.len64
   refine C.range (fun (ll : List Place) a w => ∃ (k1 : Nat) , l.drop k1 = ll ∧ k1 + ll.length = l.length ∧ forIn' (fun k x (s : Unit) next => M_ref10_CheckPlaces_L1 b l Q k x (next ())) (fun (s : Unit) => Q 0) ll k1 () ∧ FrOk 44 [(19, iv (k1 : Int)), (0, .slice bA b.length bC), (1, .slice lA l.length lC), (17, .slice lA l.length lC), (18, iv (l.length : Int))] a ∧ Sat w0 none_ [] w) l ⟨0, rfl, Nat.zero_add _, h, (((((hf.nil.cons (hf.get 18 _ rfl)).cons (hf.get 17 _ rfl)).cons (hf.get 1 _ rfl)).cons (hf.get 0 _ rfl)).cons (hf.get 19 _ rfl)), hs⟩ ?_
   clear h hf hs
   rintro llk1 a w ⟨k1, hlk1, hkk1, h, hf, hs⟩
   cases llk1 with
   | nil =>
    have hc := range_done hkk1
    replace h : Q 0 := h
    refine wp_seq (R.list ?_)
    refine S.v hf hs (.bool false) rfl (V.cmp false rfl rfl rfl rfl hc) fun a hf => ?_
    refine R.nil (X.then_ (wp_seq ?_))
    refine C.no hf rfl ?_
    refine wp_exit (X.then_exit (X.then_exit (X.blk_exit (X.then_ (wp_seq (R.list ?_))))))
    refine S.p hf hs (iv 0) rfl rfl fun a hf => ?_
    refine R.nil (X.then_ (wp_ret ?_))
    exact L.ret hf (run_results1 Tryd.results36 (ResIs.tmp hf rfl)) ⟨0, rfl, h, hs.nil⟩
   | cons xk1 llk1 =>
    have hltk1 := range_lt hkk1; have hc := range_go hkk1; have hxk1 := range_get hlk1
    obtain ⟨next1, hnext1⟩ : ∃ X : Prop, X = (forIn' (fun k x (s : Unit) next => M_ref10_CheckPlaces_L1 b l Q k x (next ())) (fun (s : Unit) => Q 0) llk1 (k1 + 1) ()) := ⟨_, rfl⟩
    replace h : M_ref10_CheckPlaces_L1 b l Q k1 xk1  next1 := by rw [hnext1]; exact h
    unfold M_ref10_CheckPlaces_L1 at h
    refine wp_seq (R.list ?_)
    refine S.v hf hs (.bool true) rfl (V.cmp true rfl rfl rfl rfl hc) fun a hf => ?_
    refine R.nil (X.then_ (wp_seq ?_))
    refine C.yes hf rfl ?_
    refine wp_skip (X.then_ (wp_seq (wp_block (wp_seq (R.list ?_)))))
    refine S.p hf hs (iv (k1 : Int)) rfl rfl fun a hf => ?_
    refine S.v hf hs (elemPtr lA (k1 * 6)) rfl (V.index rfl rfl rfl Tryd.runUnderlying23 Tryd.sizeOf28 (hv_l.some_ (lt_of_get hxk1)) (Int.natCast_nonneg _) (lt_of_get hxk1) rfl) fun a hf => ?_
    refine S.v hf hs (.agg #[.string (ba xk1.Part), .string (ba xk1.Typ), iv xk1.At.X, iv xk1.At.Y, iv xk1.Quarters, .bool xk1.Below]) rfl (V.loadEl (off := 0) (Ag.args _ _ _) (hv_l.flat hxk1) rfl rfl rfl Tryd.isAgg28 Tryd.sizeOf28 rfl rfl) fun a hf => ?_
    refine S.alloc hf hs rfl rfl rfl [.string (ba []), .string (ba []), iv 0, iv 0, iv 0, .bool false] rfl Tryd.zeroValue28 rfl (fun g1 a w hf hs => ?_)
    refine S.p hf hs (iv (k1 : Int)) rfl rfl fun a hf => ?_
    refine S.storeBox 0 hf hs rfl rfl [.string (ba xk1.Part), .string (ba xk1.Typ), iv xk1.At.X, iv xk1.At.Y, iv xk1.Quarters, .bool xk1.Below] [.string (ba xk1.Part), .string (ba xk1.Typ), iv xk1.At.X, iv xk1.At.Y, iv xk1.Quarters, .bool xk1.Below] rfl rfl rfl rfl rfl Tryd.sizeOf28 rfl rfl rfl rfl (fun a w hf hs => ?_)
    refine R.nil (X.then_ (wp_seq (wp_seq (R.list ?_))))
    refine S.p hf hs (.slice bA b.length bC) rfl rfl fun a hf => ?_
    refine S.v hf hs (.agg #[.string (ba xk1.Part), .string (ba xk1.Typ), iv xk1.At.X, iv xk1.At.Y, iv xk1.Quarters, .bool xk1.Below]) rfl (V.loadBox 0 rfl rfl rfl Tryd.isAgg28 Tryd.sizeOf28 rfl rfl) fun a hf => ?_
    refine S.call hf rfl rfl rfl (call_fn (vs := [.slice bA b.length bC, .agg #[.string (ba xk1.Part), .string (ba xk1.Typ), iv xk1.At.X, iv xk1.At.Y, iv xk1.Quarters, .bool xk1.Below]]) rfl rfl rfl Tryd.call49) (R_ref10_checkPlace b xk1 _ bA bC ((Ag.args _ _ _).view hv_b hs) _ h) (fun v a w' hf hr => ?_)
    obtain ⟨y2, rfl, h2, hs2⟩ := hr
    replace h := h2; replace hs := hs.call hs2; clear h2 hs2
    refine S.p hf hs (iv y2) rfl rfl fun a hf => ?_
    refine R.nil (X.then_ (wp_seq (R.list ?_)))
    refine S.p hf hs (iv y2) rfl rfl fun a hf => ?_
    refine S.p hf hs (.bool (y2 != 0)) rfl rfl fun a hf => ?_
    refine R.nil (X.then_ ?_)
    refine C.cond hf (b := y2 != 0) rfl (fun hc => ?_) (fun hc => ?_)
    ·replace h := h.1 hc
     refine wp_seq (R.list ?_)
     refine S.p hf hs (iv y2) rfl rfl fun a hf => ?_
     refine S.p hf hs (iv y2) rfl rfl fun a hf => ?_
     refine R.nil (X.then_ (wp_ret (X.then_ret (X.blk_ret (X.then_ret (X.then_ret (X.blk_ret (X.then_ret ?_))))))))
     exact L.ret hf (run_results1 Tryd.results36 (ResIs.tmp hf rfl)) ⟨y2, rfl, h, hs.nil⟩
    ·replace h := h.2 hc
     refine wp_skip (X.then_ (wp_seq ?_))
     refine C.cut (J := fun a w => ∃ (c1 : Bool), M_ref10_CheckPlaces_k2 Q next1 c1 ∧ FrOk 44 [(0, .slice bA b.length bC), (1, .slice lA l.length lC), (17, .slice lA l.length lC), (18, iv (l.length : Int)), (19, iv (k1 : Int)), (42, .bool c1)] a ∧ Sat w0 none_ [hbox g1 28 [.string (ba xk1.Part), .string (ba xk1.Typ), iv xk1.At.X, iv xk1.At.Y, iv xk1.Quarters, .bool xk1.Below]] w) ?_ ?_
     ·rintro a w ⟨c1, h, hf, hs⟩
      unfold M_ref10_CheckPlaces_k2 at h
      refine C.cond hf (b := c1) rfl (fun hc => ?_) (fun hc => ?_)
      ·replace h := h.1 hc
       refine wp_seq (R.list ?_)
       refine S.p hf hs (iv 8) rfl rfl fun a hf => ?_
       refine R.nil (X.then_ (wp_ret (X.blk_ret (X.then_ret (X.then_ret (X.blk_ret (X.then_ret ?_)))))))
       exact L.ret hf (run_results1 Tryd.results36 (ResIs.tmp hf rfl)) ⟨8, rfl, h, hs.nil⟩
      ·replace h := h.2 hc
       refine wp_skip (X.blk (X.then_ (R.list ?_)))
       refine S.v hf hs (iv ((k1 + 1 : Nat) : Int)) rfl (V.incr rfl rfl rfl hltk1 hlenk1) fun a hf => ?_
       refine S.p hf hs (iv ((k1 + 1 : Nat) : Int)) rfl rfl fun a hf => ?_
       refine R.nil (X.then_ ?_)
       exact ⟨xk1, llk1, rfl, k1 + 1, range_drop hlk1, range_len hkk1, (by rw [hnext1] at h; exact h), (((((hf.nil.cons (hf.get 18 _ rfl)).cons (hf.get 17 _ rfl)).cons (hf.get 1 _ rfl)).cons (hf.get 0 _ rfl)).cons (hf.get 19 _ rfl)), hs.drop⟩
     ·skip
      refine R.draw mo (by kernel_rfl) hs ?_
      refine D.p hf (iv (k1 : Int)) rfl rfl fun a hf => ?_
      refine D.p hf (.bool (decide ((k1 : Int) > 0))) rfl rfl fun a hf => ?_
      refine D.split hf (b := decide ((k1 : Int) > 0)) rfl rfl rfl (V.pure rfl) (fun hc a hf => ?_) (fun hc a hf => ?_)
      ·replace h := h.1 hc
       refine D.v hf ((pn g1 0)) rfl (V.fieldBox rfl rfl Tryd.runUnderlying28 rfl Tryd.sizeOf9 rfl rfl) fun a hf => ?_
       refine D.v hf (.string (ba xk1.Part)) rfl (V.loadBox 0 rfl rfl rfl Tryd.isAgg9 Tryd.sizeOf9 rfl rfl) fun a hf => ?_
       refine D.p hf (.slice lA l.length lC) rfl rfl fun a hf => ?_
       refine D.p hf (iv (k1 : Int)) rfl rfl fun a hf => ?_
       refine D.p hf (iv (w64 ((k1 : Int) - 1))) rfl rfl fun a hf => ?_
       obtain ⟨h0x1, x1, hx1, h⟩ := h
       refine D.v hf (elemPtr lA ((w64 ((k1 : Int) - 1)).toNat * 6)) rfl (V.index rfl rfl rfl Tryd.runUnderlying23 Tryd.sizeOf28 (hv_l.some_ (lt_of_get hx1)) h0x1 (lt_of_get hx1) rfl) fun a hf => ?_
       refine D.v hf (elemPtr lA ((w64 ((k1 : Int) - 1)).toNat * 6)) rfl (V.fieldEl rfl rfl (hv_l.some_ (lt_of_get hx1)) Tryd.runUnderlying28 rfl Tryd.sizeOf9 rfl rfl) fun a hf => ?_
       refine D.v hf (.string (ba x1.Part)) rfl (V.loadEl (off := 0) (Ag.args _ _ _) (hv_l.flat hx1) rfl rfl rfl Tryd.isAgg9 Tryd.sizeOf9 rfl rfl) fun a hf => ?_
       refine D.v hf (.bool (strLt xk1.Part x1.Part || xk1.Part == x1.Part)) rfl (V.strCmp (strLt xk1.Part x1.Part || xk1.Part == x1.Part) rfl rfl rfl rfl) fun a hf => ?_
       refine D.p hf (.bool (strLt xk1.Part x1.Part || xk1.Part == x1.Part)) rfl rfl fun a hf => ?_
       refine D.done (fun w hs => ?_)
       refine X.then_ ?_
       exact ⟨(strLt xk1.Part x1.Part || xk1.Part == x1.Part), h, ((((((hf.nil.cons (hf.get 42 _ rfl)).cons (hf.get 19 _ rfl)).cons (hf.get 18 _ rfl)).cons (hf.get 17 _ rfl)).cons (hf.get 1 _ rfl)).cons (hf.get 0 _ rfl)), hs⟩
      ·replace h := h.2 hc
       refine D.k hf rfl fun a hf => ?_
       refine D.k hf rfl fun a hf => ?_
       refine D.k hf rfl fun a hf => ?_
       refine D.k hf rfl fun a hf => ?_
       refine D.k hf rfl fun a hf => ?_
       refine D.k hf rfl fun a hf => ?_
       refine D.k hf rfl fun a hf => ?_
       refine D.k hf rfl fun a hf => ?_
       refine D.k hf rfl fun a hf => ?_
       refine D.p hf (.bool false) rfl rfl fun a hf => ?_
       refine D.done (fun w hs => ?_)
       refine X.then_ ?_
       exact ⟨false, h, ((((((hf.nil.cons (hf.get 42 _ rfl)).cons (hf.get 19 _ rfl)).cons (hf.get 18 _ rfl)).cons (hf.get 17 _ rfl)).cons (hf.get 1 _ rfl)).cons (hf.get 0 _ rfl)), hs⟩
end Go.Proofs.YtcmlcgjjkccaeaaDoor
