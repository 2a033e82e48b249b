/- Chapter texts of ours, as far as the claim needs them. -/
import Derived.Shelf.Strings.Split
import Derived.Test.YtihjaehkdgdenaaGreatDoorShelf
import Derived.Test.YtihjaehkdgdenaaGreatDoorRtW
import Derived.Test.YtihjaehkdgdenaaGreatDoorRtG
import Derived.Test.YtihjaehkdgdenaaGreatDoorRaw
namespace Go.Proofs.YtihjaehkdgdenaaGreatDoor
open Tryz Go Go.RowKit
set_option linter.unusedVariables false
set_option linter.unusedSectionVars false
set_option linter.unusedSimpArgs false
set_option maxHeartbeats 1000000
def M_lite_IndexByte (s_ : Str) (c : Int) (Q : Int → Prop) : Prop :=
  Q (byteAt s_ c)
theorem R_lite_IndexByte (s_ : Str) (c : Int) (w0 : World)  (Q : Int → Prop) (h : M_lite_IndexByte s_ c Q) :
  Ret Tryz.prog 135 #[.string (ba s_), .int .u8 c] w0 fun v w' => ∃ (r0 : Int), v = iv r0 ∧ Q r0 ∧ Sat w0 none_ [] w' := by
 refine fn_enter func135 rfl ntmps135 rfl (fs := [(0, .string (ba s_)), (1, .int .u8 c)]) rfl (fun a hf => ?_)
 have hs := Sat.start w0 none_
 unfold M_lite_IndexByte at h
 refine X.l (S.q hf hs (iv 0) rfl fun a hf => X.n (X.l (S.q hf hs (.string (ba s_)) rfl fun a hf => S.q hf hs (.int .u8 c) rfl fun a hf => S.v hf hs (iv (byteAt s_ c)) rfl (V.extern func157 (by kernel_rfl) (by kernel_rfl) (by kernel_rfl) (by kernel_rfl) rfl rfl rfl (run_byteAt _ _)) fun a hf => S.q hf hs (iv (byteAt s_ c)) rfl fun a hf => X.n (wp_ret ?_))))
 exact L.ret hf (run_results1 results135 (ResIs.tmp hf rfl)) ⟨(byteAt s_ c), rfl, h, hs.nil⟩
theorem E_lite_IndexByte (s : Str) (c : Int) : M_lite_IndexByte s c (· = byteAt s c) := rfl
theorem C_lite_IndexByte (s_ : Str) (c : Int) (w0 : World)  : Ret Tryz.prog 135 #[.string (ba s_), .int .u8 c] w0 fun v w' => v = .int .i64 (byteAt s_ c) ∧ Sat w0 none_ [] w' :=
  (R_lite_IndexByte s_ c w0  (· = (byteAt s_ c)) (E_lite_IndexByte s_ c)).mono fun v w' ⟨r0, hv, hr, hs⟩ => ⟨by subst hr; exact hv, hs⟩
def M_strings_IndexByte (s_ : Str) (c : Int) (Q : Int → Prop) : Prop :=
  Q (byteAt s_ c)
theorem R_strings_IndexByte (s_ : Str) (c : Int) (w0 : World)  (Q : Int → Prop) (h : M_strings_IndexByte s_ c Q) :
  Ret Tryz.prog 113 #[.string (ba s_), .int .u8 c] w0 fun v w' => ∃ (r0 : Int), v = iv r0 ∧ Q r0 ∧ Sat w0 none_ [] w' := by
 refine fn_enter func113 rfl ntmps113 rfl (fs := [(0, .string (ba s_)), (1, .int .u8 c)]) rfl (fun a hf => ?_)
 have hs := Sat.start w0 none_
 unfold M_strings_IndexByte at h
 refine X.l (S.q hf hs (iv 0) rfl fun a hf => X.n (X.l (S.q hf hs (.string (ba s_)) rfl fun a hf => S.q hf hs (.int .u8 c) rfl fun a hf => S.callv hf rfl rfl rfl (call_fn (vs := [.string (ba s_), .int .u8 c]) rfl rfl rfl call135) (C_lite_IndexByte s_ c _ ) (fun a w hf hs' => ?_))))
 replace hs := hs.call hs'; clear hs'
 refine S.q hf hs (iv (byteAt s_ c)) rfl fun a hf => X.n (wp_ret ?_)
 exact L.ret hf (run_results1 results113 (ResIs.tmp hf rfl)) ⟨(byteAt s_ c), rfl, h, hs.nil⟩
theorem E_strings_IndexByte (s : Str) (c : Int) : M_strings_IndexByte s c (· = byteAt s c) := rfl
theorem C_strings_IndexByte (s_ : Str) (c : Int) (w0 : World)  : Ret Tryz.prog 113 #[.string (ba s_), .int .u8 c] w0 fun v w' => v = .int .i64 (byteAt s_ c) ∧ Sat w0 none_ [] w' :=
  (R_strings_IndexByte s_ c w0  (· = (byteAt s_ c)) (E_strings_IndexByte s_ c)).mono fun v w' ⟨r0, hv, hr, hs⟩ => ⟨by subst hr; exact hv, hs⟩
def M_bytealg_CompareString (a_ : Str) (b : Str) (Q : Int → Prop) : Prop :=
  Q (cmpStr a_ b)
theorem R_bytealg_CompareString (a_ : Str) (b : Str) (w0 : World)  (Q : Int → Prop) (h : M_bytealg_CompareString a_ b Q) :
  Ret Tryz.prog 93 #[.string (ba a_), .string (ba b)] w0 fun v w' => ∃ (r0 : Int), v = iv r0 ∧ Q r0 ∧ Sat w0 none_ [] w' := by
 refine fn_enter func93 rfl ntmps93 rfl (fs := [(0, .string (ba a_)), (1, .string (ba b))]) rfl (fun a hf => ?_)
 have hs := Sat.start w0 none_
 unfold M_bytealg_CompareString at h
 refine X.l (S.q hf hs (iv 0) rfl fun a hf => X.n (X.l (S.q hf hs (.string (ba a_)) rfl fun a hf => S.q hf hs (.string (ba b)) rfl fun a hf => S.v hf hs (iv (cmpStr a_ b)) rfl (V.extern func115 (by kernel_rfl) (by kernel_rfl) (by kernel_rfl) (by kernel_rfl) rfl rfl rfl (run_cmpStr _ _)) fun a hf => S.q hf hs (iv (cmpStr a_ b)) rfl fun a hf => X.n (wp_ret ?_))))
 exact L.ret hf (run_results1 results93 (ResIs.tmp hf rfl)) ⟨(cmpStr a_ b), rfl, h, hs.nil⟩
theorem E_bytealg_CompareString (a b : Str) : M_bytealg_CompareString a b (· = cmpStr a b) := rfl
theorem C_bytealg_CompareString (a_ : Str) (b : Str) (w0 : World)  : Ret Tryz.prog 93 #[.string (ba a_), .string (ba b)] w0 fun v w' => v = .int .i64 (cmpStr a_ b) ∧ Sat w0 none_ [] w' :=
  (R_bytealg_CompareString a_ b w0  (· = (cmpStr a_ b)) (E_bytealg_CompareString a_ b)).mono fun v w' ⟨r0, hv, hr, hs⟩ => ⟨by subst hr; exact hv, hs⟩
def M_strings_Compare (a_ : Str) (b : Str) (Q : Int → Prop) : Prop :=
  Q (cmpStr a_ b)
theorem R_strings_Compare (a_ : Str) (b : Str) (w0 : World)  (Q : Int → Prop) (h : M_strings_Compare a_ b Q) :
  Ret Tryz.prog 66 #[.string (ba a_), .string (ba b)] w0 fun v w' => ∃ (r0 : Int), v = iv r0 ∧ Q r0 ∧ Sat w0 none_ [] w' := by
 refine fn_enter func66 rfl ntmps66 rfl (fs := [(0, .string (ba a_)), (1, .string (ba b))]) rfl (fun a hf => ?_)
 have hs := Sat.start w0 none_
 unfold M_strings_Compare at h
 refine X.l (S.q hf hs (iv 0) rfl fun a hf => X.n (X.l (S.q hf hs (.string (ba a_)) rfl fun a hf => S.q hf hs (.string (ba b)) rfl fun a hf => S.callv hf rfl rfl rfl (call_fn (vs := [.string (ba a_), .string (ba b)]) rfl rfl rfl call93) (C_bytealg_CompareString a_ b _ ) (fun a w hf hs' => ?_))))
 replace hs := hs.call hs'; clear hs'
 refine S.q hf hs (iv (cmpStr a_ b)) rfl fun a hf => X.n (wp_ret ?_)
 exact L.ret hf (run_results1 results66 (ResIs.tmp hf rfl)) ⟨(cmpStr a_ b), rfl, h, hs.nil⟩
theorem E_strings_Compare (a b : Str) : M_strings_Compare a b (· = cmpStr a b) := rfl
theorem C_strings_Compare (a_ : Str) (b : Str) (w0 : World)  : Ret Tryz.prog 66 #[.string (ba a_), .string (ba b)] w0 fun v w' => v = .int .i64 (cmpStr a_ b) ∧ Sat w0 none_ [] w' :=
  (R_strings_Compare a_ b w0  (· = (cmpStr a_ b)) (E_strings_Compare a_ b)).mono fun v w' ⟨r0, hv, hr, hs⟩ => ⟨by subst hr; exact hv, hs⟩
def M_strings_genSplit (s sep : Str) (sv n : Int) (Q : List Str → Prop) : Prop := must (s.length < 4294967281 ∧ (∃ c, sep = [c]) ∧ sv = 0 ∧ n = -1) (Q (Lib.split s sep))
theorem R_strings_genSplit (s sep : Str) (sv n : Int) (w0 : World) (Q : List Str → Prop) (h : M_strings_genSplit s sep sv n Q) :
  Ret Tryz.prog 112 #[.string (ba s), .string (ba sep), .int .i64 sv, .int .i64 n] w0 fun v w' => ∃ (r0 : List Str) (r0A : Option Addr) (r0C : Nat), v = .slice r0A r0.length r0C ∧ Q r0 ∧ Sat w0 none_ [hown 9 r0A r0C r0] w' := by
 obtain ⟨⟨hsl, ⟨c, rfl⟩, rfl, rfl⟩, hq⟩ := h
 have hsz : (ba s).size < 4294967281 := by rw [ba_size]; exact hsl
 have hb1 : (ba [c]).size = 1 := by rw [ba_size]; rfl
 have hle := Lib.countB_le (ba [c]) (Nat.le_of_eq hb1.symm) (ba s).size (ba s) (Nat.le_refl _)
 have hlen := Lib.splitB_all (ba [c]) (Nat.le_of_eq hb1.symm) 0 _ (ba s) rfl
 have key := Any.strings_genSplit_core (P := Tryz.prog) Tryz.lays221 (by kernel_rfl) (ba s) (ba [c]) 0 (-1) (Lib.countB (ba s) (ba [c]) + 1) w0 hsz (Nat.le_of_eq hb1.symm) (Nat.zero_le _)
  (fun x cc _ => by
   have hx := Any.strings_Index_one (P := Tryz.prog) { Tryz.lays221 with } x c (w0.alloc (.cells cc (Tryz.lays221_ren.t 9)))
   rw [← Lib.index_one] at hx
   exact hx)
  (by
   have hx := Any.strings_Count_one (P := Tryz.prog) { Tryz.lays221 with } (ba s) c w0
   have e : Lib.countB (ba s) (ba [c]) = Lib.countByte (ba s).data.toList c := Lib.count_one c _
   rw [e]
   exact hx)
  (by decide) (by decide) (by rw [if_pos (by decide)]; omega)
 rw [Nat.add_sub_cancel, hlen] at key
 have es : (Lib.splitB (ba [c]) 0 (Lib.countB (ba s) (ba [c])) (ba s)).map (·.data.toList) = Lib.split s [c] := by
  rw [Lib.splitB_data, ba_toList, ba_toList]
  show _ = Lib.splitK [c] 0 (Lib.count s [c]) s
  have : Lib.countB (ba s) (ba [c]) = Lib.count s [c] := by
   show Lib.count (ba s).data.toList (ba [c]).data.toList = _
   rw [ba_toList, ba_toList]
  rw [this]
 have el : Lib.countB (ba s) (ba [c]) + 1 = (Lib.split s [c]).length := by rw [← es, List.length_map, hlen]
 have ec : Lib.cellsOf (Lib.splitB (ba [c]) 0 (Lib.countB (ba s) (ba [c])) (ba s)) (Lib.countB (ba s) (ba [c]) + 1) = ((Lib.split s [c]).flatMap Flat.enc).toArray := by
  have e2 : Lib.cellsOf (Lib.splitB (ba [c]) 0 (Lib.countB (ba s) (ba [c])) (ba s)) (Lib.countB (ba s) (ba [c]) + 1) = ((Lib.splitB (ba [c]) 0 (Lib.countB (ba s) (ba [c])) (ba s)).map Value.string).toArray := by rw [← hlen]; exact Lib.cellsOf_full _
  rw [e2, ← es, List.flatMap_map]
  congr 1
  generalize Lib.splitB (ba [c]) 0 (Lib.countB (ba s) (ba [c])) (ba s) = l
  induction l with
  | nil => rfl
  | cons x l ih => rw [List.map_cons, ih]; rfl
 rw [ec, el] at key
 refine Calls.mono key fun e w' ⟨he, hw⟩ => ⟨_, he, Lib.split s [c], some ⟨w0.heap.size, 0, none⟩, (Lib.split s [c]).length, rfl, hq, ?_⟩
 rw [hw]
 refine (Sat.start w0 none_).add (Keeps.alloc w0 (.cells ((Lib.split s [c]).flatMap Flat.enc).toArray 9) _) (F' := fun b => b = w0.heap.size) ⟨⟨?_, ?_⟩, fun b => by simp [Value.ownBlock]; exact eq_comm⟩ (fun b hb => by subst hb; simp)
 ·rw [length_flatMap_enc]
 ·refine .inr ⟨w0.heap.size, (Lib.split s [c]).length, ((Lib.split s [c]).flatMap Flat.enc).toArray, rfl, Nat.zero_le _, heap_alloc_self w0 _, Nat.le_refl _, by rw [ba_size] at hle; unfold maxLen; omega, by rw [List.size_toArray, length_flatMap_enc], ?_⟩
  show List.take _ ((Lib.split s [c]).flatMap Flat.enc) = _
  exact List.take_of_length_le (by rw [length_flatMap_enc]; exact Nat.le_refl _)
theorem splitK_le (sep : Str) : ∀ (k : Nat) (s x : Str), x ∈ Lib.splitK sep 0 k s → x.length ≤ s.length
  | 0, s, x, h => by simp [Lib.splitK] at h; rw [h]; exact Nat.le_refl _
  | k + 1, s, x, h => by
    unfold Lib.splitK at h
    split at h
    · simp at h; rw [h]; exact Nat.le_refl _
    · rcases List.mem_cons.1 h with h | h
      · rw [h, List.length_take]; omega
      · have := splitK_le sep k _ x h
        rw [List.length_drop] at this; omega
def M_strings_Split (s_ : Str) (sep : Str) (Q : (List Str) → Prop) : Prop :=
  M_strings_genSplit s_ sep 0 (-1) fun y1 => Q y1
theorem R_strings_Split (s_ : Str) (sep : Str) (w0 : World)  (Q : (List Str) → Prop) (h : M_strings_Split s_ sep Q) :
  Ret Tryz.prog 86 #[.string (ba s_), .string (ba sep)] w0 fun v w' => ∃ (r0 : (List Str)) (r0A : Option Addr) (r0C : Nat), v = .slice r0A r0.length r0C ∧ Q r0 ∧ Sat w0 none_ [hown 9 r0A r0C r0] w' := by
 refine fn_enter func86 rfl ntmps86 rfl (fs := [(0, .string (ba s_)), (1, .string (ba sep))]) rfl (fun a hf => ?_)
 have hs := Sat.start w0 none_
 unfold M_strings_Split at h
 refine X.l (S.q hf hs (.slice none 0 0) rfl fun a hf => X.n (X.l (S.q hf hs (.string (ba s_)) rfl fun a hf => S.q hf hs (.string (ba sep)) rfl fun a hf => S.call hf rfl rfl rfl (call_fn (vs := [.string (ba s_), .string (ba sep), iv 0, iv (-1)]) rfl rfl rfl call112) (R_strings_genSplit s_ sep 0 (-1) _  _ h) (fun v a w' hf hr => ?_))))
 obtain ⟨y1, y1A, y1C, rfl, h2, hs2⟩ := hr
 replace h := h2; replace hs := hs.call hs2; clear h2 hs2
 refine S.q hf hs (.slice y1A y1.length y1C) rfl fun a hf => X.n (wp_ret ?_)
 replace hs := hs.take 1
 exact L.ret hf (run_results1 results86 (ResIs.tmp hf rfl)) ⟨y1, y1A, y1C, rfl, h, hs⟩
def M_netlist_IsWord_k2 (Q : Bool → Prop) (n2 : Int) (again1 : Int → Prop) (c1 : Bool) : Prop :=
  cnd c1 (Q false) (again1 (w64 (n2 + 1)))
def M_netlist_IsWord_L1 (s_ : Str) (Q : Bool → Prop) (again1 : Int → Prop) (n2 : Int) : Prop :=
  cnd (decide (n2 < (s_.length : Int))) (idx s_ n2 fun x1 => cnd (decide ((x1.toNat : Int) < 65)) (cnd (decide ((x1.toNat : Int) < 97)) (cnd (decide ((x1.toNat : Int) < 48)) (M_netlist_IsWord_k2 Q n2 again1 (decide ((byteAt [95, 43, 45, 35] (x1.toNat : Int)) < 0))) (cnd (decide ((x1.toNat : Int) > 57)) (M_netlist_IsWord_k2 Q n2 again1 (decide ((byteAt [95, 43, 45, 35] (x1.toNat : Int)) < 0))) (M_netlist_IsWord_k2 Q n2 again1 false))) (cnd (decide ((x1.toNat : Int) > 122)) (cnd (decide ((x1.toNat : Int) < 48)) (M_netlist_IsWord_k2 Q n2 again1 (decide ((byteAt [95, 43, 45, 35] (x1.toNat : Int)) < 0))) (cnd (decide ((x1.toNat : Int) > 57)) (M_netlist_IsWord_k2 Q n2 again1 (decide ((byteAt [95, 43, 45, 35] (x1.toNat : Int)) < 0))) (M_netlist_IsWord_k2 Q n2 again1 false))) (M_netlist_IsWord_k2 Q n2 again1 false))) (cnd (decide ((x1.toNat : Int) > 90)) (cnd (decide ((x1.toNat : Int) < 97)) (cnd (decide ((x1.toNat : Int) < 48)) (M_netlist_IsWord_k2 Q n2 again1 (decide ((byteAt [95, 43, 45, 35] (x1.toNat : Int)) < 0))) (cnd (decide ((x1.toNat : Int) > 57)) (M_netlist_IsWord_k2 Q n2 again1 (decide ((byteAt [95, 43, 45, 35] (x1.toNat : Int)) < 0))) (M_netlist_IsWord_k2 Q n2 again1 false))) (cnd (decide ((x1.toNat : Int) > 122)) (cnd (decide ((x1.toNat : Int) < 48)) (M_netlist_IsWord_k2 Q n2 again1 (decide ((byteAt [95, 43, 45, 35] (x1.toNat : Int)) < 0))) (cnd (decide ((x1.toNat : Int) > 57)) (M_netlist_IsWord_k2 Q n2 again1 (decide ((byteAt [95, 43, 45, 35] (x1.toNat : Int)) < 0))) (M_netlist_IsWord_k2 Q n2 again1 false))) (M_netlist_IsWord_k2 Q n2 again1 false))) (M_netlist_IsWord_k2 Q n2 again1 false))) (cnd (decide ((s_.length : Int) ≥ 1)) (Q (decide ((s_.length : Int) ≤ 40))) (Q false))
def M_netlist_IsWord (s_ : Str) (Q : Bool → Prop) : Prop :=
  lp (fun again (s : Int) => M_netlist_IsWord_L1 s_ Q (fun n2 => again n2) s) 0
theorem R_netlist_IsWord (s_ : Str) (w0 : World)  (Q : Bool → Prop) (h : M_netlist_IsWord s_ Q) :
  Ret Tryz.prog 88 #[.string (ba s_)] w0 fun v w' => ∃ (r0 : Bool), v = .bool r0 ∧ Q r0 ∧ Sat w0 none_ [] w' := by
 refine fn_enter func88 rfl ntmps88 rfl (fs := [(0, .string (ba s_))]) rfl (fun a hf => ?_)
 have hs := Sat.start w0 none_
 unfold M_netlist_IsWord at h
 refine X.l (S.q hf hs (.bool false) rfl fun a hf => X.n (wp_seq (X.l (S.q hf hs (.string (ba s_)) rfl fun a hf => S.v hf hs (iv (s_.length : Int)) rfl (V.lenStr rfl rfl runUnderlying9) fun a hf => S.q hf hs (iv 0) rfl fun a hf => X.n (wp_block ?_)))))
 obtain ⟨kk, h⟩ := h
 refine C.loop (fun kk a w => ∃ (n2 : Int), iterF (fun again (s : Int) => M_netlist_IsWord_L1 s_ Q (fun n2 => again n2) s) kk n2 ∧ FrOk 49 [(0, .string (ba s_)), (6, iv (s_.length : Int)), (7, iv n2)] a ∧ Sat w0 none_ [] w) kk ⟨0, h, (((hf.nil.cons (hf.get 7 _ rfl)).cons (hf.get 6 _ rfl)).cons (hf.get 0 _ rfl)), hs⟩ (fun a w ⟨_, h, _, _⟩ => h) ?_
 clear h hf hs
 rintro kk a w ⟨n2, h, hf, hs⟩
 obtain ⟨again1, hagain1⟩ : ∃ X : Int → Prop, X = (fun n2 => iterF (fun again (s : Int) => M_netlist_IsWord_L1 s_ Q (fun n2 => again n2) s) kk n2) := ⟨_, rfl⟩
 replace h : M_netlist_IsWord_L1 s_ Q again1 n2 := by rw [hagain1]; exact h
 unfold M_netlist_IsWord_L1 at h
 refine X.l (S.q hf hs (.bool (decide (n2 < (s_.length : Int)))) rfl fun a hf => X.n (wp_seq ?_))
 refine C.cond hf (b := decide (n2 < (s_.length : Int))) rfl (fun hc => ?_) (fun hc => ?_)
 ·replace h := h.1 hc
  refine wp_skip (X.then_ (wp_seq (wp_block (X.l (S.q hf hs (iv n2) rfl fun a hf => S.q hf hs (iv n2) rfl fun a hf => X.n (X.l (S.q hf hs (.string (ba s_)) rfl fun a hf => S.q hf hs (iv n2) rfl fun a hf => ?_)))))))
  obtain ⟨h0x1, x1, hx1, h⟩ := h
  refine S.v hf hs (.int .u8 (x1.toNat : Int)) rfl (V.indexStr rfl rfl rfl runUnderlying9 h0x1 hx1) fun a hf => S.q hf hs (.int .u8 (x1.toNat : Int)) rfl fun a hf => X.n (wp_seq ?_)
  refine C.cut (J := fun a w => ∃ (c1 : Bool), M_netlist_IsWord_k2 Q n2 again1 c1 ∧ FrOk 49 [(0, .string (ba s_)), (6, iv (s_.length : Int)), (7, iv n2), (39, .bool c1)] a ∧ Sat w0 none_ [] w) ?_ ?_
  ·rintro a w ⟨c1, h, hf, hs⟩
   unfold M_netlist_IsWord_k2 at h
   refine C.cond hf (b := c1) rfl (fun hc => ?_) (fun hc => ?_)
   ·replace h := h.1 hc
    refine X.l (S.q hf hs (.bool false) rfl fun a hf => X.n (wp_ret (X.blk_ret (X.then_ret (X.then_ret (X.blk_ret (X.then_ret ?_)))))))
    exact L.ret hf (run_results1 results88 (ResIs.tmp hf rfl)) ⟨false, rfl, h, hs.nil⟩
   ·replace h := h.2 hc
    refine wp_skip (X.blk (X.then_ (R.list (S.q hf hs (iv (w64 (n2 + 1))) rfl fun a hf => S.q hf hs (iv (w64 (n2 + 1))) rfl fun a hf => X.n ?_))))
    exact ⟨(w64 (n2 + 1)), (by rw [hagain1] at h; exact h), (((hf.nil.cons (hf.get 7 _ rfl)).cons (hf.get 6 _ rfl)).cons (hf.get 0 _ rfl)), hs⟩
  ·skip
   refine R.list (S.q hf hs (.int .u8 (x1.toNat : Int)) rfl fun a hf => S.q hf hs (.bool (decide ((x1.toNat : Int) < 65))) rfl fun a hf => ?_)
   refine S.split hf hs (b := decide ((x1.toNat : Int) < 65)) rfl rfl rfl (V.pure rfl) (fun hc a hf => ?_) (fun hc a hf => ?_)
   ·replace h := h.1 hc
    refine S.k hf rfl fun a hf => S.k hf rfl fun a hf => S.q hf hs (.bool true) rfl fun a hf => S.q hf hs (.bool true) rfl fun a hf => S.q hf hs (.int .u8 (x1.toNat : Int)) rfl fun a hf => S.q hf hs (.bool (decide ((x1.toNat : Int) < 97))) rfl fun a hf => ?_
    refine S.split hf hs (b := decide ((x1.toNat : Int) < 97)) rfl rfl rfl (V.pure rfl) (fun hc a hf => ?_) (fun hc a hf => ?_)
    ·replace h := h.1 hc
     refine S.k hf rfl fun a hf => S.k hf rfl fun a hf => S.q hf hs (.bool true) rfl fun a hf => S.q hf hs (.bool true) rfl fun a hf => S.q hf hs (.bool true) rfl fun a hf => S.q hf hs (.int .u8 (x1.toNat : Int)) rfl fun a hf => S.q hf hs (.bool (decide ((x1.toNat : Int) < 48))) rfl fun a hf => ?_
     refine S.split hf hs (b := decide ((x1.toNat : Int) < 48)) rfl rfl rfl (V.pure rfl) (fun hc a hf => ?_) (fun hc a hf => ?_)
     ·replace h := h.1 hc
      refine S.k hf rfl fun a hf => S.k hf rfl fun a hf => S.q hf hs (.bool true) rfl fun a hf => S.q hf hs (.bool true) rfl fun a hf => S.q hf hs (.bool true) rfl fun a hf => S.q hf hs (.int .u8 (x1.toNat : Int)) rfl fun a hf => S.callv hf rfl rfl rfl (call_fn (vs := [.string (ba [95, 43, 45, 35]), .int .u8 (x1.toNat : Int)]) rfl rfl rfl call113) (C_strings_IndexByte [95, 43, 45, 35] (x1.toNat : Int) _ ) (fun a w hf hs' => ?_)
      replace hs := hs.call hs'; clear hs'
      refine S.q hf hs (.bool (decide ((byteAt [95, 43, 45, 35] (x1.toNat : Int)) < 0))) rfl fun a hf => S.q hf hs (.bool (decide ((byteAt [95, 43, 45, 35] (x1.toNat : Int)) < 0))) rfl fun a hf => X.n ?_
      exact ⟨(decide ((byteAt [95, 43, 45, 35] (x1.toNat : Int)) < 0)), h, ((((hf.nil.cons (hf.get 39 _ rfl)).cons (hf.get 7 _ rfl)).cons (hf.get 6 _ rfl)).cons (hf.get 0 _ rfl)), hs⟩
     ·replace h := h.2 hc
      refine S.q hf hs (.int .u8 (x1.toNat : Int)) rfl fun a hf => S.q hf hs (.bool (decide ((x1.toNat : Int) > 57))) rfl fun a hf => S.q hf hs (.bool (decide ((x1.toNat : Int) > 57))) rfl fun a hf => S.q hf hs (.bool (decide ((x1.toNat : Int) > 57))) rfl fun a hf => ?_
      refine S.split hf hs (b := decide ((x1.toNat : Int) > 57)) rfl rfl rfl (V.pure rfl) (fun hc a hf => ?_) (fun hc a hf => ?_)
      ·replace h := h.1 hc
       refine S.q hf hs (.int .u8 (x1.toNat : Int)) rfl fun a hf => S.callv hf rfl rfl rfl (call_fn (vs := [.string (ba [95, 43, 45, 35]), .int .u8 (x1.toNat : Int)]) rfl rfl rfl call113) (C_strings_IndexByte [95, 43, 45, 35] (x1.toNat : Int) _ ) (fun a w hf hs' => ?_)
       replace hs := hs.call hs'; clear hs'
       refine S.q hf hs (.bool (decide ((byteAt [95, 43, 45, 35] (x1.toNat : Int)) < 0))) rfl fun a hf => S.q hf hs (.bool (decide ((byteAt [95, 43, 45, 35] (x1.toNat : Int)) < 0))) rfl fun a hf => X.n ?_
       exact ⟨(decide ((byteAt [95, 43, 45, 35] (x1.toNat : Int)) < 0)), h, ((((hf.nil.cons (hf.get 39 _ rfl)).cons (hf.get 7 _ rfl)).cons (hf.get 6 _ rfl)).cons (hf.get 0 _ rfl)), hs⟩
      ·replace h := h.2 hc
       refine S.k hf rfl fun a hf => S.k hf rfl fun a hf => S.k hf rfl fun a hf => S.q hf hs (.bool false) rfl fun a hf => X.n ?_
       exact ⟨false, h, ((((hf.nil.cons (hf.get 39 _ rfl)).cons (hf.get 7 _ rfl)).cons (hf.get 6 _ rfl)).cons (hf.get 0 _ rfl)), hs⟩
    ·replace h := h.2 hc
     refine S.q hf hs (.int .u8 (x1.toNat : Int)) rfl fun a hf => S.q hf hs (.bool (decide ((x1.toNat : Int) > 122))) rfl fun a hf => S.q hf hs (.bool (decide ((x1.toNat : Int) > 122))) rfl fun a hf => S.q hf hs (.bool (decide ((x1.toNat : Int) > 122))) rfl fun a hf => ?_
     refine S.split hf hs (b := decide ((x1.toNat : Int) > 122)) rfl rfl rfl (V.pure rfl) (fun hc a hf => ?_) (fun hc a hf => ?_)
     ·replace h := h.1 hc
      refine S.q hf hs (.int .u8 (x1.toNat : Int)) rfl fun a hf => S.q hf hs (.bool (decide ((x1.toNat : Int) < 48))) rfl fun a hf => ?_
      refine S.split hf hs (b := decide ((x1.toNat : Int) < 48)) rfl rfl rfl (V.pure rfl) (fun hc a hf => ?_) (fun hc a hf => ?_)
      ·replace h := h.1 hc
       refine S.k hf rfl fun a hf => S.k hf rfl fun a hf => S.q hf hs (.bool true) rfl fun a hf => S.q hf hs (.bool true) rfl fun a hf => S.q hf hs (.bool true) rfl fun a hf => S.q hf hs (.int .u8 (x1.toNat : Int)) rfl fun a hf => S.callv hf rfl rfl rfl (call_fn (vs := [.string (ba [95, 43, 45, 35]), .int .u8 (x1.toNat : Int)]) rfl rfl rfl call113) (C_strings_IndexByte [95, 43, 45, 35] (x1.toNat : Int) _ ) (fun a w hf hs' => ?_)
       replace hs := hs.call hs'; clear hs'
       refine S.q hf hs (.bool (decide ((byteAt [95, 43, 45, 35] (x1.toNat : Int)) < 0))) rfl fun a hf => S.q hf hs (.bool (decide ((byteAt [95, 43, 45, 35] (x1.toNat : Int)) < 0))) rfl fun a hf => X.n ?_
       exact ⟨(decide ((byteAt [95, 43, 45, 35] (x1.toNat : Int)) < 0)), h, ((((hf.nil.cons (hf.get 39 _ rfl)).cons (hf.get 7 _ rfl)).cons (hf.get 6 _ rfl)).cons (hf.get 0 _ rfl)), hs⟩
      ·replace h := h.2 hc
       refine S.q hf hs (.int .u8 (x1.toNat : Int)) rfl fun a hf => S.q hf hs (.bool (decide ((x1.toNat : Int) > 57))) rfl fun a hf => S.q hf hs (.bool (decide ((x1.toNat : Int) > 57))) rfl fun a hf => S.q hf hs (.bool (decide ((x1.toNat : Int) > 57))) rfl fun a hf => ?_
       refine S.split hf hs (b := decide ((x1.toNat : Int) > 57)) rfl rfl rfl (V.pure rfl) (fun hc a hf => ?_) (fun hc a hf => ?_)
       ·replace h := h.1 hc
        refine S.q hf hs (.int .u8 (x1.toNat : Int)) rfl fun a hf => S.callv hf rfl rfl rfl (call_fn (vs := [.string (ba [95, 43, 45, 35]), .int .u8 (x1.toNat : Int)]) rfl rfl rfl call113) (C_strings_IndexByte [95, 43, 45, 35] (x1.toNat : Int) _ ) (fun a w hf hs' => ?_)
        replace hs := hs.call hs'; clear hs'
        refine S.q hf hs (.bool (decide ((byteAt [95, 43, 45, 35] (x1.toNat : Int)) < 0))) rfl fun a hf => S.q hf hs (.bool (decide ((byteAt [95, 43, 45, 35] (x1.toNat : Int)) < 0))) rfl fun a hf => X.n ?_
        exact ⟨(decide ((byteAt [95, 43, 45, 35] (x1.toNat : Int)) < 0)), h, ((((hf.nil.cons (hf.get 39 _ rfl)).cons (hf.get 7 _ rfl)).cons (hf.get 6 _ rfl)).cons (hf.get 0 _ rfl)), hs⟩
       ·replace h := h.2 hc
        refine S.k hf rfl fun a hf => S.k hf rfl fun a hf => S.k hf rfl fun a hf => S.q hf hs (.bool false) rfl fun a hf => X.n ?_
        exact ⟨false, h, ((((hf.nil.cons (hf.get 39 _ rfl)).cons (hf.get 7 _ rfl)).cons (hf.get 6 _ rfl)).cons (hf.get 0 _ rfl)), hs⟩
     ·replace h := h.2 hc
      refine S.k hf rfl fun a hf => S.k hf rfl fun a hf => S.k hf rfl fun a hf => S.k hf rfl fun a hf => S.k hf rfl fun a hf => S.k hf rfl fun a hf => S.q hf hs (.bool false) rfl fun a hf => S.q hf hs (.bool false) rfl fun a hf => S.k hf rfl fun a hf => S.k hf rfl fun a hf => S.k hf rfl fun a hf => S.q hf hs (.bool false) rfl fun a hf => ?_
      refine X.n ?_
      exact ⟨false, h, ((((hf.nil.cons (hf.get 39 _ rfl)).cons (hf.get 7 _ rfl)).cons (hf.get 6 _ rfl)).cons (hf.get 0 _ rfl)), hs⟩
   ·replace h := h.2 hc
    refine S.q hf hs (.int .u8 (x1.toNat : Int)) rfl fun a hf => S.q hf hs (.bool (decide ((x1.toNat : Int) > 90))) rfl fun a hf => S.q hf hs (.bool (decide ((x1.toNat : Int) > 90))) rfl fun a hf => ?_
    refine S.split hf hs (b := decide ((x1.toNat : Int) > 90)) rfl rfl rfl (V.pure rfl) (fun hc a hf => ?_) (fun hc a hf => ?_)
    ·replace h := h.1 hc
     refine S.q hf hs (.int .u8 (x1.toNat : Int)) rfl fun a hf => S.q hf hs (.bool (decide ((x1.toNat : Int) < 97))) rfl fun a hf => ?_
     refine S.split hf hs (b := decide ((x1.toNat : Int) < 97)) rfl rfl rfl (V.pure rfl) (fun hc a hf => ?_) (fun hc a hf => ?_)
     ·replace h := h.1 hc
      refine S.k hf rfl fun a hf => S.k hf rfl fun a hf => S.q hf hs (.bool true) rfl fun a hf => S.q hf hs (.bool true) rfl fun a hf => S.q hf hs (.bool true) rfl fun a hf => S.q hf hs (.int .u8 (x1.toNat : Int)) rfl fun a hf => S.q hf hs (.bool (decide ((x1.toNat : Int) < 48))) rfl fun a hf => ?_
      refine S.split hf hs (b := decide ((x1.toNat : Int) < 48)) rfl rfl rfl (V.pure rfl) (fun hc a hf => ?_) (fun hc a hf => ?_)
      ·replace h := h.1 hc
       refine S.k hf rfl fun a hf => S.k hf rfl fun a hf => S.q hf hs (.bool true) rfl fun a hf => S.q hf hs (.bool true) rfl fun a hf => S.q hf hs (.bool true) rfl fun a hf => S.q hf hs (.int .u8 (x1.toNat : Int)) rfl fun a hf => S.callv hf rfl rfl rfl (call_fn (vs := [.string (ba [95, 43, 45, 35]), .int .u8 (x1.toNat : Int)]) rfl rfl rfl call113) (C_strings_IndexByte [95, 43, 45, 35] (x1.toNat : Int) _ ) (fun a w hf hs' => ?_)
       replace hs := hs.call hs'; clear hs'
       refine S.q hf hs (.bool (decide ((byteAt [95, 43, 45, 35] (x1.toNat : Int)) < 0))) rfl fun a hf => S.q hf hs (.bool (decide ((byteAt [95, 43, 45, 35] (x1.toNat : Int)) < 0))) rfl fun a hf => X.n ?_
       exact ⟨(decide ((byteAt [95, 43, 45, 35] (x1.toNat : Int)) < 0)), h, ((((hf.nil.cons (hf.get 39 _ rfl)).cons (hf.get 7 _ rfl)).cons (hf.get 6 _ rfl)).cons (hf.get 0 _ rfl)), hs⟩
      ·replace h := h.2 hc
       refine S.q hf hs (.int .u8 (x1.toNat : Int)) rfl fun a hf => S.q hf hs (.bool (decide ((x1.toNat : Int) > 57))) rfl fun a hf => S.q hf hs (.bool (decide ((x1.toNat : Int) > 57))) rfl fun a hf => S.q hf hs (.bool (decide ((x1.toNat : Int) > 57))) rfl fun a hf => ?_
       refine S.split hf hs (b := decide ((x1.toNat : Int) > 57)) rfl rfl rfl (V.pure rfl) (fun hc a hf => ?_) (fun hc a hf => ?_)
       ·replace h := h.1 hc
        refine S.q hf hs (.int .u8 (x1.toNat : Int)) rfl fun a hf => S.callv hf rfl rfl rfl (call_fn (vs := [.string (ba [95, 43, 45, 35]), .int .u8 (x1.toNat : Int)]) rfl rfl rfl call113) (C_strings_IndexByte [95, 43, 45, 35] (x1.toNat : Int) _ ) (fun a w hf hs' => ?_)
        replace hs := hs.call hs'; clear hs'
        refine S.q hf hs (.bool (decide ((byteAt [95, 43, 45, 35] (x1.toNat : Int)) < 0))) rfl fun a hf => S.q hf hs (.bool (decide ((byteAt [95, 43, 45, 35] (x1.toNat : Int)) < 0))) rfl fun a hf => X.n ?_
        exact ⟨(decide ((byteAt [95, 43, 45, 35] (x1.toNat : Int)) < 0)), h, ((((hf.nil.cons (hf.get 39 _ rfl)).cons (hf.get 7 _ rfl)).cons (hf.get 6 _ rfl)).cons (hf.get 0 _ rfl)), hs⟩
       ·replace h := h.2 hc
        refine S.k hf rfl fun a hf => S.k hf rfl fun a hf => S.k hf rfl fun a hf => S.q hf hs (.bool false) rfl fun a hf => X.n ?_
        exact ⟨false, h, ((((hf.nil.cons (hf.get 39 _ rfl)).cons (hf.get 7 _ rfl)).cons (hf.get 6 _ rfl)).cons (hf.get 0 _ rfl)), hs⟩
     ·replace h := h.2 hc
      refine S.q hf hs (.int .u8 (x1.toNat : Int)) rfl fun a hf => S.q hf hs (.bool (decide ((x1.toNat : Int) > 122))) rfl fun a hf => S.q hf hs (.bool (decide ((x1.toNat : Int) > 122))) rfl fun a hf => S.q hf hs (.bool (decide ((x1.toNat : Int) > 122))) rfl fun a hf => ?_
      refine S.split hf hs (b := decide ((x1.toNat : Int) > 122)) rfl rfl rfl (V.pure rfl) (fun hc a hf => ?_) (fun hc a hf => ?_)
      ·replace h := h.1 hc
       refine S.q hf hs (.int .u8 (x1.toNat : Int)) rfl fun a hf => S.q hf hs (.bool (decide ((x1.toNat : Int) < 48))) rfl fun a hf => ?_
       refine S.split hf hs (b := decide ((x1.toNat : Int) < 48)) rfl rfl rfl (V.pure rfl) (fun hc a hf => ?_) (fun hc a hf => ?_)
       ·replace h := h.1 hc
        refine S.k hf rfl fun a hf => S.k hf rfl fun a hf => S.q hf hs (.bool true) rfl fun a hf => S.q hf hs (.bool true) rfl fun a hf => S.q hf hs (.bool true) rfl fun a hf => S.q hf hs (.int .u8 (x1.toNat : Int)) rfl fun a hf => S.callv hf rfl rfl rfl (call_fn (vs := [.string (ba [95, 43, 45, 35]), .int .u8 (x1.toNat : Int)]) rfl rfl rfl call113) (C_strings_IndexByte [95, 43, 45, 35] (x1.toNat : Int) _ ) (fun a w hf hs' => ?_)
        replace hs := hs.call hs'; clear hs'
        refine S.q hf hs (.bool (decide ((byteAt [95, 43, 45, 35] (x1.toNat : Int)) < 0))) rfl fun a hf => S.q hf hs (.bool (decide ((byteAt [95, 43, 45, 35] (x1.toNat : Int)) < 0))) rfl fun a hf => X.n ?_
        exact ⟨(decide ((byteAt [95, 43, 45, 35] (x1.toNat : Int)) < 0)), h, ((((hf.nil.cons (hf.get 39 _ rfl)).cons (hf.get 7 _ rfl)).cons (hf.get 6 _ rfl)).cons (hf.get 0 _ rfl)), hs⟩
       ·replace h := h.2 hc
        refine S.q hf hs (.int .u8 (x1.toNat : Int)) rfl fun a hf => S.q hf hs (.bool (decide ((x1.toNat : Int) > 57))) rfl fun a hf => S.q hf hs (.bool (decide ((x1.toNat : Int) > 57))) rfl fun a hf => S.q hf hs (.bool (decide ((x1.toNat : Int) > 57))) rfl fun a hf => ?_
        refine S.split hf hs (b := decide ((x1.toNat : Int) > 57)) rfl rfl rfl (V.pure rfl) (fun hc a hf => ?_) (fun hc a hf => ?_)
        ·replace h := h.1 hc
         refine S.q hf hs (.int .u8 (x1.toNat : Int)) rfl fun a hf => S.callv hf rfl rfl rfl (call_fn (vs := [.string (ba [95, 43, 45, 35]), .int .u8 (x1.toNat : Int)]) rfl rfl rfl call113) (C_strings_IndexByte [95, 43, 45, 35] (x1.toNat : Int) _ ) (fun a w hf hs' => ?_)
         replace hs := hs.call hs'; clear hs'
         refine S.q hf hs (.bool (decide ((byteAt [95, 43, 45, 35] (x1.toNat : Int)) < 0))) rfl fun a hf => S.q hf hs (.bool (decide ((byteAt [95, 43, 45, 35] (x1.toNat : Int)) < 0))) rfl fun a hf => X.n ?_
         exact ⟨(decide ((byteAt [95, 43, 45, 35] (x1.toNat : Int)) < 0)), h, ((((hf.nil.cons (hf.get 39 _ rfl)).cons (hf.get 7 _ rfl)).cons (hf.get 6 _ rfl)).cons (hf.get 0 _ rfl)), hs⟩
        ·replace h := h.2 hc
         refine S.k hf rfl fun a hf => S.k hf rfl fun a hf => S.k hf rfl fun a hf => S.q hf hs (.bool false) rfl fun a hf => X.n ?_
         exact ⟨false, h, ((((hf.nil.cons (hf.get 39 _ rfl)).cons (hf.get 7 _ rfl)).cons (hf.get 6 _ rfl)).cons (hf.get 0 _ rfl)), hs⟩
      ·replace h := h.2 hc
       refine S.k hf rfl fun a hf => S.k hf rfl fun a hf => S.k hf rfl fun a hf => S.k hf rfl fun a hf => S.k hf rfl fun a hf => S.k hf rfl fun a hf => S.q hf hs (.bool false) rfl fun a hf => S.q hf hs (.bool false) rfl fun a hf => S.k hf rfl fun a hf => S.k hf rfl fun a hf => S.k hf rfl fun a hf => S.q hf hs (.bool false) rfl fun a hf => ?_
       refine X.n ?_
       exact ⟨false, h, ((((hf.nil.cons (hf.get 39 _ rfl)).cons (hf.get 7 _ rfl)).cons (hf.get 6 _ rfl)).cons (hf.get 0 _ rfl)), hs⟩
    ·replace h := h.2 hc
     refine S.k hf rfl fun a hf => S.k hf rfl fun a hf => S.k hf rfl fun a hf => S.k hf rfl fun a hf => S.k hf rfl fun a hf => S.k hf rfl fun a hf => S.q hf hs (.bool false) rfl fun a hf => S.q hf hs (.bool false) rfl fun a hf => S.k hf rfl fun a hf => S.k hf rfl fun a hf => S.k hf rfl fun a hf => S.k hf rfl fun a hf => ?_
     refine S.k hf rfl fun a hf => S.k hf rfl fun a hf => S.q hf hs (.bool false) rfl fun a hf => S.q hf hs (.bool false) rfl fun a hf => S.k hf rfl fun a hf => S.k hf rfl fun a hf => S.k hf rfl fun a hf => S.q hf hs (.bool false) rfl fun a hf => X.n ?_
     exact ⟨false, h, ((((hf.nil.cons (hf.get 39 _ rfl)).cons (hf.get 7 _ rfl)).cons (hf.get 6 _ rfl)).cons (hf.get 0 _ rfl)), hs⟩
 ·replace h := h.2 hc
  refine wp_exit (X.then_exit (X.then_exit (X.blk_exit (X.then_ (X.l (S.q hf hs (.string (ba s_)) rfl fun a hf => S.v hf hs (iv (s_.length : Int)) rfl (V.lenStr rfl rfl runUnderlying9) fun a hf => S.q hf hs (.bool (decide ((s_.length : Int) ≥ 1))) rfl fun a hf => ?_))))))
  refine S.split hf hs (b := decide ((s_.length : Int) ≥ 1)) rfl rfl rfl (V.pure rfl) (fun hc a hf => ?_) (fun hc a hf => ?_)
  ·replace h := h.1 hc
   refine S.q hf hs (.string (ba s_)) rfl fun a hf => S.v hf hs (iv (s_.length : Int)) rfl (V.lenStr rfl rfl runUnderlying9) fun a hf => S.q hf hs (.bool (decide ((s_.length : Int) ≤ 40))) rfl fun a hf => S.q hf hs (.bool (decide ((s_.length : Int) ≤ 40))) rfl fun a hf => S.q hf hs (.bool (decide ((s_.length : Int) ≤ 40))) rfl fun a hf => X.n (wp_ret ?_)
   exact L.ret hf (run_results1 results88 (ResIs.tmp hf rfl)) ⟨(decide ((s_.length : Int) ≤ 40)), rfl, h, hs.nil⟩
  ·replace h := h.2 hc
   refine S.k hf rfl fun a hf => S.k hf rfl fun a hf => S.k hf rfl fun a hf => S.q hf hs (.bool false) rfl fun a hf => S.q hf hs (.bool false) rfl fun a hf => X.n (wp_ret ?_)
   exact L.ret hf (run_results1 results88 (ResIs.tmp hf rfl)) ⟨false, rfl, h, hs.nil⟩
def M_IsPath1 (w_ : Str) (Q : Bool → Prop) : Prop :=
  M_netlist_IsWord w_ fun y1 => Q (!y1)
theorem R_IsPath1 (w_ : Str) (w0 : World)  (Q : Bool → Prop) (h : M_IsPath1 w_ Q) :
  Ret Tryz.prog 87 #[.string (ba w_)] w0 fun v w' => ∃ (r0 : Bool), v = .bool r0 ∧ Q r0 ∧ Sat w0 none_ [] w' := by
 refine fn_enter func87 rfl ntmps87 rfl (fs := [(0, .string (ba w_))]) rfl (fun a hf => ?_)
 have hs := Sat.start w0 none_
 unfold M_IsPath1 at h
 refine X.l (S.q hf hs (.bool false) rfl fun a hf => X.n (X.l (S.q hf hs (.string (ba w_)) rfl fun a hf => S.call hf rfl rfl rfl (call_fn (vs := [.string (ba w_)]) rfl rfl rfl call88) (R_netlist_IsWord w_ _  _ h) (fun v a w' hf hr => ?_))))
 obtain ⟨y1, rfl, h2, hs2⟩ := hr
 replace h := h2; replace hs := hs.call hs2; clear h2 hs2
 refine S.q hf hs (.bool (!y1)) rfl fun a hf => S.q hf hs (.bool (!y1)) rfl fun a hf => X.n (wp_ret ?_)
 exact L.ret hf (run_results1 results87 (ResIs.tmp hf rfl)) ⟨(!y1), rfl, h, hs.nil⟩
def M_indexfunc_str_L1 (Q : Int → Prop) (k1 : Nat) (xk1 : Str)  (next1 : Prop) : Prop :=
  M_IsPath1 xk1 fun y1 => cnd y1 (Q (k1 : Int)) (next1)
def M_indexfunc_str (s_ : (List Str)) (Q : Int → Prop) : Prop :=
  forIn' (fun k x (s : Unit) next => M_indexfunc_str_L1 Q k x (next ())) (fun (s : Unit) => Q (-1)) s_ 0 ()
theorem R_indexfunc_str (s_ : (List Str)) (w0 : World) (s_A : Option Addr) (s_C : Nat) (hv_s_ : View w0 (old w0 none_) s_A s_C s_) (Q : Int → Prop) (h : M_indexfunc_str s_ Q) :
  Ret Tryz.prog 111 #[.slice s_A s_.length s_C, .func (.func 87) #[] #[]] w0 fun v w' => ∃ (r0 : Int), v = iv r0 ∧ Q r0 ∧ Sat w0 none_ [] w' := by
 refine fn_enter func111 rfl ntmps111 rfl (fs := [(0, .slice s_A s_.length s_C), (1, .func (.func 87) #[] #[])]) rfl (fun a hf => ?_)
 have hs := Sat.start w0 none_
 unfold M_indexfunc_str at h
 refine X.l (S.q hf hs (iv 0) rfl fun a hf => X.n (wp_seq (X.l (S.q hf hs (.slice s_A s_.length s_C) rfl fun a hf => S.v hf hs (iv (s_.length : Int)) rfl (V.len rfl rfl runUnderlying127) fun a hf => S.q hf hs (iv 0) rfl fun a hf => X.n (wp_block ?_)))))
 have hlenk1 := hv_s_.len64
 refine C.range (fun (ll : List Str) a w => ∃ (k1 : Nat) , s_.drop k1 = ll ∧ k1 + ll.length = s_.length ∧ forIn' (fun k x (s : Unit) next => M_indexfunc_str_L1 Q k x (next ())) (fun (s : Unit) => Q (-1)) ll k1 () ∧ FrOk 19 [(8, iv (k1 : Int)), (0, .slice s_A s_.length s_C), (1, .func (.func 87) #[] #[]), (7, iv (s_.length : Int))] a ∧ Sat w0 none_ [] w) s_ ⟨0, rfl, Nat.zero_add _, h, ((((hf.nil.cons (hf.get 7 _ rfl)).cons (hf.get 1 _ rfl)).cons (hf.get 0 _ rfl)).cons (hf.get 8 _ rfl)), hs⟩ ?_
 clear h hf hs
 rintro llk1 a w ⟨k1, hlk1, hkk1, h, hf, hs⟩
 cases llk1 with
 | nil =>
  have hc := range_done hkk1
  replace h : Q (-1) := h
  refine X.l (S.v hf hs (.bool false) rfl (V.cmp false rfl rfl rfl rfl hc) fun a hf => X.n (wp_seq (C.no hf rfl (wp_exit (X.then_exit (X.then_exit (X.blk_exit (X.then_ (X.l (S.q hf hs (iv (-1)) rfl fun a hf => X.n (wp_ret ?_)))))))))))
  exact L.ret hf (run_results1 results111 (ResIs.tmp hf rfl)) ⟨(-1), rfl, h, hs.nil⟩
 | cons xk1 llk1 =>
  have hltk1 := range_lt hkk1; have hc := range_go hkk1; have hxk1 := range_get hlk1
  obtain ⟨next1, hnext1⟩ : ∃ X : Prop, X = (forIn' (fun k x (s : Unit) next => M_indexfunc_str_L1 Q k x (next ())) (fun (s : Unit) => Q (-1)) llk1 (k1 + 1) ()) := ⟨_, rfl⟩
  replace h : M_indexfunc_str_L1 Q k1 xk1  next1 := by rw [hnext1]; exact h
  unfold M_indexfunc_str_L1 at h
  refine X.l (S.v hf hs (.bool true) rfl (V.cmp true rfl rfl rfl rfl hc) fun a hf => X.n (wp_seq (C.yes hf rfl (wp_skip (X.then_ (wp_seq (wp_block (X.l (S.q hf hs (iv (k1 : Int)) rfl fun a hf => S.q hf hs (iv (k1 : Int)) rfl fun a hf => X.n (X.l (S.q hf hs (.func (.func 87) #[] #[]) rfl fun a hf => S.q hf hs (.slice s_A s_.length s_C) rfl fun a hf => S.q hf hs (iv (k1 : Int)) rfl fun a hf => S.v hf hs (elemPtr s_A (k1 * 1)) rfl (V.index rfl rfl rfl runUnderlying127 sizeOf9 (hv_s_.some_ (lt_of_get hxk1)) (Int.natCast_nonneg _) (lt_of_get hxk1) rfl) fun a hf => ?_)))))))))))
  refine S.v hf hs (.string (ba xk1)) rfl (V.loadEl (off := 0) (Ag.args _ _ _) (hv_s_.flat hxk1) rfl rfl rfl isAgg9 sizeOf9 rfl rfl) fun a hf => S.call hf rfl rfl rfl (call_fn (vs := [.string (ba xk1)]) rfl rfl rfl call87) (R_IsPath1 xk1 _  _ h) (fun v a w' hf hr => ?_)
  obtain ⟨y1, rfl, h2, hs2⟩ := hr
  replace h := h2; replace hs := hs.call hs2; clear h2 hs2
  refine X.n ?_
  refine C.cond hf (b := y1) rfl (fun hc => ?_) (fun hc => ?_)
  ·replace h := h.1 hc
   refine X.l (S.q hf hs (iv (k1 : Int)) rfl fun a hf => S.q hf hs (iv (k1 : Int)) rfl fun a hf => X.n (wp_ret (X.blk_ret (X.then_ret (X.then_ret (X.blk_ret (X.then_ret ?_)))))))
   exact L.ret hf (run_results1 results111 (ResIs.tmp hf rfl)) ⟨(k1 : Int), rfl, h, hs.nil⟩
  ·replace h := h.2 hc
   refine wp_skip (X.blk (X.then_ (R.list (S.v hf hs (iv ((k1 + 1 : Nat) : Int)) rfl (V.incr rfl rfl rfl hltk1 hlenk1) fun a hf => S.q hf hs (iv ((k1 + 1 : Nat) : Int)) rfl fun a hf => X.n ?_))))
   exact ⟨xk1, llk1, rfl, k1 + 1, range_drop hlk1, range_len hkk1, (by rw [hnext1] at h; exact h), ((((hf.nil.cons (hf.get 7 _ rfl)).cons (hf.get 1 _ rfl)).cons (hf.get 0 _ rfl)).cons (hf.get 8 _ rfl)), hs⟩
def M_containsfunc_str (s_ : (List Str)) (Q : Bool → Prop) : Prop :=
  M_indexfunc_str s_ fun y1 => Q (decide (y1 ≥ 0))
theorem R_containsfunc_str (s_ : (List Str)) (w0 : World) (s_A : Option Addr) (s_C : Nat) (hv_s_ : View w0 (old w0 none_) s_A s_C s_) (Q : Bool → Prop) (h : M_containsfunc_str s_ Q) :
  Ret Tryz.prog 85 #[.slice s_A s_.length s_C, .func (.func 87) #[] #[]] w0 fun v w' => ∃ (r0 : Bool), v = .bool r0 ∧ Q r0 ∧ Sat w0 none_ [] w' := by
 refine fn_enter func85 rfl ntmps85 rfl (fs := [(0, .slice s_A s_.length s_C), (1, .func (.func 87) #[] #[])]) rfl (fun a hf => ?_)
 have hs := Sat.start w0 none_
 unfold M_containsfunc_str at h
 refine X.l (S.q hf hs (.bool false) rfl fun a hf => X.n (X.l (S.q hf hs (.slice s_A s_.length s_C) rfl fun a hf => S.q hf hs (.func (.func 87) #[] #[]) rfl fun a hf => S.call hf rfl rfl rfl (call_fn (vs := [.slice s_A s_.length s_C, .func (.func 87) #[] #[]]) rfl rfl rfl call111) (R_indexfunc_str s_ _ s_A s_C ((Ag.args _ _ _).view hv_s_ hs) _ h) (fun v a w' hf hr => ?_))))
 obtain ⟨y1, rfl, h2, hs2⟩ := hr
 replace h := h2; replace hs := hs.call hs2; clear h2 hs2
 refine S.q hf hs (.bool (decide (y1 ≥ 0))) rfl fun a hf => S.q hf hs (.bool (decide (y1 ≥ 0))) rfl fun a hf => X.n (wp_ret ?_)
 exact L.ret hf (run_results1 results85 (ResIs.tmp hf rfl)) ⟨(decide (y1 ≥ 0)), rfl, h, hs.nil⟩
def M_netlist_IsPath (s_ : Str) (Q : Bool → Prop) : Prop :=
  cnd (decide ((s_.length : Int) ≤ 200)) (M_strings_Split s_ [47] fun y1 => M_containsfunc_str y1 fun y2 => Q (!y2)) (Q false)
theorem R_netlist_IsPath (s_ : Str) (w0 : World)  (Q : Bool → Prop) (h : M_netlist_IsPath s_ Q) :
  Ret Tryz.prog 49 #[.string (ba s_)] w0 fun v w' => ∃ (r0 : Bool), v = .bool r0 ∧ Q r0 ∧ Sat w0 none_ [] w' := by
 refine fn_enter func49 rfl ntmps49 rfl (fs := [(0, .string (ba s_))]) rfl (fun a hf => ?_)
 have hs := Sat.start w0 none_
 unfold M_netlist_IsPath at h
 refine X.l (S.q hf hs (.bool false) rfl fun a hf => X.n (X.l (S.q hf hs (.string (ba s_)) rfl fun a hf => S.v hf hs (iv (s_.length : Int)) rfl (V.lenStr rfl rfl runUnderlying9) fun a hf => S.q hf hs (.bool (decide ((s_.length : Int) ≤ 200))) rfl fun a hf => ?_)))
 refine S.split hf hs (b := decide ((s_.length : Int) ≤ 200)) rfl rfl rfl (V.pure rfl) (fun hc a hf => ?_) (fun hc a hf => ?_)
 ·replace h := h.1 hc
  refine S.q hf hs (.string (ba s_)) rfl fun a hf => S.call hf rfl rfl rfl (call_fn (vs := [.string (ba s_), .string (ba [47])]) rfl rfl rfl call86) (R_strings_Split s_ [47] _  _ h) (fun v a w' hf hr => ?_)
  obtain ⟨y1, y1A, y1C, rfl, h2, hs2⟩ := hr
  replace h := h2; replace hs := hs.call hs2; clear h2 hs2
  refine S.call hf rfl rfl rfl (call_fn (vs := [.slice y1A y1.length y1C, .func (.func 87) #[] #[]]) rfl rfl rfl call85) (R_containsfunc_str y1 _ y1A y1C (hs.ownView 0 rfl) _ h) (fun v a w' hf hr => ?_)
  obtain ⟨y2, rfl, h2, hs2⟩ := hr
  replace h := h2; replace hs := hs.call hs2; clear h2 hs2
  refine S.q hf hs (.bool (!y2)) rfl fun a hf => S.q hf hs (.bool (!y2)) rfl fun a hf => S.q hf hs (.bool (!y2)) rfl fun a hf => X.n (wp_ret ?_)
  exact L.ret hf (run_results1 results49 (ResIs.tmp hf rfl)) ⟨(!y2), rfl, h, hs.nil⟩
 ·replace h := h.2 hc
  refine S.k hf rfl fun a hf => S.k hf rfl fun a hf => S.k hf rfl fun a hf => S.k hf rfl fun a hf => S.q hf hs (.bool false) rfl fun a hf => S.q hf hs (.bool false) rfl fun a hf => X.n (wp_ret ?_)
  exact L.ret hf (run_results1 results49 (ResIs.tmp hf rfl)) ⟨false, rfl, h, hs.nil⟩
def M_grow_cell (k : Int) (Q : (List Cell) → Prop) : Prop := must (0 ≤ k ∧ room k.toNat 24) (Q ([] : List Cell))
theorem R_grow_cell (i : Int) (w0 : World) (Q : (List Cell) → Prop) (h : M_grow_cell i Q) :
  Ret Tryz.prog 68 #[.slice none 0 0, .int .i64 i] w0 fun v w' => ∃ (r0 : (List Cell)) (r0A : Option Addr) (r0C : Nat), v = .slice r0A r0.length r0C ∧ Q r0 ∧ Sat w0 none_ [hown 55 r0A r0C r0] w' := by
 obtain ⟨⟨h0, hroom⟩, hq⟩ := h
 obtain ⟨k, rfl⟩ : ∃ k : Nat, i = (k : Int) := ⟨i.toNat, by omega⟩
 rw [Int.toNat_natCast] at hroom
 have hbig : k ≤ 9223372036854775807 := hroom.1
 refine fn_enter func68 rfl ntmps68 rfl (fs := [(0, .slice none 0 0), (1, .int .i64 (k : Int))]) rfl (fun a hf => ?_)
 have hs := (Sat.start w0 none_).nilOwn (α := Cell) 55
 refine X.l (S.val hf hs (v := .slice none 0 0) rfl rfl rfl (V.pure rfl) (fun a hf => X.n (wp_seq (X.l (S.val hf hs (v := .int .i64 (k : Int)) rfl rfl rfl (V.pure rfl) (fun a hf => S.val hf hs (v := .bool (decide ((k : Int) < 0))) rfl rfl rfl (V.pure rfl) (fun a hf => X.n ?_)))))))
 refine C.cond hf (b := decide ((k : Int) < 0)) rfl (fun hc => ?_) (fun hc => ?_)
 ·exfalso; simp at hc; omega
 refine wp_skip (X.then_ (wp_seq (X.l (S.val hf hs (v := .int .i64 (k : Int)) rfl rfl rfl (V.pure rfl) (fun a hf => S.val hf hs (v := .slice none 0 0) rfl rfl rfl (V.pure rfl) (fun a hf => S.val hf hs (v := .int .i64 ((0 : Nat) : Int)) rfl rfl rfl (V.cap rfl rfl runUnderlying22) (fun a hf => S.val hf hs (v := .slice none 0 0) rfl rfl rfl (V.pure rfl) (fun a hf => S.val hf hs (v := .int .i64 ((0 : Nat) : Int)) rfl rfl rfl (V.len rfl rfl runUnderlying22) (fun a hf => S.val hf hs (v := .int .i64 ((0 : Nat) : Int)) rfl rfl rfl (V.subNat rfl rfl rfl rfl (by omega)) (fun a hf => S.val hf hs (v := .int .i64 (k : Int)) rfl rfl rfl (V.subNat rfl rfl rfl (Nat.zero_add k) hbig) (fun a hf => S.val hf hs (v := .int .i64 (k : Int)) rfl rfl rfl (V.pure rfl) (fun a hf => X.n (X.l (S.val hf hs (v := .int .i64 (k : Int)) rfl rfl rfl (V.pure rfl) (fun a hf => S.val hf hs (v := .bool (decide ((k : Int) > 0))) rfl rfl rfl (V.pure rfl) (fun a hf => ?_))))))))))))))))
 refine X.n ?_
 refine C.cond hf (b := decide ((k : Int) > 0)) rfl (fun hc2 => ?_) (fun hc2 => ?_)
 ·have hk0 : 0 < k := by simp at hc2; omega
  refine R.list (S.val hf hs (v := .slice none 0 0) rfl rfl rfl (V.pure rfl) (fun a hf => S.val hf hs (v := .slice none 0 0) rfl rfl rfl (V.pure rfl) (fun a hf => S.val hf hs (v := .int .i64 ((0 : Nat) : Int)) rfl rfl rfl (V.cap rfl rfl runUnderlying22) (fun a hf => S.val hf hs (v := .slice none 0 0) rfl rfl rfl (V.sliceCap rfl rfl rfl runUnderlying22 sizeOf55 (Nat.le_refl _)) (fun a hf => S.val hf hs (v := .int .i64 (k : Int)) rfl rfl rfl (V.pure rfl) (fun a hf => S.growRaw 0 (α := Cell) hf hs rfl rfl rfl rfl rfl (Nat.le_refl _) rfl rfl underlying22 underlying3 info55 rfl (by omega) hk0 (by rw [List.length_nil, Nat.zero_add]; exact hroom) (fun g cs C' a w hf i1 i2 i3 i4 hs => S.val hf hs (v := .slice none 0 0) rfl rfl rfl (V.pure rfl) (fun a hf => S.val hf hs (v := .int .i64 ((0 : Nat) : Int)) rfl rfl rfl (V.len rfl rfl runUnderlying22) (fun a hf => S.val hf hs (v := .slice (some ⟨g, 0, none⟩) 0 C') rfl rfl rfl (V.sliceCap rfl rfl rfl runUnderlying22 sizeOf55 (Nat.zero_le _)) (fun a hf => S.val hf hs (v := .slice (some ⟨g, 0, none⟩) 0 C') rfl rfl rfl (V.pure rfl) (fun a hf => X.n (X.l ?_))))))))))))
  refine S.val hf hs (v := .slice (some ⟨g, 0, none⟩) 0 C') rfl rfl rfl (V.pure rfl) (fun a hf => S.val hf hs (v := .slice (some ⟨g, 0, none⟩) 0 C') rfl rfl rfl (V.pure rfl) (fun a hf => X.n (wp_ret ?_)))
  have hs2 := hs.ofRaw 0 rfl (C := C') ([] : List Cell) i1 (Nat.zero_le _) i3 (by simp)
  exact L.ret hf (run_results1 results68 (ResIs.tmp hf rfl)) ⟨[], some ⟨g, 0, none⟩, C', rfl, hq, hs2.take 1⟩
 refine wp_skip (X.then_ (X.l (S.val hf hs (v := .slice none 0 0) rfl rfl rfl (V.pure rfl) (fun a hf => S.val hf hs (v := .slice none 0 0) rfl rfl rfl (V.pure rfl) (fun a hf => X.n (wp_ret ?_))))))
 exact L.ret hf (run_results1 results68 (ResIs.tmp hf rfl)) ⟨[], none, 0, rfl, hq, hs⟩
def M_concat_cell_L2  (k2 : Nat) (xk2 : (List Cell)) (l2 : List Cell) (next2 : List Cell → Prop) : Prop :=
  must (room (l2 ++ xk2).length 24) (next2 (l2 ++ xk2))
def M_concat_cell_L1  (k1 : Nat) (xk1 : (List Cell)) (n2 : Int) (next1 : Int → Prop) : Prop :=
  cnd (decide (w64 (n2 + (xk1.length : Int)) < 0)) (False) (next1 (w64 (n2 + (xk1.length : Int))))
def M_concat_cell (s_ : (List (List Cell))) (Q : (List Cell) → Prop) : Prop :=
  forIn' (fun k x (s : Int) next => M_concat_cell_L1 k x s (fun n2 => next n2)) (fun (s : Int) => (fun (n2 : Int) => M_grow_cell n2 fun y1 => forIn' (fun k x (s : List Cell) next => M_concat_cell_L2 k x s (fun l2 => next l2)) (fun (s : List Cell) => (fun (l2 : List Cell) => Q l2) s) s_ 0 y1) s) s_ 0 0
theorem R_concat_cell (s_ : (List (List Cell))) (w0 : World) (s_A : Option Addr) (s_C : Nat) (hv_s_ : View w0 (old w0 none_) s_A s_C s_) (Q : (List Cell) → Prop) (h : M_concat_cell s_ Q) :
  Ret Tryz.prog 26 #[.slice s_A s_.length s_C] w0 fun v w' => ∃ (r0 : (List Cell)) (r0A : Option Addr) (r0C : Nat), v = .slice r0A r0.length r0C ∧ Q r0 ∧ Sat w0 none_ [hown 55 r0A r0C r0] w' := by
 refine fn_enter func26 rfl ntmps26 rfl (fs := [(0, .slice s_A s_.length s_C)]) rfl (fun a hf => ?_)
 have hs := Sat.start w0 none_
 unfold M_concat_cell at h
 refine X.l (S.q hf hs (.slice none 0 0) rfl fun a hf => X.n (X.l (S.q hf hs (iv 0) rfl fun a hf => X.n (wp_seq (X.l (S.q hf hs (.slice s_A s_.length s_C) rfl fun a hf => S.v hf hs (iv (s_.length : Int)) rfl (V.len rfl rfl runUnderlying45) fun a hf => S.q hf hs (iv 0) rfl fun a hf => X.n (wp_block ?_)))))))
 have hlenk1 := hv_s_.len64
 refine C.range (fun (ll : List (List Cell)) a w => ∃ (k1 : Nat) (n2 : Int), s_.drop k1 = ll ∧ k1 + ll.length = s_.length ∧ forIn' (fun k x (s : Int) next => M_concat_cell_L1 k x s (fun n2 => next n2)) (fun (s : Int) => (fun (n2 : Int) => M_grow_cell n2 fun y1 => forIn' (fun k x (s : List Cell) next => M_concat_cell_L2 k x s (fun l2 => next l2)) (fun (s : List Cell) => (fun (l2 : List Cell) => Q l2) s) s_ 0 y1) s) ll k1 n2 ∧ FrOk 36 [(11, iv (k1 : Int)), (0, .slice s_A s_.length s_C), (3, iv n2), (9, .slice s_A s_.length s_C), (10, iv (s_.length : Int))] a ∧ Sat w0 none_ [] w) s_ ⟨0, 0, rfl, Nat.zero_add _, h, (((((hf.nil.cons (hf.get 10 _ rfl)).cons (hf.get 9 _ rfl)).cons (hf.get 3 _ rfl)).cons (hf.get 0 _ rfl)).cons (hf.get 11 _ rfl)), hs⟩ ?_
 clear h hf hs
 rintro llk1 a w ⟨k1, n2, hlk1, hkk1, h, hf, hs⟩
 cases llk1 with
 | nil =>
  have hc := range_done hkk1
  replace h : (fun (n2 : Int) => M_grow_cell n2 fun y1 => forIn' (fun k x (s : List Cell) next => M_concat_cell_L2 k x s (fun l2 => next l2)) (fun (s : List Cell) => (fun (l2 : List Cell) => Q l2) s) s_ 0 y1) n2 := h
  refine X.l (S.v hf hs (.bool false) rfl (V.cmp false rfl rfl rfl rfl hc) fun a hf => X.n (wp_seq (C.no hf rfl (wp_exit (X.then_exit (X.then_exit (X.blk_exit (X.then_ (X.l (S.q hf hs (iv n2) rfl fun a hf => S.call hf rfl rfl rfl (call_fn (vs := [.slice none 0 0, iv n2]) rfl rfl rfl call68) (R_grow_cell n2 _  _ h) (fun v a w' hf hr => ?_)))))))))))
  obtain ⟨y1, y1A, y1C, rfl, h2, hs2⟩ := hr
  replace h := h2; replace hs := hs.call hs2; clear h2 hs2
  refine S.q hf hs (.slice y1A y1.length y1C) rfl fun a hf => X.n (wp_seq (X.l (S.q hf hs (.slice s_A s_.length s_C) rfl fun a hf => S.v hf hs (iv (s_.length : Int)) rfl (V.len rfl rfl runUnderlying45) fun a hf => S.q hf hs (iv 0) rfl fun a hf => X.n (wp_block ?_))))
  have hlenk2 := hv_s_.len64
  refine C.range (fun (ll : List (List Cell)) a w => ∃ (k2 : Nat) (l2 : List Cell) (l2A : Option Addr) (l2C : Nat), s_.drop k2 = ll ∧ k2 + ll.length = s_.length ∧ forIn' (fun k x (s : List Cell) next => M_concat_cell_L2 k x s (fun l2 => next l2)) (fun (s : List Cell) => (fun (l2 : List Cell) => Q l2) s) ll k2 l2 ∧ FrOk 36 [(27, iv (k2 : Int)), (6, .slice l2A l2.length l2C), (25, .slice s_A s_.length s_C), (26, iv (s_.length : Int))] a ∧ Sat w0 none_ [hown 55 l2A l2C l2] w) s_ ⟨0, y1, y1A, y1C, rfl, Nat.zero_add _, h, ((((hf.nil.cons (hf.get 26 _ rfl)).cons (hf.get 25 _ rfl)).cons (hf.get 6 _ rfl)).cons (hf.get 27 _ rfl)), hs⟩ ?_
  clear h hf hs
  rintro llk2 a w ⟨k2, l2, l2A, l2C, hlk2, hkk2, h, hf, hs⟩
  cases llk2 with
  | nil =>
   have hc := range_done hkk2
   replace h : (fun (l2 : List Cell) => Q l2) l2 := h
   refine X.l (S.v hf hs (.bool false) rfl (V.cmp false rfl rfl rfl rfl hc) fun a hf => X.n (wp_seq (C.no hf rfl (wp_exit (X.then_exit (X.then_exit (X.blk_exit (X.then_ (X.l (S.q hf hs (.slice l2A l2.length l2C) rfl fun a hf => S.q hf hs (.slice l2A l2.length l2C) rfl fun a hf => X.n (wp_ret ?_)))))))))))
   replace hs := hs.take 1
   exact L.ret hf (run_results1 results26 (ResIs.tmp hf rfl)) ⟨l2, l2A, l2C, rfl, h, hs⟩
  | cons xk2 llk2 =>
   have hltk2 := range_lt hkk2; have hc := range_go hkk2; have hxk2 := range_get hlk2
   obtain ⟨next2, hnext2⟩ : ∃ X : List Cell → Prop, X = (fun l2 => forIn' (fun k x (s : List Cell) next => M_concat_cell_L2 k x s (fun l2 => next l2)) (fun (s : List Cell) => (fun (l2 : List Cell) => Q l2) s) llk2 (k2 + 1) l2) := ⟨_, rfl⟩
   replace h : M_concat_cell_L2 k2 xk2 l2 next2 := by rw [hnext2]; exact h
   unfold M_concat_cell_L2 at h
   refine X.l (S.v hf hs (.bool true) rfl (V.cmp true rfl rfl rfl rfl hc) fun a hf => X.n (wp_seq (C.yes hf rfl (wp_skip (X.then_ (wp_seq (wp_block (X.l ?_))))))))
   obtain ⟨cs1, he1, hr1⟩ := hv_s_.at_ _ _ hxk2
   obtain ⟨u1A, u1C, rfl, hvu1⟩ := hr1
   refine S.v hf hs (elemPtr s_A (k2 * 1)) rfl (V.index rfl rfl rfl runUnderlying45 sizeOf22 (hv_s_.some_ (lt_of_get hxk2)) (Int.natCast_nonneg _) (lt_of_get hxk2) rfl) fun a hf => S.v hf hs (.slice u1A xk2.length u1C) rfl (V.loadEl (off := 0) (Ag.args _ _ _) he1 rfl rfl rfl isAgg22 sizeOf22 rfl rfl) fun a hf => S.q hf hs (.slice u1A xk2.length u1C) rfl fun a hf => X.n (R.list (S.q hf hs (.slice l2A l2.length l2C) rfl fun a hf => S.q hf hs (.slice u1A xk2.length u1C) rfl fun a hf => ?_))
   obtain ⟨hroom, h⟩ := h
   refine S.appendAny 0 hf hs rfl rfl rfl rfl rfl rfl rfl underlying22 info55 rfl hroom ((Ag.args _ _ _).view hvu1 hs) (fun A1 C1 a w hf hs => S.q hf hs (.slice A1 (l2 ++ xk2).length C1) rfl fun a hf => R.nil (X.blk (X.then_ (R.list (S.v hf hs (iv ((k2 + 1 : Nat) : Int)) rfl (V.incr rfl rfl rfl hltk2 hlenk2) fun a hf => S.q hf hs (iv ((k2 + 1 : Nat) : Int)) rfl fun a hf => X.n ?_)))))
   exact ⟨xk2, llk2, rfl, k2 + 1, (l2 ++ xk2), A1, C1, range_drop hlk2, range_len hkk2, (by rw [hnext2] at h; exact h), ((((hf.nil.cons (hf.get 26 _ rfl)).cons (hf.get 25 _ rfl)).cons (hf.get 6 _ rfl)).cons (hf.get 27 _ rfl)), hs⟩
 | cons xk1 llk1 =>
  have hltk1 := range_lt hkk1; have hc := range_go hkk1; have hxk1 := range_get hlk1
  obtain ⟨next1, hnext1⟩ : ∃ X : Int → Prop, X = (fun n2 => forIn' (fun k x (s : Int) next => M_concat_cell_L1 k x s (fun n2 => next n2)) (fun (s : Int) => (fun (n2 : Int) => M_grow_cell n2 fun y1 => forIn' (fun k x (s : List Cell) next => M_concat_cell_L2 k x s (fun l2 => next l2)) (fun (s : List Cell) => (fun (l2 : List Cell) => Q l2) s) s_ 0 y1) s) llk1 (k1 + 1) n2) := ⟨_, rfl⟩
  replace h : M_concat_cell_L1 k1 xk1 n2 next1 := by rw [hnext1]; exact h
  unfold M_concat_cell_L1 at h
  refine X.l (S.v hf hs (.bool true) rfl (V.cmp true rfl rfl rfl rfl hc) fun a hf => X.n (wp_seq (C.yes hf rfl (wp_skip (X.then_ (wp_seq (wp_block (X.l ?_))))))))
  obtain ⟨cs2, he2, hr2⟩ := hv_s_.at_ _ _ hxk1
  obtain ⟨u2A, u2C, rfl, hvu2⟩ := hr2
  refine S.v hf hs (elemPtr s_A (k1 * 1)) rfl (V.index rfl rfl rfl runUnderlying45 sizeOf22 (hv_s_.some_ (lt_of_get hxk1)) (Int.natCast_nonneg _) (lt_of_get hxk1) rfl) fun a hf => S.v hf hs (.slice u2A xk1.length u2C) rfl (V.loadEl (off := 0) (Ag.args _ _ _) he2 rfl rfl rfl isAgg22 sizeOf22 rfl rfl) fun a hf => S.q hf hs (.slice u2A xk1.length u2C) rfl fun a hf => X.n (X.l (S.q hf hs (iv n2) rfl fun a hf => S.q hf hs (.slice u2A xk1.length u2C) rfl fun a hf => S.v hf hs (iv (xk1.length : Int)) rfl (V.len rfl rfl runUnderlying22) fun a hf => S.q hf hs (iv (w64 (n2 + (xk1.length : Int)))) rfl fun a hf => S.q hf hs (iv (w64 (n2 + (xk1.length : Int)))) rfl fun a hf => X.n (X.l (S.q hf hs (iv (w64 (n2 + (xk1.length : Int)))) rfl fun a hf => S.q hf hs (.bool (decide (w64 (n2 + (xk1.length : Int)) < 0))) rfl fun a hf => ?_))))
  refine X.n ?_
  refine C.cond hf (b := decide (w64 (n2 + (xk1.length : Int)) < 0)) rfl (fun hc => ?_) (fun hc => ?_)
  ·replace h := h.1 hc
   exact h.elim
  ·replace h := h.2 hc
   refine wp_skip (X.blk (X.then_ (R.list (S.v hf hs (iv ((k1 + 1 : Nat) : Int)) rfl (V.incr rfl rfl rfl hltk1 hlenk1) fun a hf => S.q hf hs (iv ((k1 + 1 : Nat) : Int)) rfl fun a hf => X.n ?_))))
   exact ⟨xk1, llk1, rfl, k1 + 1, (w64 (n2 + (xk1.length : Int))), range_drop hlk1, range_len hkk1, (by rw [hnext1] at h; exact h), (((((hf.nil.cons (hf.get 10 _ rfl)).cons (hf.get 9 _ rfl)).cons (hf.get 3 _ rfl)).cons (hf.get 0 _ rfl)).cons (hf.get 11 _ rfl)), hs⟩
def M_tasks1 (p : Cell) (seen : (List (Cell × Bool))) (Q : Bool → (List (Cell × Bool)) → Prop) : Prop :=
  Q ((mget seen p).getD false) seen
theorem R_tasks1 (p : Cell) (seen : (List (Cell × Bool))) (w0 : World) (F0 : Nat → Prop) (seenm : Nat) (seeng : Nat) (hb_seen : ElemAt w0 (old w0 F0) (some ⟨seeng, 0, none⟩) 0 [.map (some seenm)]) (hs0 : Sat w0 F0 [hmap seenm ek55 ek4 seen] w0) (Q : Bool → (List (Cell × Bool)) → Prop) (h : M_tasks1 p seen Q) :
  Ret Tryz.prog 52 #[.agg #[iv p.X, iv p.Y, iv p.Layer], (pn seeng 0)] w0 fun v w' => ∃ (r0 : Bool) (seen1 : (List (Cell × Bool))), v = .bool r0 ∧ Q r0 seen1 ∧ Sat w0 F0 [hmap seenm ek55 ek4 seen1] w' := by
 refine fn_enter func52 rfl ntmps52 rfl (fs := [(0, .agg #[iv p.X, iv p.Y, iv p.Layer]), (1, (pn seeng 0))]) rfl (fun a hf => ?_)
 have hs := hs0
 unfold M_tasks1 at h
 refine X.l (S.box hf hs rfl rfl rfl [iv p.X, iv p.Y, iv p.Layer] rfl rfl rfl (fun g1 a w hf hs => S.q hf hs (.bool false) rfl fun a hf => X.n (X.l (S.v hf hs (.map (some seenm)) rfl (V.loadAt0 (off := 0) (Ag.args _ _ _) hb_seen rfl rfl isAgg56 sizeOf56 rfl rfl) fun a hf => S.v hf hs (.agg #[iv p.X, iv p.Y, iv p.Layer]) rfl (V.loadBox 0 rfl rfl rfl isAgg55 sizeOf55 rfl rfl) fun a hf => S.v hf hs (.bool ((mget seen p).getD false)) rfl (V.lookup 1 rfl (k := p) (u := ((mget seen p).getD false)) (z := false) rfl rfl rfl runUnderlying56 key55 zeroValue4 rfl rfl) fun a hf => S.q hf hs (.bool ((mget seen p).getD false)) rfl fun a hf => X.n (wp_ret ?_)))))
 replace hs := hs.front 1 rfl
 replace hs := hs.take 1
 exact L.ret hf (run_results1 results52 (ResIs.tmp hf rfl)) ⟨((mget seen p).getD false), seen, rfl, h, hs⟩
def M_indexfunc_seen_L1 (Q : Int → (List (Cell × Bool)) → Prop) (k1 : Nat) (xk1 : Cell) (m2 : List (Cell × Bool)) (next1 : List (Cell × Bool) → Prop) : Prop :=
  M_tasks1 xk1 m2 fun y1 z1 => cnd y1 (Q (k1 : Int) z1) (next1 z1)
def M_indexfunc_seen (s_ : (List Cell)) (seen : (List (Cell × Bool))) (Q : Int → (List (Cell × Bool)) → Prop) : Prop :=
  forIn' (fun k x (s : List (Cell × Bool)) next => M_indexfunc_seen_L1 Q k x s (fun m2 => next m2)) (fun (s : List (Cell × Bool)) => (fun (m2 : List (Cell × Bool)) => Q (-1) m2) s) s_ 0 seen
theorem R_indexfunc_seen (s_ : (List Cell)) (seen : (List (Cell × Bool))) (w0 : World) (F0 : Nat → Prop) (s_A : Option Addr) (s_C : Nat) (hv_s_ : View w0 (old w0 F0) s_A s_C s_) (seenm : Nat) (seeng : Nat) (hb_seen : ElemAt w0 (old w0 F0) (some ⟨seeng, 0, none⟩) 0 [.map (some seenm)]) (hs0 : Sat w0 F0 [hmap seenm ek55 ek4 seen] w0) (Q : Int → (List (Cell × Bool)) → Prop) (h : M_indexfunc_seen s_ seen Q) :
  Ret Tryz.prog 89 #[.slice s_A s_.length s_C, .func (.func 52) #[] #[(pn seeng 0)]] w0 fun v w' => ∃ (r0 : Int) (seen1 : (List (Cell × Bool))), v = iv r0 ∧ Q r0 seen1 ∧ Sat w0 F0 [hmap seenm ek55 ek4 seen1] w' := by
 refine fn_enter func89 rfl ntmps89 rfl (fs := [(0, .slice s_A s_.length s_C), (1, .func (.func 52) #[] #[(pn seeng 0)])]) rfl (fun a hf => ?_)
 have hs := hs0
 unfold M_indexfunc_seen at h
 refine X.l (S.q hf hs (iv 0) rfl fun a hf => X.n (wp_seq (X.l (S.q hf hs (.slice s_A s_.length s_C) rfl fun a hf => S.v hf hs (iv (s_.length : Int)) rfl (V.len rfl rfl runUnderlying22) fun a hf => S.q hf hs (iv 0) rfl fun a hf => X.n (wp_block ?_)))))
 have hlenk1 := hv_s_.len64
 refine C.range (fun (ll : List Cell) a w => ∃ (k1 : Nat) (m2 : List (Cell × Bool)), s_.drop k1 = ll ∧ k1 + ll.length = s_.length ∧ forIn' (fun k x (s : List (Cell × Bool)) next => M_indexfunc_seen_L1 Q k x s (fun m2 => next m2)) (fun (s : List (Cell × Bool)) => (fun (m2 : List (Cell × Bool)) => Q (-1) m2) s) ll k1 m2 ∧ FrOk 19 [(8, iv (k1 : Int)), (0, .slice s_A s_.length s_C), (1, .func (.func 52) #[] #[(pn seeng 0)]), (7, iv (s_.length : Int))] a ∧ Sat w0 F0 [hmap seenm ek55 ek4 m2] w) s_ ⟨0, seen, rfl, Nat.zero_add _, h, ((((hf.nil.cons (hf.get 7 _ rfl)).cons (hf.get 1 _ rfl)).cons (hf.get 0 _ rfl)).cons (hf.get 8 _ rfl)), hs⟩ ?_
 clear h hf hs
 rintro llk1 a w ⟨k1, m2, hlk1, hkk1, h, hf, hs⟩
 cases llk1 with
 | nil =>
  have hc := range_done hkk1
  replace h : (fun (m2 : List (Cell × Bool)) => Q (-1) m2) m2 := h
  refine X.l (S.v hf hs (.bool false) rfl (V.cmp false rfl rfl rfl rfl hc) fun a hf => X.n (wp_seq (C.no hf rfl (wp_exit (X.then_exit (X.then_exit (X.blk_exit (X.then_ (X.l (S.q hf hs (iv (-1)) rfl fun a hf => X.n (wp_ret ?_)))))))))))
  replace hs := hs.take 1
  exact L.ret hf (run_results1 results89 (ResIs.tmp hf rfl)) ⟨(-1), m2, rfl, h, hs⟩
 | cons xk1 llk1 =>
  have hltk1 := range_lt hkk1; have hc := range_go hkk1; have hxk1 := range_get hlk1
  obtain ⟨next1, hnext1⟩ : ∃ X : List (Cell × Bool) → Prop, X = (fun m2 => forIn' (fun k x (s : List (Cell × Bool)) next => M_indexfunc_seen_L1 Q k x s (fun m2 => next m2)) (fun (s : List (Cell × Bool)) => (fun (m2 : List (Cell × Bool)) => Q (-1) m2) s) llk1 (k1 + 1) m2) := ⟨_, rfl⟩
  replace h : M_indexfunc_seen_L1 Q k1 xk1 m2 next1 := by rw [hnext1]; exact h
  unfold M_indexfunc_seen_L1 at h
  refine X.l (S.v hf hs (.bool true) rfl (V.cmp true rfl rfl rfl rfl hc) fun a hf => X.n (wp_seq (C.yes hf rfl (wp_skip (X.then_ (wp_seq (wp_block (X.l (S.q hf hs (iv (k1 : Int)) rfl fun a hf => S.q hf hs (iv (k1 : Int)) rfl fun a hf => X.n (X.l (S.q hf hs (.func (.func 52) #[] #[(pn seeng 0)]) rfl fun a hf => S.q hf hs (.slice s_A s_.length s_C) rfl fun a hf => S.q hf hs (iv (k1 : Int)) rfl fun a hf => S.v hf hs (elemPtr s_A (k1 * 3)) rfl (V.index rfl rfl rfl runUnderlying22 sizeOf55 (hv_s_.some_ (lt_of_get hxk1)) (Int.natCast_nonneg _) (lt_of_get hxk1) rfl) fun a hf => ?_)))))))))))
  refine S.v hf hs (.agg #[iv xk1.X, iv xk1.Y, iv xk1.Layer]) rfl (V.loadEl (off := 0) (Ag.args _ _ _) (hv_s_.flat hxk1) rfl rfl rfl isAgg55 sizeOf55 rfl rfl) fun a hf => ?_
  obtain ⟨F1, hsF, hback, hold, hrest⟩ := Sat.callOwns [hmap seenm ek55 ek4 m2] (σ := []) hs
  refine S.call hf rfl rfl rfl (call_run (args := #[.agg #[iv xk1.X, iv xk1.Y, iv xk1.Layer], (pn seeng 0)]) rfl rfl rfl call52 (by simp)) (R_tasks1 xk1 m2 _ _ seenm seeng (elemArgsF hs hold hb_seen) hsF _ h) (fun v a w' hf hr => ?_)
  obtain ⟨y1, z1, rfl, h2, hs2⟩ := hr
  replace h := h2; replace hs := hback _ _ hs2; clear h2 hs2 hback hold hrest hsF
  refine X.n ?_
  refine C.cond hf (b := y1) rfl (fun hc => ?_) (fun hc => ?_)
  ·replace h := h.1 hc
   refine X.l (S.q hf hs (iv (k1 : Int)) rfl fun a hf => S.q hf hs (iv (k1 : Int)) rfl fun a hf => X.n (wp_ret (X.blk_ret (X.then_ret (X.then_ret (X.blk_ret (X.then_ret ?_)))))))
   replace hs := hs.take 1
   exact L.ret hf (run_results1 results89 (ResIs.tmp hf rfl)) ⟨(k1 : Int), z1, rfl, h, hs⟩
  ·replace h := h.2 hc
   refine wp_skip (X.blk (X.then_ (R.list (S.v hf hs (iv ((k1 + 1 : Nat) : Int)) rfl (V.incr rfl rfl rfl hltk1 hlenk1) fun a hf => S.q hf hs (iv ((k1 + 1 : Nat) : Int)) rfl fun a hf => X.n ?_))))
   exact ⟨xk1, llk1, rfl, k1 + 1, z1, range_drop hlk1, range_len hkk1, (by rw [hnext1] at h; exact h), ((((hf.nil.cons (hf.get 7 _ rfl)).cons (hf.get 1 _ rfl)).cons (hf.get 0 _ rfl)).cons (hf.get 8 _ rfl)), hs⟩
def M_containsfunc_seen (s_ : (List Cell)) (seen : (List (Cell × Bool))) (Q : Bool → (List (Cell × Bool)) → Prop) : Prop :=
  M_indexfunc_seen s_ seen fun y1 z1 => Q (decide (y1 ≥ 0)) z1
theorem R_containsfunc_seen (s_ : (List Cell)) (seen : (List (Cell × Bool))) (w0 : World) (F0 : Nat → Prop) (s_A : Option Addr) (s_C : Nat) (hv_s_ : View w0 (old w0 F0) s_A s_C s_) (seenm : Nat) (seeng : Nat) (hb_seen : ElemAt w0 (old w0 F0) (some ⟨seeng, 0, none⟩) 0 [.map (some seenm)]) (hs0 : Sat w0 F0 [hmap seenm ek55 ek4 seen] w0) (Q : Bool → (List (Cell × Bool)) → Prop) (h : M_containsfunc_seen s_ seen Q) :
  Ret Tryz.prog 51 #[.slice s_A s_.length s_C, .func (.func 52) #[] #[(pn seeng 0)]] w0 fun v w' => ∃ (r0 : Bool) (seen1 : (List (Cell × Bool))), v = .bool r0 ∧ Q r0 seen1 ∧ Sat w0 F0 [hmap seenm ek55 ek4 seen1] w' := by
 refine fn_enter func51 rfl ntmps51 rfl (fs := [(0, .slice s_A s_.length s_C), (1, .func (.func 52) #[] #[(pn seeng 0)])]) rfl (fun a hf => ?_)
 have hs := hs0
 unfold M_containsfunc_seen at h
 refine X.l (S.q hf hs (.bool false) rfl fun a hf => X.n (X.l (S.q hf hs (.slice s_A s_.length s_C) rfl fun a hf => S.q hf hs (.func (.func 52) #[] #[(pn seeng 0)]) rfl fun a hf => ?_)))
 obtain ⟨F1, hsF, hback, hold, hrest⟩ := Sat.callOwns [hmap seenm ek55 ek4 seen] (σ := []) hs
 refine S.call hf rfl rfl rfl (call_fn (vs := [.slice s_A s_.length s_C, .func (.func 52) #[] #[(pn seeng 0)]]) rfl rfl rfl call89) (R_indexfunc_seen s_ seen _ _ s_A s_C (viewArgsF hs hold hv_s_) seenm seeng (elemArgsF hs hold hb_seen) hsF _ h) (fun v a w' hf hr => ?_)
 obtain ⟨y1, z1, rfl, h2, hs2⟩ := hr
 replace h := h2; replace hs := hback _ _ hs2; clear h2 hs2 hback hold hrest hsF
 refine S.q hf hs (.bool (decide (y1 ≥ 0))) rfl fun a hf => S.q hf hs (.bool (decide (y1 ≥ 0))) rfl fun a hf => X.n (wp_ret ?_)
 replace hs := hs.take 1
 exact L.ret hf (run_results1 results51 (ResIs.tmp hf rfl)) ⟨(decide (y1 ≥ 0)), z1, rfl, h, hs⟩
def M_route_CheckTasks_k3 (Q : Int → Prop) (next1 : List (Cell × Bool) → Prop) (m4 : List (Cell × Bool)) (c1 : Bool) : Prop :=
  cnd c1 (Q 8) (next1 m4)
def M_route_CheckTasks_L2  (k2 : Nat) (xk2 : Cell) (m4 : List (Cell × Bool)) (next2 : List (Cell × Bool) → Prop) : Prop :=
  next2 (mput m4 xk2 true)
def M_route_CheckTasks_L1 (g : Grid) (t : (List Task)) (Q : Int → Prop) (y2 : (List Bool)) (k1 : Nat) (xk1 : Task) (m2 : List (Cell × Bool)) (next1 : List (Cell × Bool) → Prop) : Prop :=
  M_netlist_IsPath xk1.Net fun y3 => cnd (!y3) (Q 5) (M_route_checkPins g y2 xk1.Pins 50 fun y4 => cnd (y4 != 0) (Q y4) (M_containsfunc_seen xk1.Pins m2 fun y5 z1 => cnd y5 (Q 7) (forIn' (fun k x (s : List (Cell × Bool)) next => M_route_CheckTasks_L2 k x s (fun m4 => next m4)) (fun (s : List (Cell × Bool)) => (fun (m4 : List (Cell × Bool)) => cnd (decide ((k1 : Int) > 0)) (idx t (w64 ((k1 : Int) - 1)) fun x1 => M_route_CheckTasks_k3 Q next1 m4 (strLt xk1.Net x1.Net || xk1.Net == x1.Net)) (M_route_CheckTasks_k3 Q next1 m4 false)) s) xk1.Pins 0 z1)))
def M_route_CheckTasks (g : Grid) (t : (List Task)) (Q : Int → Prop) : Prop :=
  M_route_CheckGrid g fun y1 => cnd (y1 != 0) (Q y1) (cnd (decide ((t.length : Int) > 100)) (Q 2) (M_route_blocked g fun y2 => forIn' (fun k x (s : List (Cell × Bool)) next => M_route_CheckTasks_L1 g t Q y2 k x s (fun m2 => next m2)) (fun (s : List (Cell × Bool)) => (fun (m2 : List (Cell × Bool)) => Q 0) s) t 0 ([] : List (Cell × Bool))))
theorem R_route_CheckTasks (g : Grid) (t : (List Task)) (w0 : World) (g_BlockedA : Option Addr) (g_BlockedC : Nat) (hv_g_Blocked : View w0 (old w0 none_) g_BlockedA g_BlockedC g.Blocked) (tA : Option Addr) (tC : Nat) (hv_t : View w0 (old w0 none_) tA tC t) (Q : Int → Prop) (h : M_route_CheckTasks g t Q) :
  Ret Tryz.prog 16 #[.agg #[iv g.W, iv g.H, iv g.Layers, .slice g_BlockedA g.Blocked.length g_BlockedC], .slice tA t.length tC] w0 fun v w' => ∃ (r0 : Int), v = iv r0 ∧ Q r0 ∧ Sat w0 none_ [] w' := by
 refine fn_enter func16 rfl ntmps16 rfl (fs := [(0, .agg #[iv g.W, iv g.H, iv g.Layers, .slice g_BlockedA g.Blocked.length g_BlockedC]), (1, .slice tA t.length tC)]) rfl (fun a hf => ?_)
 have hs := Sat.start w0 none_
 unfold M_route_CheckTasks at h
 refine X.l (S.box hf hs rfl rfl rfl [iv g.W, iv g.H, iv g.Layers, .slice g_BlockedA g.Blocked.length g_BlockedC] rfl rfl rfl (fun g1 a w hf hs => S.q hf hs (iv 0) rfl fun a hf => X.n (wp_seq (X.l (S.v hf hs (.agg #[iv g.W, iv g.H, iv g.Layers, .slice g_BlockedA g.Blocked.length g_BlockedC]) rfl (V.loadBox 0 rfl rfl rfl isAgg24 sizeOf24 rfl rfl) fun a hf => S.call hf rfl rfl rfl (call_fn (vs := [.agg #[iv g.W, iv g.H, iv g.Layers, .slice g_BlockedA g.Blocked.length g_BlockedC]]) rfl rfl rfl call48) (R_route_CheckGrid g _ g_BlockedA g_BlockedC ((Ag.args _ _ _).view hv_g_Blocked hs) _ h) (fun v a w' hf hr => ?_))))))
 obtain ⟨y1, rfl, h2, hs2⟩ := hr
 replace h := h2; replace hs := hs.call hs2; clear h2 hs2
 refine S.q hf hs (iv y1) rfl fun a hf => X.n (X.l (S.q hf hs (iv y1) rfl fun a hf => S.q hf hs (.bool (y1 != 0)) rfl fun a hf => X.n ?_))
 refine C.cond hf (b := y1 != 0) rfl (fun hc => ?_) (fun hc => ?_)
 ·replace h := h.1 hc
  refine X.l (S.q hf hs (iv y1) rfl fun a hf => S.q hf hs (iv y1) rfl fun a hf => X.n (wp_ret (X.then_ret ?_)))
  exact L.ret hf (run_results1 results16 (ResIs.tmp hf rfl)) ⟨y1, rfl, h, hs.nil⟩
 ·replace h := h.2 hc
  refine wp_skip (X.then_ (wp_seq (X.l (S.q hf hs (.slice tA t.length tC) rfl fun a hf => S.v hf hs (iv (t.length : Int)) rfl (V.len rfl rfl runUnderlying27) fun a hf => S.q hf hs (.bool (decide ((t.length : Int) > 100))) rfl fun a hf => X.n ?_))))
  refine C.cond hf (b := decide ((t.length : Int) > 100)) rfl (fun hc => ?_) (fun hc => ?_)
  ·replace h := h.1 hc
   refine X.l (S.q hf hs (iv 2) rfl fun a hf => X.n (wp_ret (X.then_ret ?_)))
   exact L.ret hf (run_results1 results16 (ResIs.tmp hf rfl)) ⟨2, rfl, h, hs.nil⟩
  ·replace h := h.2 hc
   refine wp_skip (X.then_ (X.l (S.v hf hs (.agg #[iv g.W, iv g.H, iv g.Layers, .slice g_BlockedA g.Blocked.length g_BlockedC]) rfl (V.loadBox 0 rfl rfl rfl isAgg24 sizeOf24 rfl rfl) fun a hf => S.call hf rfl rfl rfl (call_fn (vs := [.agg #[iv g.W, iv g.H, iv g.Layers, .slice g_BlockedA g.Blocked.length g_BlockedC]]) rfl rfl rfl call23) (R_route_blocked g _ g_BlockedA g_BlockedC ((Ag.args _ _ _).view hv_g_Blocked hs) _ h) (fun v a w' hf hr => ?_))))
   obtain ⟨y2, y2A, y2C, rfl, h2, hs2⟩ := hr
   replace h := h2; replace hs := hs.call hs2; clear h2 hs2
   refine S.q hf hs (.slice y2A y2.length y2C) rfl fun a hf => X.n (X.l (S.makeMap hf hs rfl rfl rfl ek55 ek4 rfl (fun g2 a w hf hs => S.alloc hf hs rfl rfl rfl [.map none] rfl zeroValue56 rfl (fun g3 a w hf hs => S.storeBox 0 hf hs rfl rfl [.map (some g2)] [.map (some g2)] rfl rfl rfl rfl rfl sizeOf56 rfl rfl rfl rfl (fun a w hf hs => X.n (wp_seq (X.l (S.q hf hs (.slice tA t.length tC) rfl fun a hf => S.v hf hs (iv (t.length : Int)) rfl (V.len rfl rfl runUnderlying27) fun a hf => S.q hf hs (iv 0) rfl fun a hf => X.n (wp_block ?_)))))))))
   replace hs := hs.front 1 rfl
   replace hs := hs.front 1 rfl
   replace hs := hs.front 2 rfl
   replace hs := hs.front 3 rfl
   have hlenk1 := hv_t.len64
   refine C.range (fun (ll : List Task) a w => ∃ (k1 : Nat) (m2 : List (Cell × Bool)), t.drop k1 = ll ∧ k1 + ll.length = t.length ∧ forIn' (fun k x (s : List (Cell × Bool)) next => M_route_CheckTasks_L1 g t Q y2 k x s (fun m2 => next m2)) (fun (s : List (Cell × Bool)) => (fun (m2 : List (Cell × Bool)) => Q 0) s) ll k1 m2 ∧ FrOk 71 [(26, iv (k1 : Int)), (1, .slice tA t.length tC), (2, (pn g1 0)), (6, .slice y2A y2.length y2C), (7, (pn g3 0)), (24, .slice tA t.length tC), (25, iv (t.length : Int))] a ∧ Sat w0 none_ [hbox g1 24 [iv g.W, iv g.H, iv g.Layers, .slice g_BlockedA g.Blocked.length g_BlockedC], hown 4 y2A y2C y2, hbox g3 56 [.map (some g2)], hmap g2 ek55 ek4 m2] w) t ⟨0, ([] : List (Cell × Bool)), rfl, Nat.zero_add _, h, (((((((hf.nil.cons (hf.get 25 _ rfl)).cons (hf.get 24 _ rfl)).cons (hf.get 7 _ rfl)).cons (hf.get 6 _ rfl)).cons (hf.get 2 _ rfl)).cons (hf.get 1 _ rfl)).cons (hf.get 26 _ rfl)), hs⟩ ?_
   clear h hf hs
   rintro llk1 a w ⟨k1, m2, hlk1, hkk1, h, hf, hs⟩
   cases llk1 with
   | nil =>
    have hc := range_done hkk1
    replace h : (fun (m2 : List (Cell × Bool)) => Q 0) m2 := h
    refine X.l (S.v hf hs (.bool false) rfl (V.cmp false rfl rfl rfl rfl hc) fun a hf => X.n (wp_seq (C.no hf rfl (wp_exit (X.then_exit (X.then_exit (X.blk_exit (X.then_ (X.l (S.q hf hs (iv 0) rfl fun a hf => X.n (wp_ret ?_)))))))))))
    exact L.ret hf (run_results1 results16 (ResIs.tmp hf rfl)) ⟨0, rfl, h, hs.nil⟩
   | cons xk1 llk1 =>
    have hltk1 := range_lt hkk1; have hc := range_go hkk1; have hxk1 := range_get hlk1
    obtain ⟨next1, hnext1⟩ : ∃ X : List (Cell × Bool) → Prop, X = (fun m2 => forIn' (fun k x (s : List (Cell × Bool)) next => M_route_CheckTasks_L1 g t Q y2 k x s (fun m2 => next m2)) (fun (s : List (Cell × Bool)) => (fun (m2 : List (Cell × Bool)) => Q 0) s) llk1 (k1 + 1) m2) := ⟨_, rfl⟩
    replace h : M_route_CheckTasks_L1 g t Q y2 k1 xk1 m2 next1 := by rw [hnext1]; exact h
    unfold M_route_CheckTasks_L1 at h
    refine X.l (S.v hf hs (.bool true) rfl (V.cmp true rfl rfl rfl rfl hc) fun a hf => X.n (wp_seq (C.yes hf rfl (wp_skip (X.then_ (wp_seq (wp_block (X.l (S.q hf hs (iv (k1 : Int)) rfl fun a hf => ?_)))))))))
    obtain ⟨cs1, he1, hr1⟩ := hv_t.at_ _ _ hxk1
    obtain ⟨u1A, u1C, rfl, hvu1⟩ := hr1
    refine S.v hf hs (elemPtr tA (k1 * 2)) rfl (V.index rfl rfl rfl runUnderlying27 sizeOf53 (hv_t.some_ (lt_of_get hxk1)) (Int.natCast_nonneg _) (lt_of_get hxk1) rfl) fun a hf => S.v hf hs (.agg #[.string (ba xk1.Net), .slice u1A xk1.Pins.length u1C]) rfl (V.loadEl (off := 0) (Ag.args _ _ _) he1 rfl rfl rfl isAgg53 sizeOf53 rfl rfl) fun a hf => S.alloc hf hs rfl rfl rfl [.string (ba []), .slice none 0 0] rfl zeroValue53 rfl (fun g4 a w hf hs => S.q hf hs (iv (k1 : Int)) rfl fun a hf => S.storeBox 0 hf hs rfl rfl [.string (ba xk1.Net), .slice u1A xk1.Pins.length u1C] [.string (ba xk1.Net), .slice u1A xk1.Pins.length u1C] rfl rfl rfl rfl rfl sizeOf53 rfl rfl rfl rfl (fun a w hf hs => X.n (wp_seq (X.l (S.v hf hs ((pn g4 0)) rfl (V.fieldBox rfl rfl runUnderlying53 rfl sizeOf9 rfl rfl) fun a hf => S.v hf hs (.string (ba xk1.Net)) rfl (V.loadBox 0 rfl rfl rfl isAgg9 sizeOf9 rfl rfl) fun a hf => S.call hf rfl rfl rfl (call_fn (vs := [.string (ba xk1.Net)]) rfl rfl rfl call49) (R_netlist_IsPath xk1.Net _  _ h) (fun v a w' hf hr => ?_))))))
    obtain ⟨y3, rfl, h2, hs2⟩ := hr
    replace h := h2; replace hs := hs.call hs2; clear h2 hs2
    refine S.q hf hs (.bool (!y3)) rfl fun a hf => X.n ?_
    refine C.cond hf (b := !y3) rfl (fun hc => ?_) (fun hc => ?_)
    ·replace h := h.1 hc
     refine X.l (S.q hf hs (iv 5) rfl fun a hf => X.n (wp_ret (X.then_ret (X.blk_ret (X.then_ret (X.then_ret (X.blk_ret (X.then_ret ?_))))))))
     exact L.ret hf (run_results1 results16 (ResIs.tmp hf rfl)) ⟨5, rfl, h, hs.nil⟩
    ·replace h := h.2 hc
     refine wp_skip (X.then_ (wp_seq (X.l (S.v hf hs (.agg #[iv g.W, iv g.H, iv g.Layers, .slice g_BlockedA g.Blocked.length g_BlockedC]) rfl (V.loadBox 1 rfl rfl rfl isAgg24 sizeOf24 rfl rfl) fun a hf => S.q hf hs (.slice y2A y2.length y2C) rfl fun a hf => S.v hf hs ((pn g4 1)) rfl (V.fieldBox rfl rfl runUnderlying53 rfl sizeOf22 rfl rfl) fun a hf => S.v hf hs (.slice u1A xk1.Pins.length u1C) rfl (V.loadBox 0 rfl rfl rfl isAgg22 sizeOf22 rfl rfl) fun a hf => S.call hf rfl rfl rfl (call_fn (vs := [.agg #[iv g.W, iv g.H, iv g.Layers, .slice g_BlockedA g.Blocked.length g_BlockedC], .slice y2A y2.length y2C, .slice u1A xk1.Pins.length u1C, iv 50]) rfl rfl rfl call50) (R_route_checkPins g y2 xk1.Pins 50 _ g_BlockedA g_BlockedC ((Ag.args _ _ _).view hv_g_Blocked hs) y2A y2C (hs.ownView 2 rfl) u1A u1C ((Ag.args _ _ _).view hvu1 hs) _ h) (fun v a w' hf hr => ?_)))))
     obtain ⟨y4, rfl, h2, hs2⟩ := hr
     replace h := h2; replace hs := hs.call hs2; clear h2 hs2
     refine S.q hf hs (iv y4) rfl fun a hf => X.n (X.l (S.q hf hs (iv y4) rfl fun a hf => S.q hf hs (.bool (y4 != 0)) rfl fun a hf => X.n ?_))
     refine C.cond hf (b := y4 != 0) rfl (fun hc => ?_) (fun hc => ?_)
     ·replace h := h.1 hc
      refine X.l (S.q hf hs (iv y4) rfl fun a hf => S.q hf hs (iv y4) rfl fun a hf => X.n (wp_ret (X.then_ret (X.blk_ret (X.then_ret (X.then_ret (X.blk_ret (X.then_ret ?_))))))))
      exact L.ret hf (run_results1 results16 (ResIs.tmp hf rfl)) ⟨y4, rfl, h, hs.nil⟩
     ·replace h := h.2 hc
      refine wp_skip (X.then_ (wp_seq (X.l (S.v hf hs ((pn g4 1)) rfl (V.fieldBox rfl rfl runUnderlying53 rfl sizeOf22 rfl rfl) fun a hf => S.v hf hs (.slice u1A xk1.Pins.length u1C) rfl (V.loadBox 0 rfl rfl rfl isAgg22 sizeOf22 rfl rfl) fun a hf => S.q hf hs (.func (.func 52) #[] #[(pn g3 0)]) rfl fun a hf => ?_))))
      replace hs := hs.front 4 rfl
      obtain ⟨F1, hsF, hback, hold, hrest⟩ := Sat.callOwns [hmap g2 ek55 ek4 m2] (σ := [hbox g4 53 [.string (ba xk1.Net), .slice u1A xk1.Pins.length u1C], hbox g1 24 [iv g.W, iv g.H, iv g.Layers, .slice g_BlockedA g.Blocked.length g_BlockedC], hown 4 y2A y2C y2, hbox g3 56 [.map (some g2)]]) hs
      refine S.call hf rfl rfl rfl (call_fn (vs := [.slice u1A xk1.Pins.length u1C, .func (.func 52) #[] #[(pn g3 0)]]) rfl rfl rfl call51) (R_containsfunc_seen xk1.Pins m2 _ _ u1A u1C (viewArgsF hs hold hvu1) g2 g3 (boxAtF hrest 3 rfl) hsF _ h) (fun v a w' hf hr => ?_)
      obtain ⟨y5, z1, rfl, h2, hs2⟩ := hr
      replace h := h2; replace hs := hback _ _ hs2; clear h2 hs2 hback hold hrest hsF
      refine X.n ?_
      refine C.cond hf (b := y5) rfl (fun hc => ?_) (fun hc => ?_)
      ·replace h := h.1 hc
       refine X.l (S.q hf hs (iv 7) rfl fun a hf => X.n (wp_ret (X.then_ret (X.blk_ret (X.then_ret (X.then_ret (X.blk_ret (X.then_ret ?_))))))))
       exact L.ret hf (run_results1 results16 (ResIs.tmp hf rfl)) ⟨7, rfl, h, hs.nil⟩
      ·replace h := h.2 hc
       refine wp_skip (X.then_ (wp_seq (X.l (S.v hf hs ((pn g4 1)) rfl (V.fieldBox rfl rfl runUnderlying53 rfl sizeOf22 rfl rfl) fun a hf => S.v hf hs (.slice u1A xk1.Pins.length u1C) rfl (V.loadBox 1 rfl rfl rfl isAgg22 sizeOf22 rfl rfl) fun a hf => S.v hf hs (iv (xk1.Pins.length : Int)) rfl (V.len rfl rfl runUnderlying22) fun a hf => S.q hf hs (iv 0) rfl fun a hf => X.n (wp_block ?_)))))
       have hlenk2 := hvu1.len64
       refine C.range (fun (ll : List Cell) a w => ∃ (k2 : Nat) (m4 : List (Cell × Bool)), xk1.Pins.drop k2 = ll ∧ k2 + ll.length = xk1.Pins.length ∧ forIn' (fun k x (s : List (Cell × Bool)) next => M_route_CheckTasks_L2 k x s (fun m4 => next m4)) (fun (s : List (Cell × Bool)) => (fun (m4 : List (Cell × Bool)) => cnd (decide ((k1 : Int) > 0)) (idx t (w64 ((k1 : Int) - 1)) fun x1 => M_route_CheckTasks_k3 Q next1 m4 (strLt xk1.Net x1.Net || xk1.Net == x1.Net)) (M_route_CheckTasks_k3 Q next1 m4 false)) s) ll k2 m4 ∧ FrOk 71 [(50, iv (k2 : Int)), (1, .slice tA t.length tC), (2, (pn g1 0)), (6, .slice y2A y2.length y2C), (7, (pn g3 0)), (8, iv (k1 : Int)), (9, (pn g4 0)), (24, .slice tA t.length tC), (25, iv (t.length : Int)), (26, iv (k1 : Int)), (48, .slice u1A xk1.Pins.length u1C), (49, iv (xk1.Pins.length : Int))] a ∧ Sat w0 none_ [hmap g2 ek55 ek4 m4, hbox g4 53 [.string (ba xk1.Net), .slice u1A xk1.Pins.length u1C], hbox g1 24 [iv g.W, iv g.H, iv g.Layers, .slice g_BlockedA g.Blocked.length g_BlockedC], hown 4 y2A y2C y2, hbox g3 56 [.map (some g2)]] w) xk1.Pins ⟨0, z1, rfl, Nat.zero_add _, h, ((((((((((((hf.nil.cons (hf.get 49 _ rfl)).cons (hf.get 48 _ rfl)).cons (hf.get 26 _ rfl)).cons (hf.get 25 _ rfl)).cons (hf.get 24 _ rfl)).cons (hf.get 9 _ rfl)).cons (hf.get 8 _ rfl)).cons (hf.get 7 _ rfl)).cons (hf.get 6 _ rfl)).cons (hf.get 2 _ rfl)).cons (hf.get 1 _ rfl)).cons (hf.get 50 _ rfl)), hs⟩ ?_
       clear h hf hs
       rintro llk2 a w ⟨k2, m4, hlk2, hkk2, h, hf, hs⟩
       cases llk2 with
       | nil =>
        have hc := range_done hkk2
        replace h : (fun (m4 : List (Cell × Bool)) => cnd (decide ((k1 : Int) > 0)) (idx t (w64 ((k1 : Int) - 1)) fun x1 => M_route_CheckTasks_k3 Q next1 m4 (strLt xk1.Net x1.Net || xk1.Net == x1.Net)) (M_route_CheckTasks_k3 Q next1 m4 false)) m4 := h
        refine X.l (S.v hf hs (.bool false) rfl (V.cmp false rfl rfl rfl rfl hc) fun a hf => X.n (wp_seq (C.no hf rfl (wp_exit (X.then_exit (X.then_exit (X.blk_exit (X.then_ (wp_seq ?_)))))))))
        refine C.cut (J := fun a w => ∃ (c1 : Bool), M_route_CheckTasks_k3 Q next1 m4 c1 ∧ FrOk 71 [(1, .slice tA t.length tC), (2, (pn g1 0)), (6, .slice y2A y2.length y2C), (7, (pn g3 0)), (24, .slice tA t.length tC), (25, iv (t.length : Int)), (26, iv (k1 : Int)), (69, .bool c1)] a ∧ Sat w0 none_ [hmap g2 ek55 ek4 m4, hbox g4 53 [.string (ba xk1.Net), .slice u1A xk1.Pins.length u1C], hbox g1 24 [iv g.W, iv g.H, iv g.Layers, .slice g_BlockedA g.Blocked.length g_BlockedC], hown 4 y2A y2C y2, hbox g3 56 [.map (some g2)]] w) ?_ ?_
        ·rintro a w ⟨c1, h, hf, hs⟩
         unfold M_route_CheckTasks_k3 at h
         refine C.cond hf (b := c1) rfl (fun hc => ?_) (fun hc => ?_)
         ·replace h := h.1 hc
          refine X.l (S.q hf hs (iv 8) rfl fun a hf => X.n (wp_ret (X.blk_ret (X.then_ret (X.then_ret (X.blk_ret (X.then_ret ?_)))))))
          exact L.ret hf (run_results1 results16 (ResIs.tmp hf rfl)) ⟨8, rfl, h, hs.nil⟩
         ·replace h := h.2 hc
          refine wp_skip (X.blk (X.then_ (R.list (S.v hf hs (iv ((k1 + 1 : Nat) : Int)) rfl (V.incr rfl rfl rfl hltk1 hlenk1) fun a hf => S.q hf hs (iv ((k1 + 1 : Nat) : Int)) rfl fun a hf => X.n ?_))))
          replace hs := hs.front 4 rfl
          replace hs := hs.front 4 rfl
          replace hs := hs.front 4 rfl
          replace hs := hs.take 4
          exact ⟨xk1, llk1, rfl, k1 + 1, m4, range_drop hlk1, range_len hkk1, (by rw [hnext1] at h; exact h), (((((((hf.nil.cons (hf.get 25 _ rfl)).cons (hf.get 24 _ rfl)).cons (hf.get 7 _ rfl)).cons (hf.get 6 _ rfl)).cons (hf.get 2 _ rfl)).cons (hf.get 1 _ rfl)).cons (hf.get 26 _ rfl)), hs⟩
        ·skip
         refine R.draw mo (by kernel_rfl) hs (D.p hf (iv (k1 : Int)) rfl rfl fun a hf => D.p hf (.bool (decide ((k1 : Int) > 0))) rfl rfl fun a hf => ?_)
         refine D.split hf (b := decide ((k1 : Int) > 0)) rfl rfl rfl (V.pure rfl) (fun hc a hf => ?_) (fun hc a hf => ?_)
         ·replace h := h.1 hc
          refine D.v hf ((pn g4 0)) rfl (V.fieldBox rfl rfl runUnderlying53 rfl sizeOf9 rfl rfl) fun a hf => D.v hf (.string (ba xk1.Net)) rfl (V.loadBox 1 rfl rfl rfl isAgg9 sizeOf9 rfl rfl) fun a hf => D.p hf (.slice tA t.length tC) rfl rfl fun a hf => D.p hf (iv (k1 : Int)) rfl rfl fun a hf => D.p hf (iv (w64 ((k1 : Int) - 1))) rfl rfl fun a hf => ?_
          obtain ⟨h0x1, x1, hx1, h⟩ := h
          obtain ⟨cs2, he2, hr2⟩ := hv_t.at_ _ _ hx1
          obtain ⟨u2A, u2C, rfl, hvu2⟩ := hr2
          refine D.v hf (elemPtr tA ((w64 ((k1 : Int) - 1)).toNat * 2)) rfl (V.index rfl rfl rfl runUnderlying27 sizeOf53 (hv_t.some_ (lt_of_get hx1)) h0x1 (lt_of_get hx1) rfl) fun a hf => D.v hf (elemPtr tA ((w64 ((k1 : Int) - 1)).toNat * 2)) rfl (V.fieldEl rfl rfl (hv_t.some_ (lt_of_get hx1)) runUnderlying53 rfl sizeOf9 rfl rfl) fun a hf => D.v hf (.string (ba x1.Net)) rfl (V.loadEl (off := 0) (Ag.args _ _ _) he2 rfl rfl rfl isAgg9 sizeOf9 rfl rfl) fun a hf => D.v hf (.bool (strLt xk1.Net x1.Net || xk1.Net == x1.Net)) rfl (V.strCmp (strLt xk1.Net x1.Net || xk1.Net == x1.Net) rfl rfl rfl rfl) fun a hf => D.p hf (.bool (strLt xk1.Net x1.Net || xk1.Net == x1.Net)) rfl rfl fun a hf => D.done (fun w hs => X.then_ ?_)
          exact ⟨(strLt xk1.Net x1.Net || xk1.Net == x1.Net), h, ((((((((hf.nil.cons (hf.get 69 _ rfl)).cons (hf.get 26 _ rfl)).cons (hf.get 25 _ rfl)).cons (hf.get 24 _ rfl)).cons (hf.get 7 _ rfl)).cons (hf.get 6 _ rfl)).cons (hf.get 2 _ rfl)).cons (hf.get 1 _ rfl)), hs⟩
         ·replace h := h.2 hc
          refine D.k hf rfl fun a hf => D.k hf rfl fun a hf => D.k hf rfl fun a hf => D.k hf rfl fun a hf => D.k hf rfl fun a hf => D.k hf rfl fun a hf => D.k hf rfl fun a hf => D.k hf rfl fun a hf => D.k hf rfl fun a hf => D.p hf (.bool false) rfl rfl fun a hf => D.done (fun w hs => X.then_ ?_)
          exact ⟨false, h, ((((((((hf.nil.cons (hf.get 69 _ rfl)).cons (hf.get 26 _ rfl)).cons (hf.get 25 _ rfl)).cons (hf.get 24 _ rfl)).cons (hf.get 7 _ rfl)).cons (hf.get 6 _ rfl)).cons (hf.get 2 _ rfl)).cons (hf.get 1 _ rfl)), hs⟩
       | cons xk2 llk2 =>
        have hltk2 := range_lt hkk2; have hc := range_go hkk2; have hxk2 := range_get hlk2
        obtain ⟨next2, hnext2⟩ : ∃ X : List (Cell × Bool) → Prop, X = (fun m4 => forIn' (fun k x (s : List (Cell × Bool)) next => M_route_CheckTasks_L2 k x s (fun m4 => next m4)) (fun (s : List (Cell × Bool)) => (fun (m4 : List (Cell × Bool)) => cnd (decide ((k1 : Int) > 0)) (idx t (w64 ((k1 : Int) - 1)) fun x1 => M_route_CheckTasks_k3 Q next1 m4 (strLt xk1.Net x1.Net || xk1.Net == x1.Net)) (M_route_CheckTasks_k3 Q next1 m4 false)) s) llk2 (k2 + 1) m4) := ⟨_, rfl⟩
        replace h : M_route_CheckTasks_L2 k2 xk2 m4 next2 := by rw [hnext2]; exact h
        unfold M_route_CheckTasks_L2 at h
        refine X.l (S.v hf hs (.bool true) rfl (V.cmp true rfl rfl rfl rfl hc) fun a hf => X.n (wp_seq (C.yes hf rfl (wp_skip (X.then_ (wp_seq (wp_block (X.l (S.v hf hs (elemPtr u1A (k2 * 3)) rfl (V.index rfl rfl rfl runUnderlying22 sizeOf55 (hvu1.some_ (lt_of_get hxk2)) (Int.natCast_nonneg _) (lt_of_get hxk2) rfl) fun a hf => S.v hf hs (.agg #[iv xk2.X, iv xk2.Y, iv xk2.Layer]) rfl (V.loadEl (off := 0) (Ag.args _ _ _) (hvu1.flat hxk2) rfl rfl rfl isAgg55 sizeOf55 rfl rfl) fun a hf => S.alloc hf hs rfl rfl rfl [iv 0, iv 0, iv 0] rfl zeroValue55 rfl (fun g5 a w hf hs => S.storeBox 0 hf hs rfl rfl [iv xk2.X, iv xk2.Y, iv xk2.Layer] [iv xk2.X, iv xk2.Y, iv xk2.Layer] rfl rfl rfl rfl rfl sizeOf55 rfl rfl rfl rfl (fun a w hf hs => X.n (R.list (S.v hf hs (.map (some g2)) rfl (V.loadBox 5 rfl rfl rfl isAgg56 sizeOf56 rfl rfl) fun a hf => S.v hf hs (.agg #[iv xk2.X, iv xk2.Y, iv xk2.Layer]) rfl (V.loadBox 0 rfl rfl rfl isAgg55 sizeOf55 rfl rfl) fun a hf => ?_)))))))))))))
        refine S.mapUpdate 1 hf hs rfl rfl rfl xk2 true rfl rfl rfl rfl runUnderlying56 key55 (fun a w hf hs => R.nil (X.blk (X.then_ (R.list (S.v hf hs (iv ((k2 + 1 : Nat) : Int)) rfl (V.incr rfl rfl rfl hltk2 hlenk2) fun a hf => S.q hf hs (iv ((k2 + 1 : Nat) : Int)) rfl fun a hf => X.n ?_)))))
        exact ⟨xk2, llk2, rfl, k2 + 1, (mput m4 xk2 true), range_drop hlk2, range_len hkk2, (by rw [hnext2] at h; exact h), ((((((((((((hf.nil.cons (hf.get 49 _ rfl)).cons (hf.get 48 _ rfl)).cons (hf.get 26 _ rfl)).cons (hf.get 25 _ rfl)).cons (hf.get 24 _ rfl)).cons (hf.get 9 _ rfl)).cons (hf.get 8 _ rfl)).cons (hf.get 7 _ rfl)).cons (hf.get 6 _ rfl)).cons (hf.get 2 _ rfl)).cons (hf.get 1 _ rfl)).cons (hf.get 50 _ rfl)), hs.drop⟩
end Go.Proofs.YtihjaehkdgdenaaGreatDoor
