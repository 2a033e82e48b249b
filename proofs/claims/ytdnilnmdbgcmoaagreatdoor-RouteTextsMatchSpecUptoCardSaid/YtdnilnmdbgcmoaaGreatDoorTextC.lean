/- Chapter texts of ours, as far as the claim needs them. -/
import Derived.Test.YtdnilnmdbgcmoaaGreatDoorTypes
import Derived.Test.YtdnilnmdbgcmoaaGreatDoorShort
import Derived.Test.YtdnilnmdbgcmoaaGreatDoorTextP
namespace Go.Proofs.YtdnilnmdbgcmoaaGreatDoor
open Go Go.RowKit Go.Proofs Go.Shelf Go.Lib
set_option linter.unusedVariables false
set_option linter.unusedSectionVars false
set_option linter.unusedSimpArgs false
def M_stringslite_Index (s sub : Str) (Q : Int → Prop) : Prop := ∃ c, sub = [c] ∧ Q (Lib.indexByte s c)
theorem R_stringslite_Index (s sub : Str) (w0 : World) (Q : Int → Prop) (h : M_stringslite_Index s sub Q) :
  Ret Tryz.prog 139 #[.string (ba s), .string (ba sub)] w0 fun v w' => ∃ (r0 : Int), v = .int .i64 r0 ∧ Q r0 ∧ Sat w0 none_ [] w' := by
 obtain ⟨c, rfl, hq⟩ := h
 have key := Any.stringslite_Index_one (P := Tryz.prog) { Tryz.lays221 with } (ba s) c w0
 rw [ba_toList] at key
 exact Calls.mono key fun e w' ⟨he, hw⟩ => ⟨_, he, _, rfl, hq, hw ▸ Sat.start w0 none_⟩
set_option linter.unusedVariables false
def M_stringslite_Cut (s_ : Str) (sep : Str) (Q : Str → Str → Bool → Prop) : Prop :=
  M_stringslite_Index s_ sep fun y1 => cnd (decide (y1 ≥ 0)) (must (0 ≤ (0 : Int) ∧ (0 : Int) ≤ y1 ∧ y1 ≤ (s_.length : Int)) (must (0 ≤ w64 (y1 + (sep.length : Int)) ∧ w64 (y1 + (sep.length : Int)) ≤ (s_.length : Int) ∧ (s_.length : Int) ≤ (s_.length : Int)) (Q (seg s_ (0 : Int) y1) (seg s_ (w64 (y1 + (sep.length : Int))) (s_.length : Int)) true))) (Q s_ [] false)
set_option maxHeartbeats 1000000 in
theorem R_stringslite_Cut (s_ : Str) (sep : Str) (w0 : World)  (Q : Str → Str → Bool → Prop) (h : M_stringslite_Cut s_ sep Q) :
  Ret Tryz.prog 79 #[.string (ba s_), .string (ba sep)] w0 fun v w' => ∃ (r0 : Str) (r1 : Str) (r2 : Bool), v = .tuple #[.string (ba r0), .string (ba r1), .bool r2] ∧ Q r0 r1 r2 ∧ Sat w0 none_ [] w' := by
 refine fn_enter Tryz.func79 rfl Tryz.ntmps79 rfl (fs := [(0, .string (ba s_)), (1, .string (ba sep))]) rfl (fun a hf => ?_)
 have hs := Sat.start w0 none_
 unfold M_stringslite_Cut at h
 refine wp_seq (R.list ?_)
 refine S.p hf hs (.string (ba [])) rfl rfl fun a hf => ?_
 refine S.p hf hs (.string (ba [])) rfl rfl fun a hf => ?_
 refine S.p hf hs (.bool false) rfl rfl fun a hf => ?_
 refine R.nil (X.then_ (wp_seq (wp_seq (R.list ?_))))
 refine S.p hf hs (.string (ba s_)) rfl rfl fun a hf => ?_
 refine S.p hf hs (.string (ba sep)) rfl rfl fun a hf => ?_
 refine S.call hf rfl rfl rfl (call_fn (vs := [.string (ba s_), .string (ba sep)]) rfl rfl rfl Tryz.call139) (R_stringslite_Index s_ sep _  _ h) (fun v a w' hf hr => ?_)
 obtain ⟨y1, rfl, h2, hs2⟩ := hr
 replace h := h2; replace hs := hs.call hs2; clear h2 hs2
 refine S.p hf hs (iv y1) rfl rfl fun a hf => ?_
 refine R.nil (X.then_ (wp_seq (R.list ?_)))
 refine S.p hf hs (iv y1) rfl rfl fun a hf => ?_
 refine S.p hf hs (.bool (decide (y1 ≥ 0))) rfl rfl fun a hf => ?_
 refine R.nil (X.then_ ?_)
 refine C.cond hf (b := decide (y1 ≥ 0)) rfl (fun hc => ?_) (fun hc => ?_)
 ·replace h := h.1 hc
  refine wp_seq ?_
  refine R.draw mo (by kernel_rfl) hs ?_
  refine D.p hf (.string (ba s_)) rfl rfl fun a hf => ?_
  refine D.p hf (iv y1) rfl rfl fun a hf => ?_
  obtain ⟨hp1, h⟩ := h
  refine D.v hf (.string (ba (seg s_ (0 : Int) y1))) rfl (V.sliceStr rfl rfl rfl rfl Tryz.runUnderlying9 rfl rfl hp1) fun a hf => ?_
  refine D.p hf (.string (ba s_)) rfl rfl fun a hf => ?_
  refine D.p hf (iv y1) rfl rfl fun a hf => ?_
  refine D.p hf (.string (ba sep)) rfl rfl fun a hf => ?_
  refine D.v hf (iv (sep.length : Int)) rfl (V.lenStr rfl rfl Tryz.runUnderlying9) fun a hf => ?_
  refine D.p hf (iv (w64 (y1 + (sep.length : Int)))) rfl rfl fun a hf => ?_
  obtain ⟨hp2, h⟩ := h
  refine D.v hf (.string (ba (seg s_ (w64 (y1 + (sep.length : Int))) (s_.length : Int)))) rfl (V.sliceStr rfl rfl rfl rfl Tryz.runUnderlying9 rfl rfl hp2) fun a hf => ?_
  refine D.p hf (.string (ba (seg s_ (0 : Int) y1))) rfl rfl fun a hf => ?_
  refine D.p hf (.string (ba (seg s_ (w64 (y1 + (sep.length : Int))) (s_.length : Int)))) rfl rfl fun a hf => ?_
  refine D.p hf (.bool true) rfl rfl fun a hf => ?_
  refine D.done (fun w hs => ?_)
  refine X.then_ (wp_ret (X.then_ret ?_))
  exact L.ret hf (run_results3 Tryz.results79 (ResIs.tmp hf rfl) (ResIs.tmp hf rfl) (ResIs.tmp hf rfl)) ⟨(seg s_ (0 : Int) y1), (seg s_ (w64 (y1 + (sep.length : Int))) (s_.length : Int)), true, rfl, h, hs.nil⟩
 ·replace h := h.2 hc
  refine wp_skip (X.then_ (wp_seq (R.list ?_)))
  refine S.p hf hs (.string (ba s_)) rfl rfl fun a hf => ?_
  refine S.p hf hs (.string (ba s_)) rfl rfl fun a hf => ?_
  refine S.p hf hs (.string (ba [])) rfl rfl fun a hf => ?_
  refine S.p hf hs (.bool false) rfl rfl fun a hf => ?_
  refine R.nil (X.then_ (wp_ret ?_))
  exact L.ret hf (run_results3 Tryz.results79 (ResIs.tmp hf rfl) (ResIs.tmp hf rfl) (ResIs.tmp hf rfl)) ⟨s_, [], false, rfl, h, hs.nil⟩
set_option linter.unusedVariables false
def M_strings_Cut (s_ : Str) (sep : Str) (Q : Str → Str → Bool → Prop) : Prop :=
  M_stringslite_Cut s_ sep fun y1 y2 y3 => Q y1 y2 y3
set_option maxHeartbeats 1000000 in
theorem R_strings_Cut (s_ : Str) (sep : Str) (w0 : World)  (Q : Str → Str → Bool → Prop) (h : M_strings_Cut s_ sep Q) :
  Ret Tryz.prog 38 #[.string (ba s_), .string (ba sep)] w0 fun v w' => ∃ (r0 : Str) (r1 : Str) (r2 : Bool), v = .tuple #[.string (ba r0), .string (ba r1), .bool r2] ∧ Q r0 r1 r2 ∧ Sat w0 none_ [] w' := by
 refine fn_enter Tryz.func38 rfl Tryz.ntmps38 rfl (fs := [(0, .string (ba s_)), (1, .string (ba sep))]) rfl (fun a hf => ?_)
 have hs := Sat.start w0 none_
 unfold M_strings_Cut at h
 refine wp_seq (R.list ?_)
 refine S.p hf hs (.string (ba [])) rfl rfl fun a hf => ?_
 refine S.p hf hs (.string (ba [])) rfl rfl fun a hf => ?_
 refine S.p hf hs (.bool false) rfl rfl fun a hf => ?_
 refine R.nil (X.then_ (wp_seq (R.list ?_)))
 refine S.p hf hs (.string (ba s_)) rfl rfl fun a hf => ?_
 refine S.p hf hs (.string (ba sep)) rfl rfl fun a hf => ?_
 refine S.call hf rfl rfl rfl (call_fn (vs := [.string (ba s_), .string (ba sep)]) rfl rfl rfl Tryz.call79) (R_stringslite_Cut s_ sep _  _ h) (fun v a w' hf hr => ?_)
 obtain ⟨y1, y2, y3, rfl, h2, hs2⟩ := hr
 replace h := h2; replace hs := hs.call hs2; clear h2 hs2
 refine S.p hf hs (.string (ba y1)) rfl rfl fun a hf => ?_
 refine S.p hf hs (.string (ba y2)) rfl rfl fun a hf => ?_
 refine S.p hf hs (.bool y3) rfl rfl fun a hf => ?_
 refine S.p hf hs (.string (ba y1)) rfl rfl fun a hf => ?_
 refine S.p hf hs (.string (ba y2)) rfl rfl fun a hf => ?_
 refine S.p hf hs (.bool y3) rfl rfl fun a hf => ?_
 refine R.nil (X.then_ (wp_ret ?_))
 exact L.ret hf (run_results3 Tryz.results38 (ResIs.tmp hf rfl) (ResIs.tmp hf rfl) (ResIs.tmp hf rfl)) ⟨y1, y2, y3, rfl, h, hs.nil⟩
def M_strings_Trim (s cs : Str) (Q : Str → Prop) : Prop := must (s.length ≤ 9223372036854775807 ∧ cs.length < 4294967281 ∧ cs.all (fun b => decide (b.toNat < 128)) = true) (Q (Lib.trimS s cs))
theorem R_strings_Trim (s cs : Str) (w0 : World) (Q : Str → Prop) (h : M_strings_Trim s cs Q) :
  Ret Tryz.prog 142 #[.string (ba s), .string (ba cs)] w0 fun v w' => ∃ (r0 : Str), v = .string (ba r0) ∧ Q r0 ∧ Sat w0 none_ [] w' := by
 obtain ⟨⟨h1, h2, h3⟩, hq⟩ := h
 have key := Any.strings_Trim_laid (P := Tryz.prog) Tryz.lays160 (by kernel_rfl) (ba s) (ba cs) w0 (by rw [ba_size]; exact h1) (by rw [ba_size]; exact h2) (by rw [ba_toList]; exact ascii_of_all h3)
 rw [ba_toList, ba_toList] at key
 exact Calls.mono key fun e w' ⟨he, hb⟩ => ⟨_, he, _, rfl, hq, ⟨Keeps.of_below hb none_ (fun e => absurd e (by decide)), trivial⟩⟩
def M_strconv_Atoi (s : Str) (Q : Int → Unit → Prop) : Prop := must (s.length ≤ 18) (∃ n, Lib.atoi s = some n ∧ Q n ())
theorem R_strconv_Atoi (s : Str) (w0 : World) (Q : Int → Unit → Prop) (h : M_strconv_Atoi s Q) :
  Ret Tryz.prog 143 #[.string (ba s)] w0 fun v w' => ∃ (r0 : Int) (r1 : Unit), v = .tuple #[.int .i64 r0, .nilIface] ∧ Q r0 r1 ∧ Sat w0 none_ [] w' := by
 obtain ⟨h1, n, hn, hq⟩ := h
 have key := Any.strconv_Atoi (P := Tryz.prog) Tryz.lays172 (ba s) n (by rw [ba_size]; exact h1) (by rw [ba_toList]; exact hn) w0
 exact Calls.mono key fun e w' ⟨he, t, hw⟩ => ⟨_, he, _, (), rfl, hq, ⟨Keeps.of_below (hw ▸ Joins.below_bytesWorld _ _ _ _ (Nat.le_refl _)) none_ (fun e => absurd e (by decide)), trivial⟩⟩
def M_strings_genSplit (s sep : Str) (sv n : Int) (Q : List Str → Prop) : Prop := must (s.length < 4294967281 ∧ (∃ c, sep = [c]) ∧ sv = 0 ∧ n = -1) (Q (Lib.split s sep))
theorem R_strings_genSplit (s sep : Str) (sv n : Int) (w0 : World) (Q : List Str → Prop) (h : M_strings_genSplit s sep sv n Q) :
  Ret Tryz.prog 90 #[.string (ba s), .string (ba sep), .int .i64 sv, .int .i64 n] w0 fun v w' => ∃ (r0 : List Str) (r0A : Option Addr) (r0C : Nat), v = .slice r0A r0.length r0C ∧ Q r0 ∧ Sat w0 none_ [hown 9 r0A r0C r0] w' := by
 obtain ⟨⟨hsl, ⟨c, rfl⟩, rfl, rfl⟩, hq⟩ := h
 have hsz : (ba s).size < 4294967281 := by rw [ba_size]; exact hsl
 have hb1 : (ba [c]).size = 1 := by rw [ba_size]; rfl
 have hle := Lib.countB_le (ba [c]) (Nat.le_of_eq hb1.symm) (ba s).size (ba s) (Nat.le_refl _)
 have hlen := Lib.splitB_all (ba [c]) (Nat.le_of_eq hb1.symm) 0 _ (ba s) rfl
 have key := Any.strings_genSplit_core (P := Tryz.prog) Tryz.lays221 (by kernel_rfl) (ba s) (ba [c]) 0 (-1) (Lib.countB (ba s) (ba [c]) + 1) w0 hsz (Nat.le_of_eq hb1.symm) (Nat.zero_le _)
  (fun x cc _ => by
   have hx := Any.strings_Index_one (P := Tryz.prog) { Tryz.lays221 with } x c (w0.alloc (.cells cc (Tryz.lays221_ren.t 9)))
   rw [← Lib.index_one] at hx
   exact hx)
  (by
   have hx := Any.strings_Count_one (P := Tryz.prog) { Tryz.lays221 with } (ba s) c w0
   have e : Lib.countB (ba s) (ba [c]) = Lib.countByte (ba s).data.toList c := Lib.count_one c _
   rw [e]
   exact hx)
  (by decide) (by decide) (by rw [if_pos (by decide)]; omega)
 rw [Nat.add_sub_cancel, hlen] at key
 have es : (Lib.splitB (ba [c]) 0 (Lib.countB (ba s) (ba [c])) (ba s)).map (·.data.toList) = Lib.split s [c] := by
  rw [Lib.splitB_data, ba_toList, ba_toList]
  show _ = Lib.splitK [c] 0 (Lib.count s [c]) s
  have : Lib.countB (ba s) (ba [c]) = Lib.count s [c] := by
   show Lib.count (ba s).data.toList (ba [c]).data.toList = _
   rw [ba_toList, ba_toList]
  rw [this]
 have el : Lib.countB (ba s) (ba [c]) + 1 = (Lib.split s [c]).length := by rw [← es, List.length_map, hlen]
 have ec : Lib.cellsOf (Lib.splitB (ba [c]) 0 (Lib.countB (ba s) (ba [c])) (ba s)) (Lib.countB (ba s) (ba [c]) + 1) = ((Lib.split s [c]).flatMap Flat.enc).toArray := by
  have e2 : Lib.cellsOf (Lib.splitB (ba [c]) 0 (Lib.countB (ba s) (ba [c])) (ba s)) (Lib.countB (ba s) (ba [c]) + 1) = ((Lib.splitB (ba [c]) 0 (Lib.countB (ba s) (ba [c])) (ba s)).map Value.string).toArray := by rw [← hlen]; exact Lib.cellsOf_full _
  rw [e2, ← es, List.flatMap_map]
  congr 1
  generalize Lib.splitB (ba [c]) 0 (Lib.countB (ba s) (ba [c])) (ba s) = l
  induction l with
  | nil => rfl
  | cons x l ih => rw [List.map_cons, ih]; rfl
 rw [ec, el] at key
 refine Calls.mono key fun e w' ⟨he, hw⟩ => ⟨_, he, Lib.split s [c], some ⟨w0.heap.size, 0, none⟩, (Lib.split s [c]).length, rfl, hq, ?_⟩
 rw [hw]
 refine (Sat.start w0 none_).add (Keeps.alloc w0 (.cells ((Lib.split s [c]).flatMap Flat.enc).toArray 9) _) (F' := fun b => b = w0.heap.size) ⟨⟨?_, ?_⟩, fun b => by simp [Value.ownBlock]; exact eq_comm⟩ (fun b hb => by subst hb; simp)
 ·rw [length_flatMap_enc]
 ·refine .inr ⟨w0.heap.size, (Lib.split s [c]).length, ((Lib.split s [c]).flatMap Flat.enc).toArray, rfl, Nat.zero_le _, heap_alloc_self w0 _, Nat.le_refl _, by rw [ba_size] at hle; unfold maxLen; omega, by rw [List.size_toArray, length_flatMap_enc], ?_⟩
  show List.take _ ((Lib.split s [c]).flatMap Flat.enc) = _
  exact List.take_of_length_le (by rw [length_flatMap_enc]; exact Nat.le_refl _)
theorem splitK_le (sep : Str) : ∀ (k : Nat) (s x : Str), x ∈ Lib.splitK sep 0 k s → x.length ≤ s.length
  | 0, s, x, h => by simp [Lib.splitK] at h; rw [h]; exact Nat.le_refl _
  | k + 1, s, x, h => by
    unfold Lib.splitK at h
    split at h
    · simp at h; rw [h]; exact Nat.le_refl _
    · rcases List.mem_cons.1 h with h | h
      · rw [h, List.length_take]; omega
      · have := splitK_le sep k _ x h
        rw [List.length_drop] at this; omega
set_option linter.unusedVariables false
def M_strings_Split (s_ : Str) (sep : Str) (Q : (List Str) → Prop) : Prop :=
  M_strings_genSplit s_ sep 0 (-1) fun y1 => Q y1
set_option maxHeartbeats 1000000 in
theorem R_strings_Split (s_ : Str) (sep : Str) (w0 : World)  (Q : (List Str) → Prop) (h : M_strings_Split s_ sep Q) :
  Ret Tryz.prog 41 #[.string (ba s_), .string (ba sep)] w0 fun v w' => ∃ (r0 : (List Str)) (r0A : Option Addr) (r0C : Nat), v = .slice r0A r0.length r0C ∧ Q r0 ∧ Sat w0 none_ [hown 9 r0A r0C r0] w' := by
 refine fn_enter Tryz.func41 rfl Tryz.ntmps41 rfl (fs := [(0, .string (ba s_)), (1, .string (ba sep))]) rfl (fun a hf => ?_)
 have hs := Sat.start w0 none_
 unfold M_strings_Split at h
 refine wp_seq (R.list ?_)
 refine S.p hf hs (.slice none 0 0) rfl rfl fun a hf => ?_
 refine R.nil (X.then_ (wp_seq (R.list ?_)))
 refine S.p hf hs (.string (ba s_)) rfl rfl fun a hf => ?_
 refine S.p hf hs (.string (ba sep)) rfl rfl fun a hf => ?_
 refine S.call hf rfl rfl rfl (call_fn (vs := [.string (ba s_), .string (ba sep), iv 0, iv (-1)]) rfl rfl rfl Tryz.call90) (R_strings_genSplit s_ sep 0 (-1) _  _ h) (fun v a w' hf hr => ?_)
 obtain ⟨y1, y1A, y1C, rfl, h2, hs2⟩ := hr
 replace h := h2; replace hs := hs.call hs2; clear h2 hs2
 refine S.p hf hs (.slice y1A y1.length y1C) rfl rfl fun a hf => ?_
 refine R.nil (X.then_ (wp_ret ?_))
 replace hs := hs.take 1
 exact L.ret hf (run_results1 Tryz.results41 (ResIs.tmp hf rfl)) ⟨y1, y1A, y1C, rfl, h, hs⟩
set_option linter.unusedVariables false
end Go.Proofs.YtdnilnmdbgcmoaaGreatDoor
