/- Chapter texts of ours, as far as the claim needs them. -/
import Derived.Test.YtdnilnmdbgcmoaaGreatDoorTextC
import Derived.Test.YtdnilnmdbgcmoaaGreatDoorRtG
namespace Go.Proofs.YtdnilnmdbgcmoaaGreatDoor
open Go Go.RowKit
set_option linter.unusedVariables false
set_option linter.unusedSectionVars false
set_option linter.unusedSimpArgs false
theorem pred_route_ContainsRow (w : World) : PredAtRunes Tryz.prog 138 #[] (fun r => decide (r < 33) || decide (126 < r)) w := fun W r _ _ => by
  unfold FnGives
  by_cases h1 : r < 33 <;> by_cases h2 : 126 < r
  all_goals
    have z1 : (r : Int) < 33 ↔ r < 33 := by omega
    have z2 : (126 : Int) < r ↔ 126 < r := by omega
    go_enter Tryz.func138, Tryz.ntmps138
    go_wp2
    all_goals first | (exfalso; omega) | (go_ret; exact ⟨by simp [h1, h2], 0, rfl⟩)
def M_route_ContainsRow (s : Str) (Q : Bool → Prop) : Prop := Q (decide (0 ≤ Lib.idxFunc (fun r => decide (r < 33) || decide (126 < r)) true (ba s)))
theorem R_route_ContainsRow (s : Str) (w0 : World) (Q : Bool → Prop) (h : M_route_ContainsRow s Q) :
  Ret Tryz.prog 99 #[.string (ba s), .func (.func 138) #[] #[]] w0 fun v w' => ∃ (r0 : Bool), v = .bool r0 ∧ Q r0 ∧ Sat w0 none_ [] w' := by
 have key := Any.strings_ContainsFunc_grows (P := Tryz.prog) Tryz.lays17 138 #[] (enters_of Tryz.func138 (by kernel_rfl) rfl) _ (ba s) w0 (pred_route_ContainsRow w0).grows
 exact Calls.mono key fun e w' ⟨he, hb⟩ => ⟨_, he, _, rfl, h, ⟨Keeps.of_below hb none_ (fun e => absurd e (by decide)), trivial⟩⟩
set_option linter.unusedVariables false
def M_route_isRow (s_ : Str) (Q : Bool → Prop) : Prop :=
  cnd (!(s_ == [])) (M_route_ContainsRow s_ fun y1 => Q (!y1)) (Q false)
set_option maxHeartbeats 1000000 in
theorem R_route_isRow (s_ : Str) (w0 : World)  (Q : Bool → Prop) (h : M_route_isRow s_ Q) :
  Ret Tryz.prog 77 #[.string (ba s_)] w0 fun v w' => ∃ (r0 : Bool), v = .bool r0 ∧ Q r0 ∧ Sat w0 none_ [] w' := by
 refine fn_enter Tryz.func77 rfl Tryz.ntmps77 rfl (fs := [(0, .string (ba s_))]) rfl (fun a hf => ?_)
 have hs := Sat.start w0 none_
 unfold M_route_isRow at h
 refine wp_seq (R.list ?_)
 refine S.p hf hs (.bool false) rfl rfl fun a hf => ?_
 refine R.nil (X.then_ (wp_seq (R.list ?_)))
 refine S.p hf hs (.string (ba s_)) rfl rfl fun a hf => ?_
 refine S.v hf hs (.bool (!(s_ == []))) rfl (V.strCmp (!(s_ == [])) rfl rfl rfl rfl) fun a hf => ?_
 refine S.split hf hs (b := !(s_ == [])) rfl rfl rfl (V.pure rfl) (fun hc a hf => ?_) (fun hc a hf => ?_)
 ·replace h := h.1 hc
  refine S.p hf hs (.string (ba s_)) rfl rfl fun a hf => ?_
  refine S.call hf rfl rfl rfl (call_fn (vs := [.string (ba s_), .func (.func 138) #[] #[]]) rfl rfl rfl Tryz.call99) (R_route_ContainsRow s_ _  _ h) (fun v a w' hf hr => ?_)
  obtain ⟨y1, rfl, h2, hs2⟩ := hr
  replace h := h2; replace hs := hs.call hs2; clear h2 hs2
  refine S.p hf hs (.bool (!y1)) rfl rfl fun a hf => ?_
  refine S.p hf hs (.bool (!y1)) rfl rfl fun a hf => ?_
  refine S.p hf hs (.bool (!y1)) rfl rfl fun a hf => ?_
  refine R.nil (X.then_ (wp_ret ?_))
  exact L.ret hf (run_results1 Tryz.results77 (ResIs.tmp hf rfl)) ⟨(!y1), rfl, h, hs.nil⟩
 ·replace h := h.2 hc
  refine S.k hf rfl fun a hf => ?_
  refine S.k hf rfl fun a hf => ?_
  refine S.k hf rfl fun a hf => ?_
  refine S.p hf hs (.bool false) rfl rfl fun a hf => ?_
  refine S.p hf hs (.bool false) rfl rfl fun a hf => ?_
  refine R.nil (X.then_ (wp_ret ?_))
  exact L.ret hf (run_results1 Tryz.results77 (ResIs.tmp hf rfl)) ⟨false, rfl, h, hs.nil⟩
set_option linter.unusedVariables false
def M_route_side_k1 (s_ : Str) (Q : Int → Bool → Prop) (c1 : Bool) : Prop :=
  cnd c1 (Q 0 false) (M_strconv_Atoi s_ fun y1 y2 => Q y1 (decide (y1 ≤ 200)))
def M_route_side (s_ : Str) (Q : Int → Bool → Prop) : Prop :=
  cnd (decide ((s_.length : Int) < 1)) (M_route_side_k1 s_ Q true) (cnd (decide ((s_.length : Int) > 3)) (M_route_side_k1 s_ Q true) (M_strings_Trim s_ [48, 49, 50, 51, 52, 53, 54, 55, 56, 57] fun y3 => cnd (!(y3 == [])) (M_route_side_k1 s_ Q true) (idx s_ 0 fun x1 => cnd ((x1.toNat : Int) == 48) (M_route_side_k1 s_ Q (!(s_ == [48]))) (M_route_side_k1 s_ Q false))))
set_option maxHeartbeats 1000000 in
theorem R_route_side (s_ : Str) (w0 : World)  (Q : Int → Bool → Prop) (h : M_route_side s_ Q) :
  Ret Tryz.prog 179 #[.string (ba s_)] w0 fun v w' => ∃ (r0 : Int) (r1 : Bool), v = .tuple #[iv r0, .bool r1] ∧ Q r0 r1 ∧ Sat w0 none_ [] w' := by
 refine fn_enter Tryz.func179 rfl Tryz.ntmps179 rfl (fs := [(0, .string (ba s_))]) rfl (fun a hf => ?_)
 have hs := Sat.start w0 none_
 unfold M_route_side at h
 refine wp_seq (R.list ?_)
 refine S.p hf hs (iv 0) rfl rfl fun a hf => ?_
 refine S.p hf hs (.bool false) rfl rfl fun a hf => ?_
 refine R.nil (X.then_ (wp_seq (wp_seq ?_)))
 refine C.cut (J := fun a w => ∃ (c1 : Bool), M_route_side_k1 s_ Q c1 ∧ FrOk 36 [(0, .string (ba s_)), (27, .bool c1)] a ∧ Sat w0 none_ [] w) ?_ ?_
 ·rintro a w ⟨c1, h, hf, hs⟩
  unfold M_route_side_k1 at h
  refine C.cond hf (b := c1) rfl (fun hc => ?_) (fun hc => ?_)
  ·replace h := h.1 hc
   refine wp_seq (R.list ?_)
   refine S.p hf hs (iv 0) rfl rfl fun a hf => ?_
   refine S.p hf hs (.bool false) rfl rfl fun a hf => ?_
   refine R.nil (X.then_ (wp_ret (X.then_ret ?_)))
   exact L.ret hf (run_results2 Tryz.results179 (ResIs.tmp hf rfl) (ResIs.tmp hf rfl)) ⟨0, false, rfl, h, hs.nil⟩
  ·replace h := h.2 hc
   refine wp_skip (X.then_ (wp_seq (R.list ?_)))
   refine S.p hf hs (.string (ba s_)) rfl rfl fun a hf => ?_
   refine S.call hf rfl rfl rfl (call_fn (vs := [.string (ba s_)]) rfl rfl rfl Tryz.call143) (R_strconv_Atoi s_ _  _ h) (fun v a w' hf hr => ?_)
   obtain ⟨y1, y2, rfl, h2, hs2⟩ := hr
   replace h := h2; replace hs := hs.call hs2; clear h2 hs2
   refine S.p hf hs (.tuple #[iv y1, .nilIface]) rfl rfl fun a hf => ?_
   refine S.p hf hs (iv y1) rfl rfl fun a hf => ?_
   refine S.p hf hs .nilIface rfl rfl fun a hf => ?_
   refine S.p hf hs (iv y1) rfl rfl fun a hf => ?_
   refine S.p hf hs .nilIface rfl rfl fun a hf => ?_
   refine R.nil (X.then_ (wp_seq (R.list ?_)))
   refine S.p hf hs (iv y1) rfl rfl fun a hf => ?_
   refine S.p hf hs (iv y1) rfl rfl fun a hf => ?_
   refine S.p hf hs (.bool (decide (y1 ≤ 200))) rfl rfl fun a hf => ?_
   refine S.p hf hs (iv y1) rfl rfl fun a hf => ?_
   refine S.p hf hs (.bool (decide (y1 ≤ 200))) rfl rfl fun a hf => ?_
   refine R.nil (X.then_ (wp_ret ?_))
   exact L.ret hf (run_results2 Tryz.results179 (ResIs.tmp hf rfl) (ResIs.tmp hf rfl)) ⟨y1, (decide (y1 ≤ 200)), rfl, h, hs.nil⟩
 ·skip
  refine R.list ?_
  refine S.p hf hs (.string (ba s_)) rfl rfl fun a hf => ?_
  refine S.v hf hs (iv (s_.length : Int)) rfl (V.lenStr rfl rfl Tryz.runUnderlying9) fun a hf => ?_
  refine S.p hf hs (.bool (decide ((s_.length : Int) < 1))) rfl rfl fun a hf => ?_
  refine S.split hf hs (b := decide ((s_.length : Int) < 1)) rfl rfl rfl (V.pure rfl) (fun hc a hf => ?_) (fun hc a hf => ?_)
  ·replace h := h.1 hc
   refine S.k hf rfl fun a hf => ?_
   refine S.k hf rfl fun a hf => ?_
   refine S.k hf rfl fun a hf => ?_
   refine S.p hf hs (.bool true) rfl rfl fun a hf => ?_
   refine S.p hf hs (.bool true) rfl rfl fun a hf => ?_
   refine S.k hf rfl fun a hf => ?_
   refine S.k hf rfl fun a hf => ?_
   refine S.k hf rfl fun a hf => ?_
   refine S.p hf hs (.bool true) rfl rfl fun a hf => ?_
   refine S.p hf hs (.bool true) rfl rfl fun a hf => ?_
   refine S.k hf rfl fun a hf => ?_
   refine S.k hf rfl fun a hf => ?_
   refine S.k hf rfl fun a hf => ?_
   refine S.k hf rfl fun a hf => ?_
   refine S.k hf rfl fun a hf => ?_
   refine S.k hf rfl fun a hf => ?_
   refine S.k hf rfl fun a hf => ?_
   refine S.p hf hs (.bool true) rfl rfl fun a hf => ?_
   refine R.nil (X.then_ ?_)
   exact ⟨true, h, ((hf.nil.cons (hf.get 27 _ rfl)).cons (hf.get 0 _ rfl)), hs⟩
  ·replace h := h.2 hc
   refine S.p hf hs (.string (ba s_)) rfl rfl fun a hf => ?_
   refine S.v hf hs (iv (s_.length : Int)) rfl (V.lenStr rfl rfl Tryz.runUnderlying9) fun a hf => ?_
   refine S.p hf hs (.bool (decide ((s_.length : Int) > 3))) rfl rfl fun a hf => ?_
   refine S.p hf hs (.bool (decide ((s_.length : Int) > 3))) rfl rfl fun a hf => ?_
   refine S.split hf hs (b := decide ((s_.length : Int) > 3)) rfl rfl rfl (V.pure rfl) (fun hc a hf => ?_) (fun hc a hf => ?_)
   ·replace h := h.1 hc
    refine S.k hf rfl fun a hf => ?_
    refine S.k hf rfl fun a hf => ?_
    refine S.k hf rfl fun a hf => ?_
    refine S.p hf hs (.bool true) rfl rfl fun a hf => ?_
    refine S.p hf hs (.bool true) rfl rfl fun a hf => ?_
    refine S.k hf rfl fun a hf => ?_
    refine S.k hf rfl fun a hf => ?_
    refine S.k hf rfl fun a hf => ?_
    refine S.k hf rfl fun a hf => ?_
    refine S.k hf rfl fun a hf => ?_
    refine S.k hf rfl fun a hf => ?_
    refine S.k hf rfl fun a hf => ?_
    refine S.p hf hs (.bool true) rfl rfl fun a hf => ?_
    refine R.nil (X.then_ ?_)
    exact ⟨true, h, ((hf.nil.cons (hf.get 27 _ rfl)).cons (hf.get 0 _ rfl)), hs⟩
   ·replace h := h.2 hc
    refine S.p hf hs (.string (ba s_)) rfl rfl fun a hf => ?_
    refine S.call hf rfl rfl rfl (call_fn (vs := [.string (ba s_), .string (ba [48, 49, 50, 51, 52, 53, 54, 55, 56, 57])]) rfl rfl rfl Tryz.call142) (R_strings_Trim s_ [48, 49, 50, 51, 52, 53, 54, 55, 56, 57] _  _ h) (fun v a w' hf hr => ?_)
    obtain ⟨y3, rfl, h2, hs2⟩ := hr
    replace h := h2; replace hs := hs.call hs2; clear h2 hs2
    refine S.v hf hs (.bool (!(y3 == []))) rfl (V.strCmp (!(y3 == [])) rfl rfl rfl rfl) fun a hf => ?_
    refine S.p hf hs (.bool (!(y3 == []))) rfl rfl fun a hf => ?_
    refine S.split hf hs (b := !(y3 == [])) rfl rfl rfl (V.pure rfl) (fun hc a hf => ?_) (fun hc a hf => ?_)
    ·replace h := h.1 hc
     refine S.k hf rfl fun a hf => ?_
     refine S.k hf rfl fun a hf => ?_
     refine S.k hf rfl fun a hf => ?_
     refine S.k hf rfl fun a hf => ?_
     refine S.k hf rfl fun a hf => ?_
     refine S.k hf rfl fun a hf => ?_
     refine S.k hf rfl fun a hf => ?_
     refine S.p hf hs (.bool true) rfl rfl fun a hf => ?_
     refine R.nil (X.then_ ?_)
     exact ⟨true, h, ((hf.nil.cons (hf.get 27 _ rfl)).cons (hf.get 0 _ rfl)), hs⟩
    ·replace h := h.2 hc
     refine S.p hf hs (.string (ba s_)) rfl rfl fun a hf => ?_
     obtain ⟨h0x1, x1, hx1, h⟩ := h
     refine S.v hf hs (.int .u8 (x1.toNat : Int)) rfl (V.indexStr rfl rfl rfl Tryz.runUnderlying9 h0x1 hx1) fun a hf => ?_
     refine S.p hf hs (.bool ((x1.toNat : Int) == 48)) rfl rfl fun a hf => ?_
     refine S.split hf hs (b := (x1.toNat : Int) == 48) rfl rfl rfl (V.pure rfl) (fun hc a hf => ?_) (fun hc a hf => ?_)
     ·replace h := h.1 hc
      refine S.p hf hs (.string (ba s_)) rfl rfl fun a hf => ?_
      refine S.v hf hs (.bool (!(s_ == [48]))) rfl (V.strCmp (!(s_ == [48])) rfl rfl rfl rfl) fun a hf => ?_
      refine S.p hf hs (.bool (!(s_ == [48]))) rfl rfl fun a hf => ?_
      refine S.p hf hs (.bool (!(s_ == [48]))) rfl rfl fun a hf => ?_
      refine R.nil (X.then_ ?_)
      exact ⟨(!(s_ == [48])), h, ((hf.nil.cons (hf.get 27 _ rfl)).cons (hf.get 0 _ rfl)), hs⟩
     ·replace h := h.2 hc
      refine S.k hf rfl fun a hf => ?_
      refine S.k hf rfl fun a hf => ?_
      refine S.p hf hs (.bool false) rfl rfl fun a hf => ?_
      refine S.p hf hs (.bool false) rfl rfl fun a hf => ?_
      refine R.nil (X.then_ ?_)
      exact ⟨false, h, ((hf.nil.cons (hf.get 27 _ rfl)).cons (hf.get 0 _ rfl)), hs⟩
set_option linter.unusedVariables false
def M_route_readCell (s_ : Str) (Q : Cell → Bool → Prop) : Prop :=
  M_strings_Split s_ [44] fun y1 => cnd ((y1.length : Int) != 3) (Q (⟨0, 0, 0⟩ : Cell) false) (idx y1 0 fun x1 => M_route_side x1 fun y2 y3 => idx y1 1 fun x2 => M_route_side x2 fun y4 y5 => idx y1 2 fun x3 => M_route_side x3 fun y6 y7 => cnd y3 (cnd y5 (Q (⟨y2, y4, y6⟩ : Cell) y7) (Q (⟨y2, y4, y6⟩ : Cell) false)) (Q (⟨y2, y4, y6⟩ : Cell) false))
set_option maxHeartbeats 1000000 in
theorem R_route_readCell (s_ : Str) (w0 : World)  (Q : Cell → Bool → Prop) (h : M_route_readCell s_ Q) :
  Ret Tryz.prog 132 #[.string (ba s_)] w0 fun v w' => ∃ (r0 : Cell) (r1 : Bool), v = .tuple #[.agg #[iv r0.X, iv r0.Y, iv r0.Layer], .bool r1] ∧ Q r0 r1 ∧ Sat w0 none_ [] w' := by
 refine fn_enter Tryz.func132 rfl Tryz.ntmps132 rfl (fs := [(0, .string (ba s_))]) rfl (fun a hf => ?_)
 have hs := Sat.start w0 none_
 unfold M_route_readCell at h
 refine wp_seq (R.list ?_)
 refine S.alloc hf hs rfl rfl rfl [iv 0, iv 0, iv 0] rfl Tryz.zeroValue142 rfl (fun g1 a w hf hs => ?_)
 refine S.p hf hs (.bool false) rfl rfl fun a hf => ?_
 refine R.nil (X.then_ (wp_seq (R.list ?_)))
 refine S.p hf hs (.string (ba s_)) rfl rfl fun a hf => ?_
 refine S.call hf rfl rfl rfl (call_fn (vs := [.string (ba s_), .string (ba [44])]) rfl rfl rfl Tryz.call41) (R_strings_Split s_ [44] _  _ h) (fun v a w' hf hr => ?_)
 obtain ⟨y1, y1A, y1C, rfl, h2, hs2⟩ := hr
 replace h := h2; replace hs := hs.call hs2; clear h2 hs2
 refine S.p hf hs (.slice y1A y1.length y1C) rfl rfl fun a hf => ?_
 refine R.nil (X.then_ (wp_seq (wp_seq (R.list ?_))))
 refine S.p hf hs (.slice y1A y1.length y1C) rfl rfl fun a hf => ?_
 refine S.v hf hs (iv (y1.length : Int)) rfl (V.len rfl rfl Tryz.runUnderlying74) fun a hf => ?_
 refine S.p hf hs (.bool ((y1.length : Int) != 3)) rfl rfl fun a hf => ?_
 refine R.nil (X.then_ ?_)
 refine C.cond hf (b := (y1.length : Int) != 3) rfl (fun hc => ?_) (fun hc => ?_)
 ·replace h := h.1 hc
  refine wp_seq (R.list ?_)
  refine S.v hf hs (.agg #[iv 0, iv 0, iv 0]) rfl (V.build (places := #[(0, 1), (1, 1), (2, 1)]) rfl Tryz.zeroValue142 Tryz.runUnderlying142 (by intro w; simp [Tryz.sizeOf3]) rfl rfl) fun a hf => ?_
  refine S.storeBox 1 hf hs rfl rfl [iv 0, iv 0, iv 0] [iv 0, iv 0, iv 0] rfl rfl rfl rfl rfl Tryz.sizeOf142 rfl rfl rfl rfl (fun a w hf hs => ?_)
  refine S.p hf hs (.bool false) rfl rfl fun a hf => ?_
  refine R.nil (X.then_ (wp_ret (X.then_ret ?_)))
  have hsR := hs
  exact L.ret hf (run_results2 Tryz.results132 (ResIs.box hf hsR 1 rfl rfl Tryz.isAgg142 Tryz.sizeOf142 rfl rfl) (ResIs.tmp hf rfl)) ⟨(⟨0, 0, 0⟩ : Cell), false, rfl, h, hs.nil⟩
 ·replace h := h.2 hc
  refine wp_skip (X.then_ (wp_seq (R.list ?_)))
  refine S.p hf hs (.slice y1A y1.length y1C) rfl rfl fun a hf => ?_
  obtain ⟨h0x1, x1, hx1, h⟩ := h
  refine S.v hf hs (elemPtr y1A (0 * 1)) rfl (V.index rfl rfl rfl Tryz.runUnderlying74 Tryz.sizeOf9 (hs.ownSome 0 rfl (lt_of_get hx1)) h0x1 (lt_of_get hx1) rfl) fun a hf => ?_
  refine S.v hf hs (.string (ba x1)) rfl (V.loadOwn (off := 0) 0 rfl hx1 rfl rfl rfl Tryz.isAgg9 Tryz.sizeOf9 rfl rfl) fun a hf => ?_
  refine S.call hf rfl rfl rfl (call_fn (vs := [.string (ba x1)]) rfl rfl rfl Tryz.call179) (R_route_side x1 _  _ h) (fun v a w' hf hr => ?_)
  obtain ⟨y2, y3, rfl, h2, hs2⟩ := hr
  replace h := h2; replace hs := hs.call hs2; clear h2 hs2
  refine S.p hf hs (.tuple #[iv y2, .bool y3]) rfl rfl fun a hf => ?_
  refine S.p hf hs (iv y2) rfl rfl fun a hf => ?_
  refine S.p hf hs (.bool y3) rfl rfl fun a hf => ?_
  refine S.p hf hs (iv y2) rfl rfl fun a hf => ?_
  refine S.p hf hs (.bool y3) rfl rfl fun a hf => ?_
  refine R.nil (X.then_ (wp_seq (R.list ?_)))
  refine S.p hf hs (.slice y1A y1.length y1C) rfl rfl fun a hf => ?_
  obtain ⟨h0x2, x2, hx2, h⟩ := h
  refine S.v hf hs (elemPtr y1A (1 * 1)) rfl (V.index rfl rfl rfl Tryz.runUnderlying74 Tryz.sizeOf9 (hs.ownSome 0 rfl (lt_of_get hx2)) h0x2 (lt_of_get hx2) rfl) fun a hf => ?_
  refine S.v hf hs (.string (ba x2)) rfl (V.loadOwn (off := 0) 0 rfl hx2 rfl rfl rfl Tryz.isAgg9 Tryz.sizeOf9 rfl rfl) fun a hf => ?_
  refine S.call hf rfl rfl rfl (call_fn (vs := [.string (ba x2)]) rfl rfl rfl Tryz.call179) (R_route_side x2 _  _ h) (fun v a w' hf hr => ?_)
  obtain ⟨y4, y5, rfl, h2, hs2⟩ := hr
  replace h := h2; replace hs := hs.call hs2; clear h2 hs2
  refine S.p hf hs (.tuple #[iv y4, .bool y5]) rfl rfl fun a hf => ?_
  refine S.p hf hs (iv y4) rfl rfl fun a hf => ?_
  refine S.p hf hs (.bool y5) rfl rfl fun a hf => ?_
  refine S.p hf hs (iv y4) rfl rfl fun a hf => ?_
  refine S.p hf hs (.bool y5) rfl rfl fun a hf => ?_
  refine R.nil (X.then_ (wp_seq (R.list ?_)))
  refine S.p hf hs (.slice y1A y1.length y1C) rfl rfl fun a hf => ?_
  obtain ⟨h0x3, x3, hx3, h⟩ := h
  refine S.v hf hs (elemPtr y1A (2 * 1)) rfl (V.index rfl rfl rfl Tryz.runUnderlying74 Tryz.sizeOf9 (hs.ownSome 0 rfl (lt_of_get hx3)) h0x3 (lt_of_get hx3) rfl) fun a hf => ?_
  refine S.v hf hs (.string (ba x3)) rfl (V.loadOwn (off := 0) 0 rfl hx3 rfl rfl rfl Tryz.isAgg9 Tryz.sizeOf9 rfl rfl) fun a hf => ?_
  refine S.call hf rfl rfl rfl (call_fn (vs := [.string (ba x3)]) rfl rfl rfl Tryz.call179) (R_route_side x3 _  _ h) (fun v a w' hf hr => ?_)
  obtain ⟨y6, y7, rfl, h2, hs2⟩ := hr
  replace h := h2; replace hs := hs.call hs2; clear h2 hs2
  refine S.p hf hs (.tuple #[iv y6, .bool y7]) rfl rfl fun a hf => ?_
  refine S.p hf hs (iv y6) rfl rfl fun a hf => ?_
  refine S.p hf hs (.bool y7) rfl rfl fun a hf => ?_
  refine S.p hf hs (iv y6) rfl rfl fun a hf => ?_
  refine S.p hf hs (.bool y7) rfl rfl fun a hf => ?_
  refine R.nil (X.then_ (wp_seq (R.list ?_)))
  refine S.p hf hs (iv y2) rfl rfl fun a hf => ?_
  refine S.p hf hs (iv y4) rfl rfl fun a hf => ?_
  refine S.p hf hs (iv y6) rfl rfl fun a hf => ?_
  refine S.v hf hs (.agg #[iv y2, iv y4, iv y6]) rfl (V.build (places := #[(0, 1), (1, 1), (2, 1)]) rfl Tryz.zeroValue142 Tryz.runUnderlying142 (by intro w; simp [Tryz.sizeOf3]) rfl rfl) fun a hf => ?_
  refine S.p hf hs (.bool y3) rfl rfl fun a hf => ?_
  refine S.split hf hs (b := y3) rfl rfl rfl (V.pure rfl) (fun hc a hf => ?_) (fun hc a hf => ?_)
  ·replace h := h.1 hc
   refine S.p hf hs (.bool y5) rfl rfl fun a hf => ?_
   refine S.p hf hs (.bool y5) rfl rfl fun a hf => ?_
   refine S.split hf hs (b := y5) rfl rfl rfl (V.pure rfl) (fun hc a hf => ?_) (fun hc a hf => ?_)
   ·replace h := h.1 hc
    refine S.p hf hs (.bool y7) rfl rfl fun a hf => ?_
    refine S.p hf hs (.bool y7) rfl rfl fun a hf => ?_
    refine S.storeBox 1 hf hs rfl rfl [iv y2, iv y4, iv y6] [iv y2, iv y4, iv y6] rfl rfl rfl rfl rfl Tryz.sizeOf142 rfl rfl rfl rfl (fun a w hf hs => ?_)
    refine S.p hf hs (.bool y7) rfl rfl fun a hf => ?_
    refine R.nil (X.then_ (wp_ret ?_))
    have hsR := hs
    exact L.ret hf (run_results2 Tryz.results132 (ResIs.box hf hsR 1 rfl rfl Tryz.isAgg142 Tryz.sizeOf142 rfl rfl) (ResIs.tmp hf rfl)) ⟨(⟨y2, y4, y6⟩ : Cell), y7, rfl, h, hs.nil⟩
   ·replace h := h.2 hc
    refine S.k hf rfl fun a hf => ?_
    refine S.p hf hs (.bool false) rfl rfl fun a hf => ?_
    refine S.storeBox 1 hf hs rfl rfl [iv y2, iv y4, iv y6] [iv y2, iv y4, iv y6] rfl rfl rfl rfl rfl Tryz.sizeOf142 rfl rfl rfl rfl (fun a w hf hs => ?_)
    refine S.p hf hs (.bool false) rfl rfl fun a hf => ?_
    refine R.nil (X.then_ (wp_ret ?_))
    have hsR := hs
    exact L.ret hf (run_results2 Tryz.results132 (ResIs.box hf hsR 1 rfl rfl Tryz.isAgg142 Tryz.sizeOf142 rfl rfl) (ResIs.tmp hf rfl)) ⟨(⟨y2, y4, y6⟩ : Cell), false, rfl, h, hs.nil⟩
  ·replace h := h.2 hc
   refine S.k hf rfl fun a hf => ?_
   refine S.p hf hs (.bool false) rfl rfl fun a hf => ?_
   refine S.p hf hs (.bool false) rfl rfl fun a hf => ?_
   refine S.k hf rfl fun a hf => ?_
   refine S.p hf hs (.bool false) rfl rfl fun a hf => ?_
   refine S.storeBox 1 hf hs rfl rfl [iv y2, iv y4, iv y6] [iv y2, iv y4, iv y6] rfl rfl rfl rfl rfl Tryz.sizeOf142 rfl rfl rfl rfl (fun a w hf hs => ?_)
   refine S.p hf hs (.bool false) rfl rfl fun a hf => ?_
   refine R.nil (X.then_ (wp_ret ?_))
   have hsR := hs
   exact L.ret hf (run_results2 Tryz.results132 (ResIs.box hf hsR 1 rfl rfl Tryz.isAgg142 Tryz.sizeOf142 rfl rfl) (ResIs.tmp hf rfl)) ⟨(⟨y2, y4, y6⟩ : Cell), false, rfl, h, hs.nil⟩
set_option linter.unusedVariables false
def M_route_readLine_L1 (r : (List Routed)) (Q : Bool → (List Routed) → Prop) (k3 : Nat) (xk3 : Str) (l2 : List Cell) (next1 : List Cell → Prop) : Prop :=
  M_route_readCell xk3 fun y3 y4 => cnd (!y4) (Q false r) (must (room (l2 ++ [y3]).length 24) (next1 (l2 ++ [y3])))
def M_route_readLine_k2 (r : (List Routed)) (Q : Bool → (List Routed) → Prop) (y1 : (List Str)) (c2 : Bool) : Prop :=
  cnd c2 (must (0 ≤ (1 : Int) ∧ (1 : Int) ≤ (y1.length : Int) ∧ (y1.length : Int) ≤ (y1.length : Int)) (forIn' (fun k x (s : List Cell) next => M_route_readLine_L1 r Q k x s (fun l2 => next l2)) (fun (s : List Cell) => (fun (l2 : List Cell) => idx r (w64 ((r.length : Int) - 1)) fun x2 => must (room (x2.Ways ++ [l2]).length 24) (Q true (r.set ((w64 ((r.length : Int) - 1)).toNat) (⟨x2.Net, (x2.Ways ++ [l2])⟩ : Routed)))) s) (seg y1 (1 : Int) (y1.length : Int)) 0 ([] : List Cell))) (Q false r)
def M_route_readLine_k1 (r : (List Routed)) (Q : Bool → (List Routed) → Prop) (y1 : (List Str)) (c1 : Bool) : Prop :=
  cnd c1 (idx y1 1 fun x1 => must (room (r ++ [(⟨x1, ([] : List (List Cell))⟩ : Routed)]).length 40) (M_route_isRow x1 fun y2 => Q y2 (r ++ [(⟨x1, ([] : List (List Cell))⟩ : Routed)]))) (idx y1 0 fun x3 => cnd (x3 == [119, 97, 121]) (cnd (decide ((y1.length : Int) ≥ 2)) (M_route_readLine_k2 r Q y1 (decide ((r.length : Int) > 0))) (M_route_readLine_k2 r Q y1 false)) (M_route_readLine_k2 r Q y1 false))
def M_route_readLine (r : (List Routed)) (s_ : Str) (Q : Bool → (List Routed) → Prop) : Prop :=
  M_strings_Split s_ [32] fun y1 => idx y1 0 fun x4 => cnd (x4 == [110, 101, 116]) (M_route_readLine_k1 r Q y1 ((y1.length : Int) == 2)) (M_route_readLine_k1 r Q y1 false)
set_option maxHeartbeats 1000000 in
theorem R_route_readLine (r : (List Routed)) (s_ : Str) (w0 : World) (F0 : Nat → Prop) (rg : Nat) (rA : Option Addr) (rC : Nat) (ras : List Dp) (hs0 : Sat w0 F0 [hbox rg 62 [.slice rA r.length rC], hdeep 130 131 142 rA rC ras r] w0) (Q : Bool → (List Routed) → Prop) (h : M_route_readLine r s_ Q) :
  Ret Tryz.prog 70 #[(pn rg 0), .string (ba s_)] w0 fun v w' => ∃ (r0 : Bool) (r1 : (List Routed)) (r1A : Option Addr) (r1C : Nat) (r1as : List Dp), v = .bool r0 ∧ Q r0 r1 ∧ Sat w0 F0 [hbox rg 62 [.slice r1A r1.length r1C], hdeep 130 131 142 r1A r1C r1as r1] w' := by
 refine fn_enter Tryz.func70 rfl Tryz.ntmps70 rfl (fs := [(0, (pn rg 0)), (1, .string (ba s_))]) rfl (fun a hf => ?_)
 have hs := hs0
 unfold M_route_readLine at h
 refine wp_seq (R.list ?_)
 refine S.p hf hs (.bool false) rfl rfl fun a hf => ?_
 refine R.nil (X.then_ (wp_seq (R.list ?_)))
 refine S.p hf hs (.string (ba s_)) rfl rfl fun a hf => ?_
 refine S.call hf rfl rfl rfl (call_fn (vs := [.string (ba s_), .string (ba [32])]) rfl rfl rfl Tryz.call41) (R_strings_Split s_ [32] _  _ h) (fun v a w' hf hr => ?_)
 obtain ⟨y1, y1A, y1C, rfl, h2, hs2⟩ := hr
 replace h := h2; replace hs := hs.call hs2; clear h2 hs2
 refine S.p hf hs (.slice y1A y1.length y1C) rfl rfl fun a hf => ?_
 refine R.nil (X.then_ (wp_seq (wp_block (wp_seq ?_))))
 refine C.cut (J := fun a w => ∃ (c1 : Bool), M_route_readLine_k1 r Q y1 c1 ∧ FrOk 94 [(0, (pn rg 0)), (5, .slice y1A y1.length y1C), (14, .bool c1)] a ∧ Sat w0 F0 [hown 9 y1A y1C y1, hbox rg 62 [.slice rA r.length rC], hdeep 130 131 142 rA rC ras r] w) ?_ ?_
 ·rintro a w ⟨c1, h, hf, hs⟩
  unfold M_route_readLine_k1 at h
  refine C.cond hf (b := c1) rfl (fun hc => ?_) (fun hc => ?_)
  ·replace h := h.1 hc
   refine wp_seq ?_
   refine M.start 9 (Sat w0 F0 [hown 9 y1A y1C y1, hbox rg 62 [.slice rA r.length rC], hdeep 130 131 142 rA rC ras r]) mo ?_
   replace hs := hs.drew
   refine M.valp hf hs (v := (pn rg 0)) (i := 0) rfl rfl rfl rfl (by kernel_rfl) (by kernel_rfl) (by kernel_rfl) rfl (fun w1 => V.pure rfl) (fun a hf => ?_)
   refine M.valp hf hs (v := (pn rg 0)) (i := 1) rfl rfl rfl rfl (by kernel_rfl) (by kernel_rfl) (by kernel_rfl) rfl (fun w1 => V.pure rfl) (fun a hf => ?_)
   refine M.valp hf hs (v := (pn rg 0)) (i := 2) rfl rfl rfl rfl (by kernel_rfl) (by kernel_rfl) (by kernel_rfl) rfl (fun w1 => V.pure rfl) (fun a hf => ?_)
   refine M.v hf hs (.slice rA r.length rC) 3 rfl rfl (by kernel_rfl) (V.loadBox 1 rfl rfl rfl Tryz.isAgg62 Tryz.sizeOf62 rfl rfl) fun a hf => ?_
   refine M.valp hf hs (v := .slice y1A y1.length y1C) (i := 4) rfl rfl rfl rfl (by kernel_rfl) (by kernel_rfl) (by kernel_rfl) rfl (fun w1 => V.pure rfl) (fun a hf => ?_)
   obtain ⟨h0x1, x1, hx1, h⟩ := h
   refine M.valp hf hs (v := elemPtr y1A (1 * 1)) (i := 5) rfl rfl rfl rfl (by kernel_rfl) (by kernel_rfl) (by kernel_rfl) rfl (fun w1 => V.index rfl rfl rfl Tryz.runUnderlying74 Tryz.sizeOf9 (hs.ownSome 0 rfl (lt_of_get hx1)) h0x1 (lt_of_get hx1) rfl) (fun a hf => ?_)
   refine M.one (i := 6) rfl (by kernel_rfl) ?_
   refine S.v hf hs (.string (ba x1)) rfl (V.loadOwn (off := 0) 0 rfl hx1 rfl rfl rfl Tryz.isAgg9 Tryz.sizeOf9 rfl rfl) fun a hf => ?_
   refine R.nil (X.then_ ?_)
   refine ⟨hs, ?_⟩
   refine M.one (i := 7) rfl (by kernel_rfl) ?_
   refine S.v hf hs (.agg #[.string (ba x1), .slice none 0 0]) rfl (V.build (places := #[(0, 1), (1, 1)]) rfl Tryz.zeroValue130 Tryz.runUnderlying130 (by intro w; simp [Tryz.sizeOf128, Tryz.sizeOf9]) rfl rfl) fun a hf => ?_
   refine R.nil (X.then_ ?_)
   refine ⟨hs, ?_⟩
   refine M.one (i := 8) rfl (by kernel_rfl) ?_
   replace hs := hs.nilRows (α := (List Cell)) 131 142
   refine S.build1 hf hs rfl rfl rfl (α := RoutedSh) (⟨x1, ⟨none, ([] : List (List Cell)).length, 0⟩⟩ : RoutedSh) rfl rfl rfl Tryz.runUnderlying62 Tryz.sizeOf130 Tryz.zeroValue130 rfl (by decide) (fun A1 a w hf hs => ?_)
   refine R.nil (X.then_ ?_)
   refine ⟨(hs.mask [false, false, true, true, true]), ?_⟩
   refine M.last (i := 9) rfl (by kernel_rfl) (by kernel_rfl) ?_
   replace hs := hs.front 1 rfl
   obtain ⟨hroom, h⟩ := h
   refine S.appendRowD 3 hf hs rfl rfl rfl (⟨x1, ([] : List (List Cell))⟩ : Routed) rfl rfl rfl rfl rfl Tryz.underlying62 info130 rfl hroom ((hs.ownView 1 rfl).some_ (i := 0) (by simp)) (hs.ownView 1 rfl) (fun A2 C1 a w hf hs => ?_)
   replace hs := hs.drop
   refine R.nil (X.then_ ?_)
   refine M.last (i := 10) rfl (by kernel_rfl) (by kernel_rfl) ?_
   refine S.p hf hs ((pn rg 0)) rfl rfl fun a hf => ?_
   refine R.nil (X.then_ ?_)
   refine M.last (i := 11) rfl (by kernel_rfl) (by kernel_rfl) ?_
   refine S.storeBox 1 hf hs rfl rfl [.slice A2 (r ++ [(⟨x1, ([] : List (List Cell))⟩ : Routed)]).length C1] [.slice A2 (r ++ [(⟨x1, ([] : List (List Cell))⟩ : Routed)]).length C1] rfl rfl rfl rfl rfl Tryz.sizeOf62 rfl rfl rfl rfl (fun a w hf hs => ?_)
   refine R.nil (X.then_ ?_)
   refine M.done (by kernel_rfl) ?_
   refine X.then_ (wp_seq (R.list ?_))
   refine S.p hf hs (.slice y1A y1.length y1C) rfl rfl fun a hf => ?_
   refine S.v hf hs (elemPtr y1A (1 * 1)) rfl (V.index rfl rfl rfl Tryz.runUnderlying74 Tryz.sizeOf9 (hs.ownSome 0 rfl (lt_of_get hx1)) h0x1 (lt_of_get hx1) rfl) fun a hf => ?_
   refine S.v hf hs (.string (ba x1)) rfl (V.loadOwn (off := 0) 0 rfl hx1 rfl rfl rfl Tryz.isAgg9 Tryz.sizeOf9 rfl rfl) fun a hf => ?_
   refine S.call hf rfl rfl rfl (call_fn (vs := [.string (ba x1)]) rfl rfl rfl Tryz.call77) (R_route_isRow x1 _  _ h) (fun v a w' hf hr => ?_)
   obtain ⟨y2, rfl, h2, hs2⟩ := hr
   replace h := h2; replace hs := hs.call hs2; clear h2 hs2
   refine S.p hf hs (.bool y2) rfl rfl fun a hf => ?_
   refine R.nil (X.then_ (wp_ret (X.blk_ret (X.then_ret ?_))))
   replace hs := hs.front 2 rfl
   replace hs := hs.front 2 rfl
   replace hs := hs.take 2
   exact L.ret hf (run_results1 Tryz.results70 (ResIs.tmp hf rfl)) ⟨y2, (r ++ [(⟨x1, ([] : List (List Cell))⟩ : Routed)]), A2, C1, (ras ++ [(none, 0, ([] : List (Option Addr × Nat)))]), rfl, h, hs⟩
  ·replace h := h.2 hc
   refine wp_seq ?_
   refine C.cut (J := fun a w => ∃ (c2 : Bool), M_route_readLine_k2 r Q y1 c2 ∧ FrOk 94 [(0, (pn rg 0)), (5, .slice y1A y1.length y1C), (39, .bool c2)] a ∧ Sat w0 F0 [hown 9 y1A y1C y1, hbox rg 62 [.slice rA r.length rC], hdeep 130 131 142 rA rC ras r] w) ?_ ?_
   ·rintro a w ⟨c2, h, hf, hs⟩
    unfold M_route_readLine_k2 at h
    refine C.cond hf (b := c2) rfl (fun hc => ?_) (fun hc => ?_)
    ·replace h := h.1 hc
     refine wp_seq (R.list ?_)
     refine S.p hf hs (.slice none 0 0) rfl rfl fun a hf => ?_
     refine R.nil (X.then_ (wp_seq (wp_seq (R.list ?_))))
     refine S.p hf hs (.slice y1A y1.length y1C) rfl rfl fun a hf => ?_
     obtain ⟨hp1, h⟩ := h
     refine S.v hf hs (.slice (segA y1A y1C ((1 : Int) : Int).toNat 1) (seg y1 (1 : Int) (y1.length : Int)).length (y1C - ((1 : Int) : Int).toNat)) rfl (V.slice rfl rfl rfl rfl Tryz.runUnderlying74 Tryz.sizeOf9 rfl rfl hp1 (hs.ownView 0 rfl).cap (seg_length (by have := hp1.2.2; omega))) fun a hf => ?_
     refine S.v hf hs (iv ((seg y1 (1 : Int) (y1.length : Int)).length : Int)) rfl (V.len rfl rfl Tryz.runUnderlying74) fun a hf => ?_
     refine S.p hf hs (iv 0) rfl rfl fun a hf => ?_
     refine R.nil (X.then_ (wp_block ?_))
     replace hs := hs.nilOwn (α := Cell) 142
     have hlenk3 := (View.sub (hs.ownView 1 rfl) hp1).len64
     refine C.range (fun (ll : List Str) a w => ∃ (k3 : Nat) (l2 : List Cell) (l2A : Option Addr) (l2C : Nat), (seg y1 (1 : Int) (y1.length : Int)).drop k3 = ll ∧ k3 + ll.length = (seg y1 (1 : Int) (y1.length : Int)).length ∧ forIn' (fun k x (s : List Cell) next => M_route_readLine_L1 r Q k x s (fun l2 => next l2)) (fun (s : List Cell) => (fun (l2 : List Cell) => idx r (w64 ((r.length : Int) - 1)) fun x2 => must (room (x2.Ways ++ [l2]).length 24) (Q true (r.set ((w64 ((r.length : Int) - 1)).toNat) (⟨x2.Net, (x2.Ways ++ [l2])⟩ : Routed)))) s) ll k3 l2 ∧ FrOk 94 [(59, iv (k3 : Int)), (0, (pn rg 0)), (6, .slice l2A l2.length l2C), (57, .slice (segA y1A y1C ((1 : Int) : Int).toNat 1) (seg y1 (1 : Int) (y1.length : Int)).length (y1C - ((1 : Int) : Int).toNat)), (58, iv ((seg y1 (1 : Int) (y1.length : Int)).length : Int))] a ∧ Sat w0 F0 [hown 142 l2A l2C l2, hown 9 y1A y1C y1, hbox rg 62 [.slice rA r.length rC], hdeep 130 131 142 rA rC ras r] w) (seg y1 (1 : Int) (y1.length : Int)) ⟨0, ([] : List Cell), none, 0, rfl, Nat.zero_add _, h, (((((hf.nil.cons (hf.get 58 _ rfl)).cons (hf.get 57 _ rfl)).cons (hf.get 6 _ rfl)).cons (hf.get 0 _ rfl)).cons (hf.get 59 _ rfl)), hs⟩ ?_
     clear h hf hs
     rintro llk3 a w ⟨k3, l2, l2A, l2C, hlk3, hkk3, h, hf, hs⟩
     cases llk3 with
     | nil =>
      have hc := range_done hkk3
      replace h : (fun (l2 : List Cell) => idx r (w64 ((r.length : Int) - 1)) fun x2 => must (room (x2.Ways ++ [l2]).length 24) (Q true (r.set ((w64 ((r.length : Int) - 1)).toNat) (⟨x2.Net, (x2.Ways ++ [l2])⟩ : Routed)))) l2 := h
      refine wp_seq (R.list ?_)
      refine S.v hf hs (.bool false) rfl (V.cmp false rfl rfl rfl rfl hc) fun a hf => ?_
      refine R.nil (X.then_ (wp_seq ?_))
      refine C.no hf rfl ?_
      refine wp_exit (X.then_exit (X.then_exit (X.blk_exit (X.then_ (wp_seq ?_)))))
      refine R.draw mo (by kernel_rfl) hs ?_
      refine D.p hf ((pn rg 0)) rfl rfl fun a hf => ?_
      refine D.p hf ((pn rg 0)) rfl rfl fun a hf => ?_
      refine D.v hf (.slice rA r.length rC) rfl (V.loadBox 2 rfl rfl rfl Tryz.isAgg62 Tryz.sizeOf62 rfl rfl) fun a hf => ?_
      refine D.p hf ((pn rg 0)) rfl rfl fun a hf => ?_
      refine D.p hf ((pn rg 0)) rfl rfl fun a hf => ?_
      refine D.v hf (.slice rA r.length rC) rfl (V.loadBox 2 rfl rfl rfl Tryz.isAgg62 Tryz.sizeOf62 rfl rfl) fun a hf => ?_
      refine D.v hf (iv (r.length : Int)) rfl (V.len rfl rfl Tryz.runUnderlying62) fun a hf => ?_
      refine D.p hf (iv (w64 ((r.length : Int) - 1))) rfl rfl fun a hf => ?_
      obtain ⟨h0x2, x2, hx2, h⟩ := h
      refine D.v hf (elemPtr rA ((w64 ((r.length : Int) - 1)).toNat * 2)) rfl (V.index rfl rfl rfl Tryz.runUnderlying62 Tryz.sizeOf130 (hs.rowsSomeD 3 rfl hx2) h0x2 (lt_of_get hx2) rfl) fun a hf => ?_
      refine D.p hf (elemPtr rA ((w64 ((r.length : Int) - 1)).toNat * 2)) rfl rfl fun a hf => ?_
      refine D.done (fun w hs => ?_)
      refine X.then_ (wp_seq (R.list ?_))
      refine S.p hf hs (elemPtr rA ((w64 ((r.length : Int) - 1)).toNat * 2)) rfl rfl fun a hf => ?_
      refine S.p hf hs (elemPtr rA ((w64 ((r.length : Int) - 1)).toNat * 2)) rfl rfl fun a hf => ?_
      refine S.v hf hs (elemPtr rA ((w64 ((r.length : Int) - 1)).toNat * 2)) rfl (V.nilCheckEl rfl rfl (hs.rowsSomeD 3 rfl hx2)) fun a hf => ?_
      refine S.v hf hs (elemPtr rA ((w64 ((r.length : Int) - 1)).toNat * 2 + 1)) rfl (V.fieldEl rfl rfl (hs.rowsSomeD 3 rfl hx2) Tryz.runUnderlying130 rfl Tryz.sizeOf128 rfl rfl) fun a hf => ?_
      obtain ⟨B1, D1, B1s, hrB1⟩ := hs.rowAtD 3 rfl hx2
      refine S.v hf hs (.slice B1 x2.Ways.length D1) rfl (V.loadRowsD (off := 1) 3 rfl hx2 hrB1 rfl rfl rfl Tryz.isAgg128 Tryz.sizeOf128 rfl rfl) fun a hf => ?_
      refine S.p hf hs (.slice l2A l2.length l2C) rfl rfl fun a hf => ?_
      refine S.build1 hf hs rfl rfl rfl (α := Sl) (⟨l2A, l2.length, l2C⟩ : Sl) rfl rfl rfl Tryz.runUnderlying128 Tryz.sizeOf131 Tryz.zeroValue131 rfl (by decide) (fun A3 a w hf hs => ?_)
      replace hs := hs.takeRowD 4 rfl hx2 hrB1
      replace hs := hs.front 2 rfl
      obtain ⟨hroom, h⟩ := h
      refine S.appendRow 0 hf hs rfl rfl rfl l2 rfl rfl rfl rfl rfl Tryz.underlying128 info131 rfl hroom ((hs.ownView 2 rfl).some_ (i := 0) (by simp)) (hs.ownView 2 rfl) (fun A4 C2 a w hf hs => ?_)
      have hx1 : (x2.Ways ++ [l2])[x2.Ways.length]? = some l2 := List.getElem?_concat_length
      have hr1 : (B1s ++ [(l2A, l2C)])[x2.Ways.length]? = some (l2A, l2C) := rows_last (hs.rowsLen 0 rfl)
      refine S.v hf hs (elemPtr rA ((w64 ((r.length : Int) - 1)).toNat * 2)) rfl (V.nilCheckEl rfl rfl (hs.rowsSomeD 4 rfl hx2)) fun a hf => ?_
      refine S.v hf hs (elemPtr rA ((w64 ((r.length : Int) - 1)).toNat * 2 + 1)) rfl (V.fieldEl rfl rfl (hs.rowsSomeD 4 rfl hx2) Tryz.runUnderlying130 rfl Tryz.sizeOf128 rfl rfl) fun a hf => ?_
      refine S.putBackD (off := 1) 3 hf hs rfl rfl (⟨x2.Net, (x2.Ways ++ [l2])⟩ : Routed) [.slice A4 (x2.Ways ++ [l2]).length C2] rfl hx2 hrB1 rfl rfl rfl rfl rfl rfl Tryz.sizeOf128 rfl (by decide) rfl rfl (fun a w hf hs => ?_)
      replace hs := hs.rebox 2 (vs' := [.slice rA (r.set ((w64 ((r.length : Int) - 1)).toNat) (⟨x2.Net, (x2.Ways ++ [l2])⟩ : Routed)).length rC]) rfl (congrArg (fun n => [Value.slice rA n rC]) List.length_set.symm)
      replace hf := hf.tell 77 (v := .slice rA (r.set ((w64 ((r.length : Int) - 1)).toNat) (⟨x2.Net, (x2.Ways ++ [l2])⟩ : Routed)).length rC) ((hf.get 77 (.slice rA r.length rC) rfl).trans (congrArg (fun n => Value.slice rA n rC) List.length_set.symm))
      replace hf := hf.tell 80 (v := .slice rA (r.set ((w64 ((r.length : Int) - 1)).toNat) (⟨x2.Net, (x2.Ways ++ [l2])⟩ : Routed)).length rC) ((hf.get 80 (.slice rA r.length rC) rfl).trans (congrArg (fun n => Value.slice rA n rC) List.length_set.symm))
      have hx2 : (r.set ((w64 ((r.length : Int) - 1)).toNat) (⟨x2.Net, (x2.Ways ++ [l2])⟩ : Routed))[(w64 ((r.length : Int) - 1)).toNat]? = some (⟨x2.Net, (x2.Ways ++ [l2])⟩ : Routed) := List.getElem?_set_self (lt_of_get hx2)
      have hr2 : (ras.set ((w64 ((r.length : Int) - 1)).toNat) (A4, C2, (B1s ++ [(l2A, l2C)])))[(w64 ((r.length : Int) - 1)).toNat]? = some (A4, C2, (B1s ++ [(l2A, l2C)])) := List.getElem?_set_self (lt_of_get hrB1)
      refine R.nil (X.then_ (wp_seq (R.list ?_)))
      refine S.p hf hs (.bool true) rfl rfl fun a hf => ?_
      refine R.nil (X.then_ (wp_ret (X.blk_ret (X.then_ret ?_))))
      replace hs := hs.front 3 rfl
      replace hs := hs.front 3 rfl
      replace hs := hs.take 2
      exact L.ret hf (run_results1 Tryz.results70 (ResIs.tmp hf rfl)) ⟨true, (r.set ((w64 ((r.length : Int) - 1)).toNat) (⟨x2.Net, (x2.Ways ++ [l2])⟩ : Routed)), rA, rC, (ras.set ((w64 ((r.length : Int) - 1)).toNat) (A4, C2, (B1s ++ [(l2A, l2C)]))), rfl, h, hs⟩
     | cons xk3 llk3 =>
      have hltk3 := range_lt hkk3; have hc := range_go hkk3; have hxk3 := range_get hlk3
      obtain ⟨next1, hnext1⟩ : ∃ X : List Cell → Prop, X = (fun l2 => forIn' (fun k x (s : List Cell) next => M_route_readLine_L1 r Q k x s (fun l2 => next l2)) (fun (s : List Cell) => (fun (l2 : List Cell) => idx r (w64 ((r.length : Int) - 1)) fun x2 => must (room (x2.Ways ++ [l2]).length 24) (Q true (r.set ((w64 ((r.length : Int) - 1)).toNat) (⟨x2.Net, (x2.Ways ++ [l2])⟩ : Routed)))) s) llk3 (k3 + 1) l2) := ⟨_, rfl⟩
      replace h : M_route_readLine_L1 r Q k3 xk3 l2 next1 := by rw [hnext1]; exact h
      unfold M_route_readLine_L1 at h
      refine wp_seq (R.list ?_)
      refine S.v hf hs (.bool true) rfl (V.cmp true rfl rfl rfl rfl hc) fun a hf => ?_
      refine R.nil (X.then_ (wp_seq ?_))
      refine C.yes hf rfl ?_
      refine wp_skip (X.then_ (wp_seq (wp_block (wp_seq (R.list ?_)))))
      have hx3 := seg_get hxk3
      refine S.v hf hs (elemPtr y1A ((((1 : Int) : Int).toNat + k3) * 1)) rfl (V.indexSub (lo := (1 : Int)) rfl rfl rfl Tryz.runUnderlying74 Tryz.sizeOf9 (hs.ownSome 1 rfl (lt_of_get hx3)) (Int.natCast_nonneg _) (lt_of_get hxk3) (seg_fits hp1 (hs.ownView 1 rfl).cap) rfl) fun a hf => ?_
      refine S.v hf hs (.string (ba xk3)) rfl (V.loadOwn (off := 0) 1 rfl hx3 rfl rfl rfl Tryz.isAgg9 Tryz.sizeOf9 rfl rfl) fun a hf => ?_
      refine S.p hf hs (.string (ba xk3)) rfl rfl fun a hf => ?_
      refine R.nil (X.then_ (wp_seq (R.list ?_)))
      refine S.p hf hs (.string (ba xk3)) rfl rfl fun a hf => ?_
      refine S.call hf rfl rfl rfl (call_fn (vs := [.string (ba xk3)]) rfl rfl rfl Tryz.call132) (R_route_readCell xk3 _  _ h) (fun v a w' hf hr => ?_)
      obtain ⟨y3, y4, rfl, h2, hs2⟩ := hr
      replace h := h2; replace hs := hs.call hs2; clear h2 hs2
      refine S.p hf hs (.tuple #[.agg #[iv y3.X, iv y3.Y, iv y3.Layer], .bool y4]) rfl rfl fun a hf => ?_
      refine S.p hf hs (.agg #[iv y3.X, iv y3.Y, iv y3.Layer]) rfl rfl fun a hf => ?_
      refine S.p hf hs (.bool y4) rfl rfl fun a hf => ?_
      refine S.alloc hf hs rfl rfl rfl [iv 0, iv 0, iv 0] rfl Tryz.zeroValue142 rfl (fun g1 a w hf hs => ?_)
      refine S.storeBox 0 hf hs rfl rfl [iv y3.X, iv y3.Y, iv y3.Layer] [iv y3.X, iv y3.Y, iv y3.Layer] rfl rfl rfl rfl rfl Tryz.sizeOf142 rfl rfl rfl rfl (fun a w hf hs => ?_)
      refine S.p hf hs (.bool y4) rfl rfl fun a hf => ?_
      refine R.nil (X.then_ (wp_seq (wp_seq (R.list ?_))))
      refine S.p hf hs (.bool y4) rfl rfl fun a hf => ?_
      refine S.p hf hs (.bool (!y4)) rfl rfl fun a hf => ?_
      refine R.nil (X.then_ ?_)
      refine C.cond hf (b := !y4) rfl (fun hc => ?_) (fun hc => ?_)
      ·replace h := h.1 hc
       refine wp_seq (R.list ?_)
       refine S.p hf hs (.bool false) rfl rfl fun a hf => ?_
       refine R.nil (X.then_ (wp_ret (X.then_ret (X.blk_ret (X.then_ret (X.then_ret (X.blk_ret (X.then_ret (X.blk_ret (X.then_ret ?_))))))))))
       replace hs := hs.front 4 rfl
       replace hs := hs.front 4 rfl
       replace hs := hs.take 2
       exact L.ret hf (run_results1 Tryz.results70 (ResIs.tmp hf rfl)) ⟨false, r, rA, rC, ras, rfl, h, hs⟩
      ·replace h := h.2 hc
       refine wp_skip (X.then_ (R.list ?_))
       refine S.p hf hs (.slice l2A l2.length l2C) rfl rfl fun a hf => ?_
       refine S.v hf hs (.agg #[iv y3.X, iv y3.Y, iv y3.Layer]) rfl (V.loadBox 0 rfl rfl rfl Tryz.isAgg142 Tryz.sizeOf142 rfl rfl) fun a hf => ?_
       refine S.build1 hf hs rfl rfl rfl (α := Cell) y3 rfl rfl rfl Tryz.runUnderlying131 Tryz.sizeOf142 Tryz.zeroValue142 rfl (by decide) (fun A5 a w hf hs => ?_)
       obtain ⟨hroom, h⟩ := h
       refine S.appendCells 2 hf hs rfl rfl rfl rfl rfl rfl rfl Tryz.underlying131 info142 rfl hroom ((hs.ownView 0 rfl).some_ (i := 0) (by simp)) (hs.ownView 0 rfl) (fun A6 C3 a w hf hs => ?_)
       replace hs := hs.drop
       refine S.p hf hs (.slice A6 (l2 ++ [y3]).length C3) rfl rfl fun a hf => ?_
       refine R.nil (X.blk (X.then_ (R.list ?_)))
       refine S.v hf hs (iv ((k3 + 1 : Nat) : Int)) rfl (V.incr rfl rfl rfl hltk3 hlenk3) fun a hf => ?_
       refine S.p hf hs (iv ((k3 + 1 : Nat) : Int)) rfl rfl fun a hf => ?_
       refine R.nil (X.then_ ?_)
       exact ⟨xk3, llk3, rfl, k3 + 1, (l2 ++ [y3]), A6, C3, range_drop hlk3, range_len hkk3, (by rw [hnext1] at h; exact h), (((((hf.nil.cons (hf.get 58 _ rfl)).cons (hf.get 57 _ rfl)).cons (hf.get 6 _ rfl)).cons (hf.get 0 _ rfl)).cons (hf.get 59 _ rfl)), hs.drop⟩
    ·replace h := h.2 hc
     refine wp_skip (X.blk (X.then_ (wp_seq (R.list ?_))))
     refine S.p hf hs (.bool false) rfl rfl fun a hf => ?_
     refine R.nil (X.then_ (wp_ret ?_))
     replace hs := hs.front 2 rfl
     replace hs := hs.front 2 rfl
     replace hs := hs.take 2
     exact L.ret hf (run_results1 Tryz.results70 (ResIs.tmp hf rfl)) ⟨false, r, rA, rC, ras, rfl, h, hs⟩
   ·skip
    refine R.list ?_
    refine S.p hf hs (.slice y1A y1.length y1C) rfl rfl fun a hf => ?_
    obtain ⟨h0x3, x3, hx3, h⟩ := h
    refine S.v hf hs (elemPtr y1A (0 * 1)) rfl (V.index rfl rfl rfl Tryz.runUnderlying74 Tryz.sizeOf9 (hs.ownSome 0 rfl (lt_of_get hx3)) h0x3 (lt_of_get hx3) rfl) fun a hf => ?_
    refine S.v hf hs (.string (ba x3)) rfl (V.loadOwn (off := 0) 0 rfl hx3 rfl rfl rfl Tryz.isAgg9 Tryz.sizeOf9 rfl rfl) fun a hf => ?_
    refine S.v hf hs (.bool (x3 == [119, 97, 121])) rfl (V.strCmp (x3 == [119, 97, 121]) rfl rfl rfl rfl) fun a hf => ?_
    refine S.split hf hs (b := x3 == [119, 97, 121]) rfl rfl rfl (V.pure rfl) (fun hc a hf => ?_) (fun hc a hf => ?_)
    ·replace h := h.1 hc
     refine S.p hf hs (.slice y1A y1.length y1C) rfl rfl fun a hf => ?_
     refine S.v hf hs (iv (y1.length : Int)) rfl (V.len rfl rfl Tryz.runUnderlying74) fun a hf => ?_
     refine S.p hf hs (.bool (decide ((y1.length : Int) ≥ 2))) rfl rfl fun a hf => ?_
     refine S.p hf hs (.bool (decide ((y1.length : Int) ≥ 2))) rfl rfl fun a hf => ?_
     refine S.split hf hs (b := decide ((y1.length : Int) ≥ 2)) rfl rfl rfl (V.pure rfl) (fun hc a hf => ?_) (fun hc a hf => ?_)
     ·replace h := h.1 hc
      refine S.p hf hs ((pn rg 0)) rfl rfl fun a hf => ?_
      refine S.p hf hs ((pn rg 0)) rfl rfl fun a hf => ?_
      refine S.v hf hs (.slice rA r.length rC) rfl (V.loadBox 1 rfl rfl rfl Tryz.isAgg62 Tryz.sizeOf62 rfl rfl) fun a hf => ?_
      refine S.v hf hs (iv (r.length : Int)) rfl (V.len rfl rfl Tryz.runUnderlying62) fun a hf => ?_
      refine S.p hf hs (.bool (decide ((r.length : Int) > 0))) rfl rfl fun a hf => ?_
      refine S.p hf hs (.bool (decide ((r.length : Int) > 0))) rfl rfl fun a hf => ?_
      refine S.p hf hs (.bool (decide ((r.length : Int) > 0))) rfl rfl fun a hf => ?_
      refine R.nil (X.then_ ?_)
      exact ⟨(decide ((r.length : Int) > 0)), h, (((hf.nil.cons (hf.get 39 _ rfl)).cons (hf.get 5 _ rfl)).cons (hf.get 0 _ rfl)), hs⟩
     ·replace h := h.2 hc
      refine S.k hf rfl fun a hf => ?_
      refine S.k hf rfl fun a hf => ?_
      refine S.k hf rfl fun a hf => ?_
      refine S.k hf rfl fun a hf => ?_
      refine S.k hf rfl fun a hf => ?_
      refine S.p hf hs (.bool false) rfl rfl fun a hf => ?_
      refine S.p hf hs (.bool false) rfl rfl fun a hf => ?_
      refine R.nil (X.then_ ?_)
      exact ⟨false, h, (((hf.nil.cons (hf.get 39 _ rfl)).cons (hf.get 5 _ rfl)).cons (hf.get 0 _ rfl)), hs⟩
    ·replace h := h.2 hc
     refine S.k hf rfl fun a hf => ?_
     refine S.k hf rfl fun a hf => ?_
     refine S.k hf rfl fun a hf => ?_
     refine S.p hf hs (.bool false) rfl rfl fun a hf => ?_
     refine S.p hf hs (.bool false) rfl rfl fun a hf => ?_
     refine S.k hf rfl fun a hf => ?_
     refine S.k hf rfl fun a hf => ?_
     refine S.k hf rfl fun a hf => ?_
     refine S.k hf rfl fun a hf => ?_
     refine S.k hf rfl fun a hf => ?_
     refine S.p hf hs (.bool false) rfl rfl fun a hf => ?_
     refine S.p hf hs (.bool false) rfl rfl fun a hf => ?_
     refine R.nil (X.then_ ?_)
     exact ⟨false, h, (((hf.nil.cons (hf.get 39 _ rfl)).cons (hf.get 5 _ rfl)).cons (hf.get 0 _ rfl)), hs⟩
 ·skip
  refine R.list ?_
  refine S.p hf hs (.slice y1A y1.length y1C) rfl rfl fun a hf => ?_
  obtain ⟨h0x4, x4, hx4, h⟩ := h
  refine S.v hf hs (elemPtr y1A (0 * 1)) rfl (V.index rfl rfl rfl Tryz.runUnderlying74 Tryz.sizeOf9 (hs.ownSome 0 rfl (lt_of_get hx4)) h0x4 (lt_of_get hx4) rfl) fun a hf => ?_
  refine S.v hf hs (.string (ba x4)) rfl (V.loadOwn (off := 0) 0 rfl hx4 rfl rfl rfl Tryz.isAgg9 Tryz.sizeOf9 rfl rfl) fun a hf => ?_
  refine S.v hf hs (.bool (x4 == [110, 101, 116])) rfl (V.strCmp (x4 == [110, 101, 116]) rfl rfl rfl rfl) fun a hf => ?_
  refine S.split hf hs (b := x4 == [110, 101, 116]) rfl rfl rfl (V.pure rfl) (fun hc a hf => ?_) (fun hc a hf => ?_)
  ·replace h := h.1 hc
   refine S.p hf hs (.slice y1A y1.length y1C) rfl rfl fun a hf => ?_
   refine S.v hf hs (iv (y1.length : Int)) rfl (V.len rfl rfl Tryz.runUnderlying74) fun a hf => ?_
   refine S.p hf hs (.bool ((y1.length : Int) == 2)) rfl rfl fun a hf => ?_
   refine S.p hf hs (.bool ((y1.length : Int) == 2)) rfl rfl fun a hf => ?_
   refine S.p hf hs (.bool ((y1.length : Int) == 2)) rfl rfl fun a hf => ?_
   refine R.nil (X.then_ ?_)
   exact ⟨((y1.length : Int) == 2), h, (((hf.nil.cons (hf.get 14 _ rfl)).cons (hf.get 5 _ rfl)).cons (hf.get 0 _ rfl)), hs⟩
  ·replace h := h.2 hc
   refine S.k hf rfl fun a hf => ?_
   refine S.k hf rfl fun a hf => ?_
   refine S.k hf rfl fun a hf => ?_
   refine S.p hf hs (.bool false) rfl rfl fun a hf => ?_
   refine S.p hf hs (.bool false) rfl rfl fun a hf => ?_
   refine R.nil (X.then_ ?_)
   exact ⟨false, h, (((hf.nil.cons (hf.get 14 _ rfl)).cons (hf.get 5 _ rfl)).cons (hf.get 0 _ rfl)), hs⟩
set_option linter.unusedVariables false
def M_route_Read_k2 (Q : (List Routed) → Int → Int → Prop) (n2 : Int) (again1 : List Routed → Str → Int → Prop) (y2 : Str) (l3 : List Routed) (c1 : Bool) : Prop :=
  cnd c1 (Q ([] : List Routed) n2 10) (again1 l3 y2 (w64 (n2 + 1)))
def M_route_Read_L1 (Q : (List Routed) → Int → Int → Prop) (again1 : List Routed → Str → Int → Prop) (l2 : List Routed) (s2 : Str) (n2 : Int) : Prop :=
  cnd (!(s2 == [])) (M_strings_Cut s2 [10] fun y1 y2 y3 => cnd (!y3) (M_route_Read_k2 Q n2 again1 y2 l2 true) (M_route_readLine l2 y1 fun y4 z1 => M_route_Read_k2 Q n2 again1 y2 z1 (!y4))) (Q l2 0 0)
def M_route_Read (text : Str) (Q : (List Routed) → Int → Int → Prop) : Prop :=
  cnd (decide ((text.length : Int) > 2000000)) (Q ([] : List Routed) 0 2) (lp (fun again (s : List Routed × Str × Int) => M_route_Read_L1 Q (fun l2 s2 n2 => again (l2, s2, n2)) s.1 s.2.1 s.2.2) (([] : List Routed), text, 1))
set_option maxHeartbeats 1000000 in
theorem R_route_Read (text : Str) (w0 : World)  (Q : (List Routed) → Int → Int → Prop) (h : M_route_Read text Q) :
  Ret Tryz.prog 32 #[.string (ba text)] w0 fun v w' => ∃ (r0 : (List Routed)) (r0A : Option Addr) (r0C : Nat) (r0as : List Dp) (r1 : Int) (r2 : Int), v = .tuple #[.slice r0A r0.length r0C, iv r1, iv r2] ∧ Q r0 r1 r2 ∧ Sat w0 none_ [hdeep 130 131 142 r0A r0C r0as r0] w' := by
 refine fn_enter Tryz.func32 rfl Tryz.ntmps32 rfl (fs := [(0, .string (ba text))]) rfl (fun a hf => ?_)
 have hs := Sat.start w0 none_
 unfold M_route_Read at h
 refine wp_seq (R.list ?_)
 refine S.p hf hs (.slice none 0 0) rfl rfl fun a hf => ?_
 refine S.p hf hs (iv 0) rfl rfl fun a hf => ?_
 refine S.p hf hs (iv 0) rfl rfl fun a hf => ?_
 refine R.nil (X.then_ (wp_seq (wp_seq (R.list ?_))))
 refine S.p hf hs (.string (ba text)) rfl rfl fun a hf => ?_
 refine S.v hf hs (iv (text.length : Int)) rfl (V.lenStr rfl rfl Tryz.runUnderlying9) fun a hf => ?_
 refine S.p hf hs (.bool (decide ((text.length : Int) > 2000000))) rfl rfl fun a hf => ?_
 refine R.nil (X.then_ ?_)
 refine C.cond hf (b := decide ((text.length : Int) > 2000000)) rfl (fun hc => ?_) (fun hc => ?_)
 ·replace h := h.1 hc
  refine wp_seq (R.list ?_)
  refine S.p hf hs (.slice none 0 0) rfl rfl fun a hf => ?_
  refine S.p hf hs (iv 0) rfl rfl fun a hf => ?_
  refine S.p hf hs (iv 2) rfl rfl fun a hf => ?_
  refine R.nil (X.then_ (wp_ret (X.then_ret ?_)))
  replace hs := hs.nilRowsD (α := Routed) 130 131 142
  replace hs := hs.take 1
  exact L.ret hf (run_results3 Tryz.results32 (ResIs.tmp hf rfl) (ResIs.tmp hf rfl) (ResIs.tmp hf rfl)) ⟨([] : List Routed), none, 0, [], 0, 2, rfl, h, hs⟩
 ·replace h := h.2 hc
  refine wp_skip (X.then_ (wp_seq (R.list ?_)))
  refine S.alloc hf hs rfl rfl rfl [.slice none 0 0] rfl Tryz.zeroValue62 rfl (fun g1 a w hf hs => ?_)
  refine R.nil (X.then_ (wp_seq (wp_seq (R.list ?_))))
  refine S.p hf hs (iv 1) rfl rfl fun a hf => ?_
  refine R.nil (X.then_ (wp_block ?_))
  replace hs := hs.nilRowsD (α := Routed) 130 131 142
  replace hs := hs.rebox 1 (vs' := [.slice none ([] : List Routed).length 0]) rfl rfl
  replace hs := hs.front 1 rfl
  obtain ⟨kk, h⟩ := h
  refine C.loop (fun kk a w => ∃ (l2 : List Routed) (l2A : Option Addr) (l2C : Nat) (l2as : List Dp) (s2 : Str) (n2 : Int), iterF (fun again (s : List Routed × Str × Int) => M_route_Read_L1 Q (fun l2 s2 n2 => again (l2, s2, n2)) s.1 s.2.1 s.2.2) kk (l2, s2, n2) ∧ FrOk 33 [(0, .string (ba s2)), (5, (pn g1 0)), (6, iv n2)] a ∧ Sat w0 none_ [hbox g1 62 [.slice l2A l2.length l2C], hdeep 130 131 142 l2A l2C l2as l2] w) kk ⟨([] : List Routed), none, 0, ([] : List Dp), text, 1, h, (((hf.nil.cons (hf.get 6 _ rfl)).cons (hf.get 5 _ rfl)).cons (hf.get 0 _ rfl)), hs⟩ (fun a w ⟨_, _, _, _, _, _, h, _, _⟩ => h) ?_
  clear h hf hs
  rintro kk a w ⟨l2, l2A, l2C, l2as, s2, n2, h, hf, hs⟩
  obtain ⟨again1, hagain1⟩ : ∃ X : List Routed → Str → Int → Prop, X = (fun l2 s2 n2 => iterF (fun again (s : List Routed × Str × Int) => M_route_Read_L1 Q (fun l2 s2 n2 => again (l2, s2, n2)) s.1 s.2.1 s.2.2) kk (l2, s2, n2)) := ⟨_, rfl⟩
  replace h : M_route_Read_L1 Q again1 l2 s2 n2 := by rw [hagain1]; exact h
  unfold M_route_Read_L1 at h
  refine wp_seq (wp_seq (R.list ?_))
  refine S.p hf hs (.string (ba s2)) rfl rfl fun a hf => ?_
  refine S.v hf hs (.bool (!(s2 == []))) rfl (V.strCmp (!(s2 == [])) rfl rfl rfl rfl) fun a hf => ?_
  refine R.nil (X.then_ ?_)
  refine C.cond hf (b := !(s2 == [])) rfl (fun hc => ?_) (fun hc => ?_)
  ·replace h := h.1 hc
   refine wp_skip (X.then_ (wp_seq (wp_block (wp_seq (R.list ?_)))))
   refine S.p hf hs (.string (ba s2)) rfl rfl fun a hf => ?_
   refine S.call hf rfl rfl rfl (call_fn (vs := [.string (ba s2), .string (ba [10])]) rfl rfl rfl Tryz.call38) (R_strings_Cut s2 [10] _  _ h) (fun v a w' hf hr => ?_)
   obtain ⟨y1, y2, y3, rfl, h2, hs2⟩ := hr
   replace h := h2; replace hs := hs.call hs2; clear h2 hs2
   refine S.p hf hs (.tuple #[.string (ba y1), .string (ba y2), .bool y3]) rfl rfl fun a hf => ?_
   refine S.p hf hs (.string (ba y1)) rfl rfl fun a hf => ?_
   refine S.p hf hs (.string (ba y2)) rfl rfl fun a hf => ?_
   refine S.p hf hs (.bool y3) rfl rfl fun a hf => ?_
   refine S.p hf hs (.string (ba y1)) rfl rfl fun a hf => ?_
   refine S.p hf hs (.string (ba y2)) rfl rfl fun a hf => ?_
   refine S.p hf hs (.bool y3) rfl rfl fun a hf => ?_
   refine R.nil (X.then_ (wp_seq (wp_seq ?_)))
   refine C.cut (J := fun a w => ∃ (l3 : List Routed) (l3A : Option Addr) (l3C : Nat) (l3as : List Dp) (c1 : Bool), M_route_Read_k2 Q n2 again1 y2 l3 c1 ∧ FrOk 33 [(5, (pn g1 0)), (6, iv n2), (8, .string (ba y2)), (29, .bool c1)] a ∧ Sat w0 none_ [hbox g1 62 [.slice l3A l3.length l3C], hdeep 130 131 142 l3A l3C l3as l3] w) ?_ ?_
   ·rintro a w ⟨l3, l3A, l3C, l3as, c1, h, hf, hs⟩
    unfold M_route_Read_k2 at h
    refine C.cond hf (b := c1) rfl (fun hc => ?_) (fun hc => ?_)
    ·replace h := h.1 hc
     refine wp_seq (R.list ?_)
     refine S.p hf hs (iv n2) rfl rfl fun a hf => ?_
     refine S.p hf hs (.slice none 0 0) rfl rfl fun a hf => ?_
     refine S.p hf hs (iv n2) rfl rfl fun a hf => ?_
     refine S.p hf hs (iv 10) rfl rfl fun a hf => ?_
     refine R.nil (X.then_ (wp_ret (X.then_ret (X.blk_ret (X.then_ret (X.then_ret (X.blk_ret (X.then_ret ?_))))))))
     replace hs := hs.nilRowsD (α := Routed) 130 131 142
     replace hs := hs.take 1
     exact L.ret hf (run_results3 Tryz.results32 (ResIs.tmp hf rfl) (ResIs.tmp hf rfl) (ResIs.tmp hf rfl)) ⟨([] : List Routed), none, 0, [], n2, 10, rfl, h, hs⟩
    ·replace h := h.2 hc
     refine wp_skip (X.then_ (R.list ?_))
     refine S.p hf hs (.string (ba y2)) rfl rfl fun a hf => ?_
     refine S.p hf hs (.string (ba y2)) rfl rfl fun a hf => ?_
     refine R.nil (X.blk (X.then_ (R.list ?_)))
     refine S.p hf hs (iv n2) rfl rfl fun a hf => ?_
     refine S.p hf hs (iv (w64 (n2 + 1))) rfl rfl fun a hf => ?_
     refine S.p hf hs (iv (w64 (n2 + 1))) rfl rfl fun a hf => ?_
     refine R.nil (X.then_ ?_)
     exact ⟨l3, l3A, l3C, l3as, y2, (w64 (n2 + 1)), (by rw [hagain1] at h; exact h), (((hf.nil.cons (hf.get 6 _ rfl)).cons (hf.get 5 _ rfl)).cons (hf.get 0 _ rfl)), hs⟩
   ·skip
    refine R.list ?_
    refine S.p hf hs (.bool y3) rfl rfl fun a hf => ?_
    refine S.p hf hs (.bool (!y3)) rfl rfl fun a hf => ?_
    refine S.split hf hs (b := !y3) rfl rfl rfl (V.pure rfl) (fun hc a hf => ?_) (fun hc a hf => ?_)
    ·replace h := h.1 hc
     refine S.k hf rfl fun a hf => ?_
     refine S.k hf rfl fun a hf => ?_
     refine S.k hf rfl fun a hf => ?_
     refine S.p hf hs (.bool true) rfl rfl fun a hf => ?_
     refine R.nil (X.then_ ?_)
     exact ⟨l2, l2A, l2C, l2as, true, h, ((((hf.nil.cons (hf.get 29 _ rfl)).cons (hf.get 8 _ rfl)).cons (hf.get 6 _ rfl)).cons (hf.get 5 _ rfl)), hs⟩
    ·replace h := h.2 hc
     refine S.p hf hs (.string (ba y1)) rfl rfl fun a hf => ?_
     replace hs := hs.front 1 rfl
     replace hs := hs.front 1 rfl
     obtain ⟨F1, hsF, hback, hold, hrest⟩ := Sat.callOwns [hbox g1 62 [.slice l2A l2.length l2C], hdeep 130 131 142 l2A l2C l2as l2] (σ := []) hs
     refine S.call hf rfl rfl rfl (call_fn (vs := [(pn g1 0), .string (ba y1)]) rfl rfl rfl Tryz.call70) (R_route_readLine l2 y1 _ _ g1 l2A l2C l2as hsF _ h) (fun v a w' hf hr => ?_)
     obtain ⟨y4, z1, z1A, z1C, z1as, rfl, h2, hs2⟩ := hr
     replace h := h2; replace hs := hback _ _ hs2; clear h2 hs2 hback hold hrest hsF
     refine S.p hf hs (.bool (!y4)) rfl rfl fun a hf => ?_
     refine S.p hf hs (.bool (!y4)) rfl rfl fun a hf => ?_
     refine R.nil (X.then_ ?_)
     exact ⟨z1, z1A, z1C, z1as, (!y4), h, ((((hf.nil.cons (hf.get 29 _ rfl)).cons (hf.get 8 _ rfl)).cons (hf.get 6 _ rfl)).cons (hf.get 5 _ rfl)), hs⟩
  ·replace h := h.2 hc
   refine wp_exit (X.then_exit (X.then_exit (X.blk_exit (X.then_ (wp_seq (R.list ?_))))))
   refine S.v hf hs (.slice l2A l2.length l2C) rfl (V.loadBox 0 rfl rfl rfl Tryz.isAgg62 Tryz.sizeOf62 rfl rfl) fun a hf => ?_
   refine S.p hf hs (.slice l2A l2.length l2C) rfl rfl fun a hf => ?_
   refine S.p hf hs (iv 0) rfl rfl fun a hf => ?_
   refine S.p hf hs (iv 0) rfl rfl fun a hf => ?_
   refine R.nil (X.then_ (wp_ret ?_))
   replace hs := hs.front 1 rfl
   replace hs := hs.take 1
   exact L.ret hf (run_results3 Tryz.results32 (ResIs.tmp hf rfl) (ResIs.tmp hf rfl) (ResIs.tmp hf rfl)) ⟨l2, l2A, l2C, l2as, 0, 0, rfl, h, hs⟩
set_option linter.unusedVariables false
def M_ref7_isRow_k2 (Q : Bool → Prop) (n2 : Int) (again1 : Int → Prop) (c1 : Bool) : Prop :=
  cnd c1 (Q false) (again1 (w64 (n2 + 1)))
def M_ref7_isRow_L1 (s_ : Str) (Q : Bool → Prop) (again1 : Int → Prop) (n2 : Int) : Prop :=
  cnd (decide (n2 < (s_.length : Int))) (idx s_ n2 fun x1 => cnd (decide ((x1.toNat : Int) < 33)) (M_ref7_isRow_k2 Q n2 again1 true) (M_ref7_isRow_k2 Q n2 again1 (decide ((x1.toNat : Int) > 126)))) (Q (!(s_ == [])))
def M_ref7_isRow (s_ : Str) (Q : Bool → Prop) : Prop :=
  lp (fun again (s : Int) => M_ref7_isRow_L1 s_ Q (fun n2 => again n2) s) 0
set_option maxHeartbeats 1000000 in
theorem R_ref7_isRow (s_ : Str) (w0 : World)  (Q : Bool → Prop) (h : M_ref7_isRow s_ Q) :
  Ret Tryz.prog 71 #[.string (ba s_)] w0 fun v w' => ∃ (r0 : Bool), v = .bool r0 ∧ Q r0 ∧ Sat w0 none_ [] w' := by
 refine fn_enter Tryz.func71 rfl Tryz.ntmps71 rfl (fs := [(0, .string (ba s_))]) rfl (fun a hf => ?_)
 have hs := Sat.start w0 none_
 unfold M_ref7_isRow at h
 refine wp_seq (R.list ?_)
 refine S.p hf hs (.bool false) rfl rfl fun a hf => ?_
 refine R.nil (X.then_ (wp_seq (wp_seq (R.list ?_))))
 refine S.p hf hs (.string (ba s_)) rfl rfl fun a hf => ?_
 refine S.v hf hs (iv (s_.length : Int)) rfl (V.lenStr rfl rfl Tryz.runUnderlying9) fun a hf => ?_
 refine S.p hf hs (iv 0) rfl rfl fun a hf => ?_
 refine R.nil (X.then_ (wp_block ?_))
 obtain ⟨kk, h⟩ := h
 refine C.loop (fun kk a w => ∃ (n2 : Int), iterF (fun again (s : Int) => M_ref7_isRow_L1 s_ Q (fun n2 => again n2) s) kk n2 ∧ FrOk 22 [(0, .string (ba s_)), (5, iv (s_.length : Int)), (6, iv n2)] a ∧ Sat w0 none_ [] w) kk ⟨0, h, (((hf.nil.cons (hf.get 6 _ rfl)).cons (hf.get 5 _ rfl)).cons (hf.get 0 _ rfl)), hs⟩ (fun a w ⟨_, h, _, _⟩ => h) ?_
 clear h hf hs
 rintro kk a w ⟨n2, h, hf, hs⟩
 obtain ⟨again1, hagain1⟩ : ∃ X : Int → Prop, X = (fun n2 => iterF (fun again (s : Int) => M_ref7_isRow_L1 s_ Q (fun n2 => again n2) s) kk n2) := ⟨_, rfl⟩
 replace h : M_ref7_isRow_L1 s_ Q again1 n2 := by rw [hagain1]; exact h
 unfold M_ref7_isRow_L1 at h
 refine wp_seq (R.list ?_)
 refine S.p hf hs (.bool (decide (n2 < (s_.length : Int)))) rfl rfl fun a hf => ?_
 refine R.nil (X.then_ (wp_seq ?_))
 refine C.cond hf (b := decide (n2 < (s_.length : Int))) rfl (fun hc => ?_) (fun hc => ?_)
 ·replace h := h.1 hc
  refine wp_skip (X.then_ (wp_seq (wp_block (wp_seq (R.list ?_)))))
  refine S.p hf hs (iv n2) rfl rfl fun a hf => ?_
  refine S.p hf hs (iv n2) rfl rfl fun a hf => ?_
  refine R.nil (X.then_ (wp_seq ?_))
  refine C.cut (J := fun a w => ∃ (c1 : Bool), M_ref7_isRow_k2 Q n2 again1 c1 ∧ FrOk 22 [(0, .string (ba s_)), (5, iv (s_.length : Int)), (6, iv n2), (18, .bool c1)] a ∧ Sat w0 none_ [] w) ?_ ?_
  ·rintro a w ⟨c1, h, hf, hs⟩
   unfold M_ref7_isRow_k2 at h
   refine C.cond hf (b := c1) rfl (fun hc => ?_) (fun hc => ?_)
   ·replace h := h.1 hc
    refine wp_seq (R.list ?_)
    refine S.p hf hs (.bool false) rfl rfl fun a hf => ?_
    refine R.nil (X.then_ (wp_ret (X.blk_ret (X.then_ret (X.then_ret (X.blk_ret (X.then_ret ?_)))))))
    exact L.ret hf (run_results1 Tryz.results71 (ResIs.tmp hf rfl)) ⟨false, rfl, h, hs.nil⟩
   ·replace h := h.2 hc
    refine wp_skip (X.blk (X.then_ (R.list ?_)))
    refine S.p hf hs (iv (w64 (n2 + 1))) rfl rfl fun a hf => ?_
    refine S.p hf hs (iv (w64 (n2 + 1))) rfl rfl fun a hf => ?_
    refine R.nil (X.then_ ?_)
    exact ⟨(w64 (n2 + 1)), (by rw [hagain1] at h; exact h), (((hf.nil.cons (hf.get 6 _ rfl)).cons (hf.get 5 _ rfl)).cons (hf.get 0 _ rfl)), hs⟩
  ·skip
   refine R.list ?_
   refine S.p hf hs (.string (ba s_)) rfl rfl fun a hf => ?_
   refine S.p hf hs (iv n2) rfl rfl fun a hf => ?_
   obtain ⟨h0x1, x1, hx1, h⟩ := h
   refine S.v hf hs (.int .u8 (x1.toNat : Int)) rfl (V.indexStr rfl rfl rfl Tryz.runUnderlying9 h0x1 hx1) fun a hf => ?_
   refine S.p hf hs (.bool (decide ((x1.toNat : Int) < 33))) rfl rfl fun a hf => ?_
   refine S.split hf hs (b := decide ((x1.toNat : Int) < 33)) rfl rfl rfl (V.pure rfl) (fun hc a hf => ?_) (fun hc a hf => ?_)
   ·replace h := h.1 hc
    refine S.k hf rfl fun a hf => ?_
    refine S.k hf rfl fun a hf => ?_
    refine S.k hf rfl fun a hf => ?_
    refine S.k hf rfl fun a hf => ?_
    refine S.p hf hs (.bool true) rfl rfl fun a hf => ?_
    refine R.nil (X.then_ ?_)
    exact ⟨true, h, ((((hf.nil.cons (hf.get 18 _ rfl)).cons (hf.get 6 _ rfl)).cons (hf.get 5 _ rfl)).cons (hf.get 0 _ rfl)), hs⟩
   ·replace h := h.2 hc
    refine S.p hf hs (.string (ba s_)) rfl rfl fun a hf => ?_
    refine S.p hf hs (iv n2) rfl rfl fun a hf => ?_
    refine S.v hf hs (.int .u8 (x1.toNat : Int)) rfl (V.indexStr rfl rfl rfl Tryz.runUnderlying9 h0x1 hx1) fun a hf => ?_
    refine S.p hf hs (.bool (decide ((x1.toNat : Int) > 126))) rfl rfl fun a hf => ?_
    refine S.p hf hs (.bool (decide ((x1.toNat : Int) > 126))) rfl rfl fun a hf => ?_
    refine R.nil (X.then_ ?_)
    exact ⟨(decide ((x1.toNat : Int) > 126)), h, ((((hf.nil.cons (hf.get 18 _ rfl)).cons (hf.get 6 _ rfl)).cons (hf.get 5 _ rfl)).cons (hf.get 0 _ rfl)), hs⟩
 ·replace h := h.2 hc
  refine wp_exit (X.then_exit (X.then_exit (X.blk_exit (X.then_ (wp_seq (R.list ?_))))))
  refine S.p hf hs (.string (ba s_)) rfl rfl fun a hf => ?_
  refine S.v hf hs (.bool (!(s_ == []))) rfl (V.strCmp (!(s_ == [])) rfl rfl rfl rfl) fun a hf => ?_
  refine S.p hf hs (.bool (!(s_ == []))) rfl rfl fun a hf => ?_
  refine R.nil (X.then_ (wp_ret ?_))
  exact L.ret hf (run_results1 Tryz.results71 (ResIs.tmp hf rfl)) ⟨(!(s_ == [])), rfl, h, hs.nil⟩
set_option linter.unusedVariables false
set_option linter.unusedVariables false
set_option linter.unusedVariables false
set_option linter.unusedVariables false
def M_equal_cell_L1 (s2 : (List Cell)) (Q : Bool → Prop) (k1 : Nat) (xk1 : Cell)  (next1 : Prop) : Prop :=
  idx s2 (k1 : Int) fun x1 => cnd (!(decide (xk1 = x1))) (Q false) (next1)
def M_equal_cell (s1 : (List Cell)) (s2 : (List Cell)) (Q : Bool → Prop) : Prop :=
  cnd ((s1.length : Int) != (s2.length : Int)) (Q false) (forIn' (fun k x (s : Unit) next => M_equal_cell_L1 s2 Q k x (next ())) (fun (s : Unit) => Q true) s1 0 ())
set_option maxHeartbeats 1000000 in
theorem R_equal_cell (s1 : (List Cell)) (s2 : (List Cell)) (w0 : World) (s1A : Option Addr) (s1C : Nat) (hv_s1 : View w0 (old w0 none_) s1A s1C s1) (s2A : Option Addr) (s2C : Nat) (hv_s2 : View w0 (old w0 none_) s2A s2C s2) (Q : Bool → Prop) (h : M_equal_cell s1 s2 Q) :
  Ret Tryz.prog 134 #[.slice s1A s1.length s1C, .slice s2A s2.length s2C] w0 fun v w' => ∃ (r0 : Bool), v = .bool r0 ∧ Q r0 ∧ Sat w0 none_ [] w' := by
 refine fn_enter Tryz.func134 rfl Tryz.ntmps134 rfl (fs := [(0, .slice s1A s1.length s1C), (1, .slice s2A s2.length s2C)]) rfl (fun a hf => ?_)
 have hs := Sat.start w0 none_
 unfold M_equal_cell at h
 refine wp_seq (R.list ?_)
 refine S.p hf hs (.bool false) rfl rfl fun a hf => ?_
 refine R.nil (X.then_ (wp_seq (wp_seq (R.list ?_))))
 refine S.p hf hs (.slice s1A s1.length s1C) rfl rfl fun a hf => ?_
 refine S.v hf hs (iv (s1.length : Int)) rfl (V.len rfl rfl Tryz.runUnderlying131) fun a hf => ?_
 refine S.p hf hs (.slice s2A s2.length s2C) rfl rfl fun a hf => ?_
 refine S.v hf hs (iv (s2.length : Int)) rfl (V.len rfl rfl Tryz.runUnderlying131) fun a hf => ?_
 refine S.p hf hs (.bool ((s1.length : Int) != (s2.length : Int))) rfl rfl fun a hf => ?_
 refine R.nil (X.then_ ?_)
 refine C.cond hf (b := (s1.length : Int) != (s2.length : Int)) rfl (fun hc => ?_) (fun hc => ?_)
 ·replace h := h.1 hc
  refine wp_seq (R.list ?_)
  refine S.p hf hs (.bool false) rfl rfl fun a hf => ?_
  refine R.nil (X.then_ (wp_ret (X.then_ret ?_)))
  exact L.ret hf (run_results1 Tryz.results134 (ResIs.tmp hf rfl)) ⟨false, rfl, h, hs.nil⟩
 ·replace h := h.2 hc
  refine wp_skip (X.then_ (wp_seq (wp_seq (R.list ?_))))
  refine S.p hf hs (.slice s1A s1.length s1C) rfl rfl fun a hf => ?_
  refine S.v hf hs (iv (s1.length : Int)) rfl (V.len rfl rfl Tryz.runUnderlying131) fun a hf => ?_
  refine S.p hf hs (iv 0) rfl rfl fun a hf => ?_
  refine R.nil (X.then_ (wp_block ?_))
  have hlenk1 := hv_s1.len64
  refine C.range (fun (ll : List Cell) a w => ∃ (k1 : Nat) , s1.drop k1 = ll ∧ k1 + ll.length = s1.length ∧ forIn' (fun k x (s : Unit) next => M_equal_cell_L1 s2 Q k x (next ())) (fun (s : Unit) => Q true) ll k1 () ∧ FrOk 26 [(13, iv (k1 : Int)), (0, .slice s1A s1.length s1C), (1, .slice s2A s2.length s2C), (12, iv (s1.length : Int))] a ∧ Sat w0 none_ [] w) s1 ⟨0, rfl, Nat.zero_add _, h, ((((hf.nil.cons (hf.get 12 _ rfl)).cons (hf.get 1 _ rfl)).cons (hf.get 0 _ rfl)).cons (hf.get 13 _ rfl)), hs⟩ ?_
  clear h hf hs
  rintro llk1 a w ⟨k1, hlk1, hkk1, h, hf, hs⟩
  cases llk1 with
  | nil =>
   have hc := range_done hkk1
   replace h : Q true := h
   refine wp_seq (R.list ?_)
   refine S.v hf hs (.bool false) rfl (V.cmp false rfl rfl rfl rfl hc) fun a hf => ?_
   refine R.nil (X.then_ (wp_seq ?_))
   refine C.no hf rfl ?_
   refine wp_exit (X.then_exit (X.then_exit (X.blk_exit (X.then_ (wp_seq (R.list ?_))))))
   refine S.p hf hs (.bool true) rfl rfl fun a hf => ?_
   refine R.nil (X.then_ (wp_ret ?_))
   exact L.ret hf (run_results1 Tryz.results134 (ResIs.tmp hf rfl)) ⟨true, rfl, h, hs.nil⟩
  | cons xk1 llk1 =>
   have hltk1 := range_lt hkk1; have hc := range_go hkk1; have hxk1 := range_get hlk1
   obtain ⟨next1, hnext1⟩ : ∃ X : Prop, X = (forIn' (fun k x (s : Unit) next => M_equal_cell_L1 s2 Q k x (next ())) (fun (s : Unit) => Q true) llk1 (k1 + 1) ()) := ⟨_, rfl⟩
   replace h : M_equal_cell_L1 s2 Q k1 xk1  next1 := by rw [hnext1]; exact h
   unfold M_equal_cell_L1 at h
   refine wp_seq (R.list ?_)
   refine S.v hf hs (.bool true) rfl (V.cmp true rfl rfl rfl rfl hc) fun a hf => ?_
   refine R.nil (X.then_ (wp_seq ?_))
   refine C.yes hf rfl ?_
   refine wp_skip (X.then_ (wp_seq (wp_block (wp_seq (R.list ?_)))))
   refine S.p hf hs (iv (k1 : Int)) rfl rfl fun a hf => ?_
   refine S.p hf hs (iv (k1 : Int)) rfl rfl fun a hf => ?_
   refine R.nil (X.then_ (wp_seq ?_))
   refine R.draw mo (by kernel_rfl) hs ?_
   refine D.p hf (.slice s1A s1.length s1C) rfl rfl fun a hf => ?_
   refine D.p hf (iv (k1 : Int)) rfl rfl fun a hf => ?_
   refine D.v hf (elemPtr s1A (k1 * 3)) rfl (V.index rfl rfl rfl Tryz.runUnderlying131 Tryz.sizeOf142 (hv_s1.some_ (lt_of_get hxk1)) (Int.natCast_nonneg _) (lt_of_get hxk1) rfl) fun a hf => ?_
   refine D.v hf (.agg #[iv xk1.X, iv xk1.Y, iv xk1.Layer]) rfl (V.loadEl (off := 0) (Ag.args _ _ _) (hv_s1.flat hxk1) rfl rfl rfl Tryz.isAgg142 Tryz.sizeOf142 rfl rfl) fun a hf => ?_
   refine D.p hf (.slice s2A s2.length s2C) rfl rfl fun a hf => ?_
   refine D.p hf (iv (k1 : Int)) rfl rfl fun a hf => ?_
   obtain ⟨h0x1, x1, hx1, h⟩ := h
   refine D.v hf (elemPtr s2A (k1 * 3)) rfl (V.index rfl rfl rfl Tryz.runUnderlying131 Tryz.sizeOf142 (hv_s2.some_ (lt_of_get hx1)) (Int.natCast_nonneg _) (lt_of_get hx1) rfl) fun a hf => ?_
   refine D.v hf (.agg #[iv x1.X, iv x1.Y, iv x1.Layer]) rfl (V.loadEl (off := 0) (Ag.args _ _ _) (hv_s2.flat hx1) rfl rfl rfl Tryz.isAgg142 Tryz.sizeOf142 rfl rfl) fun a hf => ?_
   refine D.v hf (.bool (!(decide (xk1 = x1)))) rfl (V.aggneq rfl rfl rfl (by kernel_rfl) (fun w => eqS142 xk1 x1 w)) fun a hf => ?_
   refine D.done (fun w hs => ?_)
   refine X.then_ ?_
   refine C.cond hf (b := !(decide (xk1 = x1))) rfl (fun hc => ?_) (fun hc => ?_)
   ·replace h := h.1 hc
    refine wp_seq (R.list ?_)
    refine S.p hf hs (.bool false) rfl rfl fun a hf => ?_
    refine R.nil (X.then_ (wp_ret (X.blk_ret (X.then_ret (X.then_ret (X.blk_ret (X.then_ret ?_)))))))
    exact L.ret hf (run_results1 Tryz.results134 (ResIs.tmp hf rfl)) ⟨false, rfl, h, hs.nil⟩
   ·replace h := h.2 hc
    refine wp_skip (X.blk (X.then_ (R.list ?_)))
    refine S.v hf hs (iv ((k1 + 1 : Nat) : Int)) rfl (V.incr rfl rfl rfl hltk1 hlenk1) fun a hf => ?_
    refine S.p hf hs (iv ((k1 + 1 : Nat) : Int)) rfl rfl fun a hf => ?_
    refine R.nil (X.then_ ?_)
    exact ⟨xk1, llk1, rfl, k1 + 1, range_drop hlk1, range_len hkk1, (by rw [hnext1] at h; exact h), ((((hf.nil.cons (hf.get 12 _ rfl)).cons (hf.get 1 _ rfl)).cons (hf.get 0 _ rfl)).cons (hf.get 13 _ rfl)), hs⟩
set_option linter.unusedVariables false
def M_ref7_SameWays_L1 (b : (List (List Cell))) (Q : Bool → Prop) (k1 : Nat) (xk1 : (List Cell))  (next1 : Prop) : Prop :=
  idx b (k1 : Int) fun x1 => M_equal_cell xk1 x1 fun y1 => cnd (!y1) (Q false) (next1)
def M_ref7_SameWays (a_ : (List (List Cell))) (b : (List (List Cell))) (Q : Bool → Prop) : Prop :=
  cnd ((a_.length : Int) != (b.length : Int)) (Q false) (forIn' (fun k x (s : Unit) next => M_ref7_SameWays_L1 b Q k x (next ())) (fun (s : Unit) => Q true) a_ 0 ())
set_option maxHeartbeats 1000000 in
theorem R_ref7_SameWays (a_ : (List (List Cell))) (b : (List (List Cell))) (w0 : World) (a_A : Option Addr) (a_C : Nat) (hv_a_ : View w0 (old w0 none_) a_A a_C a_) (bA : Option Addr) (bC : Nat) (hv_b : View w0 (old w0 none_) bA bC b) (Q : Bool → Prop) (h : M_ref7_SameWays a_ b Q) :
  Ret Tryz.prog 73 #[.slice a_A a_.length a_C, .slice bA b.length bC] w0 fun v w' => ∃ (r0 : Bool), v = .bool r0 ∧ Q r0 ∧ Sat w0 none_ [] w' := by
 refine fn_enter Tryz.func73 rfl Tryz.ntmps73 rfl (fs := [(0, .slice a_A a_.length a_C), (1, .slice bA b.length bC)]) rfl (fun a hf => ?_)
 have hs := Sat.start w0 none_
 unfold M_ref7_SameWays at h
 refine wp_seq (R.list ?_)
 refine S.p hf hs (.bool false) rfl rfl fun a hf => ?_
 refine R.nil (X.then_ (wp_seq (wp_seq (R.list ?_))))
 refine S.p hf hs (.slice a_A a_.length a_C) rfl rfl fun a hf => ?_
 refine S.v hf hs (iv (a_.length : Int)) rfl (V.len rfl rfl Tryz.runUnderlying128) fun a hf => ?_
 refine S.p hf hs (.slice bA b.length bC) rfl rfl fun a hf => ?_
 refine S.v hf hs (iv (b.length : Int)) rfl (V.len rfl rfl Tryz.runUnderlying128) fun a hf => ?_
 refine S.p hf hs (.bool ((a_.length : Int) != (b.length : Int))) rfl rfl fun a hf => ?_
 refine R.nil (X.then_ ?_)
 refine C.cond hf (b := (a_.length : Int) != (b.length : Int)) rfl (fun hc => ?_) (fun hc => ?_)
 ·replace h := h.1 hc
  refine wp_seq (R.list ?_)
  refine S.p hf hs (.bool false) rfl rfl fun a hf => ?_
  refine R.nil (X.then_ (wp_ret (X.then_ret ?_)))
  exact L.ret hf (run_results1 Tryz.results73 (ResIs.tmp hf rfl)) ⟨false, rfl, h, hs.nil⟩
 ·replace h := h.2 hc
  refine wp_skip (X.then_ (wp_seq (wp_seq (R.list ?_))))
  refine S.p hf hs (.slice a_A a_.length a_C) rfl rfl fun a hf => ?_
  refine S.v hf hs (iv (a_.length : Int)) rfl (V.len rfl rfl Tryz.runUnderlying128) fun a hf => ?_
  refine S.p hf hs (iv 0) rfl rfl fun a hf => ?_
  refine R.nil (X.then_ (wp_block ?_))
  have hlenk1 := hv_a_.len64
  refine C.range (fun (ll : List (List Cell)) a w => ∃ (k1 : Nat) , a_.drop k1 = ll ∧ k1 + ll.length = a_.length ∧ forIn' (fun k x (s : Unit) next => M_ref7_SameWays_L1 b Q k x (next ())) (fun (s : Unit) => Q true) ll k1 () ∧ FrOk 27 [(13, iv (k1 : Int)), (0, .slice a_A a_.length a_C), (1, .slice bA b.length bC), (12, iv (a_.length : Int))] a ∧ Sat w0 none_ [] w) a_ ⟨0, rfl, Nat.zero_add _, h, ((((hf.nil.cons (hf.get 12 _ rfl)).cons (hf.get 1 _ rfl)).cons (hf.get 0 _ rfl)).cons (hf.get 13 _ rfl)), hs⟩ ?_
  clear h hf hs
  rintro llk1 a w ⟨k1, hlk1, hkk1, h, hf, hs⟩
  cases llk1 with
  | nil =>
   have hc := range_done hkk1
   replace h : Q true := h
   refine wp_seq (R.list ?_)
   refine S.v hf hs (.bool false) rfl (V.cmp false rfl rfl rfl rfl hc) fun a hf => ?_
   refine R.nil (X.then_ (wp_seq ?_))
   refine C.no hf rfl ?_
   refine wp_exit (X.then_exit (X.then_exit (X.blk_exit (X.then_ (wp_seq (R.list ?_))))))
   refine S.p hf hs (.bool true) rfl rfl fun a hf => ?_
   refine R.nil (X.then_ (wp_ret ?_))
   exact L.ret hf (run_results1 Tryz.results73 (ResIs.tmp hf rfl)) ⟨true, rfl, h, hs.nil⟩
  | cons xk1 llk1 =>
   have hltk1 := range_lt hkk1; have hc := range_go hkk1; have hxk1 := range_get hlk1
   obtain ⟨next1, hnext1⟩ : ∃ X : Prop, X = (forIn' (fun k x (s : Unit) next => M_ref7_SameWays_L1 b Q k x (next ())) (fun (s : Unit) => Q true) llk1 (k1 + 1) ()) := ⟨_, rfl⟩
   replace h : M_ref7_SameWays_L1 b Q k1 xk1  next1 := by rw [hnext1]; exact h
   unfold M_ref7_SameWays_L1 at h
   refine wp_seq (R.list ?_)
   refine S.v hf hs (.bool true) rfl (V.cmp true rfl rfl rfl rfl hc) fun a hf => ?_
   refine R.nil (X.then_ (wp_seq ?_))
   refine C.yes hf rfl ?_
   refine wp_skip (X.then_ (wp_seq (wp_block (wp_seq (R.list ?_)))))
   refine S.p hf hs (iv (k1 : Int)) rfl rfl fun a hf => ?_
   refine S.p hf hs (iv (k1 : Int)) rfl rfl fun a hf => ?_
   refine R.nil (X.then_ (wp_seq ?_))
   refine H.start (S := Sat w0 none_ []) mo ?_
   replace hs := hs.drew
   refine H.v hf hs (.slice a_A a_.length a_C) 0 rfl rfl (by kernel_rfl) (V.pure rfl) fun a hf => ?_
   refine H.v hf hs (iv (k1 : Int)) 1 rfl rfl (by kernel_rfl) (V.pure rfl) fun a hf => ?_
   obtain ⟨cs1, he1, hr1⟩ := hv_a_.at_ _ _ hxk1
   obtain ⟨u1A, u1C, rfl, hvu1⟩ := hr1
   refine H.v hf hs (elemPtr a_A (k1 * 1)) 2 rfl rfl (by kernel_rfl) (V.index rfl rfl rfl Tryz.runUnderlying128 Tryz.sizeOf131 (hv_a_.some_ (lt_of_get hxk1)) (Int.natCast_nonneg _) (lt_of_get hxk1) rfl) fun a hf => ?_
   refine H.v hf hs (.slice u1A xk1.length u1C) 3 rfl rfl (by kernel_rfl) (V.loadEl (off := 0) (Ag.args _ _ _) he1 rfl rfl rfl Tryz.isAgg131 Tryz.sizeOf131 rfl rfl) fun a hf => ?_
   refine H.v hf hs (.slice bA b.length bC) 4 rfl rfl (by kernel_rfl) (V.pure rfl) fun a hf => ?_
   refine H.v hf hs (iv (k1 : Int)) 5 rfl rfl (by kernel_rfl) (V.pure rfl) fun a hf => ?_
   obtain ⟨h0x1, x1, hx1, h⟩ := h
   obtain ⟨cs2, he2, hr2⟩ := hv_b.at_ _ _ hx1
   obtain ⟨u2A, u2C, rfl, hvu2⟩ := hr2
   refine H.v hf hs (elemPtr bA (k1 * 1)) 6 rfl rfl (by kernel_rfl) (V.index rfl rfl rfl Tryz.runUnderlying128 Tryz.sizeOf131 (hv_b.some_ (lt_of_get hx1)) (Int.natCast_nonneg _) (lt_of_get hx1) rfl) fun a hf => ?_
   refine H.v hf hs (.slice u2A x1.length u2C) 7 rfl rfl (by kernel_rfl) (V.loadEl (off := 0) (Ag.args _ _ _) he2 rfl rfl rfl Tryz.isAgg131 Tryz.sizeOf131 rfl rfl) fun a hf => ?_
   refine H.one (i := 8) rfl (by kernel_rfl) ?_
   refine S.call hf rfl rfl rfl (call_fn (vs := [.slice u1A xk1.length u1C, .slice u2A x1.length u2C]) rfl rfl rfl Tryz.call134) (R_equal_cell xk1 x1 _ u1A u1C ((Ag.args _ _ _).view hvu1 hs) u2A u2C ((Ag.args _ _ _).view hvu2 hs) _ h) (fun v a w' hf hr => ?_)
   obtain ⟨y1, rfl, h2, hs2⟩ := hr
   replace h := h2; replace hs := hs.call hs2; clear h2 hs2
   refine R.nil (X.then_ ?_)
   refine ⟨hs, ?_⟩
   refine H.v hf hs (.bool (!y1)) 9 rfl rfl (by kernel_rfl) (V.pure rfl) fun a hf => ?_
   refine H.done (by kernel_rfl) ?_
   refine X.then_ ?_
   refine C.cond hf (b := !y1) rfl (fun hc => ?_) (fun hc => ?_)
   ·replace h := h.1 hc
    refine wp_seq (R.list ?_)
    refine S.p hf hs (.bool false) rfl rfl fun a hf => ?_
    refine R.nil (X.then_ (wp_ret (X.blk_ret (X.then_ret (X.then_ret (X.blk_ret (X.then_ret ?_)))))))
    exact L.ret hf (run_results1 Tryz.results73 (ResIs.tmp hf rfl)) ⟨false, rfl, h, hs.nil⟩
   ·replace h := h.2 hc
    refine wp_skip (X.blk (X.then_ (R.list ?_)))
    refine S.v hf hs (iv ((k1 + 1 : Nat) : Int)) rfl (V.incr rfl rfl rfl hltk1 hlenk1) fun a hf => ?_
    refine S.p hf hs (iv ((k1 + 1 : Nat) : Int)) rfl rfl fun a hf => ?_
    refine R.nil (X.then_ ?_)
    exact ⟨xk1, llk1, rfl, k1 + 1, range_drop hlk1, range_len hkk1, (by rw [hnext1] at h; exact h), ((((hf.nil.cons (hf.get 12 _ rfl)).cons (hf.get 1 _ rfl)).cons (hf.get 0 _ rfl)).cons (hf.get 13 _ rfl)), hs⟩
set_option linter.unusedVariables false
def M_ref7_SameRouted_k2 (Q : Bool → Prop) (next1 : Prop) (c1 : Bool) : Prop :=
  cnd c1 (Q false) (next1)
def M_ref7_SameRouted_L1 (b : (List Routed)) (Q : Bool → Prop) (k1 : Nat) (xk1 : Routed)  (next1 : Prop) : Prop :=
  idx b (k1 : Int) fun x1 => cnd (!(xk1.Net == x1.Net)) (M_ref7_SameRouted_k2 Q next1 true) (M_ref7_SameWays xk1.Ways x1.Ways fun y1 => M_ref7_SameRouted_k2 Q next1 (!y1))
def M_ref7_SameRouted (a_ : (List Routed)) (b : (List Routed)) (Q : Bool → Prop) : Prop :=
  cnd ((a_.length : Int) != (b.length : Int)) (Q false) (forIn' (fun k x (s : Unit) next => M_ref7_SameRouted_L1 b Q k x (next ())) (fun (s : Unit) => Q true) a_ 0 ())
set_option maxHeartbeats 1000000 in
theorem R_ref7_SameRouted (a_ : (List Routed)) (b : (List Routed)) (w0 : World) (a_A : Option Addr) (a_C : Nat) (hv_a_ : View w0 (old w0 none_) a_A a_C a_) (bA : Option Addr) (bC : Nat) (hv_b : View w0 (old w0 none_) bA bC b) (Q : Bool → Prop) (h : M_ref7_SameRouted a_ b Q) :
  Ret Tryz.prog 34 #[.slice a_A a_.length a_C, .slice bA b.length bC] w0 fun v w' => ∃ (r0 : Bool), v = .bool r0 ∧ Q r0 ∧ Sat w0 none_ [] w' := by
 refine fn_enter Tryz.func34 rfl Tryz.ntmps34 rfl (fs := [(0, .slice a_A a_.length a_C), (1, .slice bA b.length bC)]) rfl (fun a hf => ?_)
 have hs := Sat.start w0 none_
 unfold M_ref7_SameRouted at h
 refine wp_seq (R.list ?_)
 refine S.p hf hs (.bool false) rfl rfl fun a hf => ?_
 refine R.nil (X.then_ (wp_seq (wp_seq (R.list ?_))))
 refine S.p hf hs (.slice a_A a_.length a_C) rfl rfl fun a hf => ?_
 refine S.v hf hs (iv (a_.length : Int)) rfl (V.len rfl rfl Tryz.runUnderlying62) fun a hf => ?_
 refine S.p hf hs (.slice bA b.length bC) rfl rfl fun a hf => ?_
 refine S.v hf hs (iv (b.length : Int)) rfl (V.len rfl rfl Tryz.runUnderlying62) fun a hf => ?_
 refine S.p hf hs (.bool ((a_.length : Int) != (b.length : Int))) rfl rfl fun a hf => ?_
 refine R.nil (X.then_ ?_)
 refine C.cond hf (b := (a_.length : Int) != (b.length : Int)) rfl (fun hc => ?_) (fun hc => ?_)
 ·replace h := h.1 hc
  refine wp_seq (R.list ?_)
  refine S.p hf hs (.bool false) rfl rfl fun a hf => ?_
  refine R.nil (X.then_ (wp_ret (X.then_ret ?_)))
  exact L.ret hf (run_results1 Tryz.results34 (ResIs.tmp hf rfl)) ⟨false, rfl, h, hs.nil⟩
 ·replace h := h.2 hc
  refine wp_skip (X.then_ (wp_seq (wp_seq (R.list ?_))))
  refine S.p hf hs (.slice a_A a_.length a_C) rfl rfl fun a hf => ?_
  refine S.v hf hs (iv (a_.length : Int)) rfl (V.len rfl rfl Tryz.runUnderlying62) fun a hf => ?_
  refine S.p hf hs (iv 0) rfl rfl fun a hf => ?_
  refine R.nil (X.then_ (wp_block ?_))
  have hlenk1 := hv_a_.len64
  refine C.range (fun (ll : List Routed) a w => ∃ (k1 : Nat) , a_.drop k1 = ll ∧ k1 + ll.length = a_.length ∧ forIn' (fun k x (s : Unit) next => M_ref7_SameRouted_L1 b Q k x (next ())) (fun (s : Unit) => Q true) ll k1 () ∧ FrOk 42 [(13, iv (k1 : Int)), (0, .slice a_A a_.length a_C), (1, .slice bA b.length bC), (12, iv (a_.length : Int))] a ∧ Sat w0 none_ [] w) a_ ⟨0, rfl, Nat.zero_add _, h, ((((hf.nil.cons (hf.get 12 _ rfl)).cons (hf.get 1 _ rfl)).cons (hf.get 0 _ rfl)).cons (hf.get 13 _ rfl)), hs⟩ ?_
  clear h hf hs
  rintro llk1 a w ⟨k1, hlk1, hkk1, h, hf, hs⟩
  cases llk1 with
  | nil =>
   have hc := range_done hkk1
   replace h : Q true := h
   refine wp_seq (R.list ?_)
   refine S.v hf hs (.bool false) rfl (V.cmp false rfl rfl rfl rfl hc) fun a hf => ?_
   refine R.nil (X.then_ (wp_seq ?_))
   refine C.no hf rfl ?_
   refine wp_exit (X.then_exit (X.then_exit (X.blk_exit (X.then_ (wp_seq (R.list ?_))))))
   refine S.p hf hs (.bool true) rfl rfl fun a hf => ?_
   refine R.nil (X.then_ (wp_ret ?_))
   exact L.ret hf (run_results1 Tryz.results34 (ResIs.tmp hf rfl)) ⟨true, rfl, h, hs.nil⟩
  | cons xk1 llk1 =>
   have hltk1 := range_lt hkk1; have hc := range_go hkk1; have hxk1 := range_get hlk1
   obtain ⟨next1, hnext1⟩ : ∃ X : Prop, X = (forIn' (fun k x (s : Unit) next => M_ref7_SameRouted_L1 b Q k x (next ())) (fun (s : Unit) => Q true) llk1 (k1 + 1) ()) := ⟨_, rfl⟩
   replace h : M_ref7_SameRouted_L1 b Q k1 xk1  next1 := by rw [hnext1]; exact h
   unfold M_ref7_SameRouted_L1 at h
   refine wp_seq (R.list ?_)
   refine S.v hf hs (.bool true) rfl (V.cmp true rfl rfl rfl rfl hc) fun a hf => ?_
   refine R.nil (X.then_ (wp_seq ?_))
   refine C.yes hf rfl ?_
   refine wp_skip (X.then_ (wp_seq (wp_block (wp_seq (R.list ?_)))))
   refine S.p hf hs (iv (k1 : Int)) rfl rfl fun a hf => ?_
   refine S.p hf hs (iv (k1 : Int)) rfl rfl fun a hf => ?_
   refine R.nil (X.then_ (wp_seq ?_))
   refine C.cut (J := fun a w => ∃ (c1 : Bool), M_ref7_SameRouted_k2 Q next1 c1 ∧ FrOk 42 [(0, .slice a_A a_.length a_C), (1, .slice bA b.length bC), (12, iv (a_.length : Int)), (13, iv (k1 : Int)), (40, .bool c1)] a ∧ Sat w0 none_ [] w) ?_ ?_
   ·rintro a w ⟨c1, h, hf, hs⟩
    unfold M_ref7_SameRouted_k2 at h
    refine C.cond hf (b := c1) rfl (fun hc => ?_) (fun hc => ?_)
    ·replace h := h.1 hc
     refine wp_seq (R.list ?_)
     refine S.p hf hs (.bool false) rfl rfl fun a hf => ?_
     refine R.nil (X.then_ (wp_ret (X.blk_ret (X.then_ret (X.then_ret (X.blk_ret (X.then_ret ?_)))))))
     exact L.ret hf (run_results1 Tryz.results34 (ResIs.tmp hf rfl)) ⟨false, rfl, h, hs.nil⟩
    ·replace h := h.2 hc
     refine wp_skip (X.blk (X.then_ (R.list ?_)))
     refine S.v hf hs (iv ((k1 + 1 : Nat) : Int)) rfl (V.incr rfl rfl rfl hltk1 hlenk1) fun a hf => ?_
     refine S.p hf hs (iv ((k1 + 1 : Nat) : Int)) rfl rfl fun a hf => ?_
     refine R.nil (X.then_ ?_)
     exact ⟨xk1, llk1, rfl, k1 + 1, range_drop hlk1, range_len hkk1, (by rw [hnext1] at h; exact h), ((((hf.nil.cons (hf.get 12 _ rfl)).cons (hf.get 1 _ rfl)).cons (hf.get 0 _ rfl)).cons (hf.get 13 _ rfl)), hs⟩
   ·skip
    refine H.start (S := Sat w0 none_ []) mo ?_
    replace hs := hs.drew
    refine H.v hf hs (.slice a_A a_.length a_C) 0 rfl rfl (by kernel_rfl) (V.pure rfl) fun a hf => ?_
    refine H.v hf hs (iv (k1 : Int)) 1 rfl rfl (by kernel_rfl) (V.pure rfl) fun a hf => ?_
    obtain ⟨cs1, he1, hr1⟩ := hv_a_.at_ _ _ hxk1
    obtain ⟨u1A, u1C, rfl, hvu1⟩ := hr1
    refine H.v hf hs (elemPtr a_A (k1 * 2)) 2 rfl rfl (by kernel_rfl) (V.index rfl rfl rfl Tryz.runUnderlying62 Tryz.sizeOf130 (hv_a_.some_ (lt_of_get hxk1)) (Int.natCast_nonneg _) (lt_of_get hxk1) rfl) fun a hf => ?_
    refine H.v hf hs (elemPtr a_A (k1 * 2)) 3 rfl rfl (by kernel_rfl) (V.fieldEl rfl rfl (hv_a_.some_ (lt_of_get hxk1)) Tryz.runUnderlying130 rfl Tryz.sizeOf9 rfl rfl) fun a hf => ?_
    refine H.v hf hs (.string (ba xk1.Net)) 4 rfl rfl (by kernel_rfl) (V.loadEl (off := 0) (Ag.args _ _ _) he1 rfl rfl rfl Tryz.isAgg9 Tryz.sizeOf9 rfl rfl) fun a hf => ?_
    refine H.v hf hs (.slice bA b.length bC) 5 rfl rfl (by kernel_rfl) (V.pure rfl) fun a hf => ?_
    refine H.v hf hs (iv (k1 : Int)) 6 rfl rfl (by kernel_rfl) (V.pure rfl) fun a hf => ?_
    obtain ⟨h0x1, x1, hx1, h⟩ := h
    obtain ⟨cs2, he2, hr2⟩ := hv_b.at_ _ _ hx1
    obtain ⟨u2A, u2C, rfl, hvu2⟩ := hr2
    refine H.v hf hs (elemPtr bA (k1 * 2)) 7 rfl rfl (by kernel_rfl) (V.index rfl rfl rfl Tryz.runUnderlying62 Tryz.sizeOf130 (hv_b.some_ (lt_of_get hx1)) (Int.natCast_nonneg _) (lt_of_get hx1) rfl) fun a hf => ?_
    refine H.v hf hs (elemPtr bA (k1 * 2)) 8 rfl rfl (by kernel_rfl) (V.fieldEl rfl rfl (hv_b.some_ (lt_of_get hx1)) Tryz.runUnderlying130 rfl Tryz.sizeOf9 rfl rfl) fun a hf => ?_
    refine H.v hf hs (.string (ba x1.Net)) 9 rfl rfl (by kernel_rfl) (V.loadEl (off := 0) (Ag.args _ _ _) he2 rfl rfl rfl Tryz.isAgg9 Tryz.sizeOf9 rfl rfl) fun a hf => ?_
    refine H.v hf hs (.bool (!(xk1.Net == x1.Net))) 10 rfl rfl (by kernel_rfl) (V.strCmp (!(xk1.Net == x1.Net)) rfl rfl rfl rfl) fun a hf => ?_
    refine H.split hf hs (b := !(xk1.Net == x1.Net)) (i := 11) rfl rfl rfl rfl (by kernel_rfl) (by kernel_rfl) (by kernel_rfl) (V.pure rfl) (fun hc a hf => ?_) (fun hc a hf => ?_)
    ·replace h := h.1 hc
     refine H.k hf hs 12 rfl rfl (by kernel_rfl) fun a hf => ?_
     refine H.k hf hs 13 rfl rfl (by kernel_rfl) fun a hf => ?_
     refine H.k hf hs 14 rfl rfl (by kernel_rfl) fun a hf => ?_
     refine H.k hf hs 15 rfl rfl (by kernel_rfl) fun a hf => ?_
     refine H.k hf hs 16 rfl rfl (by kernel_rfl) fun a hf => ?_
     refine H.k hf hs 17 rfl rfl (by kernel_rfl) fun a hf => ?_
     refine H.k hf hs 18 rfl rfl (by kernel_rfl) fun a hf => ?_
     refine H.k hf hs 19 rfl rfl (by kernel_rfl) fun a hf => ?_
     refine H.k hf hs 20 rfl rfl (by kernel_rfl) fun a hf => ?_
     refine H.k hf hs 21 rfl rfl (by kernel_rfl) fun a hf => ?_
     refine H.one (i := 22) rfl (by kernel_rfl) ?_
     refine S.k hf rfl fun a hf => ?_
     refine R.nil (X.then_ ?_)
     refine ⟨hs, ?_⟩
     refine H.k hf hs 23 rfl rfl (by kernel_rfl) fun a hf => ?_
     refine H.v hf hs (.bool true) 24 rfl rfl (by kernel_rfl) (V.pure rfl) fun a hf => ?_
     refine H.done (by kernel_rfl) ?_
     refine X.then_ ?_
     exact ⟨true, h, (((((hf.nil.cons (hf.get 40 _ rfl)).cons (hf.get 13 _ rfl)).cons (hf.get 12 _ rfl)).cons (hf.get 1 _ rfl)).cons (hf.get 0 _ rfl)), hs⟩
    ·replace h := h.2 hc
     refine H.v hf hs (.slice a_A a_.length a_C) 12 rfl rfl (by kernel_rfl) (V.pure rfl) fun a hf => ?_
     refine H.v hf hs (iv (k1 : Int)) 13 rfl rfl (by kernel_rfl) (V.pure rfl) fun a hf => ?_
     refine H.v hf hs (elemPtr a_A (k1 * 2)) 14 rfl rfl (by kernel_rfl) (V.index rfl rfl rfl Tryz.runUnderlying62 Tryz.sizeOf130 (hv_a_.some_ (lt_of_get hxk1)) (Int.natCast_nonneg _) (lt_of_get hxk1) rfl) fun a hf => ?_
     refine H.v hf hs (elemPtr a_A (k1 * 2 + 1)) 15 rfl rfl (by kernel_rfl) (V.fieldEl rfl rfl (hv_a_.some_ (lt_of_get hxk1)) Tryz.runUnderlying130 rfl Tryz.sizeOf128 rfl rfl) fun a hf => ?_
     refine H.v hf hs (.slice u1A xk1.Ways.length u1C) 16 rfl rfl (by kernel_rfl) (V.loadEl (off := 1) (Ag.args _ _ _) he1 rfl rfl rfl Tryz.isAgg128 Tryz.sizeOf128 rfl rfl) fun a hf => ?_
     refine H.v hf hs (.slice bA b.length bC) 17 rfl rfl (by kernel_rfl) (V.pure rfl) fun a hf => ?_
     refine H.v hf hs (iv (k1 : Int)) 18 rfl rfl (by kernel_rfl) (V.pure rfl) fun a hf => ?_
     refine H.v hf hs (elemPtr bA (k1 * 2)) 19 rfl rfl (by kernel_rfl) (V.index rfl rfl rfl Tryz.runUnderlying62 Tryz.sizeOf130 (hv_b.some_ (lt_of_get hx1)) (Int.natCast_nonneg _) (lt_of_get hx1) rfl) fun a hf => ?_
     refine H.v hf hs (elemPtr bA (k1 * 2 + 1)) 20 rfl rfl (by kernel_rfl) (V.fieldEl rfl rfl (hv_b.some_ (lt_of_get hx1)) Tryz.runUnderlying130 rfl Tryz.sizeOf128 rfl rfl) fun a hf => ?_
     refine H.v hf hs (.slice u2A x1.Ways.length u2C) 21 rfl rfl (by kernel_rfl) (V.loadEl (off := 1) (Ag.args _ _ _) he2 rfl rfl rfl Tryz.isAgg128 Tryz.sizeOf128 rfl rfl) fun a hf => ?_
     refine H.one (i := 22) rfl (by kernel_rfl) ?_
     refine S.call hf rfl rfl rfl (call_fn (vs := [.slice u1A xk1.Ways.length u1C, .slice u2A x1.Ways.length u2C]) rfl rfl rfl Tryz.call73) (R_ref7_SameWays xk1.Ways x1.Ways _ u1A u1C ((Ag.args _ _ _).view hvu1 hs) u2A u2C ((Ag.args _ _ _).view hvu2 hs) _ h) (fun v a w' hf hr => ?_)
     obtain ⟨y1, rfl, h2, hs2⟩ := hr
     replace h := h2; replace hs := hs.call hs2; clear h2 hs2
     refine R.nil (X.then_ ?_)
     refine ⟨hs, ?_⟩
     refine H.v hf hs (.bool (!y1)) 23 rfl rfl (by kernel_rfl) (V.pure rfl) fun a hf => ?_
     refine H.v hf hs (.bool (!y1)) 24 rfl rfl (by kernel_rfl) (V.pure rfl) fun a hf => ?_
     refine H.done (by kernel_rfl) ?_
     refine X.then_ ?_
     exact ⟨(!y1), h, (((((hf.nil.cons (hf.get 40 _ rfl)).cons (hf.get 13 _ rfl)).cons (hf.get 12 _ rfl)).cons (hf.get 1 _ rfl)).cons (hf.get 0 _ rfl)), hs⟩
end Go.Proofs.YtdnilnmdbgcmoaaGreatDoor
