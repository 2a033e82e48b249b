/- Writing bits and jobs: the walks. -/
import Derived.Test.YtdnilnmdbgcmoaaGreatDoorDrC
import Derived.Test.YtdnilnmdbgcmoaaGreatDoorTextU
namespace Go.Proofs.YtdnilnmdbgcmoaaGreatDoor
open Go Go.RowKit Go.Proofs Go.Shelf Go.Lib
set_option linter.unusedVariables false

set_option linter.unusedVariables false
def M_drill_line (words : (List Str)) (b : StringsBuilder) (Q : StringsBuilder → Prop) : Prop :=
  M_strings_Join words [32] fun y1 => must (y1.length + [10].length ≤ 9223372036854775807) (M_bld_WriteString b (y1 ++ [10]) fun y2 y3 z1 => Q z1)
set_option maxHeartbeats 1000000 in
theorem R_drill_line (words : (List Str)) (b : StringsBuilder) (w0 : World) (F0 : Nat → Prop) (wordsA : Option Addr) (wordsC : Nat) (hv_words : View w0 (old w0 F0) wordsA wordsC words) (bg : Nat) (b_bufA : Option Addr) (b_bufC : Nat) (hs0 : Sat w0 F0 [hbox bg 101 [.pointer (selfp b.addr bg), .slice b_bufA b.buf.length b_bufC], hown 5 b_bufA b_bufC b.buf] w0) (Q : StringsBuilder → Prop) (h : M_drill_line words b Q) :
    Ret Tryz.prog 64 #[.slice wordsA words.length wordsC, .pointer (some ⟨bg, 0, none⟩)] w0 fun v w' => ∃ (b1 : StringsBuilder) (b1_bufA : Option Addr) (b1_bufC : Nat), v = .tuple #[] ∧ Q b1 ∧ Sat w0 F0 [hbox bg 101 [.pointer (selfp b1.addr bg), .slice b1_bufA b1.buf.length b1_bufC], hown 5 b1_bufA b1_bufC b1.buf] w' := by
  refine fn_enter Tryz.func64 rfl Tryz.ntmps64 rfl (fs := [(0, .slice wordsA words.length wordsC), (1, .pointer (some ⟨bg, 0, none⟩))]) rfl (fun a hf => ?_)
  have hs := hs0
  unfold M_drill_line at h
  refine R.list ?_
  refine S.val hf hs (v := .slice wordsA words.length wordsC) rfl rfl rfl (V.pure rfl) (fun a hf => ?_)
  refine S.call hf rfl rfl rfl (call_fn (vs := [.slice wordsA words.length wordsC, .string (ba [32])]) rfl rfl rfl Tryz.call65) (R_strings_Join words [32] _ wordsA wordsC ((Ag.args _ _ _).view hv_words hs) _ h) (fun v a w' hf hr => ?_)
  obtain ⟨y1, rfl, h2, hs2⟩ := hr
  replace h := h2; replace hs := hs.call hs2; clear h2 hs2
  obtain ⟨hcat, h⟩ := h
  refine S.val hf hs (v := .string (ba (y1 ++ [10]))) rfl rfl rfl (V.strAdd rfl rfl rfl hcat) (fun a hf => ?_)
  replace hs := hs.front 1 rfl
  replace hs := hs.front 1 rfl
  obtain ⟨F1, hsF, hback, hold, hrest⟩ := Sat.callOwns [hbox bg 101 [.pointer (selfp b.addr bg), .slice b_bufA b.buf.length b_bufC], hown 5 b_bufA b_bufC b.buf] (σ := []) hs
  refine S.call hf rfl rfl rfl (call_fn (vs := [.pointer (some ⟨bg, 0, none⟩), .string (ba (y1 ++ [10]))]) rfl rfl rfl Tryz.call54) (R_bld_WriteString b (y1 ++ [10]) _ _ bg b_bufA b_bufC hsF _ h) (fun v a w' hf hr => ?_)
  obtain ⟨y2, y3, z1, z1_bufA, z1_bufC, rfl, h2, hs2⟩ := hr
  replace h := h2; replace hs := hback _ _ hs2; clear h2 hs2 hback hold hrest hsF
  refine R.nil ?_
  replace hs := hs.front 1 rfl
  replace hs := hs.front 1 rfl
  replace hs := hs.take 2
  exact L.end0 Tryz.results64 hf ⟨z1, z1_bufA, z1_bufC, rfl, h, hs⟩

set_option linter.unusedVariables false
def M_drill_Text_k4 (xk3 : Hole) (l6 : List UInt8) (b6 : Bool) (next3 : List UInt8 → Bool → Prop) (s1 : Str) : Prop :=
  must (isI64 xk3.At.X) (must (isI64 xk3.At.Y) (must (isI64 xk3.Size) (must (isI64 xk3.Depth) (M_drill_line ([[104, 111, 108, 101], (itoaS xk3.At.X), (itoaS xk3.At.Y), (itoaS xk3.Size), (itoaS xk3.Depth), s1] : List Str) (⟨b6, l6⟩ : StringsBuilder) fun z2 => next3 z2.buf z2.addr))))
def M_drill_Text_L3  (k3 : Nat) (xk3 : Hole) (l6 : List UInt8) (b6 : Bool) (next3 : List UInt8 → Bool → Prop) : Prop :=
  cnd xk3.Plated (M_drill_Text_k4 xk3 l6 b6 next3 [112]) (M_drill_Text_k4 xk3 l6 b6 next3 [45])
def M_drill_Text_L2  (k2 : Nat) (xk2 : Job) (l4 : List UInt8) (b4 : Bool) (next2 : List UInt8 → Bool → Prop) : Prop :=
  M_drill_line ([[106, 111, 98], xk2.Tool] : List Str) (⟨b4, l4⟩ : StringsBuilder) fun z1 => forIn' (fun k x (s : List UInt8 × Bool) next => M_drill_Text_L3 k x s.1 s.2 (fun l6 b6 => next (l6, b6))) (fun (s : List UInt8 × Bool) => (fun (l6 : List UInt8) (b6 : Bool) => next2 l6 b6) s.1 s.2) xk2.Holes 0 (z1.buf, z1.addr)
def M_drill_Text_L1  (k1 : Nat) (xk1 : Bit) (l2 : List UInt8) (b2 : Bool) (next1 : List UInt8 → Bool → Prop) : Prop :=
  must (isI64 xk1.Size) (must (isI64 xk1.Life) (must (isI64 xk1.Stack) (M_drill_line ([[116, 111, 111, 108], xk1.Name, (itoaS xk1.Size), (itoaS xk1.Life), (itoaS xk1.Stack)] : List Str) (⟨b2, l2⟩ : StringsBuilder) fun z3 => next1 z3.buf z3.addr)))
def M_drill_Text (t : (List Bit)) (j : (List Job)) (Q : Str → Int → Prop) : Prop :=
  M_drill_CheckJobs t j fun y1 => cnd (y1 != 0) (Q [] y1) (forIn' (fun k x (s : List UInt8 × Bool) next => M_drill_Text_L1 k x s.1 s.2 (fun l2 b2 => next (l2, b2))) (fun (s : List UInt8 × Bool) => (fun (l2 : List UInt8) (b2 : Bool) => forIn' (fun k x (s : List UInt8 × Bool) next => M_drill_Text_L2 k x s.1 s.2 (fun l4 b4 => next (l4, b4))) (fun (s : List UInt8 × Bool) => (fun (l4 : List UInt8) (b4 : Bool) => M_bld_Len (⟨b4, l4⟩ : StringsBuilder) fun y2 => cnd (decide (y2 > 500000)) (Q [] 2) (Q l4 0)) s.1 s.2) j 0 (l2, b2)) s.1 s.2) t 0 (([] : List UInt8), false))
set_option maxHeartbeats 1000000 in
theorem R_drill_Text (t : (List Bit)) (j : (List Job)) (w0 : World) (tA : Option Addr) (tC : Nat) (hv_t : View w0 (old w0 none_) tA tC t) (jA : Option Addr) (jC : Nat) (hv_j : View w0 (old w0 none_) jA jC j) (hT : TabIn Tryz.prog w0 (old w0 none_)) (Q : Str → Int → Prop) (h : M_drill_Text t j Q) :
    Ret Tryz.prog 28 #[.slice tA t.length tC, .slice jA j.length jC] w0 fun v w' => ∃ (r0 : Str) (r1 : Int), v = .tuple #[.string (ba r0), .int .i64 r1] ∧ Q r0 r1 ∧ Sat w0 none_ [] w' := by
  refine fn_enter Tryz.func28 rfl Tryz.ntmps28 rfl (fs := [(0, .slice tA t.length tC), (1, .slice jA j.length jC)]) rfl (fun a hf => ?_)
  have hs := Sat.start w0 none_
  unfold M_drill_Text at h
  refine wp_seq ?_
  refine R.list ?_
  refine S.val hf hs (v := .string (ba [])) rfl rfl rfl (V.pure rfl) (fun a hf => ?_)
  refine S.val hf hs (v := .int .i64 0) rfl rfl rfl (V.pure rfl) (fun a hf => ?_)
  refine R.nil ?_
  refine X.then_ ?_
  refine wp_seq ?_
  refine wp_seq ?_
  refine R.list ?_
  refine S.val hf hs (v := .slice tA t.length tC) rfl rfl rfl (V.pure rfl) (fun a hf => ?_)
  refine S.val hf hs (v := .slice jA j.length jC) rfl rfl rfl (V.pure rfl) (fun a hf => ?_)
  refine S.call hf rfl rfl rfl (call_fn (vs := [.slice tA t.length tC, .slice jA j.length jC]) rfl rfl rfl Tryz.call47) (R_drill_CheckJobs t j _ tA tC ((Ag.args _ _ _).view hv_t hs) jA jC ((Ag.args _ _ _).view hv_j hs) _ h) (fun v a w' hf hr => ?_)
  obtain ⟨y1, rfl, h2, hs2⟩ := hr
  replace h := h2; replace hs := hs.call hs2; clear h2 hs2
  refine S.val hf hs (v := .int .i64 y1) rfl rfl rfl (V.pure rfl) (fun a hf => ?_)
  refine R.nil ?_
  refine X.then_ ?_
  refine wp_seq ?_
  refine R.list ?_
  refine S.val hf hs (v := .int .i64 y1) rfl rfl rfl (V.pure rfl) (fun a hf => ?_)
  refine S.val hf hs (v := .bool (y1 != 0)) rfl rfl rfl (V.pure rfl) (fun a hf => ?_)
  refine R.nil ?_
  refine X.then_ ?_
  refine C.cond hf (b := y1 != 0) rfl (fun hc => ?_) (fun hc => ?_)
  · replace h := h.1 hc
    refine wp_seq ?_
    refine R.list ?_
    refine S.val hf hs (v := .int .i64 y1) rfl rfl rfl (V.pure rfl) (fun a hf => ?_)
    refine S.val hf hs (v := .string (ba [])) rfl rfl rfl (V.pure rfl) (fun a hf => ?_)
    refine S.val hf hs (v := .int .i64 y1) rfl rfl rfl (V.pure rfl) (fun a hf => ?_)
    refine R.nil ?_
    refine X.then_ ?_
    refine wp_ret ?_
    refine X.then_ret ?_
    exact L.ret hf (run_results2 Tryz.results28 (ResIs.tmp hf rfl) (ResIs.tmp hf rfl)) ⟨[], y1, rfl, h, hs.nil⟩
  · replace h := h.2 hc
    refine wp_skip ?_
    refine X.then_ ?_
    refine wp_seq ?_
    refine R.list ?_
    refine S.alloc hf hs rfl rfl rfl [.pointer none, .slice none 0 0] rfl Tryz.zeroValue101 rfl (fun g1 a w hf hs => ?_)
    refine R.nil ?_
    refine X.then_ ?_
    refine wp_seq ?_
    refine R.list ?_
    refine S.val hf hs (v := .func (.func 64) #[] #[.pointer (some ⟨g1, 0, none⟩)]) rfl rfl rfl (V.pure rfl) (fun a hf => ?_)
    refine S.val hf hs (v := .func (.func 64) #[] #[.pointer (some ⟨g1, 0, none⟩)]) rfl rfl rfl (V.pure rfl) (fun a hf => ?_)
    refine R.nil ?_
    refine X.then_ ?_
    refine wp_seq ?_
    refine R.list ?_
    refine S.val hf hs (v := .func (.func 55) #[] #[]) rfl rfl rfl (V.pure rfl) (fun a hf => ?_)
    refine R.nil ?_
    refine X.then_ ?_
    refine wp_seq ?_
    refine wp_seq ?_
    refine R.list ?_
    refine S.val hf hs (v := .slice tA t.length tC) rfl rfl rfl (V.pure rfl) (fun a hf => ?_)
    refine S.val hf hs (v := .int .i64 (t.length : Int)) rfl rfl rfl (V.len rfl rfl Tryz.runUnderlying35) (fun a hf => ?_)
    refine S.val hf hs (v := .int .i64 0) rfl rfl rfl (V.pure rfl) (fun a hf => ?_)
    refine R.nil ?_
    refine X.then_ ?_
    refine wp_block ?_
    replace hs := hs.nilOwn (α := UInt8) 5
    replace hs := hs.rebox 1 (vs' := [.pointer (selfp false g1), .slice none ([] : List UInt8).length 0]) rfl rfl
    replace hs := hs.front 1 rfl
    have hlenk1 := hv_t.len64
    refine C.range (fun (ll : List Bit) a w => ∃ (k1 : Nat) (l2 : List UInt8) (l2A : Option Addr) (l2C : Nat) (b2 : Bool), t.drop k1 = ll ∧ k1 + ll.length = t.length ∧ forIn' (fun k x (s : List UInt8 × Bool) next => M_drill_Text_L1 k x s.1 s.2 (fun l2 b2 => next (l2, b2))) (fun (s : List UInt8 × Bool) => (fun (l2 : List UInt8) (b2 : Bool) => forIn' (fun k x (s : List UInt8 × Bool) next => M_drill_Text_L2 k x s.1 s.2 (fun l4 b4 => next (l4, b4))) (fun (s : List UInt8 × Bool) => (fun (l4 : List UInt8) (b4 : Bool) => M_bld_Len (⟨b4, l4⟩ : StringsBuilder) fun y2 => cnd (decide (y2 > 500000)) (Q [] 2) (Q l4 0)) s.1 s.2) j 0 (l2, b2)) s.1 s.2) ll k1 (l2, b2) ∧ FrOk 95 [(26, .int .i64 (k1 : Int)), (1, .slice jA j.length jC), (7, .pointer (some ⟨g1, 0, none⟩)), (8, .func (.func 64) #[] #[.pointer (some ⟨g1, 0, none⟩)]), (9, .func (.func 55) #[] #[]), (24, .slice tA t.length tC), (25, .int .i64 (t.length : Int))] a ∧ Sat w0 none_ [hbox g1 101 [.pointer (selfp b2 g1), .slice l2A l2.length l2C], hown 5 l2A l2C l2] w) t ⟨0, ([] : List UInt8), none, 0, false, rfl, Nat.zero_add _, h, (((((((hf.nil.cons (hf.get 25 _ rfl)).cons (hf.get 24 _ rfl)).cons (hf.get 9 _ rfl)).cons (hf.get 8 _ rfl)).cons (hf.get 7 _ rfl)).cons (hf.get 1 _ rfl)).cons (hf.get 26 _ rfl)), hs⟩ ?_
    clear h hf hs
    rintro llk1 a w ⟨k1, l2, l2A, l2C, b2, hlk1, hkk1, h, hf, hs⟩
    cases llk1 with
    | nil =>
      have hc := range_done hkk1
      replace h : (fun (l2 : List UInt8) (b2 : Bool) => forIn' (fun k x (s : List UInt8 × Bool) next => M_drill_Text_L2 k x s.1 s.2 (fun l4 b4 => next (l4, b4))) (fun (s : List UInt8 × Bool) => (fun (l4 : List UInt8) (b4 : Bool) => M_bld_Len (⟨b4, l4⟩ : StringsBuilder) fun y2 => cnd (decide (y2 > 500000)) (Q [] 2) (Q l4 0)) s.1 s.2) j 0 (l2, b2)) l2 b2 := h
      refine wp_seq ?_
      refine R.list ?_
      refine S.val hf hs (v := .bool false) rfl rfl rfl (V.cmp false rfl rfl rfl rfl hc) (fun a hf => ?_)
      refine R.nil ?_
      refine X.then_ ?_
      refine wp_seq ?_
      refine C.no hf rfl ?_
      refine wp_exit ?_
      refine X.then_exit ?_
      refine X.then_exit ?_
      refine X.blk_exit ?_
      refine X.then_ ?_
      refine wp_seq ?_
      refine wp_seq ?_
      refine R.list ?_
      refine S.val hf hs (v := .slice jA j.length jC) rfl rfl rfl (V.pure rfl) (fun a hf => ?_)
      refine S.val hf hs (v := .int .i64 (j.length : Int)) rfl rfl rfl (V.len rfl rfl Tryz.runUnderlying36) (fun a hf => ?_)
      refine S.val hf hs (v := .int .i64 0) rfl rfl rfl (V.pure rfl) (fun a hf => ?_)
      refine R.nil ?_
      refine X.then_ ?_
      refine wp_block ?_
      have hlenk2 := hv_j.len64
      refine C.range (fun (ll : List Job) a w => ∃ (k2 : Nat) (l4 : List UInt8) (l4A : Option Addr) (l4C : Nat) (b4 : Bool), j.drop k2 = ll ∧ k2 + ll.length = j.length ∧ forIn' (fun k x (s : List UInt8 × Bool) next => M_drill_Text_L2 k x s.1 s.2 (fun l4 b4 => next (l4, b4))) (fun (s : List UInt8 × Bool) => (fun (l4 : List UInt8) (b4 : Bool) => M_bld_Len (⟨b4, l4⟩ : StringsBuilder) fun y2 => cnd (decide (y2 > 500000)) (Q [] 2) (Q l4 0)) s.1 s.2) ll k2 (l4, b4) ∧ FrOk 95 [(50, .int .i64 (k2 : Int)), (7, .pointer (some ⟨g1, 0, none⟩)), (8, .func (.func 64) #[] #[.pointer (some ⟨g1, 0, none⟩)]), (9, .func (.func 55) #[] #[]), (48, .slice jA j.length jC), (49, .int .i64 (j.length : Int))] a ∧ Sat w0 none_ [hbox g1 101 [.pointer (selfp b4 g1), .slice l4A l4.length l4C], hown 5 l4A l4C l4] w) j ⟨0, l2, l2A, l2C, b2, rfl, Nat.zero_add _, h, ((((((hf.nil.cons (hf.get 49 _ rfl)).cons (hf.get 48 _ rfl)).cons (hf.get 9 _ rfl)).cons (hf.get 8 _ rfl)).cons (hf.get 7 _ rfl)).cons (hf.get 50 _ rfl)), hs⟩ ?_
      clear h hf hs
      rintro llk2 a w ⟨k2, l4, l4A, l4C, b4, hlk2, hkk2, h, hf, hs⟩
      cases llk2 with
      | nil =>
        have hc := range_done hkk2
        replace h : (fun (l4 : List UInt8) (b4 : Bool) => M_bld_Len (⟨b4, l4⟩ : StringsBuilder) fun y2 => cnd (decide (y2 > 500000)) (Q [] 2) (Q l4 0)) l4 b4 := h
        refine wp_seq ?_
        refine R.list ?_
        refine S.val hf hs (v := .bool false) rfl rfl rfl (V.cmp false rfl rfl rfl rfl hc) (fun a hf => ?_)
        refine R.nil ?_
        refine X.then_ ?_
        refine wp_seq ?_
        refine C.no hf rfl ?_
        refine wp_exit ?_
        refine X.then_exit ?_
        refine X.then_exit ?_
        refine X.blk_exit ?_
        refine X.then_ ?_
        refine wp_seq ?_
        refine wp_seq ?_
        refine R.list ?_
        refine S.call hf rfl rfl rfl (call_fn (vs := [.pointer (some ⟨g1, 0, none⟩)]) rfl rfl rfl Tryz.call56) (R_bld_Len (⟨b4, l4⟩ : StringsBuilder) _ l4A l4C (hs.ownView 1 rfl) g1 (hs.boxAt 0 rfl) _ h) (fun v a w' hf hr => ?_)
        obtain ⟨y2, rfl, h2, hs2⟩ := hr
        replace h := h2; replace hs := hs.call hs2; clear h2 hs2
        refine S.val hf hs (v := .bool (decide (y2 > 500000))) rfl rfl rfl (V.pure rfl) (fun a hf => ?_)
        refine R.nil ?_
        refine X.then_ ?_
        refine C.cond hf (b := decide (y2 > 500000)) rfl (fun hc => ?_) (fun hc => ?_)
        · replace h := h.1 hc
          refine wp_seq ?_
          refine R.list ?_
          refine S.val hf hs (v := .string (ba [])) rfl rfl rfl (V.pure rfl) (fun a hf => ?_)
          refine S.val hf hs (v := .int .i64 2) rfl rfl rfl (V.pure rfl) (fun a hf => ?_)
          refine R.nil ?_
          refine X.then_ ?_
          refine wp_ret ?_
          refine X.then_ret ?_
          exact L.ret hf (run_results2 Tryz.results28 (ResIs.tmp hf rfl) (ResIs.tmp hf rfl)) ⟨[], 2, rfl, h, hs.nil⟩
        · replace h := h.2 hc
          refine wp_skip ?_
          refine X.then_ ?_
          refine wp_seq ?_
          refine R.list ?_
          refine S.call hf rfl rfl rfl (call_fn (vs := [.pointer (some ⟨g1, 0, none⟩)]) rfl rfl rfl Tryz.call57) (bldString 0 1 hs (g := g1) (f := b4) (A := l4A) (C := l4C) (s := l4) rfl rfl) (fun v a w' hf hr => ?_)
          obtain ⟨rfl, hs2⟩ := hr
          replace hs := hs2; clear hs2
          refine S.val hf hs (v := .string (ba l4)) rfl rfl rfl (V.pure rfl) (fun a hf => ?_)
          refine S.val hf hs (v := .int .i64 0) rfl rfl rfl (V.pure rfl) (fun a hf => ?_)
          refine R.nil ?_
          refine X.then_ ?_
          refine wp_ret ?_
          exact L.ret hf (run_results2 Tryz.results28 (ResIs.tmp hf rfl) (ResIs.tmp hf rfl)) ⟨l4, 0, rfl, h, hs.nil⟩
      | cons xk2 llk2 =>
        have hltk2 := range_lt hkk2; have hc := range_go hkk2; have hxk2 := range_get hlk2
        obtain ⟨next2, hnext2⟩ : ∃ X : List UInt8 → Bool → Prop, X = (fun l4 b4 => forIn' (fun k x (s : List UInt8 × Bool) next => M_drill_Text_L2 k x s.1 s.2 (fun l4 b4 => next (l4, b4))) (fun (s : List UInt8 × Bool) => (fun (l4 : List UInt8) (b4 : Bool) => M_bld_Len (⟨b4, l4⟩ : StringsBuilder) fun y2 => cnd (decide (y2 > 500000)) (Q [] 2) (Q l4 0)) s.1 s.2) llk2 (k2 + 1) (l4, b4)) := ⟨_, rfl⟩
        replace h : M_drill_Text_L2 k2 xk2 l4 b4 next2 := by rw [hnext2]; exact h
        unfold M_drill_Text_L2 at h
        refine wp_seq ?_
        refine R.list ?_
        refine S.val hf hs (v := .bool true) rfl rfl rfl (V.cmp true rfl rfl rfl rfl hc) (fun a hf => ?_)
        refine R.nil ?_
        refine X.then_ ?_
        refine wp_seq ?_
        refine C.yes hf rfl ?_
        refine wp_skip ?_
        refine X.then_ ?_
        refine wp_seq ?_
        refine wp_block ?_
        refine wp_seq ?_
        refine R.list ?_
        obtain ⟨cs1, he1, hr1⟩ := hv_j.at_ _ _ hxk2
        obtain ⟨u1A, u1C, rfl, hvu1⟩ := hr1
        refine S.val hf hs (v := elemPtr jA (k2 * 2)) rfl rfl rfl (V.index rfl rfl rfl Tryz.runUnderlying36 Tryz.sizeOf90 (hv_j.some_ (lt_of_get hxk2)) (Int.natCast_nonneg _) (lt_of_get hxk2) rfl) (fun a hf => ?_)
        refine S.val hf hs (v := .agg #[.string (ba xk2.Tool), .slice u1A xk2.Holes.length u1C]) rfl rfl rfl (V.loadEl (off := 0) (Ag.args _ _ _) he1 rfl rfl rfl Tryz.isAgg90 Tryz.sizeOf90 rfl rfl) (fun a hf => ?_)
        refine S.alloc hf hs rfl rfl rfl [.string (ba []), .slice none 0 0] rfl Tryz.zeroValue90 rfl (fun g2 a w hf hs => ?_)
        refine S.storeBox 0 hf hs rfl rfl [.string (ba xk2.Tool), .slice u1A xk2.Holes.length u1C] [.string (ba xk2.Tool), .slice u1A xk2.Holes.length u1C] rfl rfl rfl rfl rfl Tryz.sizeOf90 rfl rfl rfl rfl (fun a w hf hs => ?_)
        refine R.nil ?_
        refine X.then_ ?_
        refine wp_seq ?_
        refine R.list ?_
        refine S.val hf hs (v := .func (.func 64) #[] #[.pointer (some ⟨g1, 0, none⟩)]) rfl rfl rfl (V.pure rfl) (fun a hf => ?_)
        refine S.val hf hs (v := .pointer (some ⟨g2, 0, none⟩)) rfl rfl rfl (V.fieldBox rfl rfl Tryz.runUnderlying90 rfl Tryz.sizeOf9 rfl rfl) (fun a hf => ?_)
        refine S.val hf hs (v := .string (ba xk2.Tool)) rfl rfl rfl (V.loadBox 0 rfl rfl rfl Tryz.isAgg9 Tryz.sizeOf9 rfl rfl) (fun a hf => ?_)
        refine S.buildSlice hf hs rfl rfl rfl (α := Str) [[106, 111, 98], xk2.Tool] rfl rfl Tryz.runUnderlying74 Tryz.sizeOf9 Tryz.zeroValue9 (by kernel_rfl) rfl (by decide) (by decide) (fun A1 a w hf hs => ?_)
        replace hs := hs.front 3 rfl
        replace hs := hs.front 3 rfl
        obtain ⟨F1, hsF, hback, hold, hrest⟩ := Sat.callOwns [hbox g1 101 [.pointer (selfp b4 g1), .slice l4A l4.length l4C], hown 5 l4A l4C l4] (σ := [hown 9 A1 2 ([[106, 111, 98], xk2.Tool] : List Str), hbox g2 90 [.string (ba xk2.Tool), .slice u1A xk2.Holes.length u1C]]) hs
        refine S.call hf rfl rfl rfl (call_run (args := #[.slice A1 ([[106, 111, 98], xk2.Tool] : List Str).length 2, .pointer (some ⟨g1, 0, none⟩)]) rfl rfl rfl Tryz.call64 (by simp)) (R_drill_line ([[106, 111, 98], xk2.Tool] : List Str) (⟨b4, l4⟩ : StringsBuilder) _ _ A1 2 (ownViewF hrest 0 rfl) g1 l4A l4C hsF _ h) (fun v a w' hf hr => ?_)
        obtain ⟨z1, z1_bufA, z1_bufC, rfl, h2, hs2⟩ := hr
        replace h := h2; replace hs := hback _ _ hs2; clear h2 hs2 hback hold hrest hsF
        refine R.nil ?_
        refine X.then_ ?_
        refine wp_seq ?_
        refine R.list ?_
        refine S.val hf hs (v := .pointer (some ⟨g2, 1, none⟩)) rfl rfl rfl (V.fieldBox rfl rfl Tryz.runUnderlying90 rfl Tryz.sizeOf88 rfl rfl) (fun a hf => ?_)
        refine S.val hf hs (v := .slice u1A xk2.Holes.length u1C) rfl rfl rfl (V.loadBox 3 rfl rfl rfl Tryz.isAgg88 Tryz.sizeOf88 rfl rfl) (fun a hf => ?_)
        refine S.val hf hs (v := .int .i64 (xk2.Holes.length : Int)) rfl rfl rfl (V.len rfl rfl Tryz.runUnderlying88) (fun a hf => ?_)
        refine S.val hf hs (v := .int .i64 0) rfl rfl rfl (V.pure rfl) (fun a hf => ?_)
        refine R.nil ?_
        refine X.then_ ?_
        refine wp_block ?_
        replace hs := hs.front 1 rfl
        replace hs := hs.front 1 rfl
        replace hs := hs.take 2
        have hlenk3 := hvu1.len64
        refine C.range (fun (ll : List Hole) a w => ∃ (k3 : Nat) (l6 : List UInt8) (l6A : Option Addr) (l6C : Nat) (b6 : Bool), xk2.Holes.drop k3 = ll ∧ k3 + ll.length = xk2.Holes.length ∧ forIn' (fun k x (s : List UInt8 × Bool) next => M_drill_Text_L3 k x s.1 s.2 (fun l6 b6 => next (l6, b6))) (fun (s : List UInt8 × Bool) => (fun (l6 : List UInt8) (b6 : Bool) => next2 l6 b6) s.1 s.2) ll k3 (l6, b6) ∧ FrOk 95 [(62, .int .i64 (k3 : Int)), (7, .pointer (some ⟨g1, 0, none⟩)), (8, .func (.func 64) #[] #[.pointer (some ⟨g1, 0, none⟩)]), (9, .func (.func 55) #[] #[]), (48, .slice jA j.length jC), (49, .int .i64 (j.length : Int)), (50, .int .i64 (k2 : Int)), (60, .slice u1A xk2.Holes.length u1C), (61, .int .i64 (xk2.Holes.length : Int))] a ∧ Sat w0 none_ [hbox g1 101 [.pointer (selfp b6 g1), .slice l6A l6.length l6C], hown 5 l6A l6C l6] w) xk2.Holes ⟨0, z1.buf, z1_bufA, z1_bufC, z1.addr, rfl, Nat.zero_add _, h, (((((((((hf.nil.cons (hf.get 61 _ rfl)).cons (hf.get 60 _ rfl)).cons (hf.get 50 _ rfl)).cons (hf.get 49 _ rfl)).cons (hf.get 48 _ rfl)).cons (hf.get 9 _ rfl)).cons (hf.get 8 _ rfl)).cons (hf.get 7 _ rfl)).cons (hf.get 62 _ rfl)), hs⟩ ?_
        clear h hf hs
        rintro llk3 a w ⟨k3, l6, l6A, l6C, b6, hlk3, hkk3, h, hf, hs⟩
        cases llk3 with
        | nil =>
          have hc := range_done hkk3
          replace h : (fun (l6 : List UInt8) (b6 : Bool) => next2 l6 b6) l6 b6 := h
          refine wp_seq ?_
          refine R.list ?_
          refine S.val hf hs (v := .bool false) rfl rfl rfl (V.cmp false rfl rfl rfl rfl hc) (fun a hf => ?_)
          refine R.nil ?_
          refine X.then_ ?_
          refine wp_seq ?_
          refine C.no hf rfl ?_
          refine wp_exit ?_
          refine X.then_exit ?_
          refine X.then_exit ?_
          refine X.blk_exit ?_
          refine X.blk ?_
          refine X.then_ ?_
          refine R.list ?_
          refine S.val hf hs (v := .int .i64 ((k2 + 1 : Nat) : Int)) rfl rfl rfl (V.incr rfl rfl rfl hltk2 hlenk2) (fun a hf => ?_)
          refine S.val hf hs (v := .int .i64 ((k2 + 1 : Nat) : Int)) rfl rfl rfl (V.pure rfl) (fun a hf => ?_)
          refine R.nil ?_
          refine X.then_ ?_
          exact ⟨xk2, llk2, rfl, k2 + 1, l6, l6A, l6C, b6, range_drop hlk2, range_len hkk2, (by rw [hnext2] at h; exact h), ((((((hf.nil.cons (hf.get 49 _ rfl)).cons (hf.get 48 _ rfl)).cons (hf.get 9 _ rfl)).cons (hf.get 8 _ rfl)).cons (hf.get 7 _ rfl)).cons (hf.get 50 _ rfl)), hs⟩
        | cons xk3 llk3 =>
          have hltk3 := range_lt hkk3; have hc := range_go hkk3; have hxk3 := range_get hlk3
          obtain ⟨next3, hnext3⟩ : ∃ X : List UInt8 → Bool → Prop, X = (fun l6 b6 => forIn' (fun k x (s : List UInt8 × Bool) next => M_drill_Text_L3 k x s.1 s.2 (fun l6 b6 => next (l6, b6))) (fun (s : List UInt8 × Bool) => (fun (l6 : List UInt8) (b6 : Bool) => next2 l6 b6) s.1 s.2) llk3 (k3 + 1) (l6, b6)) := ⟨_, rfl⟩
          replace h : M_drill_Text_L3 k3 xk3 l6 b6 next3 := by rw [hnext3]; exact h
          unfold M_drill_Text_L3 at h
          refine wp_seq ?_
          refine R.list ?_
          refine S.val hf hs (v := .bool true) rfl rfl rfl (V.cmp true rfl rfl rfl rfl hc) (fun a hf => ?_)
          refine R.nil ?_
          refine X.then_ ?_
          refine wp_seq ?_
          refine C.yes hf rfl ?_
          refine wp_skip ?_
          refine X.then_ ?_
          refine wp_seq ?_
          refine wp_block ?_
          refine wp_seq ?_
          refine R.list ?_
          refine S.val hf hs (v := elemPtr u1A (k3 * 5)) rfl rfl rfl (V.index rfl rfl rfl Tryz.runUnderlying88 Tryz.sizeOf92 (hvu1.some_ (lt_of_get hxk3)) (Int.natCast_nonneg _) (lt_of_get hxk3) rfl) (fun a hf => ?_)
          refine S.val hf hs (v := .agg #[.int .i64 xk3.At.X, .int .i64 xk3.At.Y, .int .i64 xk3.Size, .int .i64 xk3.Depth, .bool xk3.Plated]) rfl rfl rfl (V.loadEl (off := 0) (Ag.args _ _ _) (hvu1.flat hxk3) rfl rfl rfl Tryz.isAgg92 Tryz.sizeOf92 rfl rfl) (fun a hf => ?_)
          refine S.alloc hf hs rfl rfl rfl [.int .i64 0, .int .i64 0, .int .i64 0, .int .i64 0, .bool false] rfl Tryz.zeroValue92 rfl (fun g3 a w hf hs => ?_)
          refine S.storeBox 0 hf hs rfl rfl [.int .i64 xk3.At.X, .int .i64 xk3.At.Y, .int .i64 xk3.Size, .int .i64 xk3.Depth, .bool xk3.Plated] [.int .i64 xk3.At.X, .int .i64 xk3.At.Y, .int .i64 xk3.Size, .int .i64 xk3.Depth, .bool xk3.Plated] rfl rfl rfl rfl rfl Tryz.sizeOf92 rfl rfl rfl rfl (fun a w hf hs => ?_)
          refine R.nil ?_
          refine X.then_ ?_
          refine wp_seq ?_
          refine R.list ?_
          refine S.val hf hs (v := .string (ba [45])) rfl rfl rfl (V.pure rfl) (fun a hf => ?_)
          refine R.nil ?_
          refine X.then_ ?_
          refine wp_seq ?_
          refine C.cut (J := fun a w => ∃ (s1 : Str), M_drill_Text_k4 xk3 l6 b6 next3 s1 ∧ FrOk 95 [(7, .pointer (some ⟨g1, 0, none⟩)), (8, .func (.func 64) #[] #[.pointer (some ⟨g1, 0, none⟩)]), (9, .func (.func 55) #[] #[]), (15, .pointer (some ⟨g3, 0, none⟩)), (16, .string (ba s1)), (48, .slice jA j.length jC), (49, .int .i64 (j.length : Int)), (50, .int .i64 (k2 : Int)), (60, .slice u1A xk2.Holes.length u1C), (61, .int .i64 (xk2.Holes.length : Int)), (62, .int .i64 (k3 : Int))] a ∧ Sat w0 none_ [hbox g3 92 [.int .i64 xk3.At.X, .int .i64 xk3.At.Y, .int .i64 xk3.Size, .int .i64 xk3.Depth, .bool xk3.Plated], hbox g1 101 [.pointer (selfp b6 g1), .slice l6A l6.length l6C], hown 5 l6A l6C l6] w) ?_ ?_
          · rintro a w ⟨s1, h, hf, hs⟩
            unfold M_drill_Text_k4 at h
            refine H.start (S := Sat w0 none_ [hbox g3 92 [.int .i64 xk3.At.X, .int .i64 xk3.At.Y, .int .i64 xk3.Size, .int .i64 xk3.Depth, .bool xk3.Plated]]) mo ?_
            replace hs := hs.drew
            refine H.val hf (hs.mask [true, false, false]) (v := .func (.func 64) #[] #[.pointer (some ⟨g1, 0, none⟩)]) (i := 0) rfl rfl rfl rfl (by kernel_rfl) (by kernel_rfl) (by kernel_rfl) (V.pure rfl) (fun a hf => ?_)
            refine H.val hf (hs.mask [true, false, false]) (v := .func (.func 55) #[] #[]) (i := 1) rfl rfl rfl rfl (by kernel_rfl) (by kernel_rfl) (by kernel_rfl) (V.pure rfl) (fun a hf => ?_)
            refine H.val hf (hs.mask [true, false, false]) (v := .pointer (some ⟨g3, 0, none⟩)) (i := 2) rfl rfl rfl rfl (by kernel_rfl) (by kernel_rfl) (by kernel_rfl) (V.fieldBox rfl rfl Tryz.runUnderlying92 rfl Tryz.sizeOf55 rfl rfl) (fun a hf => ?_)
            refine H.val hf (hs.mask [true, false, false]) (v := .pointer (some ⟨g3, 0, none⟩)) (i := 3) rfl rfl rfl rfl (by kernel_rfl) (by kernel_rfl) (by kernel_rfl) (V.fieldBox rfl rfl Tryz.runUnderlying55 rfl Tryz.sizeOf3 rfl rfl) (fun a hf => ?_)
            refine H.val hf (hs.mask [true, false, false]) (v := .int .i64 xk3.At.X) (i := 4) rfl rfl rfl rfl (by kernel_rfl) (by kernel_rfl) (by kernel_rfl) (V.loadBox 0 rfl rfl rfl Tryz.isAgg3 Tryz.sizeOf3 rfl rfl) (fun a hf => ?_)
            refine H.val hf (hs.mask [true, false, false]) (v := .func (.func 55) #[] #[]) (i := 6) rfl rfl rfl rfl (by kernel_rfl) (by kernel_rfl) (by kernel_rfl) (V.pure rfl) (fun a hf => ?_)
            refine H.val hf (hs.mask [true, false, false]) (v := .pointer (some ⟨g3, 0, none⟩)) (i := 7) rfl rfl rfl rfl (by kernel_rfl) (by kernel_rfl) (by kernel_rfl) (V.fieldBox rfl rfl Tryz.runUnderlying92 rfl Tryz.sizeOf55 rfl rfl) (fun a hf => ?_)
            refine H.val hf (hs.mask [true, false, false]) (v := .pointer (some ⟨g3, 1, none⟩)) (i := 8) rfl rfl rfl rfl (by kernel_rfl) (by kernel_rfl) (by kernel_rfl) (V.fieldBox rfl rfl Tryz.runUnderlying55 rfl Tryz.sizeOf3 rfl rfl) (fun a hf => ?_)
            refine H.val hf (hs.mask [true, false, false]) (v := .int .i64 xk3.At.Y) (i := 9) rfl rfl rfl rfl (by kernel_rfl) (by kernel_rfl) (by kernel_rfl) (V.loadBox 0 rfl rfl rfl Tryz.isAgg3 Tryz.sizeOf3 rfl rfl) (fun a hf => ?_)
            refine H.val hf (hs.mask [true, false, false]) (v := .func (.func 55) #[] #[]) (i := 11) rfl rfl rfl rfl (by kernel_rfl) (by kernel_rfl) (by kernel_rfl) (V.pure rfl) (fun a hf => ?_)
            refine H.val hf (hs.mask [true, false, false]) (v := .pointer (some ⟨g3, 2, none⟩)) (i := 12) rfl rfl rfl rfl (by kernel_rfl) (by kernel_rfl) (by kernel_rfl) (V.fieldBox rfl rfl Tryz.runUnderlying92 rfl Tryz.sizeOf3 rfl rfl) (fun a hf => ?_)
            refine H.val hf (hs.mask [true, false, false]) (v := .int .i64 xk3.Size) (i := 13) rfl rfl rfl rfl (by kernel_rfl) (by kernel_rfl) (by kernel_rfl) (V.loadBox 0 rfl rfl rfl Tryz.isAgg3 Tryz.sizeOf3 rfl rfl) (fun a hf => ?_)
            refine H.val hf (hs.mask [true, false, false]) (v := .func (.func 55) #[] #[]) (i := 15) rfl rfl rfl rfl (by kernel_rfl) (by kernel_rfl) (by kernel_rfl) (V.pure rfl) (fun a hf => ?_)
            refine H.val hf (hs.mask [true, false, false]) (v := .pointer (some ⟨g3, 3, none⟩)) (i := 16) rfl rfl rfl rfl (by kernel_rfl) (by kernel_rfl) (by kernel_rfl) (V.fieldBox rfl rfl Tryz.runUnderlying92 rfl Tryz.sizeOf3 rfl rfl) (fun a hf => ?_)
            refine H.val hf (hs.mask [true, false, false]) (v := .int .i64 xk3.Depth) (i := 17) rfl rfl rfl rfl (by kernel_rfl) (by kernel_rfl) (by kernel_rfl) (V.loadBox 0 rfl rfl rfl Tryz.isAgg3 Tryz.sizeOf3 rfl rfl) (fun a hf => ?_)
            refine H.val hf (hs.mask [true, false, false]) (v := .string (ba s1)) (i := 19) rfl rfl rfl rfl (by kernel_rfl) (by kernel_rfl) (by kernel_rfl) (V.pure rfl) (fun a hf => ?_)
            refine H.one (i := 5) rfl (by kernel_rfl) ?_
            obtain ⟨hp, h⟩ := h
            refine S.callv hf rfl rfl rfl (call_fn (vs := [.int .i64 xk3.At.X]) rfl rfl rfl Tryz.call55) (C_strconv_Itoa xk3.At.X _ (hT.arg hs) hp) (fun a w hf hs' => ?_)
            replace hs := hs.call hs'; clear hs'
            refine R.nil ?_
            refine X.then_ ?_
            refine ⟨(hs.mask [true, false, false]), ?_⟩
            refine H.one (i := 10) rfl (by kernel_rfl) ?_
            obtain ⟨hp, h⟩ := h
            refine S.callv hf rfl rfl rfl (call_fn (vs := [.int .i64 xk3.At.Y]) rfl rfl rfl Tryz.call55) (C_strconv_Itoa xk3.At.Y _ (hT.arg hs) hp) (fun a w hf hs' => ?_)
            replace hs := hs.call hs'; clear hs'
            refine R.nil ?_
            refine X.then_ ?_
            refine ⟨(hs.mask [true, false, false]), ?_⟩
            refine H.one (i := 14) rfl (by kernel_rfl) ?_
            obtain ⟨hp, h⟩ := h
            refine S.callv hf rfl rfl rfl (call_fn (vs := [.int .i64 xk3.Size]) rfl rfl rfl Tryz.call55) (C_strconv_Itoa xk3.Size _ (hT.arg hs) hp) (fun a w hf hs' => ?_)
            replace hs := hs.call hs'; clear hs'
            refine R.nil ?_
            refine X.then_ ?_
            refine ⟨(hs.mask [true, false, false]), ?_⟩
            refine H.one (i := 18) rfl (by kernel_rfl) ?_
            obtain ⟨hp, h⟩ := h
            refine S.callv hf rfl rfl rfl (call_fn (vs := [.int .i64 xk3.Depth]) rfl rfl rfl Tryz.call55) (C_strconv_Itoa xk3.Depth _ (hT.arg hs) hp) (fun a w hf hs' => ?_)
            replace hs := hs.call hs'; clear hs'
            refine R.nil ?_
            refine X.then_ ?_
            refine ⟨(hs.mask [true, false, false]), ?_⟩
            refine H.one (i := 20) rfl (by kernel_rfl) ?_
            refine S.buildSlice hf hs rfl rfl rfl (α := Str) [[104, 111, 108, 101], (itoaS xk3.At.X), (itoaS xk3.At.Y), (itoaS xk3.Size), (itoaS xk3.Depth), s1] rfl rfl Tryz.runUnderlying74 Tryz.sizeOf9 Tryz.zeroValue9 (by kernel_rfl) rfl (by decide) (by decide) (fun A2 a w hf hs => ?_)
            refine R.nil ?_
            refine X.then_ ?_
            refine ⟨(hs.mask [false, true, false, false]), ?_⟩
            refine H.one (i := 21) rfl (by kernel_rfl) ?_
            replace hs := hs.front 3 rfl
            replace hs := hs.front 3 rfl
            obtain ⟨F1, hsF, hback, hold, hrest⟩ := Sat.callOwns [hbox g1 101 [.pointer (selfp b6 g1), .slice l6A l6.length l6C], hown 5 l6A l6C l6] (σ := [hown 9 A2 6 ([[104, 111, 108, 101], (itoaS xk3.At.X), (itoaS xk3.At.Y), (itoaS xk3.Size), (itoaS xk3.Depth), s1] : List Str), hbox g3 92 [.int .i64 xk3.At.X, .int .i64 xk3.At.Y, .int .i64 xk3.Size, .int .i64 xk3.Depth, .bool xk3.Plated]]) hs
            refine S.call hf rfl rfl rfl (call_run (args := #[.slice A2 ([[104, 111, 108, 101], (itoaS xk3.At.X), (itoaS xk3.At.Y), (itoaS xk3.Size), (itoaS xk3.Depth), s1] : List Str).length 6, .pointer (some ⟨g1, 0, none⟩)]) rfl rfl rfl Tryz.call64 (by simp)) (R_drill_line ([[104, 111, 108, 101], (itoaS xk3.At.X), (itoaS xk3.At.Y), (itoaS xk3.Size), (itoaS xk3.Depth), s1] : List Str) (⟨b6, l6⟩ : StringsBuilder) _ _ A2 6 (ownViewF hrest 0 rfl) g1 l6A l6C hsF _ h) (fun v a w' hf hr => ?_)
            obtain ⟨z2, z2_bufA, z2_bufC, rfl, h2, hs2⟩ := hr
            replace h := h2; replace hs := hback _ _ hs2; clear h2 hs2 hback hold hrest hsF
            refine R.nil ?_
            refine X.then_ ?_
            refine ⟨(hs.mask [false, false, false, true]), ?_⟩
            refine H.done (by kernel_rfl) ?_
            refine X.blk ?_
            refine X.then_ ?_
            refine R.list ?_
            refine S.val hf hs (v := .int .i64 ((k3 + 1 : Nat) : Int)) rfl rfl rfl (V.incr rfl rfl rfl hltk3 hlenk3) (fun a hf => ?_)
            refine S.val hf hs (v := .int .i64 ((k3 + 1 : Nat) : Int)) rfl rfl rfl (V.pure rfl) (fun a hf => ?_)
            refine R.nil ?_
            refine X.then_ ?_
            replace hs := hs.front 1 rfl
            replace hs := hs.front 1 rfl
            replace hs := hs.take 2
            exact ⟨xk3, llk3, rfl, k3 + 1, z2.buf, z2_bufA, z2_bufC, z2.addr, range_drop hlk3, range_len hkk3, (by rw [hnext3] at h; exact h), (((((((((hf.nil.cons (hf.get 61 _ rfl)).cons (hf.get 60 _ rfl)).cons (hf.get 50 _ rfl)).cons (hf.get 49 _ rfl)).cons (hf.get 48 _ rfl)).cons (hf.get 9 _ rfl)).cons (hf.get 8 _ rfl)).cons (hf.get 7 _ rfl)).cons (hf.get 62 _ rfl)), hs⟩
          · skip
            refine wp_seq ?_
            refine R.list ?_
            refine S.val hf hs (v := .pointer (some ⟨g3, 4, none⟩)) rfl rfl rfl (V.fieldBox rfl rfl Tryz.runUnderlying92 rfl Tryz.sizeOf4 rfl rfl) (fun a hf => ?_)
            refine S.val hf hs (v := .bool xk3.Plated) rfl rfl rfl (V.loadBox 0 rfl rfl rfl Tryz.isAgg4 Tryz.sizeOf4 rfl rfl) (fun a hf => ?_)
            refine R.nil ?_
            refine X.then_ ?_
            refine C.cond hf (b := xk3.Plated) rfl (fun hc => ?_) (fun hc => ?_)
            · replace h := h.1 hc
              refine R.list ?_
              refine S.val hf hs (v := .string (ba [112])) rfl rfl rfl (V.pure rfl) (fun a hf => ?_)
              refine R.nil ?_
              refine X.then_ ?_
              exact ⟨[112], h, (((((((((((hf.nil.cons (hf.get 62 _ rfl)).cons (hf.get 61 _ rfl)).cons (hf.get 60 _ rfl)).cons (hf.get 50 _ rfl)).cons (hf.get 49 _ rfl)).cons (hf.get 48 _ rfl)).cons (hf.get 16 _ rfl)).cons (hf.get 15 _ rfl)).cons (hf.get 9 _ rfl)).cons (hf.get 8 _ rfl)).cons (hf.get 7 _ rfl)), hs⟩
            · replace h := h.2 hc
              refine wp_skip ?_
              refine X.then_ ?_
              exact ⟨[45], h, (((((((((((hf.nil.cons (hf.get 62 _ rfl)).cons (hf.get 61 _ rfl)).cons (hf.get 60 _ rfl)).cons (hf.get 50 _ rfl)).cons (hf.get 49 _ rfl)).cons (hf.get 48 _ rfl)).cons (hf.get 16 _ rfl)).cons (hf.get 15 _ rfl)).cons (hf.get 9 _ rfl)).cons (hf.get 8 _ rfl)).cons (hf.get 7 _ rfl)), hs⟩
    | cons xk1 llk1 =>
      have hltk1 := range_lt hkk1; have hc := range_go hkk1; have hxk1 := range_get hlk1
      obtain ⟨next1, hnext1⟩ : ∃ X : List UInt8 → Bool → Prop, X = (fun l2 b2 => forIn' (fun k x (s : List UInt8 × Bool) next => M_drill_Text_L1 k x s.1 s.2 (fun l2 b2 => next (l2, b2))) (fun (s : List UInt8 × Bool) => (fun (l2 : List UInt8) (b2 : Bool) => forIn' (fun k x (s : List UInt8 × Bool) next => M_drill_Text_L2 k x s.1 s.2 (fun l4 b4 => next (l4, b4))) (fun (s : List UInt8 × Bool) => (fun (l4 : List UInt8) (b4 : Bool) => M_bld_Len (⟨b4, l4⟩ : StringsBuilder) fun y2 => cnd (decide (y2 > 500000)) (Q [] 2) (Q l4 0)) s.1 s.2) j 0 (l2, b2)) s.1 s.2) llk1 (k1 + 1) (l2, b2)) := ⟨_, rfl⟩
      replace h : M_drill_Text_L1 k1 xk1 l2 b2 next1 := by rw [hnext1]; exact h
      unfold M_drill_Text_L1 at h
      refine wp_seq ?_
      refine R.list ?_
      refine S.val hf hs (v := .bool true) rfl rfl rfl (V.cmp true rfl rfl rfl rfl hc) (fun a hf => ?_)
      refine R.nil ?_
      refine X.then_ ?_
      refine wp_seq ?_
      refine C.yes hf rfl ?_
      refine wp_skip ?_
      refine X.then_ ?_
      refine wp_seq ?_
      refine wp_block ?_
      refine wp_seq ?_
      refine R.list ?_
      refine S.val hf hs (v := elemPtr tA (k1 * 4)) rfl rfl rfl (V.index rfl rfl rfl Tryz.runUnderlying35 Tryz.sizeOf41 (hv_t.some_ (lt_of_get hxk1)) (Int.natCast_nonneg _) (lt_of_get hxk1) rfl) (fun a hf => ?_)
      refine S.val hf hs (v := .agg #[.string (ba xk1.Name), .int .i64 xk1.Size, .int .i64 xk1.Life, .int .i64 xk1.Stack]) rfl rfl rfl (V.loadEl (off := 0) (Ag.args _ _ _) (hv_t.flat hxk1) rfl rfl rfl Tryz.isAgg41 Tryz.sizeOf41 rfl rfl) (fun a hf => ?_)
      refine S.alloc hf hs rfl rfl rfl [.string (ba []), .int .i64 0, .int .i64 0, .int .i64 0] rfl Tryz.zeroValue41 rfl (fun g4 a w hf hs => ?_)
      refine S.storeBox 0 hf hs rfl rfl [.string (ba xk1.Name), .int .i64 xk1.Size, .int .i64 xk1.Life, .int .i64 xk1.Stack] [.string (ba xk1.Name), .int .i64 xk1.Size, .int .i64 xk1.Life, .int .i64 xk1.Stack] rfl rfl rfl rfl rfl Tryz.sizeOf41 rfl rfl rfl rfl (fun a w hf hs => ?_)
      refine R.nil ?_
      refine X.then_ ?_
      refine H.start (S := Sat w0 none_ [hbox g4 41 [.string (ba xk1.Name), .int .i64 xk1.Size, .int .i64 xk1.Life, .int .i64 xk1.Stack]]) mo ?_
      replace hs := hs.drew
      refine H.val hf (hs.mask [true, false, false]) (v := .func (.func 64) #[] #[.pointer (some ⟨g1, 0, none⟩)]) (i := 0) rfl rfl rfl rfl (by kernel_rfl) (by kernel_rfl) (by kernel_rfl) (V.pure rfl) (fun a hf => ?_)
      refine H.val hf (hs.mask [true, false, false]) (v := .pointer (some ⟨g4, 0, none⟩)) (i := 1) rfl rfl rfl rfl (by kernel_rfl) (by kernel_rfl) (by kernel_rfl) (V.fieldBox rfl rfl Tryz.runUnderlying41 rfl Tryz.sizeOf9 rfl rfl) (fun a hf => ?_)
      refine H.val hf (hs.mask [true, false, false]) (v := .string (ba xk1.Name)) (i := 2) rfl rfl rfl rfl (by kernel_rfl) (by kernel_rfl) (by kernel_rfl) (V.loadBox 0 rfl rfl rfl Tryz.isAgg9 Tryz.sizeOf9 rfl rfl) (fun a hf => ?_)
      refine H.val hf (hs.mask [true, false, false]) (v := .func (.func 55) #[] #[]) (i := 3) rfl rfl rfl rfl (by kernel_rfl) (by kernel_rfl) (by kernel_rfl) (V.pure rfl) (fun a hf => ?_)
      refine H.val hf (hs.mask [true, false, false]) (v := .pointer (some ⟨g4, 1, none⟩)) (i := 4) rfl rfl rfl rfl (by kernel_rfl) (by kernel_rfl) (by kernel_rfl) (V.fieldBox rfl rfl Tryz.runUnderlying41 rfl Tryz.sizeOf3 rfl rfl) (fun a hf => ?_)
      refine H.val hf (hs.mask [true, false, false]) (v := .int .i64 xk1.Size) (i := 5) rfl rfl rfl rfl (by kernel_rfl) (by kernel_rfl) (by kernel_rfl) (V.loadBox 0 rfl rfl rfl Tryz.isAgg3 Tryz.sizeOf3 rfl rfl) (fun a hf => ?_)
      refine H.val hf (hs.mask [true, false, false]) (v := .func (.func 55) #[] #[]) (i := 7) rfl rfl rfl rfl (by kernel_rfl) (by kernel_rfl) (by kernel_rfl) (V.pure rfl) (fun a hf => ?_)
      refine H.val hf (hs.mask [true, false, false]) (v := .pointer (some ⟨g4, 2, none⟩)) (i := 8) rfl rfl rfl rfl (by kernel_rfl) (by kernel_rfl) (by kernel_rfl) (V.fieldBox rfl rfl Tryz.runUnderlying41 rfl Tryz.sizeOf3 rfl rfl) (fun a hf => ?_)
      refine H.val hf (hs.mask [true, false, false]) (v := .int .i64 xk1.Life) (i := 9) rfl rfl rfl rfl (by kernel_rfl) (by kernel_rfl) (by kernel_rfl) (V.loadBox 0 rfl rfl rfl Tryz.isAgg3 Tryz.sizeOf3 rfl rfl) (fun a hf => ?_)
      refine H.val hf (hs.mask [true, false, false]) (v := .func (.func 55) #[] #[]) (i := 11) rfl rfl rfl rfl (by kernel_rfl) (by kernel_rfl) (by kernel_rfl) (V.pure rfl) (fun a hf => ?_)
      refine H.val hf (hs.mask [true, false, false]) (v := .pointer (some ⟨g4, 3, none⟩)) (i := 12) rfl rfl rfl rfl (by kernel_rfl) (by kernel_rfl) (by kernel_rfl) (V.fieldBox rfl rfl Tryz.runUnderlying41 rfl Tryz.sizeOf3 rfl rfl) (fun a hf => ?_)
      refine H.val hf (hs.mask [true, false, false]) (v := .int .i64 xk1.Stack) (i := 13) rfl rfl rfl rfl (by kernel_rfl) (by kernel_rfl) (by kernel_rfl) (V.loadBox 0 rfl rfl rfl Tryz.isAgg3 Tryz.sizeOf3 rfl rfl) (fun a hf => ?_)
      refine H.one (i := 6) rfl (by kernel_rfl) ?_
      obtain ⟨hp, h⟩ := h
      refine S.callv hf rfl rfl rfl (call_fn (vs := [.int .i64 xk1.Size]) rfl rfl rfl Tryz.call55) (C_strconv_Itoa xk1.Size _ (hT.arg hs) hp) (fun a w hf hs' => ?_)
      replace hs := hs.call hs'; clear hs'
      refine R.nil ?_
      refine X.then_ ?_
      refine ⟨(hs.mask [true, false, false]), ?_⟩
      refine H.one (i := 10) rfl (by kernel_rfl) ?_
      obtain ⟨hp, h⟩ := h
      refine S.callv hf rfl rfl rfl (call_fn (vs := [.int .i64 xk1.Life]) rfl rfl rfl Tryz.call55) (C_strconv_Itoa xk1.Life _ (hT.arg hs) hp) (fun a w hf hs' => ?_)
      replace hs := hs.call hs'; clear hs'
      refine R.nil ?_
      refine X.then_ ?_
      refine ⟨(hs.mask [true, false, false]), ?_⟩
      refine H.one (i := 14) rfl (by kernel_rfl) ?_
      obtain ⟨hp, h⟩ := h
      refine S.callv hf rfl rfl rfl (call_fn (vs := [.int .i64 xk1.Stack]) rfl rfl rfl Tryz.call55) (C_strconv_Itoa xk1.Stack _ (hT.arg hs) hp) (fun a w hf hs' => ?_)
      replace hs := hs.call hs'; clear hs'
      refine R.nil ?_
      refine X.then_ ?_
      refine ⟨(hs.mask [true, false, false]), ?_⟩
      refine H.one (i := 15) rfl (by kernel_rfl) ?_
      refine S.buildSlice hf hs rfl rfl rfl (α := Str) [[116, 111, 111, 108], xk1.Name, (itoaS xk1.Size), (itoaS xk1.Life), (itoaS xk1.Stack)] rfl rfl Tryz.runUnderlying74 Tryz.sizeOf9 Tryz.zeroValue9 (by kernel_rfl) rfl (by decide) (by decide) (fun A3 a w hf hs => ?_)
      refine R.nil ?_
      refine X.then_ ?_
      refine ⟨(hs.mask [false, true, false, false]), ?_⟩
      refine H.one (i := 16) rfl (by kernel_rfl) ?_
      replace hs := hs.front 3 rfl
      replace hs := hs.front 3 rfl
      obtain ⟨F1, hsF, hback, hold, hrest⟩ := Sat.callOwns [hbox g1 101 [.pointer (selfp b2 g1), .slice l2A l2.length l2C], hown 5 l2A l2C l2] (σ := [hown 9 A3 5 ([[116, 111, 111, 108], xk1.Name, (itoaS xk1.Size), (itoaS xk1.Life), (itoaS xk1.Stack)] : List Str), hbox g4 41 [.string (ba xk1.Name), .int .i64 xk1.Size, .int .i64 xk1.Life, .int .i64 xk1.Stack]]) hs
      refine S.call hf rfl rfl rfl (call_run (args := #[.slice A3 ([[116, 111, 111, 108], xk1.Name, (itoaS xk1.Size), (itoaS xk1.Life), (itoaS xk1.Stack)] : List Str).length 5, .pointer (some ⟨g1, 0, none⟩)]) rfl rfl rfl Tryz.call64 (by simp)) (R_drill_line ([[116, 111, 111, 108], xk1.Name, (itoaS xk1.Size), (itoaS xk1.Life), (itoaS xk1.Stack)] : List Str) (⟨b2, l2⟩ : StringsBuilder) _ _ A3 5 (ownViewF hrest 0 rfl) g1 l2A l2C hsF _ h) (fun v a w' hf hr => ?_)
      obtain ⟨z3, z3_bufA, z3_bufC, rfl, h2, hs2⟩ := hr
      replace h := h2; replace hs := hback _ _ hs2; clear h2 hs2 hback hold hrest hsF
      refine R.nil ?_
      refine X.then_ ?_
      refine ⟨(hs.mask [false, false, false, true]), ?_⟩
      refine H.done (by kernel_rfl) ?_
      refine X.blk ?_
      refine X.then_ ?_
      refine R.list ?_
      refine S.val hf hs (v := .int .i64 ((k1 + 1 : Nat) : Int)) rfl rfl rfl (V.incr rfl rfl rfl hltk1 hlenk1) (fun a hf => ?_)
      refine S.val hf hs (v := .int .i64 ((k1 + 1 : Nat) : Int)) rfl rfl rfl (V.pure rfl) (fun a hf => ?_)
      refine R.nil ?_
      refine X.then_ ?_
      replace hs := hs.front 1 rfl
      replace hs := hs.front 1 rfl
      replace hs := hs.take 2
      exact ⟨xk1, llk1, rfl, k1 + 1, z3.buf, z3_bufA, z3_bufC, z3.addr, range_drop hlk1, range_len hkk1, (by rw [hnext1] at h; exact h), (((((((hf.nil.cons (hf.get 25 _ rfl)).cons (hf.get 24 _ rfl)).cons (hf.get 9 _ rfl)).cons (hf.get 8 _ rfl)).cons (hf.get 7 _ rfl)).cons (hf.get 1 _ rfl)).cons (hf.get 26 _ rfl)), hs⟩

set_option linter.unusedVariables false
def M_ref8_holeText_k1 (h_ : Hole) (Q : Str → Prop) (s1 : Str) : Prop :=
  must (isI64 h_.At.X) (must (isI64 h_.At.Y) (must (isI64 h_.Size) (must (isI64 h_.Depth) (M_strings_Join ([[104, 111, 108, 101], (itoaS h_.At.X), (itoaS h_.At.Y), (itoaS h_.Size), (itoaS h_.Depth), s1] : List Str) [32] fun y1 => must (y1.length + [10].length ≤ 9223372036854775807) (Q (y1 ++ [10]))))))
def M_ref8_holeText (h_ : Hole) (Q : Str → Prop) : Prop :=
  cnd h_.Plated (M_ref8_holeText_k1 h_ Q [112]) (M_ref8_holeText_k1 h_ Q [45])
set_option maxHeartbeats 1000000 in
theorem R_ref8_holeText (h_ : Hole) (w0 : World) (hT : TabIn Tryz.prog w0 (old w0 none_)) (Q : Str → Prop) (h : M_ref8_holeText h_ Q) :
    Ret Tryz.prog 66 #[.agg #[.int .i64 h_.At.X, .int .i64 h_.At.Y, .int .i64 h_.Size, .int .i64 h_.Depth, .bool h_.Plated]] w0 fun v w' => ∃ (r0 : Str), v = .string (ba r0) ∧ Q r0 ∧ Sat w0 none_ [] w' := by
  refine fn_enter Tryz.func66 rfl Tryz.ntmps66 rfl (fs := [(0, .agg #[.int .i64 h_.At.X, .int .i64 h_.At.Y, .int .i64 h_.Size, .int .i64 h_.Depth, .bool h_.Plated])]) rfl (fun a hf => ?_)
  have hs := Sat.start w0 none_
  unfold M_ref8_holeText at h
  refine wp_seq ?_
  refine R.list ?_
  refine S.box hf hs rfl rfl rfl [.int .i64 h_.At.X, .int .i64 h_.At.Y, .int .i64 h_.Size, .int .i64 h_.Depth, .bool h_.Plated] rfl rfl rfl (fun g1 a w hf hs => ?_)
  refine S.val hf hs (v := .string (ba [])) rfl rfl rfl (V.pure rfl) (fun a hf => ?_)
  refine R.nil ?_
  refine X.then_ ?_
  refine wp_seq ?_
  refine R.list ?_
  refine S.val hf hs (v := .string (ba [45])) rfl rfl rfl (V.pure rfl) (fun a hf => ?_)
  refine R.nil ?_
  refine X.then_ ?_
  refine wp_seq ?_
  refine C.cut (J := fun a w => ∃ (s1 : Str), M_ref8_holeText_k1 h_ Q s1 ∧ FrOk 24 [(1, .pointer (some ⟨g1, 0, none⟩)), (3, .string (ba s1))] a ∧ Sat w0 none_ [hbox g1 92 [.int .i64 h_.At.X, .int .i64 h_.At.Y, .int .i64 h_.Size, .int .i64 h_.Depth, .bool h_.Plated]] w) ?_ ?_
  · rintro a w ⟨s1, h, hf, hs⟩
    unfold M_ref8_holeText_k1 at h
    refine wp_seq ?_
    refine H.start (S := Sat w0 none_ [hbox g1 92 [.int .i64 h_.At.X, .int .i64 h_.At.Y, .int .i64 h_.Size, .int .i64 h_.Depth, .bool h_.Plated]]) mo ?_
    replace hs := hs.drew
    refine H.val hf hs (v := .pointer (some ⟨g1, 0, none⟩)) (i := 0) rfl rfl rfl rfl (by kernel_rfl) (by kernel_rfl) (by kernel_rfl) (V.fieldBox rfl rfl Tryz.runUnderlying92 rfl Tryz.sizeOf55 rfl rfl) (fun a hf => ?_)
    refine H.val hf hs (v := .pointer (some ⟨g1, 0, none⟩)) (i := 1) rfl rfl rfl rfl (by kernel_rfl) (by kernel_rfl) (by kernel_rfl) (V.fieldBox rfl rfl Tryz.runUnderlying55 rfl Tryz.sizeOf3 rfl rfl) (fun a hf => ?_)
    refine H.val hf hs (v := .int .i64 h_.At.X) (i := 2) rfl rfl rfl rfl (by kernel_rfl) (by kernel_rfl) (by kernel_rfl) (V.loadBox 0 rfl rfl rfl Tryz.isAgg3 Tryz.sizeOf3 rfl rfl) (fun a hf => ?_)
    refine H.val hf hs (v := .pointer (some ⟨g1, 0, none⟩)) (i := 4) rfl rfl rfl rfl (by kernel_rfl) (by kernel_rfl) (by kernel_rfl) (V.fieldBox rfl rfl Tryz.runUnderlying92 rfl Tryz.sizeOf55 rfl rfl) (fun a hf => ?_)
    refine H.val hf hs (v := .pointer (some ⟨g1, 1, none⟩)) (i := 5) rfl rfl rfl rfl (by kernel_rfl) (by kernel_rfl) (by kernel_rfl) (V.fieldBox rfl rfl Tryz.runUnderlying55 rfl Tryz.sizeOf3 rfl rfl) (fun a hf => ?_)
    refine H.val hf hs (v := .int .i64 h_.At.Y) (i := 6) rfl rfl rfl rfl (by kernel_rfl) (by kernel_rfl) (by kernel_rfl) (V.loadBox 0 rfl rfl rfl Tryz.isAgg3 Tryz.sizeOf3 rfl rfl) (fun a hf => ?_)
    refine H.val hf hs (v := .pointer (some ⟨g1, 2, none⟩)) (i := 8) rfl rfl rfl rfl (by kernel_rfl) (by kernel_rfl) (by kernel_rfl) (V.fieldBox rfl rfl Tryz.runUnderlying92 rfl Tryz.sizeOf3 rfl rfl) (fun a hf => ?_)
    refine H.val hf hs (v := .int .i64 h_.Size) (i := 9) rfl rfl rfl rfl (by kernel_rfl) (by kernel_rfl) (by kernel_rfl) (V.loadBox 0 rfl rfl rfl Tryz.isAgg3 Tryz.sizeOf3 rfl rfl) (fun a hf => ?_)
    refine H.val hf hs (v := .pointer (some ⟨g1, 3, none⟩)) (i := 11) rfl rfl rfl rfl (by kernel_rfl) (by kernel_rfl) (by kernel_rfl) (V.fieldBox rfl rfl Tryz.runUnderlying92 rfl Tryz.sizeOf3 rfl rfl) (fun a hf => ?_)
    refine H.val hf hs (v := .int .i64 h_.Depth) (i := 12) rfl rfl rfl rfl (by kernel_rfl) (by kernel_rfl) (by kernel_rfl) (V.loadBox 0 rfl rfl rfl Tryz.isAgg3 Tryz.sizeOf3 rfl rfl) (fun a hf => ?_)
    refine H.val hf hs (v := .string (ba s1)) (i := 14) rfl rfl rfl rfl (by kernel_rfl) (by kernel_rfl) (by kernel_rfl) (V.pure rfl) (fun a hf => ?_)
    refine H.one (i := 3) rfl (by kernel_rfl) ?_
    obtain ⟨hp, h⟩ := h
    refine S.callv hf rfl rfl rfl (call_fn (vs := [.int .i64 h_.At.X]) rfl rfl rfl Tryz.call55) (C_strconv_Itoa h_.At.X _ (hT.arg hs) hp) (fun a w hf hs' => ?_)
    replace hs := hs.call hs'; clear hs'
    refine R.nil ?_
    refine X.then_ ?_
    refine ⟨hs, ?_⟩
    refine H.one (i := 7) rfl (by kernel_rfl) ?_
    obtain ⟨hp, h⟩ := h
    refine S.callv hf rfl rfl rfl (call_fn (vs := [.int .i64 h_.At.Y]) rfl rfl rfl Tryz.call55) (C_strconv_Itoa h_.At.Y _ (hT.arg hs) hp) (fun a w hf hs' => ?_)
    replace hs := hs.call hs'; clear hs'
    refine R.nil ?_
    refine X.then_ ?_
    refine ⟨hs, ?_⟩
    refine H.one (i := 10) rfl (by kernel_rfl) ?_
    obtain ⟨hp, h⟩ := h
    refine S.callv hf rfl rfl rfl (call_fn (vs := [.int .i64 h_.Size]) rfl rfl rfl Tryz.call55) (C_strconv_Itoa h_.Size _ (hT.arg hs) hp) (fun a w hf hs' => ?_)
    replace hs := hs.call hs'; clear hs'
    refine R.nil ?_
    refine X.then_ ?_
    refine ⟨hs, ?_⟩
    refine H.one (i := 13) rfl (by kernel_rfl) ?_
    obtain ⟨hp, h⟩ := h
    refine S.callv hf rfl rfl rfl (call_fn (vs := [.int .i64 h_.Depth]) rfl rfl rfl Tryz.call55) (C_strconv_Itoa h_.Depth _ (hT.arg hs) hp) (fun a w hf hs' => ?_)
    replace hs := hs.call hs'; clear hs'
    refine R.nil ?_
    refine X.then_ ?_
    refine ⟨hs, ?_⟩
    refine H.one (i := 15) rfl (by kernel_rfl) ?_
    refine S.buildSlice hf hs rfl rfl rfl (α := Str) [[104, 111, 108, 101], (itoaS h_.At.X), (itoaS h_.At.Y), (itoaS h_.Size), (itoaS h_.Depth), s1] rfl rfl Tryz.runUnderlying74 Tryz.sizeOf9 Tryz.zeroValue9 (by kernel_rfl) rfl (by decide) (by decide) (fun A1 a w hf hs => ?_)
    refine R.nil ?_
    refine X.then_ ?_
    refine ⟨(hs.mask [false, true]), ?_⟩
    refine H.one (i := 16) rfl (by kernel_rfl) ?_
    refine S.call hf rfl rfl rfl (call_fn (vs := [.slice A1 ([[104, 111, 108, 101], (itoaS h_.At.X), (itoaS h_.At.Y), (itoaS h_.Size), (itoaS h_.Depth), s1] : List Str).length 6, .string (ba [32])]) rfl rfl rfl Tryz.call65) (R_strings_Join ([[104, 111, 108, 101], (itoaS h_.At.X), (itoaS h_.At.Y), (itoaS h_.Size), (itoaS h_.Depth), s1] : List Str) [32] _ A1 6 (hs.ownView 0 rfl) _ h) (fun v a w' hf hr => ?_)
    obtain ⟨y1, rfl, h2, hs2⟩ := hr
    replace h := h2; replace hs := hs.call hs2; clear h2 hs2
    refine R.nil ?_
    refine X.then_ ?_
    refine ⟨(hs.mask [false, true]), ?_⟩
    obtain ⟨hcat, h⟩ := h
    refine H.val hf (hs.mask [false, true]) (v := .string (ba (y1 ++ [10]))) (i := 17) rfl rfl rfl rfl (by kernel_rfl) (by kernel_rfl) (by kernel_rfl) (V.strAdd rfl rfl rfl hcat) (fun a hf => ?_)
    refine H.val hf (hs.mask [false, true]) (v := .string (ba (y1 ++ [10]))) (i := 18) rfl rfl rfl rfl (by kernel_rfl) (by kernel_rfl) (by kernel_rfl) (V.pure rfl) (fun a hf => ?_)
    refine H.done (by kernel_rfl) ?_
    refine X.then_ ?_
    refine wp_ret ?_
    exact L.ret hf (run_results1 Tryz.results66 (ResIs.tmp hf rfl)) ⟨(y1 ++ [10]), rfl, h, hs.nil⟩
  · skip
    refine wp_seq ?_
    refine R.list ?_
    refine S.val hf hs (v := .pointer (some ⟨g1, 4, none⟩)) rfl rfl rfl (V.fieldBox rfl rfl Tryz.runUnderlying92 rfl Tryz.sizeOf4 rfl rfl) (fun a hf => ?_)
    refine S.val hf hs (v := .bool h_.Plated) rfl rfl rfl (V.loadBox 0 rfl rfl rfl Tryz.isAgg4 Tryz.sizeOf4 rfl rfl) (fun a hf => ?_)
    refine R.nil ?_
    refine X.then_ ?_
    refine C.cond hf (b := h_.Plated) rfl (fun hc => ?_) (fun hc => ?_)
    · replace h := h.1 hc
      refine R.list ?_
      refine S.val hf hs (v := .string (ba [112])) rfl rfl rfl (V.pure rfl) (fun a hf => ?_)
      refine R.nil ?_
      refine X.then_ ?_
      exact ⟨[112], h, ((hf.nil.cons (hf.get 3 _ rfl)).cons (hf.get 1 _ rfl)), hs⟩
    · replace h := h.2 hc
      refine wp_skip ?_
      refine X.then_ ?_
      exact ⟨[45], h, ((hf.nil.cons (hf.get 3 _ rfl)).cons (hf.get 1 _ rfl)), hs⟩

set_option linter.unusedVariables false
def M_ref8_Text_L3  (k3 : Nat) (xk3 : Hole) (s6 : Str) (next3 : Str → Prop) : Prop :=
  M_ref8_holeText xk3 fun y2 => must (s6.length + y2.length ≤ 9223372036854775807) (next3 (s6 ++ y2))
def M_ref8_Text_L2  (k2 : Nat) (xk2 : Job) (s4 : Str) (next2 : Str → Prop) : Prop :=
  must ([106, 111, 98, 32].length + xk2.Tool.length ≤ 9223372036854775807) (must (([106, 111, 98, 32] ++ xk2.Tool).length + [10].length ≤ 9223372036854775807) (must (s4.length + (([106, 111, 98, 32] ++ xk2.Tool) ++ [10]).length ≤ 9223372036854775807) (forIn' (fun k x (s : Str) next => M_ref8_Text_L3 k x s (fun s6 => next s6)) (fun (s : Str) => (fun (s6 : Str) => next2 s6) s) xk2.Holes 0 (s4 ++ (([106, 111, 98, 32] ++ xk2.Tool) ++ [10])))))
def M_ref8_Text_L1  (k1 : Nat) (xk1 : Bit) (s2 : Str) (next1 : Str → Prop) : Prop :=
  must (isI64 xk1.Size) (must (isI64 xk1.Life) (must (isI64 xk1.Stack) (M_strings_Join ([[116, 111, 111, 108], xk1.Name, (itoaS xk1.Size), (itoaS xk1.Life), (itoaS xk1.Stack)] : List Str) [32] fun y3 => must (y3.length + [10].length ≤ 9223372036854775807) (must (s2.length + (y3 ++ [10]).length ≤ 9223372036854775807) (next1 (s2 ++ (y3 ++ [10])))))))
def M_ref8_Text (t : (List Bit)) (j : (List Job)) (Q : Str → Int → Prop) : Prop :=
  M_ref8_CheckJobs t j fun y1 => cnd (y1 != 0) (Q [] y1) (forIn' (fun k x (s : Str) next => M_ref8_Text_L1 k x s (fun s2 => next s2)) (fun (s : Str) => (fun (s2 : Str) => forIn' (fun k x (s : Str) next => M_ref8_Text_L2 k x s (fun s4 => next s4)) (fun (s : Str) => (fun (s4 : Str) => cnd (decide ((s4.length : Int) > 500000)) (Q [] 2) (Q s4 0)) s) j 0 s2) s) t 0 [])
set_option maxHeartbeats 1000000 in
theorem R_ref8_Text (t : (List Bit)) (j : (List Job)) (w0 : World) (tA : Option Addr) (tC : Nat) (hv_t : View w0 (old w0 none_) tA tC t) (jA : Option Addr) (jC : Nat) (hv_j : View w0 (old w0 none_) jA jC j) (hT : TabIn Tryz.prog w0 (old w0 none_)) (Q : Str → Int → Prop) (h : M_ref8_Text t j Q) :
    Ret Tryz.prog 29 #[.slice tA t.length tC, .slice jA j.length jC] w0 fun v w' => ∃ (r0 : Str) (r1 : Int), v = .tuple #[.string (ba r0), .int .i64 r1] ∧ Q r0 r1 ∧ Sat w0 none_ [] w' := by
  refine fn_enter Tryz.func29 rfl Tryz.ntmps29 rfl (fs := [(0, .slice tA t.length tC), (1, .slice jA j.length jC)]) rfl (fun a hf => ?_)
  have hs := Sat.start w0 none_
  unfold M_ref8_Text at h
  refine wp_seq ?_
  refine R.list ?_
  refine S.val hf hs (v := .string (ba [])) rfl rfl rfl (V.pure rfl) (fun a hf => ?_)
  refine S.val hf hs (v := .int .i64 0) rfl rfl rfl (V.pure rfl) (fun a hf => ?_)
  refine R.nil ?_
  refine X.then_ ?_
  refine wp_seq ?_
  refine wp_seq ?_
  refine R.list ?_
  refine S.val hf hs (v := .slice tA t.length tC) rfl rfl rfl (V.pure rfl) (fun a hf => ?_)
  refine S.val hf hs (v := .slice jA j.length jC) rfl rfl rfl (V.pure rfl) (fun a hf => ?_)
  refine S.call hf rfl rfl rfl (call_fn (vs := [.slice tA t.length tC, .slice jA j.length jC]) rfl rfl rfl Tryz.call51) (R_ref8_CheckJobs t j _ tA tC ((Ag.args _ _ _).view hv_t hs) jA jC ((Ag.args _ _ _).view hv_j hs) _ h) (fun v a w' hf hr => ?_)
  obtain ⟨y1, rfl, h2, hs2⟩ := hr
  replace h := h2; replace hs := hs.call hs2; clear h2 hs2
  refine S.val hf hs (v := .int .i64 y1) rfl rfl rfl (V.pure rfl) (fun a hf => ?_)
  refine R.nil ?_
  refine X.then_ ?_
  refine wp_seq ?_
  refine R.list ?_
  refine S.val hf hs (v := .int .i64 y1) rfl rfl rfl (V.pure rfl) (fun a hf => ?_)
  refine S.val hf hs (v := .bool (y1 != 0)) rfl rfl rfl (V.pure rfl) (fun a hf => ?_)
  refine R.nil ?_
  refine X.then_ ?_
  refine C.cond hf (b := y1 != 0) rfl (fun hc => ?_) (fun hc => ?_)
  · replace h := h.1 hc
    refine wp_seq ?_
    refine R.list ?_
    refine S.val hf hs (v := .int .i64 y1) rfl rfl rfl (V.pure rfl) (fun a hf => ?_)
    refine S.val hf hs (v := .string (ba [])) rfl rfl rfl (V.pure rfl) (fun a hf => ?_)
    refine S.val hf hs (v := .int .i64 y1) rfl rfl rfl (V.pure rfl) (fun a hf => ?_)
    refine R.nil ?_
    refine X.then_ ?_
    refine wp_ret ?_
    refine X.then_ret ?_
    exact L.ret hf (run_results2 Tryz.results29 (ResIs.tmp hf rfl) (ResIs.tmp hf rfl)) ⟨[], y1, rfl, h, hs.nil⟩
  · replace h := h.2 hc
    refine wp_skip ?_
    refine X.then_ ?_
    refine wp_seq ?_
    refine R.list ?_
    refine S.val hf hs (v := .string (ba [])) rfl rfl rfl (V.pure rfl) (fun a hf => ?_)
    refine R.nil ?_
    refine X.then_ ?_
    refine wp_seq ?_
    refine wp_seq ?_
    refine R.list ?_
    refine S.val hf hs (v := .slice tA t.length tC) rfl rfl rfl (V.pure rfl) (fun a hf => ?_)
    refine S.val hf hs (v := .int .i64 (t.length : Int)) rfl rfl rfl (V.len rfl rfl Tryz.runUnderlying35) (fun a hf => ?_)
    refine S.val hf hs (v := .int .i64 0) rfl rfl rfl (V.pure rfl) (fun a hf => ?_)
    refine R.nil ?_
    refine X.then_ ?_
    refine wp_block ?_
    have hlenk1 := hv_t.len64
    refine C.range (fun (ll : List Bit) a w => ∃ (k1 : Nat) (s2 : Str), t.drop k1 = ll ∧ k1 + ll.length = t.length ∧ forIn' (fun k x (s : Str) next => M_ref8_Text_L1 k x s (fun s2 => next s2)) (fun (s : Str) => (fun (s2 : Str) => forIn' (fun k x (s : Str) next => M_ref8_Text_L2 k x s (fun s4 => next s4)) (fun (s : Str) => (fun (s4 : Str) => cnd (decide ((s4.length : Int) > 500000)) (Q [] 2) (Q s4 0)) s) j 0 s2) s) ll k1 s2 ∧ FrOk 72 [(22, .int .i64 (k1 : Int)), (1, .slice jA j.length jC), (7, .string (ba s2)), (20, .slice tA t.length tC), (21, .int .i64 (t.length : Int))] a ∧ Sat w0 none_ [] w) t ⟨0, [], rfl, Nat.zero_add _, h, (((((hf.nil.cons (hf.get 21 _ rfl)).cons (hf.get 20 _ rfl)).cons (hf.get 7 _ rfl)).cons (hf.get 1 _ rfl)).cons (hf.get 22 _ rfl)), hs⟩ ?_
    clear h hf hs
    rintro llk1 a w ⟨k1, s2, hlk1, hkk1, h, hf, hs⟩
    cases llk1 with
    | nil =>
      have hc := range_done hkk1
      replace h : (fun (s2 : Str) => forIn' (fun k x (s : Str) next => M_ref8_Text_L2 k x s (fun s4 => next s4)) (fun (s : Str) => (fun (s4 : Str) => cnd (decide ((s4.length : Int) > 500000)) (Q [] 2) (Q s4 0)) s) j 0 s2) s2 := h
      refine wp_seq ?_
      refine R.list ?_
      refine S.val hf hs (v := .bool false) rfl rfl rfl (V.cmp false rfl rfl rfl rfl hc) (fun a hf => ?_)
      refine R.nil ?_
      refine X.then_ ?_
      refine wp_seq ?_
      refine C.no hf rfl ?_
      refine wp_exit ?_
      refine X.then_exit ?_
      refine X.then_exit ?_
      refine X.blk_exit ?_
      refine X.then_ ?_
      refine wp_seq ?_
      refine wp_seq ?_
      refine R.list ?_
      refine S.val hf hs (v := .slice jA j.length jC) rfl rfl rfl (V.pure rfl) (fun a hf => ?_)
      refine S.val hf hs (v := .int .i64 (j.length : Int)) rfl rfl rfl (V.len rfl rfl Tryz.runUnderlying36) (fun a hf => ?_)
      refine S.val hf hs (v := .int .i64 0) rfl rfl rfl (V.pure rfl) (fun a hf => ?_)
      refine R.nil ?_
      refine X.then_ ?_
      refine wp_block ?_
      have hlenk2 := hv_j.len64
      refine C.range (fun (ll : List Job) a w => ∃ (k2 : Nat) (s4 : Str), j.drop k2 = ll ∧ k2 + ll.length = j.length ∧ forIn' (fun k x (s : Str) next => M_ref8_Text_L2 k x s (fun s4 => next s4)) (fun (s : Str) => (fun (s4 : Str) => cnd (decide ((s4.length : Int) > 500000)) (Q [] 2) (Q s4 0)) s) ll k2 s4 ∧ FrOk 72 [(45, .int .i64 (k2 : Int)), (7, .string (ba s4)), (43, .slice jA j.length jC), (44, .int .i64 (j.length : Int))] a ∧ Sat w0 none_ [] w) j ⟨0, s2, rfl, Nat.zero_add _, h, ((((hf.nil.cons (hf.get 44 _ rfl)).cons (hf.get 43 _ rfl)).cons (hf.get 7 _ rfl)).cons (hf.get 45 _ rfl)), hs⟩ ?_
      clear h hf hs
      rintro llk2 a w ⟨k2, s4, hlk2, hkk2, h, hf, hs⟩
      cases llk2 with
      | nil =>
        have hc := range_done hkk2
        replace h : (fun (s4 : Str) => cnd (decide ((s4.length : Int) > 500000)) (Q [] 2) (Q s4 0)) s4 := h
        refine wp_seq ?_
        refine R.list ?_
        refine S.val hf hs (v := .bool false) rfl rfl rfl (V.cmp false rfl rfl rfl rfl hc) (fun a hf => ?_)
        refine R.nil ?_
        refine X.then_ ?_
        refine wp_seq ?_
        refine C.no hf rfl ?_
        refine wp_exit ?_
        refine X.then_exit ?_
        refine X.then_exit ?_
        refine X.blk_exit ?_
        refine X.then_ ?_
        refine wp_seq ?_
        refine wp_seq ?_
        refine R.list ?_
        refine S.val hf hs (v := .string (ba s4)) rfl rfl rfl (V.pure rfl) (fun a hf => ?_)
        refine S.val hf hs (v := .int .i64 (s4.length : Int)) rfl rfl rfl (V.lenStr rfl rfl Tryz.runUnderlying9) (fun a hf => ?_)
        refine S.val hf hs (v := .bool (decide ((s4.length : Int) > 500000))) rfl rfl rfl (V.pure rfl) (fun a hf => ?_)
        refine R.nil ?_
        refine X.then_ ?_
        refine C.cond hf (b := decide ((s4.length : Int) > 500000)) rfl (fun hc => ?_) (fun hc => ?_)
        · replace h := h.1 hc
          refine wp_seq ?_
          refine R.list ?_
          refine S.val hf hs (v := .string (ba [])) rfl rfl rfl (V.pure rfl) (fun a hf => ?_)
          refine S.val hf hs (v := .int .i64 2) rfl rfl rfl (V.pure rfl) (fun a hf => ?_)
          refine R.nil ?_
          refine X.then_ ?_
          refine wp_ret ?_
          refine X.then_ret ?_
          exact L.ret hf (run_results2 Tryz.results29 (ResIs.tmp hf rfl) (ResIs.tmp hf rfl)) ⟨[], 2, rfl, h, hs.nil⟩
        · replace h := h.2 hc
          refine wp_skip ?_
          refine X.then_ ?_
          refine wp_seq ?_
          refine R.list ?_
          refine S.val hf hs (v := .string (ba s4)) rfl rfl rfl (V.pure rfl) (fun a hf => ?_)
          refine S.val hf hs (v := .string (ba s4)) rfl rfl rfl (V.pure rfl) (fun a hf => ?_)
          refine S.val hf hs (v := .int .i64 0) rfl rfl rfl (V.pure rfl) (fun a hf => ?_)
          refine R.nil ?_
          refine X.then_ ?_
          refine wp_ret ?_
          exact L.ret hf (run_results2 Tryz.results29 (ResIs.tmp hf rfl) (ResIs.tmp hf rfl)) ⟨s4, 0, rfl, h, hs.nil⟩
      | cons xk2 llk2 =>
        have hltk2 := range_lt hkk2; have hc := range_go hkk2; have hxk2 := range_get hlk2
        obtain ⟨next2, hnext2⟩ : ∃ X : Str → Prop, X = (fun s4 => forIn' (fun k x (s : Str) next => M_ref8_Text_L2 k x s (fun s4 => next s4)) (fun (s : Str) => (fun (s4 : Str) => cnd (decide ((s4.length : Int) > 500000)) (Q [] 2) (Q s4 0)) s) llk2 (k2 + 1) s4) := ⟨_, rfl⟩
        replace h : M_ref8_Text_L2 k2 xk2 s4 next2 := by rw [hnext2]; exact h
        unfold M_ref8_Text_L2 at h
        refine wp_seq ?_
        refine R.list ?_
        refine S.val hf hs (v := .bool true) rfl rfl rfl (V.cmp true rfl rfl rfl rfl hc) (fun a hf => ?_)
        refine R.nil ?_
        refine X.then_ ?_
        refine wp_seq ?_
        refine C.yes hf rfl ?_
        refine wp_skip ?_
        refine X.then_ ?_
        refine wp_seq ?_
        refine wp_block ?_
        refine wp_seq ?_
        refine R.list ?_
        obtain ⟨cs1, he1, hr1⟩ := hv_j.at_ _ _ hxk2
        obtain ⟨u1A, u1C, rfl, hvu1⟩ := hr1
        refine S.val hf hs (v := elemPtr jA (k2 * 2)) rfl rfl rfl (V.index rfl rfl rfl Tryz.runUnderlying36 Tryz.sizeOf90 (hv_j.some_ (lt_of_get hxk2)) (Int.natCast_nonneg _) (lt_of_get hxk2) rfl) (fun a hf => ?_)
        refine S.val hf hs (v := .agg #[.string (ba xk2.Tool), .slice u1A xk2.Holes.length u1C]) rfl rfl rfl (V.loadEl (off := 0) (Ag.args _ _ _) he1 rfl rfl rfl Tryz.isAgg90 Tryz.sizeOf90 rfl rfl) (fun a hf => ?_)
        refine S.alloc hf hs rfl rfl rfl [.string (ba []), .slice none 0 0] rfl Tryz.zeroValue90 rfl (fun g1 a w hf hs => ?_)
        refine S.storeBox 0 hf hs rfl rfl [.string (ba xk2.Tool), .slice u1A xk2.Holes.length u1C] [.string (ba xk2.Tool), .slice u1A xk2.Holes.length u1C] rfl rfl rfl rfl rfl Tryz.sizeOf90 rfl rfl rfl rfl (fun a w hf hs => ?_)
        refine R.nil ?_
        refine X.then_ ?_
        refine wp_seq ?_
        refine R.list ?_
        refine S.val hf hs (v := .string (ba s4)) rfl rfl rfl (V.pure rfl) (fun a hf => ?_)
        refine S.val hf hs (v := .pointer (some ⟨g1, 0, none⟩)) rfl rfl rfl (V.fieldBox rfl rfl Tryz.runUnderlying90 rfl Tryz.sizeOf9 rfl rfl) (fun a hf => ?_)
        refine S.val hf hs (v := .string (ba xk2.Tool)) rfl rfl rfl (V.loadBox 0 rfl rfl rfl Tryz.isAgg9 Tryz.sizeOf9 rfl rfl) (fun a hf => ?_)
        obtain ⟨hcat, h⟩ := h
        refine S.val hf hs (v := .string (ba ([106, 111, 98, 32] ++ xk2.Tool))) rfl rfl rfl (V.strAdd rfl rfl rfl hcat) (fun a hf => ?_)
        obtain ⟨hcat, h⟩ := h
        refine S.val hf hs (v := .string (ba (([106, 111, 98, 32] ++ xk2.Tool) ++ [10]))) rfl rfl rfl (V.strAdd rfl rfl rfl hcat) (fun a hf => ?_)
        obtain ⟨hcat, h⟩ := h
        refine S.val hf hs (v := .string (ba (s4 ++ (([106, 111, 98, 32] ++ xk2.Tool) ++ [10])))) rfl rfl rfl (V.strAdd rfl rfl rfl hcat) (fun a hf => ?_)
        refine S.val hf hs (v := .string (ba (s4 ++ (([106, 111, 98, 32] ++ xk2.Tool) ++ [10])))) rfl rfl rfl (V.pure rfl) (fun a hf => ?_)
        refine R.nil ?_
        refine X.then_ ?_
        refine wp_seq ?_
        refine R.list ?_
        refine S.val hf hs (v := .pointer (some ⟨g1, 1, none⟩)) rfl rfl rfl (V.fieldBox rfl rfl Tryz.runUnderlying90 rfl Tryz.sizeOf88 rfl rfl) (fun a hf => ?_)
        refine S.val hf hs (v := .slice u1A xk2.Holes.length u1C) rfl rfl rfl (V.loadBox 0 rfl rfl rfl Tryz.isAgg88 Tryz.sizeOf88 rfl rfl) (fun a hf => ?_)
        refine S.val hf hs (v := .int .i64 (xk2.Holes.length : Int)) rfl rfl rfl (V.len rfl rfl Tryz.runUnderlying88) (fun a hf => ?_)
        refine S.val hf hs (v := .int .i64 0) rfl rfl rfl (V.pure rfl) (fun a hf => ?_)
        refine R.nil ?_
        refine X.then_ ?_
        refine wp_block ?_
        have hlenk3 := hvu1.len64
        refine C.range (fun (ll : List Hole) a w => ∃ (k3 : Nat) (s6 : Str), xk2.Holes.drop k3 = ll ∧ k3 + ll.length = xk2.Holes.length ∧ forIn' (fun k x (s : Str) next => M_ref8_Text_L3 k x s (fun s6 => next s6)) (fun (s : Str) => (fun (s6 : Str) => next2 s6) s) ll k3 s6 ∧ FrOk 72 [(58, .int .i64 (k3 : Int)), (7, .string (ba s6)), (43, .slice jA j.length jC), (44, .int .i64 (j.length : Int)), (45, .int .i64 (k2 : Int)), (56, .slice u1A xk2.Holes.length u1C), (57, .int .i64 (xk2.Holes.length : Int))] a ∧ Sat w0 none_ [hbox g1 90 [.string (ba xk2.Tool), .slice u1A xk2.Holes.length u1C]] w) xk2.Holes ⟨0, (s4 ++ (([106, 111, 98, 32] ++ xk2.Tool) ++ [10])), rfl, Nat.zero_add _, h, (((((((hf.nil.cons (hf.get 57 _ rfl)).cons (hf.get 56 _ rfl)).cons (hf.get 45 _ rfl)).cons (hf.get 44 _ rfl)).cons (hf.get 43 _ rfl)).cons (hf.get 7 _ rfl)).cons (hf.get 58 _ rfl)), hs⟩ ?_
        clear h hf hs
        rintro llk3 a w ⟨k3, s6, hlk3, hkk3, h, hf, hs⟩
        cases llk3 with
        | nil =>
          have hc := range_done hkk3
          replace h : (fun (s6 : Str) => next2 s6) s6 := h
          refine wp_seq ?_
          refine R.list ?_
          refine S.val hf hs (v := .bool false) rfl rfl rfl (V.cmp false rfl rfl rfl rfl hc) (fun a hf => ?_)
          refine R.nil ?_
          refine X.then_ ?_
          refine wp_seq ?_
          refine C.no hf rfl ?_
          refine wp_exit ?_
          refine X.then_exit ?_
          refine X.then_exit ?_
          refine X.blk_exit ?_
          refine X.blk ?_
          refine X.then_ ?_
          refine R.list ?_
          refine S.val hf hs (v := .int .i64 ((k2 + 1 : Nat) : Int)) rfl rfl rfl (V.incr rfl rfl rfl hltk2 hlenk2) (fun a hf => ?_)
          refine S.val hf hs (v := .int .i64 ((k2 + 1 : Nat) : Int)) rfl rfl rfl (V.pure rfl) (fun a hf => ?_)
          refine R.nil ?_
          refine X.then_ ?_
          exact ⟨xk2, llk2, rfl, k2 + 1, s6, range_drop hlk2, range_len hkk2, (by rw [hnext2] at h; exact h), ((((hf.nil.cons (hf.get 44 _ rfl)).cons (hf.get 43 _ rfl)).cons (hf.get 7 _ rfl)).cons (hf.get 45 _ rfl)), hs.drop⟩
        | cons xk3 llk3 =>
          have hltk3 := range_lt hkk3; have hc := range_go hkk3; have hxk3 := range_get hlk3
          obtain ⟨next3, hnext3⟩ : ∃ X : Str → Prop, X = (fun s6 => forIn' (fun k x (s : Str) next => M_ref8_Text_L3 k x s (fun s6 => next s6)) (fun (s : Str) => (fun (s6 : Str) => next2 s6) s) llk3 (k3 + 1) s6) := ⟨_, rfl⟩
          replace h : M_ref8_Text_L3 k3 xk3 s6 next3 := by rw [hnext3]; exact h
          unfold M_ref8_Text_L3 at h
          refine wp_seq ?_
          refine R.list ?_
          refine S.val hf hs (v := .bool true) rfl rfl rfl (V.cmp true rfl rfl rfl rfl hc) (fun a hf => ?_)
          refine R.nil ?_
          refine X.then_ ?_
          refine wp_seq ?_
          refine C.yes hf rfl ?_
          refine wp_skip ?_
          refine X.then_ ?_
          refine wp_seq ?_
          refine wp_block ?_
          refine wp_seq ?_
          refine R.list ?_
          refine S.val hf hs (v := elemPtr u1A (k3 * 5)) rfl rfl rfl (V.index rfl rfl rfl Tryz.runUnderlying88 Tryz.sizeOf92 (hvu1.some_ (lt_of_get hxk3)) (Int.natCast_nonneg _) (lt_of_get hxk3) rfl) (fun a hf => ?_)
          refine S.val hf hs (v := .agg #[.int .i64 xk3.At.X, .int .i64 xk3.At.Y, .int .i64 xk3.Size, .int .i64 xk3.Depth, .bool xk3.Plated]) rfl rfl rfl (V.loadEl (off := 0) (Ag.args _ _ _) (hvu1.flat hxk3) rfl rfl rfl Tryz.isAgg92 Tryz.sizeOf92 rfl rfl) (fun a hf => ?_)
          refine S.alloc hf hs rfl rfl rfl [.int .i64 0, .int .i64 0, .int .i64 0, .int .i64 0, .bool false] rfl Tryz.zeroValue92 rfl (fun g2 a w hf hs => ?_)
          refine S.storeBox 0 hf hs rfl rfl [.int .i64 xk3.At.X, .int .i64 xk3.At.Y, .int .i64 xk3.Size, .int .i64 xk3.Depth, .bool xk3.Plated] [.int .i64 xk3.At.X, .int .i64 xk3.At.Y, .int .i64 xk3.Size, .int .i64 xk3.Depth, .bool xk3.Plated] rfl rfl rfl rfl rfl Tryz.sizeOf92 rfl rfl rfl rfl (fun a w hf hs => ?_)
          refine R.nil ?_
          refine X.then_ ?_
          refine R.list ?_
          refine S.val hf hs (v := .string (ba s6)) rfl rfl rfl (V.pure rfl) (fun a hf => ?_)
          refine S.val hf hs (v := .agg #[.int .i64 xk3.At.X, .int .i64 xk3.At.Y, .int .i64 xk3.Size, .int .i64 xk3.Depth, .bool xk3.Plated]) rfl rfl rfl (V.loadBox 0 rfl rfl rfl Tryz.isAgg92 Tryz.sizeOf92 rfl rfl) (fun a hf => ?_)
          refine S.call hf rfl rfl rfl (call_fn (vs := [.agg #[.int .i64 xk3.At.X, .int .i64 xk3.At.Y, .int .i64 xk3.Size, .int .i64 xk3.Depth, .bool xk3.Plated]]) rfl rfl rfl Tryz.call66) (R_ref8_holeText xk3 _ (hT.arg hs) _ h) (fun v a w' hf hr => ?_)
          obtain ⟨y2, rfl, h2, hs2⟩ := hr
          replace h := h2; replace hs := hs.call hs2; clear h2 hs2
          obtain ⟨hcat, h⟩ := h
          refine S.val hf hs (v := .string (ba (s6 ++ y2))) rfl rfl rfl (V.strAdd rfl rfl rfl hcat) (fun a hf => ?_)
          refine S.val hf hs (v := .string (ba (s6 ++ y2))) rfl rfl rfl (V.pure rfl) (fun a hf => ?_)
          refine R.nil ?_
          refine X.blk ?_
          refine X.then_ ?_
          refine R.list ?_
          refine S.val hf hs (v := .int .i64 ((k3 + 1 : Nat) : Int)) rfl rfl rfl (V.incr rfl rfl rfl hltk3 hlenk3) (fun a hf => ?_)
          refine S.val hf hs (v := .int .i64 ((k3 + 1 : Nat) : Int)) rfl rfl rfl (V.pure rfl) (fun a hf => ?_)
          refine R.nil ?_
          refine X.then_ ?_
          exact ⟨xk3, llk3, rfl, k3 + 1, (s6 ++ y2), range_drop hlk3, range_len hkk3, (by rw [hnext3] at h; exact h), (((((((hf.nil.cons (hf.get 57 _ rfl)).cons (hf.get 56 _ rfl)).cons (hf.get 45 _ rfl)).cons (hf.get 44 _ rfl)).cons (hf.get 43 _ rfl)).cons (hf.get 7 _ rfl)).cons (hf.get 58 _ rfl)), hs.drop⟩
    | cons xk1 llk1 =>
      have hltk1 := range_lt hkk1; have hc := range_go hkk1; have hxk1 := range_get hlk1
      obtain ⟨next1, hnext1⟩ : ∃ X : Str → Prop, X = (fun s2 => forIn' (fun k x (s : Str) next => M_ref8_Text_L1 k x s (fun s2 => next s2)) (fun (s : Str) => (fun (s2 : Str) => forIn' (fun k x (s : Str) next => M_ref8_Text_L2 k x s (fun s4 => next s4)) (fun (s : Str) => (fun (s4 : Str) => cnd (decide ((s4.length : Int) > 500000)) (Q [] 2) (Q s4 0)) s) j 0 s2) s) llk1 (k1 + 1) s2) := ⟨_, rfl⟩
      replace h : M_ref8_Text_L1 k1 xk1 s2 next1 := by rw [hnext1]; exact h
      unfold M_ref8_Text_L1 at h
      refine wp_seq ?_
      refine R.list ?_
      refine S.val hf hs (v := .bool true) rfl rfl rfl (V.cmp true rfl rfl rfl rfl hc) (fun a hf => ?_)
      refine R.nil ?_
      refine X.then_ ?_
      refine wp_seq ?_
      refine C.yes hf rfl ?_
      refine wp_skip ?_
      refine X.then_ ?_
      refine wp_seq ?_
      refine wp_block ?_
      refine wp_seq ?_
      refine R.list ?_
      refine S.val hf hs (v := elemPtr tA (k1 * 4)) rfl rfl rfl (V.index rfl rfl rfl Tryz.runUnderlying35 Tryz.sizeOf41 (hv_t.some_ (lt_of_get hxk1)) (Int.natCast_nonneg _) (lt_of_get hxk1) rfl) (fun a hf => ?_)
      refine S.val hf hs (v := .agg #[.string (ba xk1.Name), .int .i64 xk1.Size, .int .i64 xk1.Life, .int .i64 xk1.Stack]) rfl rfl rfl (V.loadEl (off := 0) (Ag.args _ _ _) (hv_t.flat hxk1) rfl rfl rfl Tryz.isAgg41 Tryz.sizeOf41 rfl rfl) (fun a hf => ?_)
      refine S.alloc hf hs rfl rfl rfl [.string (ba []), .int .i64 0, .int .i64 0, .int .i64 0] rfl Tryz.zeroValue41 rfl (fun g3 a w hf hs => ?_)
      refine S.storeBox 0 hf hs rfl rfl [.string (ba xk1.Name), .int .i64 xk1.Size, .int .i64 xk1.Life, .int .i64 xk1.Stack] [.string (ba xk1.Name), .int .i64 xk1.Size, .int .i64 xk1.Life, .int .i64 xk1.Stack] rfl rfl rfl rfl rfl Tryz.sizeOf41 rfl rfl rfl rfl (fun a w hf hs => ?_)
      refine R.nil ?_
      refine X.then_ ?_
      refine H.start (S := Sat w0 none_ [hbox g3 41 [.string (ba xk1.Name), .int .i64 xk1.Size, .int .i64 xk1.Life, .int .i64 xk1.Stack]]) mo ?_
      replace hs := hs.drew
      refine H.val hf hs (v := .string (ba s2)) (i := 0) rfl rfl rfl rfl (by kernel_rfl) (by kernel_rfl) (by kernel_rfl) (V.pure rfl) (fun a hf => ?_)
      refine H.val hf hs (v := .pointer (some ⟨g3, 0, none⟩)) (i := 1) rfl rfl rfl rfl (by kernel_rfl) (by kernel_rfl) (by kernel_rfl) (V.fieldBox rfl rfl Tryz.runUnderlying41 rfl Tryz.sizeOf9 rfl rfl) (fun a hf => ?_)
      refine H.val hf hs (v := .string (ba xk1.Name)) (i := 2) rfl rfl rfl rfl (by kernel_rfl) (by kernel_rfl) (by kernel_rfl) (V.loadBox 0 rfl rfl rfl Tryz.isAgg9 Tryz.sizeOf9 rfl rfl) (fun a hf => ?_)
      refine H.val hf hs (v := .pointer (some ⟨g3, 1, none⟩)) (i := 3) rfl rfl rfl rfl (by kernel_rfl) (by kernel_rfl) (by kernel_rfl) (V.fieldBox rfl rfl Tryz.runUnderlying41 rfl Tryz.sizeOf3 rfl rfl) (fun a hf => ?_)
      refine H.val hf hs (v := .int .i64 xk1.Size) (i := 4) rfl rfl rfl rfl (by kernel_rfl) (by kernel_rfl) (by kernel_rfl) (V.loadBox 0 rfl rfl rfl Tryz.isAgg3 Tryz.sizeOf3 rfl rfl) (fun a hf => ?_)
      refine H.val hf hs (v := .pointer (some ⟨g3, 2, none⟩)) (i := 6) rfl rfl rfl rfl (by kernel_rfl) (by kernel_rfl) (by kernel_rfl) (V.fieldBox rfl rfl Tryz.runUnderlying41 rfl Tryz.sizeOf3 rfl rfl) (fun a hf => ?_)
      refine H.val hf hs (v := .int .i64 xk1.Life) (i := 7) rfl rfl rfl rfl (by kernel_rfl) (by kernel_rfl) (by kernel_rfl) (V.loadBox 0 rfl rfl rfl Tryz.isAgg3 Tryz.sizeOf3 rfl rfl) (fun a hf => ?_)
      refine H.val hf hs (v := .pointer (some ⟨g3, 3, none⟩)) (i := 9) rfl rfl rfl rfl (by kernel_rfl) (by kernel_rfl) (by kernel_rfl) (V.fieldBox rfl rfl Tryz.runUnderlying41 rfl Tryz.sizeOf3 rfl rfl) (fun a hf => ?_)
      refine H.val hf hs (v := .int .i64 xk1.Stack) (i := 10) rfl rfl rfl rfl (by kernel_rfl) (by kernel_rfl) (by kernel_rfl) (V.loadBox 0 rfl rfl rfl Tryz.isAgg3 Tryz.sizeOf3 rfl rfl) (fun a hf => ?_)
      refine H.one (i := 5) rfl (by kernel_rfl) ?_
      obtain ⟨hp, h⟩ := h
      refine S.callv hf rfl rfl rfl (call_fn (vs := [.int .i64 xk1.Size]) rfl rfl rfl Tryz.call55) (C_strconv_Itoa xk1.Size _ (hT.arg hs) hp) (fun a w hf hs' => ?_)
      replace hs := hs.call hs'; clear hs'
      refine R.nil ?_
      refine X.then_ ?_
      refine ⟨hs, ?_⟩
      refine H.one (i := 8) rfl (by kernel_rfl) ?_
      obtain ⟨hp, h⟩ := h
      refine S.callv hf rfl rfl rfl (call_fn (vs := [.int .i64 xk1.Life]) rfl rfl rfl Tryz.call55) (C_strconv_Itoa xk1.Life _ (hT.arg hs) hp) (fun a w hf hs' => ?_)
      replace hs := hs.call hs'; clear hs'
      refine R.nil ?_
      refine X.then_ ?_
      refine ⟨hs, ?_⟩
      refine H.one (i := 11) rfl (by kernel_rfl) ?_
      obtain ⟨hp, h⟩ := h
      refine S.callv hf rfl rfl rfl (call_fn (vs := [.int .i64 xk1.Stack]) rfl rfl rfl Tryz.call55) (C_strconv_Itoa xk1.Stack _ (hT.arg hs) hp) (fun a w hf hs' => ?_)
      replace hs := hs.call hs'; clear hs'
      refine R.nil ?_
      refine X.then_ ?_
      refine ⟨hs, ?_⟩
      refine H.one (i := 12) rfl (by kernel_rfl) ?_
      refine S.buildSlice hf hs rfl rfl rfl (α := Str) [[116, 111, 111, 108], xk1.Name, (itoaS xk1.Size), (itoaS xk1.Life), (itoaS xk1.Stack)] rfl rfl Tryz.runUnderlying74 Tryz.sizeOf9 Tryz.zeroValue9 (by kernel_rfl) rfl (by decide) (by decide) (fun A1 a w hf hs => ?_)
      refine R.nil ?_
      refine X.then_ ?_
      refine ⟨(hs.mask [false, true]), ?_⟩
      refine H.one (i := 13) rfl (by kernel_rfl) ?_
      refine S.call hf rfl rfl rfl (call_fn (vs := [.slice A1 ([[116, 111, 111, 108], xk1.Name, (itoaS xk1.Size), (itoaS xk1.Life), (itoaS xk1.Stack)] : List Str).length 5, .string (ba [32])]) rfl rfl rfl Tryz.call65) (R_strings_Join ([[116, 111, 111, 108], xk1.Name, (itoaS xk1.Size), (itoaS xk1.Life), (itoaS xk1.Stack)] : List Str) [32] _ A1 5 (hs.ownView 0 rfl) _ h) (fun v a w' hf hr => ?_)
      obtain ⟨y3, rfl, h2, hs2⟩ := hr
      replace h := h2; replace hs := hs.call hs2; clear h2 hs2
      refine R.nil ?_
      refine X.then_ ?_
      refine ⟨(hs.mask [false, true]), ?_⟩
      obtain ⟨hcat, h⟩ := h
      refine H.val hf (hs.mask [false, true]) (v := .string (ba (y3 ++ [10]))) (i := 14) rfl rfl rfl rfl (by kernel_rfl) (by kernel_rfl) (by kernel_rfl) (V.strAdd rfl rfl rfl hcat) (fun a hf => ?_)
      obtain ⟨hcat, h⟩ := h
      refine H.val hf (hs.mask [false, true]) (v := .string (ba (s2 ++ (y3 ++ [10])))) (i := 15) rfl rfl rfl rfl (by kernel_rfl) (by kernel_rfl) (by kernel_rfl) (V.strAdd rfl rfl rfl hcat) (fun a hf => ?_)
      refine H.val hf (hs.mask [false, true]) (v := .string (ba (s2 ++ (y3 ++ [10])))) (i := 16) rfl rfl rfl rfl (by kernel_rfl) (by kernel_rfl) (by kernel_rfl) (V.pure rfl) (fun a hf => ?_)
      refine H.done (by kernel_rfl) ?_
      refine X.blk ?_
      refine X.then_ ?_
      refine R.list ?_
      refine S.val hf hs (v := .int .i64 ((k1 + 1 : Nat) : Int)) rfl rfl rfl (V.incr rfl rfl rfl hltk1 hlenk1) (fun a hf => ?_)
      refine S.val hf hs (v := .int .i64 ((k1 + 1 : Nat) : Int)) rfl rfl rfl (V.pure rfl) (fun a hf => ?_)
      refine R.nil ?_
      refine X.then_ ?_
      exact ⟨xk1, llk1, rfl, k1 + 1, (s2 ++ (y3 ++ [10])), range_drop hlk1, range_len hkk1, (by rw [hnext1] at h; exact h), (((((hf.nil.cons (hf.get 21 _ rfl)).cons (hf.get 20 _ rfl)).cons (hf.get 7 _ rfl)).cons (hf.get 1 _ rfl)).cons (hf.get 22 _ rfl)), hs.drop.drop⟩

set_option linter.unusedVariables false
def M_law_DrillTexts_k1 (t : (List Bit)) (j : (List Job)) (Q : Bool → Prop) (y1 : Str) (y2 : Int) (c1 : Bool) : Prop :=
  cnd c1 (Q false) (cnd (y2 != 0) (Q true) (M_drill_Read y1 fun y5 y6 y7 y8 => cnd (y8 == 0) (cnd (y7 == 0) (M_equal_bit t y5 fun y9 => cnd y9 (M_ref8_SameJobs j y6 fun y10 => Q y10) (Q false)) (Q false)) (Q false)))
def M_law_DrillTexts (t : (List Bit)) (j : (List Job)) (Q : Bool → Prop) : Prop :=
  M_drill_Text t j fun y1 y2 => M_ref8_Text t j fun y3 y4 => cnd (y2 != y4) (M_law_DrillTexts_k1 t j Q y1 y2 true) (cnd (!(y1 == y3)) (M_law_DrillTexts_k1 t j Q y1 y2 true) (M_awake  fun y11 => M_law_DrillTexts_k1 t j Q y1 y2 (!y11)))
set_option maxHeartbeats 1000000 in
theorem R_law_DrillTexts (t : (List Bit)) (j : (List Job)) (w0 : World) (tA : Option Addr) (tC : Nat) (hv_t : View w0 (old w0 none_) tA tC t) (jA : Option Addr) (jC : Nat) (hv_j : View w0 (old w0 none_) jA jC j) (hT : TabIn Tryz.prog w0 (old w0 none_)) (Q : Bool → Prop) (h : M_law_DrillTexts t j Q) :
    Ret Tryz.prog 7 #[.slice tA t.length tC, .slice jA j.length jC] w0 fun v w' => ∃ (r0 : Bool), v = .bool r0 ∧ Q r0 ∧ Sat w0 none_ [] w' := by
  refine fn_enter Tryz.func7 rfl Tryz.ntmps7 rfl (fs := [(0, .slice tA t.length tC), (1, .slice jA j.length jC)]) rfl (fun a hf => ?_)
  have hs := Sat.start w0 none_
  unfold M_law_DrillTexts at h
  refine wp_seq ?_
  refine R.list ?_
  refine S.val hf hs (v := .bool false) rfl rfl rfl (V.pure rfl) (fun a hf => ?_)
  refine R.nil ?_
  refine X.then_ ?_
  refine wp_seq ?_
  refine R.list ?_
  refine S.val hf hs (v := .slice tA t.length tC) rfl rfl rfl (V.pure rfl) (fun a hf => ?_)
  refine S.val hf hs (v := .slice jA j.length jC) rfl rfl rfl (V.pure rfl) (fun a hf => ?_)
  refine S.call hf rfl rfl rfl (call_fn (vs := [.slice tA t.length tC, .slice jA j.length jC]) rfl rfl rfl Tryz.call28) (R_drill_Text t j _ tA tC ((Ag.args _ _ _).view hv_t hs) jA jC ((Ag.args _ _ _).view hv_j hs) (hT.arg hs) _ h) (fun v a w' hf hr => ?_)
  obtain ⟨y1, y2, rfl, h2, hs2⟩ := hr
  replace h := h2; replace hs := hs.call hs2; clear h2 hs2
  refine S.val hf hs (v := .tuple #[.string (ba y1), .int .i64 y2]) rfl rfl rfl (V.pure rfl) (fun a hf => ?_)
  refine S.val hf hs (v := .string (ba y1)) rfl rfl rfl (V.pure rfl) (fun a hf => ?_)
  refine S.val hf hs (v := .int .i64 y2) rfl rfl rfl (V.pure rfl) (fun a hf => ?_)
  refine S.val hf hs (v := .string (ba y1)) rfl rfl rfl (V.pure rfl) (fun a hf => ?_)
  refine S.val hf hs (v := .int .i64 y2) rfl rfl rfl (V.pure rfl) (fun a hf => ?_)
  refine R.nil ?_
  refine X.then_ ?_
  refine wp_seq ?_
  refine R.list ?_
  refine S.val hf hs (v := .slice tA t.length tC) rfl rfl rfl (V.pure rfl) (fun a hf => ?_)
  refine S.val hf hs (v := .slice jA j.length jC) rfl rfl rfl (V.pure rfl) (fun a hf => ?_)
  refine S.call hf rfl rfl rfl (call_fn (vs := [.slice tA t.length tC, .slice jA j.length jC]) rfl rfl rfl Tryz.call29) (R_ref8_Text t j _ tA tC ((Ag.args _ _ _).view hv_t hs) jA jC ((Ag.args _ _ _).view hv_j hs) (hT.arg hs) _ h) (fun v a w' hf hr => ?_)
  obtain ⟨y3, y4, rfl, h2, hs2⟩ := hr
  replace h := h2; replace hs := hs.call hs2; clear h2 hs2
  refine S.val hf hs (v := .tuple #[.string (ba y3), .int .i64 y4]) rfl rfl rfl (V.pure rfl) (fun a hf => ?_)
  refine S.val hf hs (v := .string (ba y3)) rfl rfl rfl (V.pure rfl) (fun a hf => ?_)
  refine S.val hf hs (v := .int .i64 y4) rfl rfl rfl (V.pure rfl) (fun a hf => ?_)
  refine S.val hf hs (v := .string (ba y3)) rfl rfl rfl (V.pure rfl) (fun a hf => ?_)
  refine S.val hf hs (v := .int .i64 y4) rfl rfl rfl (V.pure rfl) (fun a hf => ?_)
  refine R.nil ?_
  refine X.then_ ?_
  refine wp_seq ?_
  refine wp_seq ?_
  refine C.cut (J := fun a w => ∃ (c1 : Bool), M_law_DrillTexts_k1 t j Q y1 y2 c1 ∧ FrOk 61 [(0, .slice tA t.length tC), (1, .slice jA j.length jC), (5, .string (ba y1)), (6, .int .i64 y2), (35, .bool c1)] a ∧ Sat w0 none_ [] w) ?_ ?_
  · rintro a w ⟨c1, h, hf, hs⟩
    unfold M_law_DrillTexts_k1 at h
    refine C.cond hf (b := c1) rfl (fun hc => ?_) (fun hc => ?_)
    · replace h := h.1 hc
      refine wp_seq ?_
      refine R.list ?_
      refine S.val hf hs (v := .bool false) rfl rfl rfl (V.pure rfl) (fun a hf => ?_)
      refine R.nil ?_
      refine X.then_ ?_
      refine wp_ret ?_
      refine X.then_ret ?_
      exact L.ret hf (run_results1 Tryz.results7 (ResIs.tmp hf rfl)) ⟨false, rfl, h, hs.nil⟩
    · replace h := h.2 hc
      refine wp_skip ?_
      refine X.then_ ?_
      refine wp_seq ?_
      refine wp_seq ?_
      refine R.list ?_
      refine S.val hf hs (v := .int .i64 y2) rfl rfl rfl (V.pure rfl) (fun a hf => ?_)
      refine S.val hf hs (v := .bool (y2 != 0)) rfl rfl rfl (V.pure rfl) (fun a hf => ?_)
      refine R.nil ?_
      refine X.then_ ?_
      refine C.cond hf (b := y2 != 0) rfl (fun hc => ?_) (fun hc => ?_)
      · replace h := h.1 hc
        refine wp_seq ?_
        refine R.list ?_
        refine S.val hf hs (v := .bool true) rfl rfl rfl (V.pure rfl) (fun a hf => ?_)
        refine R.nil ?_
        refine X.then_ ?_
        refine wp_ret ?_
        refine X.then_ret ?_
        exact L.ret hf (run_results1 Tryz.results7 (ResIs.tmp hf rfl)) ⟨true, rfl, h, hs.nil⟩
      · replace h := h.2 hc
        refine wp_skip ?_
        refine X.then_ ?_
        refine wp_seq ?_
        refine R.list ?_
        refine S.val hf hs (v := .string (ba y1)) rfl rfl rfl (V.pure rfl) (fun a hf => ?_)
        refine S.call hf rfl rfl rfl (call_fn (vs := [.string (ba y1)]) rfl rfl rfl Tryz.call16) (R_drill_Read y1 _  _ h) (fun v a w' hf hr => ?_)
        obtain ⟨y5, y5A, y5C, y6, y6A, y6C, y6as, y7, y8, rfl, h2, hs2⟩ := hr
        replace h := h2; replace hs := hs.call hs2; clear h2 hs2
        refine S.val hf hs (v := .tuple #[.slice y5A y5.length y5C, .slice y6A y6.length y6C, .int .i64 y7, .int .i64 y8]) rfl rfl rfl (V.pure rfl) (fun a hf => ?_)
        refine S.val hf hs (v := .slice y5A y5.length y5C) rfl rfl rfl (V.pure rfl) (fun a hf => ?_)
        refine S.val hf hs (v := .slice y6A y6.length y6C) rfl rfl rfl (V.pure rfl) (fun a hf => ?_)
        refine S.val hf hs (v := .int .i64 y7) rfl rfl rfl (V.pure rfl) (fun a hf => ?_)
        refine S.val hf hs (v := .int .i64 y8) rfl rfl rfl (V.pure rfl) (fun a hf => ?_)
        refine S.val hf hs (v := .slice y5A y5.length y5C) rfl rfl rfl (V.pure rfl) (fun a hf => ?_)
        refine S.val hf hs (v := .slice y6A y6.length y6C) rfl rfl rfl (V.pure rfl) (fun a hf => ?_)
        refine S.val hf hs (v := .int .i64 y7) rfl rfl rfl (V.pure rfl) (fun a hf => ?_)
        refine S.val hf hs (v := .int .i64 y8) rfl rfl rfl (V.pure rfl) (fun a hf => ?_)
        refine R.nil ?_
        refine X.then_ ?_
        refine wp_seq ?_
        refine R.list ?_
        refine S.val hf hs (v := .int .i64 y8) rfl rfl rfl (V.pure rfl) (fun a hf => ?_)
        refine S.val hf hs (v := .bool (y8 == 0)) rfl rfl rfl (V.pure rfl) (fun a hf => ?_)
        refine S.split hf hs (b := y8 == 0) rfl rfl rfl (V.pure rfl) (fun hc a hf => ?_) (fun hc a hf => ?_)
        · replace h := h.1 hc
          refine S.val hf hs (v := .int .i64 y7) rfl rfl rfl (V.pure rfl) (fun a hf => ?_)
          refine S.val hf hs (v := .bool (y7 == 0)) rfl rfl rfl (V.pure rfl) (fun a hf => ?_)
          refine S.val hf hs (v := .bool (y7 == 0)) rfl rfl rfl (V.pure rfl) (fun a hf => ?_)
          refine S.split hf hs (b := y7 == 0) rfl rfl rfl (V.pure rfl) (fun hc a hf => ?_) (fun hc a hf => ?_)
          · replace h := h.1 hc
            refine S.val hf hs (v := .slice tA t.length tC) rfl rfl rfl (V.pure rfl) (fun a hf => ?_)
            refine S.val hf hs (v := .slice y5A y5.length y5C) rfl rfl rfl (V.pure rfl) (fun a hf => ?_)
            refine S.call hf rfl rfl rfl (call_fn (vs := [.slice tA t.length tC, .slice y5A y5.length y5C]) rfl rfl rfl Tryz.call18) (R_equal_bit t y5 _ tA tC ((Ag.args _ _ _).view hv_t hs) y5A y5C (hs.ownView 0 rfl) _ h) (fun v a w' hf hr => ?_)
            obtain ⟨y9, rfl, h2, hs2⟩ := hr
            replace h := h2; replace hs := hs.call hs2; clear h2 hs2
            refine S.val hf hs (v := .bool y9) rfl rfl rfl (V.pure rfl) (fun a hf => ?_)
            refine S.split hf hs (b := y9) rfl rfl rfl (V.pure rfl) (fun hc a hf => ?_) (fun hc a hf => ?_)
            · replace h := h.1 hc
              refine S.val hf hs (v := .slice jA j.length jC) rfl rfl rfl (V.pure rfl) (fun a hf => ?_)
              refine S.val hf hs (v := .slice y6A y6.length y6C) rfl rfl rfl (V.pure rfl) (fun a hf => ?_)
              refine S.call hf rfl rfl rfl (call_fn (vs := [.slice jA j.length jC, .slice y6A y6.length y6C]) rfl rfl rfl Tryz.call19) (R_ref8_SameJobs j y6 _ jA jC ((Ag.args _ _ _).view hv_j hs) y6A y6C (hs.rowsView 1 rfl) _ h) (fun v a w' hf hr => ?_)
              obtain ⟨y10, rfl, h2, hs2⟩ := hr
              replace h := h2; replace hs := hs.call hs2; clear h2 hs2
              refine S.val hf hs (v := .bool y10) rfl rfl rfl (V.pure rfl) (fun a hf => ?_)
              refine S.val hf hs (v := .bool y10) rfl rfl rfl (V.pure rfl) (fun a hf => ?_)
              refine R.nil ?_
              refine X.then_ ?_
              refine wp_ret ?_
              exact L.ret hf (run_results1 Tryz.results7 (ResIs.tmp hf rfl)) ⟨y10, rfl, h, hs.nil⟩
            · replace h := h.2 hc
              refine S.skip hf rfl rfl rfl (fun a hf => ?_)
              refine S.skip hf rfl rfl rfl (fun a hf => ?_)
              refine S.skip hf rfl rfl rfl (fun a hf => ?_)
              refine S.val hf hs (v := .bool false) rfl rfl rfl (V.pure rfl) (fun a hf => ?_)
              refine S.val hf hs (v := .bool false) rfl rfl rfl (V.pure rfl) (fun a hf => ?_)
              refine R.nil ?_
              refine X.then_ ?_
              refine wp_ret ?_
              exact L.ret hf (run_results1 Tryz.results7 (ResIs.tmp hf rfl)) ⟨false, rfl, h, hs.nil⟩
          · replace h := h.2 hc
            refine S.skip hf rfl rfl rfl (fun a hf => ?_)
            refine S.skip hf rfl rfl rfl (fun a hf => ?_)
            refine S.skip hf rfl rfl rfl (fun a hf => ?_)
            refine S.val hf hs (v := .bool false) rfl rfl rfl (V.pure rfl) (fun a hf => ?_)
            refine S.val hf hs (v := .bool false) rfl rfl rfl (V.pure rfl) (fun a hf => ?_)
            refine S.skip hf rfl rfl rfl (fun a hf => ?_)
            refine S.skip hf rfl rfl rfl (fun a hf => ?_)
            refine S.skip hf rfl rfl rfl (fun a hf => ?_)
            refine S.val hf hs (v := .bool false) rfl rfl rfl (V.pure rfl) (fun a hf => ?_)
            refine S.val hf hs (v := .bool false) rfl rfl rfl (V.pure rfl) (fun a hf => ?_)
            refine R.nil ?_
            refine X.then_ ?_
            refine wp_ret ?_
            exact L.ret hf (run_results1 Tryz.results7 (ResIs.tmp hf rfl)) ⟨false, rfl, h, hs.nil⟩
        · replace h := h.2 hc
          refine S.skip hf rfl rfl rfl (fun a hf => ?_)
          refine S.skip hf rfl rfl rfl (fun a hf => ?_)
          refine S.val hf hs (v := .bool false) rfl rfl rfl (V.pure rfl) (fun a hf => ?_)
          refine S.val hf hs (v := .bool false) rfl rfl rfl (V.pure rfl) (fun a hf => ?_)
          refine S.skip hf rfl rfl rfl (fun a hf => ?_)
          refine S.skip hf rfl rfl rfl (fun a hf => ?_)
          refine S.skip hf rfl rfl rfl (fun a hf => ?_)
          refine S.val hf hs (v := .bool false) rfl rfl rfl (V.pure rfl) (fun a hf => ?_)
          refine S.val hf hs (v := .bool false) rfl rfl rfl (V.pure rfl) (fun a hf => ?_)
          refine S.skip hf rfl rfl rfl (fun a hf => ?_)
          refine S.skip hf rfl rfl rfl (fun a hf => ?_)
          refine S.skip hf rfl rfl rfl (fun a hf => ?_)
          refine S.val hf hs (v := .bool false) rfl rfl rfl (V.pure rfl) (fun a hf => ?_)
          refine S.val hf hs (v := .bool false) rfl rfl rfl (V.pure rfl) (fun a hf => ?_)
          refine R.nil ?_
          refine X.then_ ?_
          refine wp_ret ?_
          exact L.ret hf (run_results1 Tryz.results7 (ResIs.tmp hf rfl)) ⟨false, rfl, h, hs.nil⟩
  · skip
    refine R.list ?_
    refine S.val hf hs (v := .int .i64 y2) rfl rfl rfl (V.pure rfl) (fun a hf => ?_)
    refine S.val hf hs (v := .int .i64 y4) rfl rfl rfl (V.pure rfl) (fun a hf => ?_)
    refine S.val hf hs (v := .bool (y2 != y4)) rfl rfl rfl (V.pure rfl) (fun a hf => ?_)
    refine S.split hf hs (b := y2 != y4) rfl rfl rfl (V.pure rfl) (fun hc a hf => ?_) (fun hc a hf => ?_)
    · replace h := h.1 hc
      refine S.skip hf rfl rfl rfl (fun a hf => ?_)
      refine S.skip hf rfl rfl rfl (fun a hf => ?_)
      refine S.skip hf rfl rfl rfl (fun a hf => ?_)
      refine S.val hf hs (v := .bool true) rfl rfl rfl (V.pure rfl) (fun a hf => ?_)
      refine S.val hf hs (v := .bool true) rfl rfl rfl (V.pure rfl) (fun a hf => ?_)
      refine S.skip hf rfl rfl rfl (fun a hf => ?_)
      refine S.skip hf rfl rfl rfl (fun a hf => ?_)
      refine S.val hf hs (v := .bool true) rfl rfl rfl (V.pure rfl) (fun a hf => ?_)
      refine R.nil ?_
      refine X.then_ ?_
      exact ⟨true, h, (((((hf.nil.cons (hf.get 35 _ rfl)).cons (hf.get 6 _ rfl)).cons (hf.get 5 _ rfl)).cons (hf.get 1 _ rfl)).cons (hf.get 0 _ rfl)), hs⟩
    · replace h := h.2 hc
      refine S.val hf hs (v := .string (ba y1)) rfl rfl rfl (V.pure rfl) (fun a hf => ?_)
      refine S.val hf hs (v := .string (ba y3)) rfl rfl rfl (V.pure rfl) (fun a hf => ?_)
      refine S.val hf hs (v := .bool (!(y1 == y3))) rfl rfl rfl (V.strCmp (!(y1 == y3)) rfl rfl rfl rfl) (fun a hf => ?_)
      refine S.val hf hs (v := .bool (!(y1 == y3))) rfl rfl rfl (V.pure rfl) (fun a hf => ?_)
      refine S.split hf hs (b := !(y1 == y3)) rfl rfl rfl (V.pure rfl) (fun hc a hf => ?_) (fun hc a hf => ?_)
      · replace h := h.1 hc
        refine S.skip hf rfl rfl rfl (fun a hf => ?_)
        refine S.skip hf rfl rfl rfl (fun a hf => ?_)
        refine S.val hf hs (v := .bool true) rfl rfl rfl (V.pure rfl) (fun a hf => ?_)
        refine R.nil ?_
        refine X.then_ ?_
        exact ⟨true, h, (((((hf.nil.cons (hf.get 35 _ rfl)).cons (hf.get 6 _ rfl)).cons (hf.get 5 _ rfl)).cons (hf.get 1 _ rfl)).cons (hf.get 0 _ rfl)), hs⟩
      · replace h := h.2 hc
        refine S.call hf rfl rfl rfl (call_fn (vs := []) rfl rfl rfl Tryz.call20) (R_awake  _  _ h) (fun v a w' hf hr => ?_)
        obtain ⟨y11, rfl, h2, hs2⟩ := hr
        replace h := h2; replace hs := hs.call hs2; clear h2 hs2
        refine S.val hf hs (v := .bool (!y11)) rfl rfl rfl (V.pure rfl) (fun a hf => ?_)
        refine S.val hf hs (v := .bool (!y11)) rfl rfl rfl (V.pure rfl) (fun a hf => ?_)
        refine R.nil ?_
        refine X.then_ ?_
        exact ⟨(!y11), h, (((((hf.nil.cons (hf.get 35 _ rfl)).cons (hf.get 6 _ rfl)).cons (hf.get 5 _ rfl)).cons (hf.get 1 _ rfl)).cons (hf.get 0 _ rfl)), hs⟩


end Go.Proofs.YtdnilnmdbgcmoaaGreatDoor
