/- Writing bodies and places: the walks. -/
import Derived.Test.YtdnilnmdbgcmoaaGreatDoorMtE
import Derived.Test.YtdnilnmdbgcmoaaGreatDoorTextU
namespace Go.Proofs.YtdnilnmdbgcmoaaGreatDoor
open Go Go.RowKit Go.Proofs Go.Shelf Go.Lib
set_option linter.unusedVariables false

set_option linter.unusedVariables false
def M_mount_side (p : Place) (Q : Int → Prop) : Prop :=
  cnd p.Below (Q 1) (Q 0)
set_option maxHeartbeats 1000000 in
theorem R_mount_side (p : Place) (w0 : World)  (Q : Int → Prop) (h : M_mount_side p Q) :
    Ret Tryz.prog 68 #[.agg #[.string (ba p.Part), .string (ba p.Typ), .int .i64 p.At.X, .int .i64 p.At.Y, .int .i64 p.Quarters, .bool p.Below]] w0 fun v w' => ∃ (r0 : Int), v = .int .i64 r0 ∧ Q r0 ∧ Sat w0 none_ [] w' := by
  refine fn_enter Tryz.func68 rfl Tryz.ntmps68 rfl (fs := [(0, .agg #[.string (ba p.Part), .string (ba p.Typ), .int .i64 p.At.X, .int .i64 p.At.Y, .int .i64 p.Quarters, .bool p.Below])]) rfl (fun a hf => ?_)
  have hs := Sat.start w0 none_
  unfold M_mount_side at h
  refine wp_seq ?_
  refine R.list ?_
  refine S.box hf hs rfl rfl rfl [.string (ba p.Part), .string (ba p.Typ), .int .i64 p.At.X, .int .i64 p.At.Y, .int .i64 p.Quarters, .bool p.Below] rfl rfl rfl (fun g1 a w hf hs => ?_)
  refine S.val hf hs (v := .int .i64 0) rfl rfl rfl (V.pure rfl) (fun a hf => ?_)
  refine R.nil ?_
  refine X.then_ ?_
  refine wp_seq ?_
  refine wp_seq ?_
  refine R.list ?_
  refine S.val hf hs (v := .pointer (some ⟨g1, 5, none⟩)) rfl rfl rfl (V.fieldBox rfl rfl Tryz.runUnderlying57 rfl Tryz.sizeOf4 rfl rfl) (fun a hf => ?_)
  refine S.val hf hs (v := .bool p.Below) rfl rfl rfl (V.loadBox 0 rfl rfl rfl Tryz.isAgg4 Tryz.sizeOf4 rfl rfl) (fun a hf => ?_)
  refine R.nil ?_
  refine X.then_ ?_
  refine C.cond hf (b := p.Below) rfl (fun hc => ?_) (fun hc => ?_)
  · replace h := h.1 hc
    refine wp_seq ?_
    refine R.list ?_
    refine S.val hf hs (v := .int .i64 1) rfl rfl rfl (V.pure rfl) (fun a hf => ?_)
    refine R.nil ?_
    refine X.then_ ?_
    refine wp_ret ?_
    refine X.then_ret ?_
    exact L.ret hf (run_results1 Tryz.results68 (ResIs.tmp hf rfl)) ⟨1, rfl, h, hs.nil⟩
  · replace h := h.2 hc
    refine wp_skip ?_
    refine X.then_ ?_
    refine wp_seq ?_
    refine R.list ?_
    refine S.val hf hs (v := .int .i64 0) rfl rfl rfl (V.pure rfl) (fun a hf => ?_)
    refine R.nil ?_
    refine X.then_ ?_
    refine wp_ret ?_
    exact L.ret hf (run_results1 Tryz.results68 (ResIs.tmp hf rfl)) ⟨0, rfl, h, hs.nil⟩

set_option linter.unusedVariables false
def M_mount_line (words : (List Str)) (b : StringsBuilder) (Q : StringsBuilder → Prop) : Prop :=
  M_strings_Join words [32] fun y1 => must (y1.length + [10].length ≤ 9223372036854775807) (M_bld_WriteString b (y1 ++ [10]) fun y2 y3 z1 => Q z1)
set_option maxHeartbeats 1000000 in
theorem R_mount_line (words : (List Str)) (b : StringsBuilder) (w0 : World) (F0 : Nat → Prop) (wordsA : Option Addr) (wordsC : Nat) (hv_words : View w0 (old w0 F0) wordsA wordsC words) (bg : Nat) (b_bufA : Option Addr) (b_bufC : Nat) (hs0 : Sat w0 F0 [hbox bg 101 [.pointer (selfp b.addr bg), .slice b_bufA b.buf.length b_bufC], hown 5 b_bufA b_bufC b.buf] w0) (Q : StringsBuilder → Prop) (h : M_mount_line words b Q) :
    Ret Tryz.prog 67 #[.slice wordsA words.length wordsC, .pointer (some ⟨bg, 0, none⟩)] w0 fun v w' => ∃ (b1 : StringsBuilder) (b1_bufA : Option Addr) (b1_bufC : Nat), v = .tuple #[] ∧ Q b1 ∧ Sat w0 F0 [hbox bg 101 [.pointer (selfp b1.addr bg), .slice b1_bufA b1.buf.length b1_bufC], hown 5 b1_bufA b1_bufC b1.buf] w' := by
  refine fn_enter Tryz.func67 rfl Tryz.ntmps67 rfl (fs := [(0, .slice wordsA words.length wordsC), (1, .pointer (some ⟨bg, 0, none⟩))]) rfl (fun a hf => ?_)
  have hs := hs0
  unfold M_mount_line at h
  refine R.list ?_
  refine S.val hf hs (v := .slice wordsA words.length wordsC) rfl rfl rfl (V.pure rfl) (fun a hf => ?_)
  refine S.call hf rfl rfl rfl (call_fn (vs := [.slice wordsA words.length wordsC, .string (ba [32])]) rfl rfl rfl Tryz.call65) (R_strings_Join words [32] _ wordsA wordsC ((Ag.args _ _ _).view hv_words hs) _ h) (fun v a w' hf hr => ?_)
  obtain ⟨y1, rfl, h2, hs2⟩ := hr
  replace h := h2; replace hs := hs.call hs2; clear h2 hs2
  obtain ⟨hcat, h⟩ := h
  refine S.val hf hs (v := .string (ba (y1 ++ [10]))) rfl rfl rfl (V.strAdd rfl rfl rfl hcat) (fun a hf => ?_)
  replace hs := hs.front 1 rfl
  replace hs := hs.front 1 rfl
  obtain ⟨F1, hsF, hback, hold, hrest⟩ := Sat.callOwns [hbox bg 101 [.pointer (selfp b.addr bg), .slice b_bufA b.buf.length b_bufC], hown 5 b_bufA b_bufC b.buf] (σ := []) hs
  refine S.call hf rfl rfl rfl (call_fn (vs := [.pointer (some ⟨bg, 0, none⟩), .string (ba (y1 ++ [10]))]) rfl rfl rfl Tryz.call54) (R_bld_WriteString b (y1 ++ [10]) _ _ bg b_bufA b_bufC hsF _ h) (fun v a w' hf hr => ?_)
  obtain ⟨y2, y3, z1, z1_bufA, z1_bufC, rfl, h2, hs2⟩ := hr
  replace h := h2; replace hs := hback _ _ hs2; clear h2 hs2 hback hold hrest hsF
  refine R.nil ?_
  replace hs := hs.front 1 rfl
  replace hs := hs.front 1 rfl
  replace hs := hs.take 2
  exact L.end0 Tryz.results67 hf ⟨z1, z1_bufA, z1_bufC, rfl, h, hs⟩

set_option linter.unusedVariables false
def M_mount_Text_L2  (k2 : Nat) (xk2 : Place) (l4 : List UInt8) (b4 : Bool) (next2 : List UInt8 → Bool → Prop) : Prop :=
  must (isI64 xk2.At.X) (must (isI64 xk2.At.Y) (must (isI64 xk2.Quarters) (M_mount_side xk2 fun y3 => idx ([[117, 112], [100, 111, 119, 110]] : List Str) y3 fun x1 => M_mount_line ([[112, 108, 97, 99, 101], xk2.Part, xk2.Typ, (itoaS xk2.At.X), (itoaS xk2.At.Y), (itoaS xk2.Quarters), x1] : List Str) (⟨b4, l4⟩ : StringsBuilder) fun z1 => next2 z1.buf z1.addr)))
def M_mount_Text_L1  (k1 : Nat) (xk1 : Body) (l2 : List UInt8) (b2 : Bool) (next1 : List UInt8 → Bool → Prop) : Prop :=
  must (isI64 xk1.W) (must (isI64 xk1.H) (must (isI64 xk1.Tall) (M_mount_line ([[98, 111, 100, 121], xk1.Typ, (itoaS xk1.W), (itoaS xk1.H), (itoaS xk1.Tall), xk1.Nozzle] : List Str) (⟨b2, l2⟩ : StringsBuilder) fun z2 => next1 z2.buf z2.addr)))
def M_mount_Text (b : (List Body)) (l : (List Place)) (Q : Str → Int → Prop) : Prop :=
  M_mount_CheckPlaces b l fun y1 => cnd (y1 != 0) (Q [] y1) (forIn' (fun k x (s : List UInt8 × Bool) next => M_mount_Text_L1 k x s.1 s.2 (fun l2 b2 => next (l2, b2))) (fun (s : List UInt8 × Bool) => (fun (l2 : List UInt8) (b2 : Bool) => forIn' (fun k x (s : List UInt8 × Bool) next => M_mount_Text_L2 k x s.1 s.2 (fun l4 b4 => next (l4, b4))) (fun (s : List UInt8 × Bool) => (fun (l4 : List UInt8) (b4 : Bool) => M_bld_Len (⟨b4, l4⟩ : StringsBuilder) fun y2 => cnd (decide (y2 > 300000)) (Q [] 2) (Q l4 0)) s.1 s.2) l 0 (l2, b2)) s.1 s.2) b 0 (([] : List UInt8), false))
set_option maxHeartbeats 1000000 in
theorem R_mount_Text (b : (List Body)) (l : (List Place)) (w0 : World) (bA : Option Addr) (bC : Nat) (hv_b : View w0 (old w0 none_) bA bC b) (lA : Option Addr) (lC : Nat) (hv_l : View w0 (old w0 none_) lA lC l) (hT : TabIn Tryz.prog w0 (old w0 none_)) (Q : Str → Int → Prop) (h : M_mount_Text b l Q) :
    Ret Tryz.prog 30 #[.slice bA b.length bC, .slice lA l.length lC] w0 fun v w' => ∃ (r0 : Str) (r1 : Int), v = .tuple #[.string (ba r0), .int .i64 r1] ∧ Q r0 r1 ∧ Sat w0 none_ [] w' := by
  refine fn_enter Tryz.func30 rfl Tryz.ntmps30 rfl (fs := [(0, .slice bA b.length bC), (1, .slice lA l.length lC)]) rfl (fun a hf => ?_)
  have hs := Sat.start w0 none_
  unfold M_mount_Text at h
  refine wp_seq ?_
  refine R.list ?_
  refine S.val hf hs (v := .string (ba [])) rfl rfl rfl (V.pure rfl) (fun a hf => ?_)
  refine S.val hf hs (v := .int .i64 0) rfl rfl rfl (V.pure rfl) (fun a hf => ?_)
  refine R.nil ?_
  refine X.then_ ?_
  refine wp_seq ?_
  refine wp_seq ?_
  refine R.list ?_
  refine S.val hf hs (v := .slice bA b.length bC) rfl rfl rfl (V.pure rfl) (fun a hf => ?_)
  refine S.val hf hs (v := .slice lA l.length lC) rfl rfl rfl (V.pure rfl) (fun a hf => ?_)
  refine S.call hf rfl rfl rfl (call_fn (vs := [.slice bA b.length bC, .slice lA l.length lC]) rfl rfl rfl Tryz.call59) (R_mount_CheckPlaces b l _ bA bC ((Ag.args _ _ _).view hv_b hs) lA lC ((Ag.args _ _ _).view hv_l hs) _ h) (fun v a w' hf hr => ?_)
  obtain ⟨y1, rfl, h2, hs2⟩ := hr
  replace h := h2; replace hs := hs.call hs2; clear h2 hs2
  refine S.val hf hs (v := .int .i64 y1) rfl rfl rfl (V.pure rfl) (fun a hf => ?_)
  refine R.nil ?_
  refine X.then_ ?_
  refine wp_seq ?_
  refine R.list ?_
  refine S.val hf hs (v := .int .i64 y1) rfl rfl rfl (V.pure rfl) (fun a hf => ?_)
  refine S.val hf hs (v := .bool (y1 != 0)) rfl rfl rfl (V.pure rfl) (fun a hf => ?_)
  refine R.nil ?_
  refine X.then_ ?_
  refine C.cond hf (b := y1 != 0) rfl (fun hc => ?_) (fun hc => ?_)
  · replace h := h.1 hc
    refine wp_seq ?_
    refine R.list ?_
    refine S.val hf hs (v := .int .i64 y1) rfl rfl rfl (V.pure rfl) (fun a hf => ?_)
    refine S.val hf hs (v := .string (ba [])) rfl rfl rfl (V.pure rfl) (fun a hf => ?_)
    refine S.val hf hs (v := .int .i64 y1) rfl rfl rfl (V.pure rfl) (fun a hf => ?_)
    refine R.nil ?_
    refine X.then_ ?_
    refine wp_ret ?_
    refine X.then_ret ?_
    exact L.ret hf (run_results2 Tryz.results30 (ResIs.tmp hf rfl) (ResIs.tmp hf rfl)) ⟨[], y1, rfl, h, hs.nil⟩
  · replace h := h.2 hc
    refine wp_skip ?_
    refine X.then_ ?_
    refine wp_seq ?_
    refine R.list ?_
    refine S.alloc hf hs rfl rfl rfl [.pointer none, .slice none 0 0] rfl Tryz.zeroValue101 rfl (fun g1 a w hf hs => ?_)
    refine R.nil ?_
    refine X.then_ ?_
    refine wp_seq ?_
    refine R.list ?_
    refine S.val hf hs (v := .func (.func 67) #[] #[.pointer (some ⟨g1, 0, none⟩)]) rfl rfl rfl (V.pure rfl) (fun a hf => ?_)
    refine S.val hf hs (v := .func (.func 67) #[] #[.pointer (some ⟨g1, 0, none⟩)]) rfl rfl rfl (V.pure rfl) (fun a hf => ?_)
    refine R.nil ?_
    refine X.then_ ?_
    refine wp_seq ?_
    refine R.list ?_
    refine S.val hf hs (v := .func (.func 55) #[] #[]) rfl rfl rfl (V.pure rfl) (fun a hf => ?_)
    refine R.nil ?_
    refine X.then_ ?_
    refine wp_seq ?_
    refine wp_seq ?_
    refine R.list ?_
    refine S.val hf hs (v := .slice bA b.length bC) rfl rfl rfl (V.pure rfl) (fun a hf => ?_)
    refine S.val hf hs (v := .int .i64 (b.length : Int)) rfl rfl rfl (V.len rfl rfl Tryz.runUnderlying46) (fun a hf => ?_)
    refine S.val hf hs (v := .int .i64 0) rfl rfl rfl (V.pure rfl) (fun a hf => ?_)
    refine R.nil ?_
    refine X.then_ ?_
    refine wp_block ?_
    replace hs := hs.nilOwn (α := UInt8) 5
    replace hs := hs.rebox 1 (vs' := [.pointer (selfp false g1), .slice none ([] : List UInt8).length 0]) rfl rfl
    replace hs := hs.front 1 rfl
    have hlenk1 := hv_b.len64
    refine C.range (fun (ll : List Body) a w => ∃ (k1 : Nat) (l2 : List UInt8) (l2A : Option Addr) (l2C : Nat) (b2 : Bool), b.drop k1 = ll ∧ k1 + ll.length = b.length ∧ forIn' (fun k x (s : List UInt8 × Bool) next => M_mount_Text_L1 k x s.1 s.2 (fun l2 b2 => next (l2, b2))) (fun (s : List UInt8 × Bool) => (fun (l2 : List UInt8) (b2 : Bool) => forIn' (fun k x (s : List UInt8 × Bool) next => M_mount_Text_L2 k x s.1 s.2 (fun l4 b4 => next (l4, b4))) (fun (s : List UInt8 × Bool) => (fun (l4 : List UInt8) (b4 : Bool) => M_bld_Len (⟨b4, l4⟩ : StringsBuilder) fun y2 => cnd (decide (y2 > 300000)) (Q [] 2) (Q l4 0)) s.1 s.2) l 0 (l2, b2)) s.1 s.2) ll k1 (l2, b2) ∧ FrOk 83 [(23, .int .i64 (k1 : Int)), (1, .slice lA l.length lC), (7, .pointer (some ⟨g1, 0, none⟩)), (8, .func (.func 67) #[] #[.pointer (some ⟨g1, 0, none⟩)]), (9, .func (.func 55) #[] #[]), (21, .slice bA b.length bC), (22, .int .i64 (b.length : Int))] a ∧ Sat w0 none_ [hbox g1 101 [.pointer (selfp b2 g1), .slice l2A l2.length l2C], hown 5 l2A l2C l2] w) b ⟨0, ([] : List UInt8), none, 0, false, rfl, Nat.zero_add _, h, (((((((hf.nil.cons (hf.get 22 _ rfl)).cons (hf.get 21 _ rfl)).cons (hf.get 9 _ rfl)).cons (hf.get 8 _ rfl)).cons (hf.get 7 _ rfl)).cons (hf.get 1 _ rfl)).cons (hf.get 23 _ rfl)), hs⟩ ?_
    clear h hf hs
    rintro llk1 a w ⟨k1, l2, l2A, l2C, b2, hlk1, hkk1, h, hf, hs⟩
    cases llk1 with
    | nil =>
      have hc := range_done hkk1
      replace h : (fun (l2 : List UInt8) (b2 : Bool) => forIn' (fun k x (s : List UInt8 × Bool) next => M_mount_Text_L2 k x s.1 s.2 (fun l4 b4 => next (l4, b4))) (fun (s : List UInt8 × Bool) => (fun (l4 : List UInt8) (b4 : Bool) => M_bld_Len (⟨b4, l4⟩ : StringsBuilder) fun y2 => cnd (decide (y2 > 300000)) (Q [] 2) (Q l4 0)) s.1 s.2) l 0 (l2, b2)) l2 b2 := h
      refine wp_seq ?_
      refine R.list ?_
      refine S.val hf hs (v := .bool false) rfl rfl rfl (V.cmp false rfl rfl rfl rfl hc) (fun a hf => ?_)
      refine R.nil ?_
      refine X.then_ ?_
      refine wp_seq ?_
      refine C.no hf rfl ?_
      refine wp_exit ?_
      refine X.then_exit ?_
      refine X.then_exit ?_
      refine X.blk_exit ?_
      refine X.then_ ?_
      refine wp_seq ?_
      refine wp_seq ?_
      refine R.list ?_
      refine S.val hf hs (v := .slice lA l.length lC) rfl rfl rfl (V.pure rfl) (fun a hf => ?_)
      refine S.val hf hs (v := .int .i64 (l.length : Int)) rfl rfl rfl (V.len rfl rfl Tryz.runUnderlying47) (fun a hf => ?_)
      refine S.val hf hs (v := .int .i64 0) rfl rfl rfl (V.pure rfl) (fun a hf => ?_)
      refine R.nil ?_
      refine X.then_ ?_
      refine wp_block ?_
      have hlenk2 := hv_l.len64
      refine C.range (fun (ll : List Place) a w => ∃ (k2 : Nat) (l4 : List UInt8) (l4A : Option Addr) (l4C : Nat) (b4 : Bool), l.drop k2 = ll ∧ k2 + ll.length = l.length ∧ forIn' (fun k x (s : List UInt8 × Bool) next => M_mount_Text_L2 k x s.1 s.2 (fun l4 b4 => next (l4, b4))) (fun (s : List UInt8 × Bool) => (fun (l4 : List UInt8) (b4 : Bool) => M_bld_Len (⟨b4, l4⟩ : StringsBuilder) fun y2 => cnd (decide (y2 > 300000)) (Q [] 2) (Q l4 0)) s.1 s.2) ll k2 (l4, b4) ∧ FrOk 83 [(49, .int .i64 (k2 : Int)), (7, .pointer (some ⟨g1, 0, none⟩)), (8, .func (.func 67) #[] #[.pointer (some ⟨g1, 0, none⟩)]), (9, .func (.func 55) #[] #[]), (47, .slice lA l.length lC), (48, .int .i64 (l.length : Int))] a ∧ Sat w0 none_ [hbox g1 101 [.pointer (selfp b4 g1), .slice l4A l4.length l4C], hown 5 l4A l4C l4] w) l ⟨0, l2, l2A, l2C, b2, rfl, Nat.zero_add _, h, ((((((hf.nil.cons (hf.get 48 _ rfl)).cons (hf.get 47 _ rfl)).cons (hf.get 9 _ rfl)).cons (hf.get 8 _ rfl)).cons (hf.get 7 _ rfl)).cons (hf.get 49 _ rfl)), hs⟩ ?_
      clear h hf hs
      rintro llk2 a w ⟨k2, l4, l4A, l4C, b4, hlk2, hkk2, h, hf, hs⟩
      cases llk2 with
      | nil =>
        have hc := range_done hkk2
        replace h : (fun (l4 : List UInt8) (b4 : Bool) => M_bld_Len (⟨b4, l4⟩ : StringsBuilder) fun y2 => cnd (decide (y2 > 300000)) (Q [] 2) (Q l4 0)) l4 b4 := h
        refine wp_seq ?_
        refine R.list ?_
        refine S.val hf hs (v := .bool false) rfl rfl rfl (V.cmp false rfl rfl rfl rfl hc) (fun a hf => ?_)
        refine R.nil ?_
        refine X.then_ ?_
        refine wp_seq ?_
        refine C.no hf rfl ?_
        refine wp_exit ?_
        refine X.then_exit ?_
        refine X.then_exit ?_
        refine X.blk_exit ?_
        refine X.then_ ?_
        refine wp_seq ?_
        refine wp_seq ?_
        refine R.list ?_
        refine S.call hf rfl rfl rfl (call_fn (vs := [.pointer (some ⟨g1, 0, none⟩)]) rfl rfl rfl Tryz.call56) (R_bld_Len (⟨b4, l4⟩ : StringsBuilder) _ l4A l4C (hs.ownView 1 rfl) g1 (hs.boxAt 0 rfl) _ h) (fun v a w' hf hr => ?_)
        obtain ⟨y2, rfl, h2, hs2⟩ := hr
        replace h := h2; replace hs := hs.call hs2; clear h2 hs2
        refine S.val hf hs (v := .bool (decide (y2 > 300000))) rfl rfl rfl (V.pure rfl) (fun a hf => ?_)
        refine R.nil ?_
        refine X.then_ ?_
        refine C.cond hf (b := decide (y2 > 300000)) rfl (fun hc => ?_) (fun hc => ?_)
        · replace h := h.1 hc
          refine wp_seq ?_
          refine R.list ?_
          refine S.val hf hs (v := .string (ba [])) rfl rfl rfl (V.pure rfl) (fun a hf => ?_)
          refine S.val hf hs (v := .int .i64 2) rfl rfl rfl (V.pure rfl) (fun a hf => ?_)
          refine R.nil ?_
          refine X.then_ ?_
          refine wp_ret ?_
          refine X.then_ret ?_
          exact L.ret hf (run_results2 Tryz.results30 (ResIs.tmp hf rfl) (ResIs.tmp hf rfl)) ⟨[], 2, rfl, h, hs.nil⟩
        · replace h := h.2 hc
          refine wp_skip ?_
          refine X.then_ ?_
          refine wp_seq ?_
          refine R.list ?_
          refine S.call hf rfl rfl rfl (call_fn (vs := [.pointer (some ⟨g1, 0, none⟩)]) rfl rfl rfl Tryz.call57) (bldString 0 1 hs (g := g1) (f := b4) (A := l4A) (C := l4C) (s := l4) rfl rfl) (fun v a w' hf hr => ?_)
          obtain ⟨rfl, hs2⟩ := hr
          replace hs := hs2; clear hs2
          refine S.val hf hs (v := .string (ba l4)) rfl rfl rfl (V.pure rfl) (fun a hf => ?_)
          refine S.val hf hs (v := .int .i64 0) rfl rfl rfl (V.pure rfl) (fun a hf => ?_)
          refine R.nil ?_
          refine X.then_ ?_
          refine wp_ret ?_
          exact L.ret hf (run_results2 Tryz.results30 (ResIs.tmp hf rfl) (ResIs.tmp hf rfl)) ⟨l4, 0, rfl, h, hs.nil⟩
      | cons xk2 llk2 =>
        have hltk2 := range_lt hkk2; have hc := range_go hkk2; have hxk2 := range_get hlk2
        obtain ⟨next2, hnext2⟩ : ∃ X : List UInt8 → Bool → Prop, X = (fun l4 b4 => forIn' (fun k x (s : List UInt8 × Bool) next => M_mount_Text_L2 k x s.1 s.2 (fun l4 b4 => next (l4, b4))) (fun (s : List UInt8 × Bool) => (fun (l4 : List UInt8) (b4 : Bool) => M_bld_Len (⟨b4, l4⟩ : StringsBuilder) fun y2 => cnd (decide (y2 > 300000)) (Q [] 2) (Q l4 0)) s.1 s.2) llk2 (k2 + 1) (l4, b4)) := ⟨_, rfl⟩
        replace h : M_mount_Text_L2 k2 xk2 l4 b4 next2 := by rw [hnext2]; exact h
        unfold M_mount_Text_L2 at h
        refine wp_seq ?_
        refine R.list ?_
        refine S.val hf hs (v := .bool true) rfl rfl rfl (V.cmp true rfl rfl rfl rfl hc) (fun a hf => ?_)
        refine R.nil ?_
        refine X.then_ ?_
        refine wp_seq ?_
        refine C.yes hf rfl ?_
        refine wp_skip ?_
        refine X.then_ ?_
        refine wp_seq ?_
        refine wp_block ?_
        refine wp_seq ?_
        refine R.list ?_
        refine S.val hf hs (v := elemPtr lA (k2 * 6)) rfl rfl rfl (V.index rfl rfl rfl Tryz.runUnderlying47 Tryz.sizeOf57 (hv_l.some_ (lt_of_get hxk2)) (Int.natCast_nonneg _) (lt_of_get hxk2) rfl) (fun a hf => ?_)
        refine S.val hf hs (v := .agg #[.string (ba xk2.Part), .string (ba xk2.Typ), .int .i64 xk2.At.X, .int .i64 xk2.At.Y, .int .i64 xk2.Quarters, .bool xk2.Below]) rfl rfl rfl (V.loadEl (off := 0) (Ag.args _ _ _) (hv_l.flat hxk2) rfl rfl rfl Tryz.isAgg57 Tryz.sizeOf57 rfl rfl) (fun a hf => ?_)
        refine S.alloc hf hs rfl rfl rfl [.string (ba []), .string (ba []), .int .i64 0, .int .i64 0, .int .i64 0, .bool false] rfl Tryz.zeroValue57 rfl (fun g2 a w hf hs => ?_)
        refine S.storeBox 0 hf hs rfl rfl [.string (ba xk2.Part), .string (ba xk2.Typ), .int .i64 xk2.At.X, .int .i64 xk2.At.Y, .int .i64 xk2.Quarters, .bool xk2.Below] [.string (ba xk2.Part), .string (ba xk2.Typ), .int .i64 xk2.At.X, .int .i64 xk2.At.Y, .int .i64 xk2.Quarters, .bool xk2.Below] rfl rfl rfl rfl rfl Tryz.sizeOf57 rfl rfl rfl rfl (fun a w hf hs => ?_)
        refine R.nil ?_
        refine X.then_ ?_
        refine H.start (S := Sat w0 none_ [hbox g2 57 [.string (ba xk2.Part), .string (ba xk2.Typ), .int .i64 xk2.At.X, .int .i64 xk2.At.Y, .int .i64 xk2.Quarters, .bool xk2.Below]]) mo ?_
        replace hs := hs.drew
        refine H.val hf (hs.mask [true, false, false]) (v := .func (.func 67) #[] #[.pointer (some ⟨g1, 0, none⟩)]) (i := 0) rfl rfl rfl rfl (by kernel_rfl) (by kernel_rfl) (by kernel_rfl) (V.pure rfl) (fun a hf => ?_)
        refine H.val hf (hs.mask [true, false, false]) (v := .pointer (some ⟨g2, 0, none⟩)) (i := 1) rfl rfl rfl rfl (by kernel_rfl) (by kernel_rfl) (by kernel_rfl) (V.fieldBox rfl rfl Tryz.runUnderlying57 rfl Tryz.sizeOf9 rfl rfl) (fun a hf => ?_)
        refine H.val hf (hs.mask [true, false, false]) (v := .string (ba xk2.Part)) (i := 2) rfl rfl rfl rfl (by kernel_rfl) (by kernel_rfl) (by kernel_rfl) (V.loadBox 0 rfl rfl rfl Tryz.isAgg9 Tryz.sizeOf9 rfl rfl) (fun a hf => ?_)
        refine H.val hf (hs.mask [true, false, false]) (v := .pointer (some ⟨g2, 1, none⟩)) (i := 3) rfl rfl rfl rfl (by kernel_rfl) (by kernel_rfl) (by kernel_rfl) (V.fieldBox rfl rfl Tryz.runUnderlying57 rfl Tryz.sizeOf9 rfl rfl) (fun a hf => ?_)
        refine H.val hf (hs.mask [true, false, false]) (v := .string (ba xk2.Typ)) (i := 4) rfl rfl rfl rfl (by kernel_rfl) (by kernel_rfl) (by kernel_rfl) (V.loadBox 0 rfl rfl rfl Tryz.isAgg9 Tryz.sizeOf9 rfl rfl) (fun a hf => ?_)
        refine H.val hf (hs.mask [true, false, false]) (v := .func (.func 55) #[] #[]) (i := 5) rfl rfl rfl rfl (by kernel_rfl) (by kernel_rfl) (by kernel_rfl) (V.pure rfl) (fun a hf => ?_)
        refine H.val hf (hs.mask [true, false, false]) (v := .pointer (some ⟨g2, 2, none⟩)) (i := 6) rfl rfl rfl rfl (by kernel_rfl) (by kernel_rfl) (by kernel_rfl) (V.fieldBox rfl rfl Tryz.runUnderlying57 rfl Tryz.sizeOf55 rfl rfl) (fun a hf => ?_)
        refine H.val hf (hs.mask [true, false, false]) (v := .pointer (some ⟨g2, 2, none⟩)) (i := 7) rfl rfl rfl rfl (by kernel_rfl) (by kernel_rfl) (by kernel_rfl) (V.fieldBox rfl rfl Tryz.runUnderlying55 rfl Tryz.sizeOf3 rfl rfl) (fun a hf => ?_)
        refine H.val hf (hs.mask [true, false, false]) (v := .int .i64 xk2.At.X) (i := 8) rfl rfl rfl rfl (by kernel_rfl) (by kernel_rfl) (by kernel_rfl) (V.loadBox 0 rfl rfl rfl Tryz.isAgg3 Tryz.sizeOf3 rfl rfl) (fun a hf => ?_)
        refine H.val hf (hs.mask [true, false, false]) (v := .func (.func 55) #[] #[]) (i := 10) rfl rfl rfl rfl (by kernel_rfl) (by kernel_rfl) (by kernel_rfl) (V.pure rfl) (fun a hf => ?_)
        refine H.val hf (hs.mask [true, false, false]) (v := .pointer (some ⟨g2, 2, none⟩)) (i := 11) rfl rfl rfl rfl (by kernel_rfl) (by kernel_rfl) (by kernel_rfl) (V.fieldBox rfl rfl Tryz.runUnderlying57 rfl Tryz.sizeOf55 rfl rfl) (fun a hf => ?_)
        refine H.val hf (hs.mask [true, false, false]) (v := .pointer (some ⟨g2, 3, none⟩)) (i := 12) rfl rfl rfl rfl (by kernel_rfl) (by kernel_rfl) (by kernel_rfl) (V.fieldBox rfl rfl Tryz.runUnderlying55 rfl Tryz.sizeOf3 rfl rfl) (fun a hf => ?_)
        refine H.val hf (hs.mask [true, false, false]) (v := .int .i64 xk2.At.Y) (i := 13) rfl rfl rfl rfl (by kernel_rfl) (by kernel_rfl) (by kernel_rfl) (V.loadBox 0 rfl rfl rfl Tryz.isAgg3 Tryz.sizeOf3 rfl rfl) (fun a hf => ?_)
        refine H.val hf (hs.mask [true, false, false]) (v := .func (.func 55) #[] #[]) (i := 15) rfl rfl rfl rfl (by kernel_rfl) (by kernel_rfl) (by kernel_rfl) (V.pure rfl) (fun a hf => ?_)
        refine H.val hf (hs.mask [true, false, false]) (v := .pointer (some ⟨g2, 4, none⟩)) (i := 16) rfl rfl rfl rfl (by kernel_rfl) (by kernel_rfl) (by kernel_rfl) (V.fieldBox rfl rfl Tryz.runUnderlying57 rfl Tryz.sizeOf3 rfl rfl) (fun a hf => ?_)
        refine H.val hf (hs.mask [true, false, false]) (v := .int .i64 xk2.Quarters) (i := 17) rfl rfl rfl rfl (by kernel_rfl) (by kernel_rfl) (by kernel_rfl) (V.loadBox 0 rfl rfl rfl Tryz.isAgg3 Tryz.sizeOf3 rfl rfl) (fun a hf => ?_)
        refine H.val hf (hs.mask [true, false, false]) (v := .agg #[.string (ba xk2.Part), .string (ba xk2.Typ), .int .i64 xk2.At.X, .int .i64 xk2.At.Y, .int .i64 xk2.Quarters, .bool xk2.Below]) (i := 20) rfl rfl rfl rfl (by kernel_rfl) (by kernel_rfl) (by kernel_rfl) (V.loadBox 0 rfl rfl rfl Tryz.isAgg57 Tryz.sizeOf57 rfl rfl) (fun a hf => ?_)
        refine H.each2 (i0 := 9) (i1 := 19) rfl rfl (by kernel_rfl) ?_ ?_
        · obtain ⟨hp, h⟩ := h
          refine S.callv hf rfl rfl rfl (call_fn (vs := [.int .i64 xk2.At.X]) rfl rfl rfl Tryz.call55) (C_strconv_Itoa xk2.At.X _ (hT.arg hs) hp) (fun a w hf hs' => ?_)
          replace hs := hs.call hs'; clear hs'
          refine R.nil ?_
          refine X.then_ ?_
          refine ⟨(hs.mask [true, false, false]), ?_⟩
          refine H.each2 (i0 := 14) (i1 := 19) rfl rfl (by kernel_rfl) ?_ ?_
          · obtain ⟨hp, h⟩ := h
            refine S.callv hf rfl rfl rfl (call_fn (vs := [.int .i64 xk2.At.Y]) rfl rfl rfl Tryz.call55) (C_strconv_Itoa xk2.At.Y _ (hT.arg hs) hp) (fun a w hf hs' => ?_)
            replace hs := hs.call hs'; clear hs'
            refine R.nil ?_
            refine X.then_ ?_
            refine ⟨(hs.mask [true, false, false]), ?_⟩
            refine H.each2 (i0 := 18) (i1 := 19) rfl rfl (by kernel_rfl) ?_ ?_
            · obtain ⟨hp, h⟩ := h
              refine S.callv hf rfl rfl rfl (call_fn (vs := [.int .i64 xk2.Quarters]) rfl rfl rfl Tryz.call55) (C_strconv_Itoa xk2.Quarters _ (hT.arg hs) hp) (fun a w hf hs' => ?_)
              replace hs := hs.call hs'; clear hs'
              refine R.nil ?_
              refine X.then_ ?_
              refine ⟨(hs.mask [true, false, false]), ?_⟩
              refine H.each2 (i0 := 19) (i1 := 21) rfl rfl (by kernel_rfl) ?_ ?_
              · refine S.buildSlice hf hs rfl rfl rfl (α := Str) [[117, 112], [100, 111, 119, 110]] rfl rfl Tryz.runUnderlying74 Tryz.sizeOf9 Tryz.zeroValue9 (by kernel_rfl) rfl (by decide) (by decide) (fun A1 a w hf hs => ?_)
                refine R.nil ?_
                refine X.then_ ?_
                refine ⟨(hs.mask [false, true, false, false]), ?_⟩
                refine H.one (i := 21) rfl (by kernel_rfl) ?_
                refine S.call hf rfl rfl rfl (call_fn (vs := [.agg #[.string (ba xk2.Part), .string (ba xk2.Typ), .int .i64 xk2.At.X, .int .i64 xk2.At.Y, .int .i64 xk2.Quarters, .bool xk2.Below]]) rfl rfl rfl Tryz.call68) (R_mount_side xk2 _  _ h) (fun v a w' hf hr => ?_)
                obtain ⟨y3, rfl, h2, hs2⟩ := hr
                replace h := h2; replace hs := hs.call hs2; clear h2 hs2
                refine R.nil ?_
                refine X.then_ ?_
                refine ⟨(hs.mask [false, true, false, false]), ?_⟩
                obtain ⟨h0x1, x1, hx1, h⟩ := h
                refine H.val hf (hs.mask [false, true, false, false]) (v := elemPtr A1 (y3.toNat * 1)) (i := 22) rfl rfl rfl rfl (by kernel_rfl) (by kernel_rfl) (by kernel_rfl) (V.index rfl rfl rfl Tryz.runUnderlying74 Tryz.sizeOf9 (hs.ownSome 0 rfl (lt_of_get hx1)) h0x1 (lt_of_get hx1) rfl) (fun a hf => ?_)
                refine H.one (i := 23) rfl (by kernel_rfl) ?_
                refine S.val hf hs (v := .string (ba x1)) rfl rfl rfl (V.loadOwn (off := 0) 0 rfl hx1 rfl rfl rfl Tryz.isAgg9 Tryz.sizeOf9 rfl rfl) (fun a hf => ?_)
                refine R.nil ?_
                refine X.then_ ?_
                refine ⟨(hs.mask [false, true, false, false]), ?_⟩
                refine H.one (i := 24) rfl (by kernel_rfl) ?_
                refine S.buildSlice hf hs rfl rfl rfl (α := Str) [[112, 108, 97, 99, 101], xk2.Part, xk2.Typ, (itoaS xk2.At.X), (itoaS xk2.At.Y), (itoaS xk2.Quarters), x1] rfl rfl Tryz.runUnderlying74 Tryz.sizeOf9 Tryz.zeroValue9 (by kernel_rfl) rfl (by decide) (by decide) (fun A2 a w hf hs => ?_)
                refine R.nil ?_
                refine X.then_ ?_
                refine ⟨(hs.mask [false, false, true, false, false]), ?_⟩
                refine H.one (i := 25) rfl (by kernel_rfl) ?_
                replace hs := hs.front 4 rfl
                replace hs := hs.front 4 rfl
                obtain ⟨F1, hsF, hback, hold, hrest⟩ := Sat.callOwns [hbox g1 101 [.pointer (selfp b4 g1), .slice l4A l4.length l4C], hown 5 l4A l4C l4] (σ := [hown 9 A2 7 ([[112, 108, 97, 99, 101], xk2.Part, xk2.Typ, (itoaS xk2.At.X), (itoaS xk2.At.Y), (itoaS xk2.Quarters), x1] : List Str), hown 9 A1 2 ([[117, 112], [100, 111, 119, 110]] : List Str), hbox g2 57 [.string (ba xk2.Part), .string (ba xk2.Typ), .int .i64 xk2.At.X, .int .i64 xk2.At.Y, .int .i64 xk2.Quarters, .bool xk2.Below]]) hs
                refine S.call hf rfl rfl rfl (call_run (args := #[.slice A2 ([[112, 108, 97, 99, 101], xk2.Part, xk2.Typ, (itoaS xk2.At.X), (itoaS xk2.At.Y), (itoaS xk2.Quarters), x1] : List Str).length 7, .pointer (some ⟨g1, 0, none⟩)]) rfl rfl rfl Tryz.call67 (by simp)) (R_mount_line ([[112, 108, 97, 99, 101], xk2.Part, xk2.Typ, (itoaS xk2.At.X), (itoaS xk2.At.Y), (itoaS xk2.Quarters), x1] : List Str) (⟨b4, l4⟩ : StringsBuilder) _ _ A2 7 (ownViewF hrest 0 rfl) g1 l4A l4C hsF _ h) (fun v a w' hf hr => ?_)
                obtain ⟨z1, z1_bufA, z1_bufC, rfl, h2, hs2⟩ := hr
                replace h := h2; replace hs := hback _ _ hs2; clear h2 hs2 hback hold hrest hsF
                refine R.nil ?_
                refine X.then_ ?_
                refine ⟨(hs.mask [false, false, false, false, true]), ?_⟩
                refine H.done (by kernel_rfl) ?_
                refine X.blk ?_
                refine X.then_ ?_
                refine R.list ?_
                refine S.val hf hs (v := .int .i64 ((k2 + 1 : Nat) : Int)) rfl rfl rfl (V.incr rfl rfl rfl hltk2 hlenk2) (fun a hf => ?_)
                refine S.val hf hs (v := .int .i64 ((k2 + 1 : Nat) : Int)) rfl rfl rfl (V.pure rfl) (fun a hf => ?_)
                refine R.nil ?_
                refine X.then_ ?_
                replace hs := hs.front 1 rfl
                replace hs := hs.front 1 rfl
                replace hs := hs.take 2
                exact ⟨xk2, llk2, rfl, k2 + 1, z1.buf, z1_bufA, z1_bufC, z1.addr, range_drop hlk2, range_len hkk2, (by rw [hnext2] at h; exact h), ((((((hf.nil.cons (hf.get 48 _ rfl)).cons (hf.get 47 _ rfl)).cons (hf.get 9 _ rfl)).cons (hf.get 8 _ rfl)).cons (hf.get 7 _ rfl)).cons (hf.get 49 _ rfl)), hs⟩
              · refine S.call hf rfl rfl rfl (call_fn (vs := [.agg #[.string (ba xk2.Part), .string (ba xk2.Typ), .int .i64 xk2.At.X, .int .i64 xk2.At.Y, .int .i64 xk2.Quarters, .bool xk2.Below]]) rfl rfl rfl Tryz.call68) (R_mount_side xk2 _  _ h) (fun v a w' hf hr => ?_)
                obtain ⟨y3, rfl, h2, hs2⟩ := hr
                replace h := h2; replace hs := hs.call hs2; clear h2 hs2
                refine R.nil ?_
                refine X.then_ ?_
                refine ⟨(hs.mask [true, false, false]), ?_⟩
                refine H.one (i := 19) rfl (by kernel_rfl) ?_
                refine S.buildSlice hf hs rfl rfl rfl (α := Str) [[117, 112], [100, 111, 119, 110]] rfl rfl Tryz.runUnderlying74 Tryz.sizeOf9 Tryz.zeroValue9 (by kernel_rfl) rfl (by decide) (by decide) (fun A1 a w hf hs => ?_)
                refine R.nil ?_
                refine X.then_ ?_
                refine ⟨(hs.mask [false, true, false, false]), ?_⟩
                obtain ⟨h0x1, x1, hx1, h⟩ := h
                refine H.val hf (hs.mask [false, true, false, false]) (v := elemPtr A1 (y3.toNat * 1)) (i := 22) rfl rfl rfl rfl (by kernel_rfl) (by kernel_rfl) (by kernel_rfl) (V.index rfl rfl rfl Tryz.runUnderlying74 Tryz.sizeOf9 (hs.ownSome 0 rfl (lt_of_get hx1)) h0x1 (lt_of_get hx1) rfl) (fun a hf => ?_)
                refine H.one (i := 23) rfl (by kernel_rfl) ?_
                refine S.val hf hs (v := .string (ba x1)) rfl rfl rfl (V.loadOwn (off := 0) 0 rfl hx1 rfl rfl rfl Tryz.isAgg9 Tryz.sizeOf9 rfl rfl) (fun a hf => ?_)
                refine R.nil ?_
                refine X.then_ ?_
                refine ⟨(hs.mask [false, true, false, false]), ?_⟩
                refine H.one (i := 24) rfl (by kernel_rfl) ?_
                refine S.buildSlice hf hs rfl rfl rfl (α := Str) [[112, 108, 97, 99, 101], xk2.Part, xk2.Typ, (itoaS xk2.At.X), (itoaS xk2.At.Y), (itoaS xk2.Quarters), x1] rfl rfl Tryz.runUnderlying74 Tryz.sizeOf9 Tryz.zeroValue9 (by kernel_rfl) rfl (by decide) (by decide) (fun A2 a w hf hs => ?_)
                refine R.nil ?_
                refine X.then_ ?_
                refine ⟨(hs.mask [false, false, true, false, false]), ?_⟩
                refine H.one (i := 25) rfl (by kernel_rfl) ?_
                replace hs := hs.front 4 rfl
                replace hs := hs.front 4 rfl
                obtain ⟨F1, hsF, hback, hold, hrest⟩ := Sat.callOwns [hbox g1 101 [.pointer (selfp b4 g1), .slice l4A l4.length l4C], hown 5 l4A l4C l4] (σ := [hown 9 A2 7 ([[112, 108, 97, 99, 101], xk2.Part, xk2.Typ, (itoaS xk2.At.X), (itoaS xk2.At.Y), (itoaS xk2.Quarters), x1] : List Str), hown 9 A1 2 ([[117, 112], [100, 111, 119, 110]] : List Str), hbox g2 57 [.string (ba xk2.Part), .string (ba xk2.Typ), .int .i64 xk2.At.X, .int .i64 xk2.At.Y, .int .i64 xk2.Quarters, .bool xk2.Below]]) hs
                refine S.call hf rfl rfl rfl (call_run (args := #[.slice A2 ([[112, 108, 97, 99, 101], xk2.Part, xk2.Typ, (itoaS xk2.At.X), (itoaS xk2.At.Y), (itoaS xk2.Quarters), x1] : List Str).length 7, .pointer (some ⟨g1, 0, none⟩)]) rfl rfl rfl Tryz.call67 (by simp)) (R_mount_line ([[112, 108, 97, 99, 101], xk2.Part, xk2.Typ, (itoaS xk2.At.X), (itoaS xk2.At.Y), (itoaS xk2.Quarters), x1] : List Str) (⟨b4, l4⟩ : StringsBuilder) _ _ A2 7 (ownViewF hrest 0 rfl) g1 l4A l4C hsF _ h) (fun v a w' hf hr => ?_)
                obtain ⟨z1, z1_bufA, z1_bufC, rfl, h2, hs2⟩ := hr
                replace h := h2; replace hs := hback _ _ hs2; clear h2 hs2 hback hold hrest hsF
                refine R.nil ?_
                refine X.then_ ?_
                refine ⟨(hs.mask [false, false, false, false, true]), ?_⟩
                refine H.done (by kernel_rfl) ?_
                refine X.blk ?_
                refine X.then_ ?_
                refine R.list ?_
                refine S.val hf hs (v := .int .i64 ((k2 + 1 : Nat) : Int)) rfl rfl rfl (V.incr rfl rfl rfl hltk2 hlenk2) (fun a hf => ?_)
                refine S.val hf hs (v := .int .i64 ((k2 + 1 : Nat) : Int)) rfl rfl rfl (V.pure rfl) (fun a hf => ?_)
                refine R.nil ?_
                refine X.then_ ?_
                replace hs := hs.front 1 rfl
                replace hs := hs.front 1 rfl
                replace hs := hs.take 2
                exact ⟨xk2, llk2, rfl, k2 + 1, z1.buf, z1_bufA, z1_bufC, z1.addr, range_drop hlk2, range_len hkk2, (by rw [hnext2] at h; exact h), ((((((hf.nil.cons (hf.get 48 _ rfl)).cons (hf.get 47 _ rfl)).cons (hf.get 9 _ rfl)).cons (hf.get 8 _ rfl)).cons (hf.get 7 _ rfl)).cons (hf.get 49 _ rfl)), hs⟩
            · refine S.buildSlice hf hs rfl rfl rfl (α := Str) [[117, 112], [100, 111, 119, 110]] rfl rfl Tryz.runUnderlying74 Tryz.sizeOf9 Tryz.zeroValue9 (by kernel_rfl) rfl (by decide) (by decide) (fun A1 a w hf hs => ?_)
              refine R.nil ?_
              refine X.then_ ?_
              refine ⟨(hs.mask [false, true, false, false]), ?_⟩
              refine H.one (i := 18) rfl (by kernel_rfl) ?_
              obtain ⟨hp, h⟩ := h
              refine S.callv hf rfl rfl rfl (call_fn (vs := [.int .i64 xk2.Quarters]) rfl rfl rfl Tryz.call55) (C_strconv_Itoa xk2.Quarters _ (hT.arg hs) hp) (fun a w hf hs' => ?_)
              replace hs := hs.call hs'; clear hs'
              refine R.nil ?_
              refine X.then_ ?_
              refine ⟨(hs.mask [false, true, false, false]), ?_⟩
              refine H.one (i := 21) rfl (by kernel_rfl) ?_
              refine S.call hf rfl rfl rfl (call_fn (vs := [.agg #[.string (ba xk2.Part), .string (ba xk2.Typ), .int .i64 xk2.At.X, .int .i64 xk2.At.Y, .int .i64 xk2.Quarters, .bool xk2.Below]]) rfl rfl rfl Tryz.call68) (R_mount_side xk2 _  _ h) (fun v a w' hf hr => ?_)
              obtain ⟨y3, rfl, h2, hs2⟩ := hr
              replace h := h2; replace hs := hs.call hs2; clear h2 hs2
              refine R.nil ?_
              refine X.then_ ?_
              refine ⟨(hs.mask [false, true, false, false]), ?_⟩
              obtain ⟨h0x1, x1, hx1, h⟩ := h
              refine H.val hf (hs.mask [false, true, false, false]) (v := elemPtr A1 (y3.toNat * 1)) (i := 22) rfl rfl rfl rfl (by kernel_rfl) (by kernel_rfl) (by kernel_rfl) (V.index rfl rfl rfl Tryz.runUnderlying74 Tryz.sizeOf9 (hs.ownSome 0 rfl (lt_of_get hx1)) h0x1 (lt_of_get hx1) rfl) (fun a hf => ?_)
              refine H.one (i := 23) rfl (by kernel_rfl) ?_
              refine S.val hf hs (v := .string (ba x1)) rfl rfl rfl (V.loadOwn (off := 0) 0 rfl hx1 rfl rfl rfl Tryz.isAgg9 Tryz.sizeOf9 rfl rfl) (fun a hf => ?_)
              refine R.nil ?_
              refine X.then_ ?_
              refine ⟨(hs.mask [false, true, false, false]), ?_⟩
              refine H.one (i := 24) rfl (by kernel_rfl) ?_
              refine S.buildSlice hf hs rfl rfl rfl (α := Str) [[112, 108, 97, 99, 101], xk2.Part, xk2.Typ, (itoaS xk2.At.X), (itoaS xk2.At.Y), (itoaS xk2.Quarters), x1] rfl rfl Tryz.runUnderlying74 Tryz.sizeOf9 Tryz.zeroValue9 (by kernel_rfl) rfl (by decide) (by decide) (fun A2 a w hf hs => ?_)
              refine R.nil ?_
              refine X.then_ ?_
              refine ⟨(hs.mask [false, false, true, false, false]), ?_⟩
              refine H.one (i := 25) rfl (by kernel_rfl) ?_
              replace hs := hs.front 4 rfl
              replace hs := hs.front 4 rfl
              obtain ⟨F1, hsF, hback, hold, hrest⟩ := Sat.callOwns [hbox g1 101 [.pointer (selfp b4 g1), .slice l4A l4.length l4C], hown 5 l4A l4C l4] (σ := [hown 9 A2 7 ([[112, 108, 97, 99, 101], xk2.Part, xk2.Typ, (itoaS xk2.At.X), (itoaS xk2.At.Y), (itoaS xk2.Quarters), x1] : List Str), hown 9 A1 2 ([[117, 112], [100, 111, 119, 110]] : List Str), hbox g2 57 [.string (ba xk2.Part), .string (ba xk2.Typ), .int .i64 xk2.At.X, .int .i64 xk2.At.Y, .int .i64 xk2.Quarters, .bool xk2.Below]]) hs
              refine S.call hf rfl rfl rfl (call_run (args := #[.slice A2 ([[112, 108, 97, 99, 101], xk2.Part, xk2.Typ, (itoaS xk2.At.X), (itoaS xk2.At.Y), (itoaS xk2.Quarters), x1] : List Str).length 7, .pointer (some ⟨g1, 0, none⟩)]) rfl rfl rfl Tryz.call67 (by simp)) (R_mount_line ([[112, 108, 97, 99, 101], xk2.Part, xk2.Typ, (itoaS xk2.At.X), (itoaS xk2.At.Y), (itoaS xk2.Quarters), x1] : List Str) (⟨b4, l4⟩ : StringsBuilder) _ _ A2 7 (ownViewF hrest 0 rfl) g1 l4A l4C hsF _ h) (fun v a w' hf hr => ?_)
              obtain ⟨z1, z1_bufA, z1_bufC, rfl, h2, hs2⟩ := hr
              replace h := h2; replace hs := hback _ _ hs2; clear h2 hs2 hback hold hrest hsF
              refine R.nil ?_
              refine X.then_ ?_
              refine ⟨(hs.mask [false, false, false, false, true]), ?_⟩
              refine H.done (by kernel_rfl) ?_
              refine X.blk ?_
              refine X.then_ ?_
              refine R.list ?_
              refine S.val hf hs (v := .int .i64 ((k2 + 1 : Nat) : Int)) rfl rfl rfl (V.incr rfl rfl rfl hltk2 hlenk2) (fun a hf => ?_)
              refine S.val hf hs (v := .int .i64 ((k2 + 1 : Nat) : Int)) rfl rfl rfl (V.pure rfl) (fun a hf => ?_)
              refine R.nil ?_
              refine X.then_ ?_
              replace hs := hs.front 1 rfl
              replace hs := hs.front 1 rfl
              replace hs := hs.take 2
              exact ⟨xk2, llk2, rfl, k2 + 1, z1.buf, z1_bufA, z1_bufC, z1.addr, range_drop hlk2, range_len hkk2, (by rw [hnext2] at h; exact h), ((((((hf.nil.cons (hf.get 48 _ rfl)).cons (hf.get 47 _ rfl)).cons (hf.get 9 _ rfl)).cons (hf.get 8 _ rfl)).cons (hf.get 7 _ rfl)).cons (hf.get 49 _ rfl)), hs⟩
          · refine S.buildSlice hf hs rfl rfl rfl (α := Str) [[117, 112], [100, 111, 119, 110]] rfl rfl Tryz.runUnderlying74 Tryz.sizeOf9 Tryz.zeroValue9 (by kernel_rfl) rfl (by decide) (by decide) (fun A1 a w hf hs => ?_)
            refine R.nil ?_
            refine X.then_ ?_
            refine ⟨(hs.mask [false, true, false, false]), ?_⟩
            refine H.one (i := 14) rfl (by kernel_rfl) ?_
            obtain ⟨hp, h⟩ := h
            refine S.callv hf rfl rfl rfl (call_fn (vs := [.int .i64 xk2.At.Y]) rfl rfl rfl Tryz.call55) (C_strconv_Itoa xk2.At.Y _ (hT.arg hs) hp) (fun a w hf hs' => ?_)
            replace hs := hs.call hs'; clear hs'
            refine R.nil ?_
            refine X.then_ ?_
            refine ⟨(hs.mask [false, true, false, false]), ?_⟩
            refine H.one (i := 18) rfl (by kernel_rfl) ?_
            obtain ⟨hp, h⟩ := h
            refine S.callv hf rfl rfl rfl (call_fn (vs := [.int .i64 xk2.Quarters]) rfl rfl rfl Tryz.call55) (C_strconv_Itoa xk2.Quarters _ (hT.arg hs) hp) (fun a w hf hs' => ?_)
            replace hs := hs.call hs'; clear hs'
            refine R.nil ?_
            refine X.then_ ?_
            refine ⟨(hs.mask [false, true, false, false]), ?_⟩
            refine H.one (i := 21) rfl (by kernel_rfl) ?_
            refine S.call hf rfl rfl rfl (call_fn (vs := [.agg #[.string (ba xk2.Part), .string (ba xk2.Typ), .int .i64 xk2.At.X, .int .i64 xk2.At.Y, .int .i64 xk2.Quarters, .bool xk2.Below]]) rfl rfl rfl Tryz.call68) (R_mount_side xk2 _  _ h) (fun v a w' hf hr => ?_)
            obtain ⟨y3, rfl, h2, hs2⟩ := hr
            replace h := h2; replace hs := hs.call hs2; clear h2 hs2
            refine R.nil ?_
            refine X.then_ ?_
            refine ⟨(hs.mask [false, true, false, false]), ?_⟩
            obtain ⟨h0x1, x1, hx1, h⟩ := h
            refine H.val hf (hs.mask [false, true, false, false]) (v := elemPtr A1 (y3.toNat * 1)) (i := 22) rfl rfl rfl rfl (by kernel_rfl) (by kernel_rfl) (by kernel_rfl) (V.index rfl rfl rfl Tryz.runUnderlying74 Tryz.sizeOf9 (hs.ownSome 0 rfl (lt_of_get hx1)) h0x1 (lt_of_get hx1) rfl) (fun a hf => ?_)
            refine H.one (i := 23) rfl (by kernel_rfl) ?_
            refine S.val hf hs (v := .string (ba x1)) rfl rfl rfl (V.loadOwn (off := 0) 0 rfl hx1 rfl rfl rfl Tryz.isAgg9 Tryz.sizeOf9 rfl rfl) (fun a hf => ?_)
            refine R.nil ?_
            refine X.then_ ?_
            refine ⟨(hs.mask [false, true, false, false]), ?_⟩
            refine H.one (i := 24) rfl (by kernel_rfl) ?_
            refine S.buildSlice hf hs rfl rfl rfl (α := Str) [[112, 108, 97, 99, 101], xk2.Part, xk2.Typ, (itoaS xk2.At.X), (itoaS xk2.At.Y), (itoaS xk2.Quarters), x1] rfl rfl Tryz.runUnderlying74 Tryz.sizeOf9 Tryz.zeroValue9 (by kernel_rfl) rfl (by decide) (by decide) (fun A2 a w hf hs => ?_)
            refine R.nil ?_
            refine X.then_ ?_
            refine ⟨(hs.mask [false, false, true, false, false]), ?_⟩
            refine H.one (i := 25) rfl (by kernel_rfl) ?_
            replace hs := hs.front 4 rfl
            replace hs := hs.front 4 rfl
            obtain ⟨F1, hsF, hback, hold, hrest⟩ := Sat.callOwns [hbox g1 101 [.pointer (selfp b4 g1), .slice l4A l4.length l4C], hown 5 l4A l4C l4] (σ := [hown 9 A2 7 ([[112, 108, 97, 99, 101], xk2.Part, xk2.Typ, (itoaS xk2.At.X), (itoaS xk2.At.Y), (itoaS xk2.Quarters), x1] : List Str), hown 9 A1 2 ([[117, 112], [100, 111, 119, 110]] : List Str), hbox g2 57 [.string (ba xk2.Part), .string (ba xk2.Typ), .int .i64 xk2.At.X, .int .i64 xk2.At.Y, .int .i64 xk2.Quarters, .bool xk2.Below]]) hs
            refine S.call hf rfl rfl rfl (call_run (args := #[.slice A2 ([[112, 108, 97, 99, 101], xk2.Part, xk2.Typ, (itoaS xk2.At.X), (itoaS xk2.At.Y), (itoaS xk2.Quarters), x1] : List Str).length 7, .pointer (some ⟨g1, 0, none⟩)]) rfl rfl rfl Tryz.call67 (by simp)) (R_mount_line ([[112, 108, 97, 99, 101], xk2.Part, xk2.Typ, (itoaS xk2.At.X), (itoaS xk2.At.Y), (itoaS xk2.Quarters), x1] : List Str) (⟨b4, l4⟩ : StringsBuilder) _ _ A2 7 (ownViewF hrest 0 rfl) g1 l4A l4C hsF _ h) (fun v a w' hf hr => ?_)
            obtain ⟨z1, z1_bufA, z1_bufC, rfl, h2, hs2⟩ := hr
            replace h := h2; replace hs := hback _ _ hs2; clear h2 hs2 hback hold hrest hsF
            refine R.nil ?_
            refine X.then_ ?_
            refine ⟨(hs.mask [false, false, false, false, true]), ?_⟩
            refine H.done (by kernel_rfl) ?_
            refine X.blk ?_
            refine X.then_ ?_
            refine R.list ?_
            refine S.val hf hs (v := .int .i64 ((k2 + 1 : Nat) : Int)) rfl rfl rfl (V.incr rfl rfl rfl hltk2 hlenk2) (fun a hf => ?_)
            refine S.val hf hs (v := .int .i64 ((k2 + 1 : Nat) : Int)) rfl rfl rfl (V.pure rfl) (fun a hf => ?_)
            refine R.nil ?_
            refine X.then_ ?_
            replace hs := hs.front 1 rfl
            replace hs := hs.front 1 rfl
            replace hs := hs.take 2
            exact ⟨xk2, llk2, rfl, k2 + 1, z1.buf, z1_bufA, z1_bufC, z1.addr, range_drop hlk2, range_len hkk2, (by rw [hnext2] at h; exact h), ((((((hf.nil.cons (hf.get 48 _ rfl)).cons (hf.get 47 _ rfl)).cons (hf.get 9 _ rfl)).cons (hf.get 8 _ rfl)).cons (hf.get 7 _ rfl)).cons (hf.get 49 _ rfl)), hs⟩
        · refine S.buildSlice hf hs rfl rfl rfl (α := Str) [[117, 112], [100, 111, 119, 110]] rfl rfl Tryz.runUnderlying74 Tryz.sizeOf9 Tryz.zeroValue9 (by kernel_rfl) rfl (by decide) (by decide) (fun A1 a w hf hs => ?_)
          refine R.nil ?_
          refine X.then_ ?_
          refine ⟨(hs.mask [false, true, false, false]), ?_⟩
          refine H.one (i := 9) rfl (by kernel_rfl) ?_
          obtain ⟨hp, h⟩ := h
          refine S.callv hf rfl rfl rfl (call_fn (vs := [.int .i64 xk2.At.X]) rfl rfl rfl Tryz.call55) (C_strconv_Itoa xk2.At.X _ (hT.arg hs) hp) (fun a w hf hs' => ?_)
          replace hs := hs.call hs'; clear hs'
          refine R.nil ?_
          refine X.then_ ?_
          refine ⟨(hs.mask [false, true, false, false]), ?_⟩
          refine H.one (i := 14) rfl (by kernel_rfl) ?_
          obtain ⟨hp, h⟩ := h
          refine S.callv hf rfl rfl rfl (call_fn (vs := [.int .i64 xk2.At.Y]) rfl rfl rfl Tryz.call55) (C_strconv_Itoa xk2.At.Y _ (hT.arg hs) hp) (fun a w hf hs' => ?_)
          replace hs := hs.call hs'; clear hs'
          refine R.nil ?_
          refine X.then_ ?_
          refine ⟨(hs.mask [false, true, false, false]), ?_⟩
          refine H.one (i := 18) rfl (by kernel_rfl) ?_
          obtain ⟨hp, h⟩ := h
          refine S.callv hf rfl rfl rfl (call_fn (vs := [.int .i64 xk2.Quarters]) rfl rfl rfl Tryz.call55) (C_strconv_Itoa xk2.Quarters _ (hT.arg hs) hp) (fun a w hf hs' => ?_)
          replace hs := hs.call hs'; clear hs'
          refine R.nil ?_
          refine X.then_ ?_
          refine ⟨(hs.mask [false, true, false, false]), ?_⟩
          refine H.one (i := 21) rfl (by kernel_rfl) ?_
          refine S.call hf rfl rfl rfl (call_fn (vs := [.agg #[.string (ba xk2.Part), .string (ba xk2.Typ), .int .i64 xk2.At.X, .int .i64 xk2.At.Y, .int .i64 xk2.Quarters, .bool xk2.Below]]) rfl rfl rfl Tryz.call68) (R_mount_side xk2 _  _ h) (fun v a w' hf hr => ?_)
          obtain ⟨y3, rfl, h2, hs2⟩ := hr
          replace h := h2; replace hs := hs.call hs2; clear h2 hs2
          refine R.nil ?_
          refine X.then_ ?_
          refine ⟨(hs.mask [false, true, false, false]), ?_⟩
          obtain ⟨h0x1, x1, hx1, h⟩ := h
          refine H.val hf (hs.mask [false, true, false, false]) (v := elemPtr A1 (y3.toNat * 1)) (i := 22) rfl rfl rfl rfl (by kernel_rfl) (by kernel_rfl) (by kernel_rfl) (V.index rfl rfl rfl Tryz.runUnderlying74 Tryz.sizeOf9 (hs.ownSome 0 rfl (lt_of_get hx1)) h0x1 (lt_of_get hx1) rfl) (fun a hf => ?_)
          refine H.one (i := 23) rfl (by kernel_rfl) ?_
          refine S.val hf hs (v := .string (ba x1)) rfl rfl rfl (V.loadOwn (off := 0) 0 rfl hx1 rfl rfl rfl Tryz.isAgg9 Tryz.sizeOf9 rfl rfl) (fun a hf => ?_)
          refine R.nil ?_
          refine X.then_ ?_
          refine ⟨(hs.mask [false, true, false, false]), ?_⟩
          refine H.one (i := 24) rfl (by kernel_rfl) ?_
          refine S.buildSlice hf hs rfl rfl rfl (α := Str) [[112, 108, 97, 99, 101], xk2.Part, xk2.Typ, (itoaS xk2.At.X), (itoaS xk2.At.Y), (itoaS xk2.Quarters), x1] rfl rfl Tryz.runUnderlying74 Tryz.sizeOf9 Tryz.zeroValue9 (by kernel_rfl) rfl (by decide) (by decide) (fun A2 a w hf hs => ?_)
          refine R.nil ?_
          refine X.then_ ?_
          refine ⟨(hs.mask [false, false, true, false, false]), ?_⟩
          refine H.one (i := 25) rfl (by kernel_rfl) ?_
          replace hs := hs.front 4 rfl
          replace hs := hs.front 4 rfl
          obtain ⟨F1, hsF, hback, hold, hrest⟩ := Sat.callOwns [hbox g1 101 [.pointer (selfp b4 g1), .slice l4A l4.length l4C], hown 5 l4A l4C l4] (σ := [hown 9 A2 7 ([[112, 108, 97, 99, 101], xk2.Part, xk2.Typ, (itoaS xk2.At.X), (itoaS xk2.At.Y), (itoaS xk2.Quarters), x1] : List Str), hown 9 A1 2 ([[117, 112], [100, 111, 119, 110]] : List Str), hbox g2 57 [.string (ba xk2.Part), .string (ba xk2.Typ), .int .i64 xk2.At.X, .int .i64 xk2.At.Y, .int .i64 xk2.Quarters, .bool xk2.Below]]) hs
          refine S.call hf rfl rfl rfl (call_run (args := #[.slice A2 ([[112, 108, 97, 99, 101], xk2.Part, xk2.Typ, (itoaS xk2.At.X), (itoaS xk2.At.Y), (itoaS xk2.Quarters), x1] : List Str).length 7, .pointer (some ⟨g1, 0, none⟩)]) rfl rfl rfl Tryz.call67 (by simp)) (R_mount_line ([[112, 108, 97, 99, 101], xk2.Part, xk2.Typ, (itoaS xk2.At.X), (itoaS xk2.At.Y), (itoaS xk2.Quarters), x1] : List Str) (⟨b4, l4⟩ : StringsBuilder) _ _ A2 7 (ownViewF hrest 0 rfl) g1 l4A l4C hsF _ h) (fun v a w' hf hr => ?_)
          obtain ⟨z1, z1_bufA, z1_bufC, rfl, h2, hs2⟩ := hr
          replace h := h2; replace hs := hback _ _ hs2; clear h2 hs2 hback hold hrest hsF
          refine R.nil ?_
          refine X.then_ ?_
          refine ⟨(hs.mask [false, false, false, false, true]), ?_⟩
          refine H.done (by kernel_rfl) ?_
          refine X.blk ?_
          refine X.then_ ?_
          refine R.list ?_
          refine S.val hf hs (v := .int .i64 ((k2 + 1 : Nat) : Int)) rfl rfl rfl (V.incr rfl rfl rfl hltk2 hlenk2) (fun a hf => ?_)
          refine S.val hf hs (v := .int .i64 ((k2 + 1 : Nat) : Int)) rfl rfl rfl (V.pure rfl) (fun a hf => ?_)
          refine R.nil ?_
          refine X.then_ ?_
          replace hs := hs.front 1 rfl
          replace hs := hs.front 1 rfl
          replace hs := hs.take 2
          exact ⟨xk2, llk2, rfl, k2 + 1, z1.buf, z1_bufA, z1_bufC, z1.addr, range_drop hlk2, range_len hkk2, (by rw [hnext2] at h; exact h), ((((((hf.nil.cons (hf.get 48 _ rfl)).cons (hf.get 47 _ rfl)).cons (hf.get 9 _ rfl)).cons (hf.get 8 _ rfl)).cons (hf.get 7 _ rfl)).cons (hf.get 49 _ rfl)), hs⟩
    | cons xk1 llk1 =>
      have hltk1 := range_lt hkk1; have hc := range_go hkk1; have hxk1 := range_get hlk1
      obtain ⟨next1, hnext1⟩ : ∃ X : List UInt8 → Bool → Prop, X = (fun l2 b2 => forIn' (fun k x (s : List UInt8 × Bool) next => M_mount_Text_L1 k x s.1 s.2 (fun l2 b2 => next (l2, b2))) (fun (s : List UInt8 × Bool) => (fun (l2 : List UInt8) (b2 : Bool) => forIn' (fun k x (s : List UInt8 × Bool) next => M_mount_Text_L2 k x s.1 s.2 (fun l4 b4 => next (l4, b4))) (fun (s : List UInt8 × Bool) => (fun (l4 : List UInt8) (b4 : Bool) => M_bld_Len (⟨b4, l4⟩ : StringsBuilder) fun y2 => cnd (decide (y2 > 300000)) (Q [] 2) (Q l4 0)) s.1 s.2) l 0 (l2, b2)) s.1 s.2) llk1 (k1 + 1) (l2, b2)) := ⟨_, rfl⟩
      replace h : M_mount_Text_L1 k1 xk1 l2 b2 next1 := by rw [hnext1]; exact h
      unfold M_mount_Text_L1 at h
      refine wp_seq ?_
      refine R.list ?_
      refine S.val hf hs (v := .bool true) rfl rfl rfl (V.cmp true rfl rfl rfl rfl hc) (fun a hf => ?_)
      refine R.nil ?_
      refine X.then_ ?_
      refine wp_seq ?_
      refine C.yes hf rfl ?_
      refine wp_skip ?_
      refine X.then_ ?_
      refine wp_seq ?_
      refine wp_block ?_
      refine wp_seq ?_
      refine R.list ?_
      refine S.val hf hs (v := elemPtr bA (k1 * 5)) rfl rfl rfl (V.index rfl rfl rfl Tryz.runUnderlying46 Tryz.sizeOf52 (hv_b.some_ (lt_of_get hxk1)) (Int.natCast_nonneg _) (lt_of_get hxk1) rfl) (fun a hf => ?_)
      refine S.val hf hs (v := .agg #[.string (ba xk1.Typ), .int .i64 xk1.W, .int .i64 xk1.H, .int .i64 xk1.Tall, .string (ba xk1.Nozzle)]) rfl rfl rfl (V.loadEl (off := 0) (Ag.args _ _ _) (hv_b.flat hxk1) rfl rfl rfl Tryz.isAgg52 Tryz.sizeOf52 rfl rfl) (fun a hf => ?_)
      refine S.alloc hf hs rfl rfl rfl [.string (ba []), .int .i64 0, .int .i64 0, .int .i64 0, .string (ba [])] rfl Tryz.zeroValue52 rfl (fun g3 a w hf hs => ?_)
      refine S.storeBox 0 hf hs rfl rfl [.string (ba xk1.Typ), .int .i64 xk1.W, .int .i64 xk1.H, .int .i64 xk1.Tall, .string (ba xk1.Nozzle)] [.string (ba xk1.Typ), .int .i64 xk1.W, .int .i64 xk1.H, .int .i64 xk1.Tall, .string (ba xk1.Nozzle)] rfl rfl rfl rfl rfl Tryz.sizeOf52 rfl rfl rfl rfl (fun a w hf hs => ?_)
      refine R.nil ?_
      refine X.then_ ?_
      refine H.start (S := Sat w0 none_ [hbox g3 52 [.string (ba xk1.Typ), .int .i64 xk1.W, .int .i64 xk1.H, .int .i64 xk1.Tall, .string (ba xk1.Nozzle)]]) mo ?_
      replace hs := hs.drew
      refine H.val hf (hs.mask [true, false, false]) (v := .func (.func 67) #[] #[.pointer (some ⟨g1, 0, none⟩)]) (i := 0) rfl rfl rfl rfl (by kernel_rfl) (by kernel_rfl) (by kernel_rfl) (V.pure rfl) (fun a hf => ?_)
      refine H.val hf (hs.mask [true, false, false]) (v := .pointer (some ⟨g3, 0, none⟩)) (i := 1) rfl rfl rfl rfl (by kernel_rfl) (by kernel_rfl) (by kernel_rfl) (V.fieldBox rfl rfl Tryz.runUnderlying52 rfl Tryz.sizeOf9 rfl rfl) (fun a hf => ?_)
      refine H.val hf (hs.mask [true, false, false]) (v := .string (ba xk1.Typ)) (i := 2) rfl rfl rfl rfl (by kernel_rfl) (by kernel_rfl) (by kernel_rfl) (V.loadBox 0 rfl rfl rfl Tryz.isAgg9 Tryz.sizeOf9 rfl rfl) (fun a hf => ?_)
      refine H.val hf (hs.mask [true, false, false]) (v := .func (.func 55) #[] #[]) (i := 3) rfl rfl rfl rfl (by kernel_rfl) (by kernel_rfl) (by kernel_rfl) (V.pure rfl) (fun a hf => ?_)
      refine H.val hf (hs.mask [true, false, false]) (v := .pointer (some ⟨g3, 1, none⟩)) (i := 4) rfl rfl rfl rfl (by kernel_rfl) (by kernel_rfl) (by kernel_rfl) (V.fieldBox rfl rfl Tryz.runUnderlying52 rfl Tryz.sizeOf3 rfl rfl) (fun a hf => ?_)
      refine H.val hf (hs.mask [true, false, false]) (v := .int .i64 xk1.W) (i := 5) rfl rfl rfl rfl (by kernel_rfl) (by kernel_rfl) (by kernel_rfl) (V.loadBox 0 rfl rfl rfl Tryz.isAgg3 Tryz.sizeOf3 rfl rfl) (fun a hf => ?_)
      refine H.val hf (hs.mask [true, false, false]) (v := .func (.func 55) #[] #[]) (i := 7) rfl rfl rfl rfl (by kernel_rfl) (by kernel_rfl) (by kernel_rfl) (V.pure rfl) (fun a hf => ?_)
      refine H.val hf (hs.mask [true, false, false]) (v := .pointer (some ⟨g3, 2, none⟩)) (i := 8) rfl rfl rfl rfl (by kernel_rfl) (by kernel_rfl) (by kernel_rfl) (V.fieldBox rfl rfl Tryz.runUnderlying52 rfl Tryz.sizeOf3 rfl rfl) (fun a hf => ?_)
      refine H.val hf (hs.mask [true, false, false]) (v := .int .i64 xk1.H) (i := 9) rfl rfl rfl rfl (by kernel_rfl) (by kernel_rfl) (by kernel_rfl) (V.loadBox 0 rfl rfl rfl Tryz.isAgg3 Tryz.sizeOf3 rfl rfl) (fun a hf => ?_)
      refine H.val hf (hs.mask [true, false, false]) (v := .func (.func 55) #[] #[]) (i := 11) rfl rfl rfl rfl (by kernel_rfl) (by kernel_rfl) (by kernel_rfl) (V.pure rfl) (fun a hf => ?_)
      refine H.val hf (hs.mask [true, false, false]) (v := .pointer (some ⟨g3, 3, none⟩)) (i := 12) rfl rfl rfl rfl (by kernel_rfl) (by kernel_rfl) (by kernel_rfl) (V.fieldBox rfl rfl Tryz.runUnderlying52 rfl Tryz.sizeOf3 rfl rfl) (fun a hf => ?_)
      refine H.val hf (hs.mask [true, false, false]) (v := .int .i64 xk1.Tall) (i := 13) rfl rfl rfl rfl (by kernel_rfl) (by kernel_rfl) (by kernel_rfl) (V.loadBox 0 rfl rfl rfl Tryz.isAgg3 Tryz.sizeOf3 rfl rfl) (fun a hf => ?_)
      refine H.val hf (hs.mask [true, false, false]) (v := .pointer (some ⟨g3, 4, none⟩)) (i := 15) rfl rfl rfl rfl (by kernel_rfl) (by kernel_rfl) (by kernel_rfl) (V.fieldBox rfl rfl Tryz.runUnderlying52 rfl Tryz.sizeOf9 rfl rfl) (fun a hf => ?_)
      refine H.val hf (hs.mask [true, false, false]) (v := .string (ba xk1.Nozzle)) (i := 16) rfl rfl rfl rfl (by kernel_rfl) (by kernel_rfl) (by kernel_rfl) (V.loadBox 0 rfl rfl rfl Tryz.isAgg9 Tryz.sizeOf9 rfl rfl) (fun a hf => ?_)
      refine H.one (i := 6) rfl (by kernel_rfl) ?_
      obtain ⟨hp, h⟩ := h
      refine S.callv hf rfl rfl rfl (call_fn (vs := [.int .i64 xk1.W]) rfl rfl rfl Tryz.call55) (C_strconv_Itoa xk1.W _ (hT.arg hs) hp) (fun a w hf hs' => ?_)
      replace hs := hs.call hs'; clear hs'
      refine R.nil ?_
      refine X.then_ ?_
      refine ⟨(hs.mask [true, false, false]), ?_⟩
      refine H.one (i := 10) rfl (by kernel_rfl) ?_
      obtain ⟨hp, h⟩ := h
      refine S.callv hf rfl rfl rfl (call_fn (vs := [.int .i64 xk1.H]) rfl rfl rfl Tryz.call55) (C_strconv_Itoa xk1.H _ (hT.arg hs) hp) (fun a w hf hs' => ?_)
      replace hs := hs.call hs'; clear hs'
      refine R.nil ?_
      refine X.then_ ?_
      refine ⟨(hs.mask [true, false, false]), ?_⟩
      refine H.one (i := 14) rfl (by kernel_rfl) ?_
      obtain ⟨hp, h⟩ := h
      refine S.callv hf rfl rfl rfl (call_fn (vs := [.int .i64 xk1.Tall]) rfl rfl rfl Tryz.call55) (C_strconv_Itoa xk1.Tall _ (hT.arg hs) hp) (fun a w hf hs' => ?_)
      replace hs := hs.call hs'; clear hs'
      refine R.nil ?_
      refine X.then_ ?_
      refine ⟨(hs.mask [true, false, false]), ?_⟩
      refine H.one (i := 17) rfl (by kernel_rfl) ?_
      refine S.buildSlice hf hs rfl rfl rfl (α := Str) [[98, 111, 100, 121], xk1.Typ, (itoaS xk1.W), (itoaS xk1.H), (itoaS xk1.Tall), xk1.Nozzle] rfl rfl Tryz.runUnderlying74 Tryz.sizeOf9 Tryz.zeroValue9 (by kernel_rfl) rfl (by decide) (by decide) (fun A3 a w hf hs => ?_)
      refine R.nil ?_
      refine X.then_ ?_
      refine ⟨(hs.mask [false, true, false, false]), ?_⟩
      refine H.one (i := 18) rfl (by kernel_rfl) ?_
      replace hs := hs.front 3 rfl
      replace hs := hs.front 3 rfl
      obtain ⟨F1, hsF, hback, hold, hrest⟩ := Sat.callOwns [hbox g1 101 [.pointer (selfp b2 g1), .slice l2A l2.length l2C], hown 5 l2A l2C l2] (σ := [hown 9 A3 6 ([[98, 111, 100, 121], xk1.Typ, (itoaS xk1.W), (itoaS xk1.H), (itoaS xk1.Tall), xk1.Nozzle] : List Str), hbox g3 52 [.string (ba xk1.Typ), .int .i64 xk1.W, .int .i64 xk1.H, .int .i64 xk1.Tall, .string (ba xk1.Nozzle)]]) hs
      refine S.call hf rfl rfl rfl (call_run (args := #[.slice A3 ([[98, 111, 100, 121], xk1.Typ, (itoaS xk1.W), (itoaS xk1.H), (itoaS xk1.Tall), xk1.Nozzle] : List Str).length 6, .pointer (some ⟨g1, 0, none⟩)]) rfl rfl rfl Tryz.call67 (by simp)) (R_mount_line ([[98, 111, 100, 121], xk1.Typ, (itoaS xk1.W), (itoaS xk1.H), (itoaS xk1.Tall), xk1.Nozzle] : List Str) (⟨b2, l2⟩ : StringsBuilder) _ _ A3 6 (ownViewF hrest 0 rfl) g1 l2A l2C hsF _ h) (fun v a w' hf hr => ?_)
      obtain ⟨z2, z2_bufA, z2_bufC, rfl, h2, hs2⟩ := hr
      replace h := h2; replace hs := hback _ _ hs2; clear h2 hs2 hback hold hrest hsF
      refine R.nil ?_
      refine X.then_ ?_
      refine ⟨(hs.mask [false, false, false, true]), ?_⟩
      refine H.done (by kernel_rfl) ?_
      refine X.blk ?_
      refine X.then_ ?_
      refine R.list ?_
      refine S.val hf hs (v := .int .i64 ((k1 + 1 : Nat) : Int)) rfl rfl rfl (V.incr rfl rfl rfl hltk1 hlenk1) (fun a hf => ?_)
      refine S.val hf hs (v := .int .i64 ((k1 + 1 : Nat) : Int)) rfl rfl rfl (V.pure rfl) (fun a hf => ?_)
      refine R.nil ?_
      refine X.then_ ?_
      replace hs := hs.front 1 rfl
      replace hs := hs.front 1 rfl
      replace hs := hs.take 2
      exact ⟨xk1, llk1, rfl, k1 + 1, z2.buf, z2_bufA, z2_bufC, z2.addr, range_drop hlk1, range_len hkk1, (by rw [hnext1] at h; exact h), (((((((hf.nil.cons (hf.get 22 _ rfl)).cons (hf.get 21 _ rfl)).cons (hf.get 9 _ rfl)).cons (hf.get 8 _ rfl)).cons (hf.get 7 _ rfl)).cons (hf.get 1 _ rfl)).cons (hf.get 23 _ rfl)), hs⟩

set_option linter.unusedVariables false
def M_ref10_sideOf (below : Bool) (Q : Str → Prop) : Prop :=
  cnd below (Q [100, 111, 119, 110]) (Q [117, 112])
set_option maxHeartbeats 1000000 in
theorem R_ref10_sideOf (below : Bool) (w0 : World)  (Q : Str → Prop) (h : M_ref10_sideOf below Q) :
    Ret Tryz.prog 69 #[.bool below] w0 fun v w' => ∃ (r0 : Str), v = .string (ba r0) ∧ Q r0 ∧ Sat w0 none_ [] w' := by
  refine fn_enter Tryz.func69 rfl Tryz.ntmps69 rfl (fs := [(0, .bool below)]) rfl (fun a hf => ?_)
  have hs := Sat.start w0 none_
  unfold M_ref10_sideOf at h
  refine wp_seq ?_
  refine R.list ?_
  refine S.val hf hs (v := .string (ba [])) rfl rfl rfl (V.pure rfl) (fun a hf => ?_)
  refine R.nil ?_
  refine X.then_ ?_
  refine wp_seq ?_
  refine wp_seq ?_
  refine R.list ?_
  refine S.val hf hs (v := .bool below) rfl rfl rfl (V.pure rfl) (fun a hf => ?_)
  refine R.nil ?_
  refine X.then_ ?_
  refine C.cond hf (b := below) rfl (fun hc => ?_) (fun hc => ?_)
  · replace h := h.1 hc
    refine wp_seq ?_
    refine R.list ?_
    refine S.val hf hs (v := .string (ba [100, 111, 119, 110])) rfl rfl rfl (V.pure rfl) (fun a hf => ?_)
    refine R.nil ?_
    refine X.then_ ?_
    refine wp_ret ?_
    refine X.then_ret ?_
    exact L.ret hf (run_results1 Tryz.results69 (ResIs.tmp hf rfl)) ⟨[100, 111, 119, 110], rfl, h, hs.nil⟩
  · replace h := h.2 hc
    refine wp_skip ?_
    refine X.then_ ?_
    refine wp_seq ?_
    refine R.list ?_
    refine S.val hf hs (v := .string (ba [117, 112])) rfl rfl rfl (V.pure rfl) (fun a hf => ?_)
    refine R.nil ?_
    refine X.then_ ?_
    refine wp_ret ?_
    exact L.ret hf (run_results1 Tryz.results69 (ResIs.tmp hf rfl)) ⟨[117, 112], rfl, h, hs.nil⟩

set_option linter.unusedVariables false
def M_ref10_Text_L2  (k2 : Nat) (xk2 : Place) (s4 : Str) (next2 : Str → Prop) : Prop :=
  must (isI64 xk2.At.X) (must (isI64 xk2.At.Y) (must (isI64 xk2.Quarters) (M_ref10_sideOf xk2.Below fun y2 => M_strings_Join ([[112, 108, 97, 99, 101], xk2.Part, xk2.Typ, (itoaS xk2.At.X), (itoaS xk2.At.Y), (itoaS xk2.Quarters), y2] : List Str) [32] fun y3 => must (y3.length + [10].length ≤ 9223372036854775807) (must (s4.length + (y3 ++ [10]).length ≤ 9223372036854775807) (next2 (s4 ++ (y3 ++ [10])))))))
def M_ref10_Text_L1  (k1 : Nat) (xk1 : Body) (s2 : Str) (next1 : Str → Prop) : Prop :=
  must (isI64 xk1.W) (must (isI64 xk1.H) (must (isI64 xk1.Tall) (M_strings_Join ([[98, 111, 100, 121], xk1.Typ, (itoaS xk1.W), (itoaS xk1.H), (itoaS xk1.Tall), xk1.Nozzle] : List Str) [32] fun y4 => must (y4.length + [10].length ≤ 9223372036854775807) (must (s2.length + (y4 ++ [10]).length ≤ 9223372036854775807) (next1 (s2 ++ (y4 ++ [10])))))))
def M_ref10_Text (b : (List Body)) (l : (List Place)) (Q : Str → Int → Prop) : Prop :=
  M_ref10_CheckPlaces b l fun y1 => cnd (y1 != 0) (Q [] y1) (forIn' (fun k x (s : Str) next => M_ref10_Text_L1 k x s (fun s2 => next s2)) (fun (s : Str) => (fun (s2 : Str) => forIn' (fun k x (s : Str) next => M_ref10_Text_L2 k x s (fun s4 => next s4)) (fun (s : Str) => (fun (s4 : Str) => cnd (decide ((s4.length : Int) > 300000)) (Q [] 2) (Q s4 0)) s) l 0 s2) s) b 0 [])
set_option maxHeartbeats 1000000 in
theorem R_ref10_Text (b : (List Body)) (l : (List Place)) (w0 : World) (bA : Option Addr) (bC : Nat) (hv_b : View w0 (old w0 none_) bA bC b) (lA : Option Addr) (lC : Nat) (hv_l : View w0 (old w0 none_) lA lC l) (hT : TabIn Tryz.prog w0 (old w0 none_)) (Q : Str → Int → Prop) (h : M_ref10_Text b l Q) :
    Ret Tryz.prog 31 #[.slice bA b.length bC, .slice lA l.length lC] w0 fun v w' => ∃ (r0 : Str) (r1 : Int), v = .tuple #[.string (ba r0), .int .i64 r1] ∧ Q r0 r1 ∧ Sat w0 none_ [] w' := by
  refine fn_enter Tryz.func31 rfl Tryz.ntmps31 rfl (fs := [(0, .slice bA b.length bC), (1, .slice lA l.length lC)]) rfl (fun a hf => ?_)
  have hs := Sat.start w0 none_
  unfold M_ref10_Text at h
  refine wp_seq ?_
  refine R.list ?_
  refine S.val hf hs (v := .string (ba [])) rfl rfl rfl (V.pure rfl) (fun a hf => ?_)
  refine S.val hf hs (v := .int .i64 0) rfl rfl rfl (V.pure rfl) (fun a hf => ?_)
  refine R.nil ?_
  refine X.then_ ?_
  refine wp_seq ?_
  refine wp_seq ?_
  refine R.list ?_
  refine S.val hf hs (v := .slice bA b.length bC) rfl rfl rfl (V.pure rfl) (fun a hf => ?_)
  refine S.val hf hs (v := .slice lA l.length lC) rfl rfl rfl (V.pure rfl) (fun a hf => ?_)
  refine S.call hf rfl rfl rfl (call_fn (vs := [.slice bA b.length bC, .slice lA l.length lC]) rfl rfl rfl Tryz.call62) (R_ref10_CheckPlaces b l _ bA bC ((Ag.args _ _ _).view hv_b hs) lA lC ((Ag.args _ _ _).view hv_l hs) _ h) (fun v a w' hf hr => ?_)
  obtain ⟨y1, rfl, h2, hs2⟩ := hr
  replace h := h2; replace hs := hs.call hs2; clear h2 hs2
  refine S.val hf hs (v := .int .i64 y1) rfl rfl rfl (V.pure rfl) (fun a hf => ?_)
  refine R.nil ?_
  refine X.then_ ?_
  refine wp_seq ?_
  refine R.list ?_
  refine S.val hf hs (v := .int .i64 y1) rfl rfl rfl (V.pure rfl) (fun a hf => ?_)
  refine S.val hf hs (v := .bool (y1 != 0)) rfl rfl rfl (V.pure rfl) (fun a hf => ?_)
  refine R.nil ?_
  refine X.then_ ?_
  refine C.cond hf (b := y1 != 0) rfl (fun hc => ?_) (fun hc => ?_)
  · replace h := h.1 hc
    refine wp_seq ?_
    refine R.list ?_
    refine S.val hf hs (v := .int .i64 y1) rfl rfl rfl (V.pure rfl) (fun a hf => ?_)
    refine S.val hf hs (v := .string (ba [])) rfl rfl rfl (V.pure rfl) (fun a hf => ?_)
    refine S.val hf hs (v := .int .i64 y1) rfl rfl rfl (V.pure rfl) (fun a hf => ?_)
    refine R.nil ?_
    refine X.then_ ?_
    refine wp_ret ?_
    refine X.then_ret ?_
    exact L.ret hf (run_results2 Tryz.results31 (ResIs.tmp hf rfl) (ResIs.tmp hf rfl)) ⟨[], y1, rfl, h, hs.nil⟩
  · replace h := h.2 hc
    refine wp_skip ?_
    refine X.then_ ?_
    refine wp_seq ?_
    refine R.list ?_
    refine S.val hf hs (v := .string (ba [])) rfl rfl rfl (V.pure rfl) (fun a hf => ?_)
    refine R.nil ?_
    refine X.then_ ?_
    refine wp_seq ?_
    refine wp_seq ?_
    refine R.list ?_
    refine S.val hf hs (v := .slice bA b.length bC) rfl rfl rfl (V.pure rfl) (fun a hf => ?_)
    refine S.val hf hs (v := .int .i64 (b.length : Int)) rfl rfl rfl (V.len rfl rfl Tryz.runUnderlying46) (fun a hf => ?_)
    refine S.val hf hs (v := .int .i64 0) rfl rfl rfl (V.pure rfl) (fun a hf => ?_)
    refine R.nil ?_
    refine X.then_ ?_
    refine wp_block ?_
    have hlenk1 := hv_b.len64
    refine C.range (fun (ll : List Body) a w => ∃ (k1 : Nat) (s2 : Str), b.drop k1 = ll ∧ k1 + ll.length = b.length ∧ forIn' (fun k x (s : Str) next => M_ref10_Text_L1 k x s (fun s2 => next s2)) (fun (s : Str) => (fun (s2 : Str) => forIn' (fun k x (s : Str) next => M_ref10_Text_L2 k x s (fun s4 => next s4)) (fun (s : Str) => (fun (s4 : Str) => cnd (decide ((s4.length : Int) > 300000)) (Q [] 2) (Q s4 0)) s) l 0 s2) s) ll k1 s2 ∧ FrOk 77 [(20, .int .i64 (k1 : Int)), (1, .slice lA l.length lC), (7, .string (ba s2)), (18, .slice bA b.length bC), (19, .int .i64 (b.length : Int))] a ∧ Sat w0 none_ [] w) b ⟨0, [], rfl, Nat.zero_add _, h, (((((hf.nil.cons (hf.get 19 _ rfl)).cons (hf.get 18 _ rfl)).cons (hf.get 7 _ rfl)).cons (hf.get 1 _ rfl)).cons (hf.get 20 _ rfl)), hs⟩ ?_
    clear h hf hs
    rintro llk1 a w ⟨k1, s2, hlk1, hkk1, h, hf, hs⟩
    cases llk1 with
    | nil =>
      have hc := range_done hkk1
      replace h : (fun (s2 : Str) => forIn' (fun k x (s : Str) next => M_ref10_Text_L2 k x s (fun s4 => next s4)) (fun (s : Str) => (fun (s4 : Str) => cnd (decide ((s4.length : Int) > 300000)) (Q [] 2) (Q s4 0)) s) l 0 s2) s2 := h
      refine wp_seq ?_
      refine R.list ?_
      refine S.val hf hs (v := .bool false) rfl rfl rfl (V.cmp false rfl rfl rfl rfl hc) (fun a hf => ?_)
      refine R.nil ?_
      refine X.then_ ?_
      refine wp_seq ?_
      refine C.no hf rfl ?_
      refine wp_exit ?_
      refine X.then_exit ?_
      refine X.then_exit ?_
      refine X.blk_exit ?_
      refine X.then_ ?_
      refine wp_seq ?_
      refine wp_seq ?_
      refine R.list ?_
      refine S.val hf hs (v := .slice lA l.length lC) rfl rfl rfl (V.pure rfl) (fun a hf => ?_)
      refine S.val hf hs (v := .int .i64 (l.length : Int)) rfl rfl rfl (V.len rfl rfl Tryz.runUnderlying47) (fun a hf => ?_)
      refine S.val hf hs (v := .int .i64 0) rfl rfl rfl (V.pure rfl) (fun a hf => ?_)
      refine R.nil ?_
      refine X.then_ ?_
      refine wp_block ?_
      have hlenk2 := hv_l.len64
      refine C.range (fun (ll : List Place) a w => ∃ (k2 : Nat) (s4 : Str), l.drop k2 = ll ∧ k2 + ll.length = l.length ∧ forIn' (fun k x (s : Str) next => M_ref10_Text_L2 k x s (fun s4 => next s4)) (fun (s : Str) => (fun (s4 : Str) => cnd (decide ((s4.length : Int) > 300000)) (Q [] 2) (Q s4 0)) s) ll k2 s4 ∧ FrOk 77 [(45, .int .i64 (k2 : Int)), (7, .string (ba s4)), (43, .slice lA l.length lC), (44, .int .i64 (l.length : Int))] a ∧ Sat w0 none_ [] w) l ⟨0, s2, rfl, Nat.zero_add _, h, ((((hf.nil.cons (hf.get 44 _ rfl)).cons (hf.get 43 _ rfl)).cons (hf.get 7 _ rfl)).cons (hf.get 45 _ rfl)), hs⟩ ?_
      clear h hf hs
      rintro llk2 a w ⟨k2, s4, hlk2, hkk2, h, hf, hs⟩
      cases llk2 with
      | nil =>
        have hc := range_done hkk2
        replace h : (fun (s4 : Str) => cnd (decide ((s4.length : Int) > 300000)) (Q [] 2) (Q s4 0)) s4 := h
        refine wp_seq ?_
        refine R.list ?_
        refine S.val hf hs (v := .bool false) rfl rfl rfl (V.cmp false rfl rfl rfl rfl hc) (fun a hf => ?_)
        refine R.nil ?_
        refine X.then_ ?_
        refine wp_seq ?_
        refine C.no hf rfl ?_
        refine wp_exit ?_
        refine X.then_exit ?_
        refine X.then_exit ?_
        refine X.blk_exit ?_
        refine X.then_ ?_
        refine wp_seq ?_
        refine wp_seq ?_
        refine R.list ?_
        refine S.val hf hs (v := .string (ba s4)) rfl rfl rfl (V.pure rfl) (fun a hf => ?_)
        refine S.val hf hs (v := .int .i64 (s4.length : Int)) rfl rfl rfl (V.lenStr rfl rfl Tryz.runUnderlying9) (fun a hf => ?_)
        refine S.val hf hs (v := .bool (decide ((s4.length : Int) > 300000))) rfl rfl rfl (V.pure rfl) (fun a hf => ?_)
        refine R.nil ?_
        refine X.then_ ?_
        refine C.cond hf (b := decide ((s4.length : Int) > 300000)) rfl (fun hc => ?_) (fun hc => ?_)
        · replace h := h.1 hc
          refine wp_seq ?_
          refine R.list ?_
          refine S.val hf hs (v := .string (ba [])) rfl rfl rfl (V.pure rfl) (fun a hf => ?_)
          refine S.val hf hs (v := .int .i64 2) rfl rfl rfl (V.pure rfl) (fun a hf => ?_)
          refine R.nil ?_
          refine X.then_ ?_
          refine wp_ret ?_
          refine X.then_ret ?_
          exact L.ret hf (run_results2 Tryz.results31 (ResIs.tmp hf rfl) (ResIs.tmp hf rfl)) ⟨[], 2, rfl, h, hs.nil⟩
        · replace h := h.2 hc
          refine wp_skip ?_
          refine X.then_ ?_
          refine wp_seq ?_
          refine R.list ?_
          refine S.val hf hs (v := .string (ba s4)) rfl rfl rfl (V.pure rfl) (fun a hf => ?_)
          refine S.val hf hs (v := .string (ba s4)) rfl rfl rfl (V.pure rfl) (fun a hf => ?_)
          refine S.val hf hs (v := .int .i64 0) rfl rfl rfl (V.pure rfl) (fun a hf => ?_)
          refine R.nil ?_
          refine X.then_ ?_
          refine wp_ret ?_
          exact L.ret hf (run_results2 Tryz.results31 (ResIs.tmp hf rfl) (ResIs.tmp hf rfl)) ⟨s4, 0, rfl, h, hs.nil⟩
      | cons xk2 llk2 =>
        have hltk2 := range_lt hkk2; have hc := range_go hkk2; have hxk2 := range_get hlk2
        obtain ⟨next2, hnext2⟩ : ∃ X : Str → Prop, X = (fun s4 => forIn' (fun k x (s : Str) next => M_ref10_Text_L2 k x s (fun s4 => next s4)) (fun (s : Str) => (fun (s4 : Str) => cnd (decide ((s4.length : Int) > 300000)) (Q [] 2) (Q s4 0)) s) llk2 (k2 + 1) s4) := ⟨_, rfl⟩
        replace h : M_ref10_Text_L2 k2 xk2 s4 next2 := by rw [hnext2]; exact h
        unfold M_ref10_Text_L2 at h
        refine wp_seq ?_
        refine R.list ?_
        refine S.val hf hs (v := .bool true) rfl rfl rfl (V.cmp true rfl rfl rfl rfl hc) (fun a hf => ?_)
        refine R.nil ?_
        refine X.then_ ?_
        refine wp_seq ?_
        refine C.yes hf rfl ?_
        refine wp_skip ?_
        refine X.then_ ?_
        refine wp_seq ?_
        refine wp_block ?_
        refine wp_seq ?_
        refine R.list ?_
        refine S.val hf hs (v := elemPtr lA (k2 * 6)) rfl rfl rfl (V.index rfl rfl rfl Tryz.runUnderlying47 Tryz.sizeOf57 (hv_l.some_ (lt_of_get hxk2)) (Int.natCast_nonneg _) (lt_of_get hxk2) rfl) (fun a hf => ?_)
        refine S.val hf hs (v := .agg #[.string (ba xk2.Part), .string (ba xk2.Typ), .int .i64 xk2.At.X, .int .i64 xk2.At.Y, .int .i64 xk2.Quarters, .bool xk2.Below]) rfl rfl rfl (V.loadEl (off := 0) (Ag.args _ _ _) (hv_l.flat hxk2) rfl rfl rfl Tryz.isAgg57 Tryz.sizeOf57 rfl rfl) (fun a hf => ?_)
        refine S.alloc hf hs rfl rfl rfl [.string (ba []), .string (ba []), .int .i64 0, .int .i64 0, .int .i64 0, .bool false] rfl Tryz.zeroValue57 rfl (fun g1 a w hf hs => ?_)
        refine S.storeBox 0 hf hs rfl rfl [.string (ba xk2.Part), .string (ba xk2.Typ), .int .i64 xk2.At.X, .int .i64 xk2.At.Y, .int .i64 xk2.Quarters, .bool xk2.Below] [.string (ba xk2.Part), .string (ba xk2.Typ), .int .i64 xk2.At.X, .int .i64 xk2.At.Y, .int .i64 xk2.Quarters, .bool xk2.Below] rfl rfl rfl rfl rfl Tryz.sizeOf57 rfl rfl rfl rfl (fun a w hf hs => ?_)
        refine R.nil ?_
        refine X.then_ ?_
        refine H.start (S := Sat w0 none_ [hbox g1 57 [.string (ba xk2.Part), .string (ba xk2.Typ), .int .i64 xk2.At.X, .int .i64 xk2.At.Y, .int .i64 xk2.Quarters, .bool xk2.Below]]) mo ?_
        replace hs := hs.drew
        refine H.val hf hs (v := .string (ba s4)) (i := 0) rfl rfl rfl rfl (by kernel_rfl) (by kernel_rfl) (by kernel_rfl) (V.pure rfl) (fun a hf => ?_)
        refine H.val hf hs (v := .pointer (some ⟨g1, 0, none⟩)) (i := 1) rfl rfl rfl rfl (by kernel_rfl) (by kernel_rfl) (by kernel_rfl) (V.fieldBox rfl rfl Tryz.runUnderlying57 rfl Tryz.sizeOf9 rfl rfl) (fun a hf => ?_)
        refine H.val hf hs (v := .string (ba xk2.Part)) (i := 2) rfl rfl rfl rfl (by kernel_rfl) (by kernel_rfl) (by kernel_rfl) (V.loadBox 0 rfl rfl rfl Tryz.isAgg9 Tryz.sizeOf9 rfl rfl) (fun a hf => ?_)
        refine H.val hf hs (v := .pointer (some ⟨g1, 1, none⟩)) (i := 3) rfl rfl rfl rfl (by kernel_rfl) (by kernel_rfl) (by kernel_rfl) (V.fieldBox rfl rfl Tryz.runUnderlying57 rfl Tryz.sizeOf9 rfl rfl) (fun a hf => ?_)
        refine H.val hf hs (v := .string (ba xk2.Typ)) (i := 4) rfl rfl rfl rfl (by kernel_rfl) (by kernel_rfl) (by kernel_rfl) (V.loadBox 0 rfl rfl rfl Tryz.isAgg9 Tryz.sizeOf9 rfl rfl) (fun a hf => ?_)
        refine H.val hf hs (v := .pointer (some ⟨g1, 2, none⟩)) (i := 5) rfl rfl rfl rfl (by kernel_rfl) (by kernel_rfl) (by kernel_rfl) (V.fieldBox rfl rfl Tryz.runUnderlying57 rfl Tryz.sizeOf55 rfl rfl) (fun a hf => ?_)
        refine H.val hf hs (v := .pointer (some ⟨g1, 2, none⟩)) (i := 6) rfl rfl rfl rfl (by kernel_rfl) (by kernel_rfl) (by kernel_rfl) (V.fieldBox rfl rfl Tryz.runUnderlying55 rfl Tryz.sizeOf3 rfl rfl) (fun a hf => ?_)
        refine H.val hf hs (v := .int .i64 xk2.At.X) (i := 7) rfl rfl rfl rfl (by kernel_rfl) (by kernel_rfl) (by kernel_rfl) (V.loadBox 0 rfl rfl rfl Tryz.isAgg3 Tryz.sizeOf3 rfl rfl) (fun a hf => ?_)
        refine H.val hf hs (v := .pointer (some ⟨g1, 2, none⟩)) (i := 9) rfl rfl rfl rfl (by kernel_rfl) (by kernel_rfl) (by kernel_rfl) (V.fieldBox rfl rfl Tryz.runUnderlying57 rfl Tryz.sizeOf55 rfl rfl) (fun a hf => ?_)
        refine H.val hf hs (v := .pointer (some ⟨g1, 3, none⟩)) (i := 10) rfl rfl rfl rfl (by kernel_rfl) (by kernel_rfl) (by kernel_rfl) (V.fieldBox rfl rfl Tryz.runUnderlying55 rfl Tryz.sizeOf3 rfl rfl) (fun a hf => ?_)
        refine H.val hf hs (v := .int .i64 xk2.At.Y) (i := 11) rfl rfl rfl rfl (by kernel_rfl) (by kernel_rfl) (by kernel_rfl) (V.loadBox 0 rfl rfl rfl Tryz.isAgg3 Tryz.sizeOf3 rfl rfl) (fun a hf => ?_)
        refine H.val hf hs (v := .pointer (some ⟨g1, 4, none⟩)) (i := 13) rfl rfl rfl rfl (by kernel_rfl) (by kernel_rfl) (by kernel_rfl) (V.fieldBox rfl rfl Tryz.runUnderlying57 rfl Tryz.sizeOf3 rfl rfl) (fun a hf => ?_)
        refine H.val hf hs (v := .int .i64 xk2.Quarters) (i := 14) rfl rfl rfl rfl (by kernel_rfl) (by kernel_rfl) (by kernel_rfl) (V.loadBox 0 rfl rfl rfl Tryz.isAgg3 Tryz.sizeOf3 rfl rfl) (fun a hf => ?_)
        refine H.val hf hs (v := .pointer (some ⟨g1, 5, none⟩)) (i := 16) rfl rfl rfl rfl (by kernel_rfl) (by kernel_rfl) (by kernel_rfl) (V.fieldBox rfl rfl Tryz.runUnderlying57 rfl Tryz.sizeOf4 rfl rfl) (fun a hf => ?_)
        refine H.val hf hs (v := .bool xk2.Below) (i := 17) rfl rfl rfl rfl (by kernel_rfl) (by kernel_rfl) (by kernel_rfl) (V.loadBox 0 rfl rfl rfl Tryz.isAgg4 Tryz.sizeOf4 rfl rfl) (fun a hf => ?_)
        refine H.one (i := 8) rfl (by kernel_rfl) ?_
        obtain ⟨hp, h⟩ := h
        refine S.callv hf rfl rfl rfl (call_fn (vs := [.int .i64 xk2.At.X]) rfl rfl rfl Tryz.call55) (C_strconv_Itoa xk2.At.X _ (hT.arg hs) hp) (fun a w hf hs' => ?_)
        replace hs := hs.call hs'; clear hs'
        refine R.nil ?_
        refine X.then_ ?_
        refine ⟨hs, ?_⟩
        refine H.one (i := 12) rfl (by kernel_rfl) ?_
        obtain ⟨hp, h⟩ := h
        refine S.callv hf rfl rfl rfl (call_fn (vs := [.int .i64 xk2.At.Y]) rfl rfl rfl Tryz.call55) (C_strconv_Itoa xk2.At.Y _ (hT.arg hs) hp) (fun a w hf hs' => ?_)
        replace hs := hs.call hs'; clear hs'
        refine R.nil ?_
        refine X.then_ ?_
        refine ⟨hs, ?_⟩
        refine H.one (i := 15) rfl (by kernel_rfl) ?_
        obtain ⟨hp, h⟩ := h
        refine S.callv hf rfl rfl rfl (call_fn (vs := [.int .i64 xk2.Quarters]) rfl rfl rfl Tryz.call55) (C_strconv_Itoa xk2.Quarters _ (hT.arg hs) hp) (fun a w hf hs' => ?_)
        replace hs := hs.call hs'; clear hs'
        refine R.nil ?_
        refine X.then_ ?_
        refine ⟨hs, ?_⟩
        refine H.one (i := 18) rfl (by kernel_rfl) ?_
        refine S.call hf rfl rfl rfl (call_fn (vs := [.bool xk2.Below]) rfl rfl rfl Tryz.call69) (R_ref10_sideOf xk2.Below _  _ h) (fun v a w' hf hr => ?_)
        obtain ⟨y2, rfl, h2, hs2⟩ := hr
        replace h := h2; replace hs := hs.call hs2; clear h2 hs2
        refine R.nil ?_
        refine X.then_ ?_
        refine ⟨hs, ?_⟩
        refine H.one (i := 19) rfl (by kernel_rfl) ?_
        refine S.buildSlice hf hs rfl rfl rfl (α := Str) [[112, 108, 97, 99, 101], xk2.Part, xk2.Typ, (itoaS xk2.At.X), (itoaS xk2.At.Y), (itoaS xk2.Quarters), y2] rfl rfl Tryz.runUnderlying74 Tryz.sizeOf9 Tryz.zeroValue9 (by kernel_rfl) rfl (by decide) (by decide) (fun A1 a w hf hs => ?_)
        refine R.nil ?_
        refine X.then_ ?_
        refine ⟨(hs.mask [false, true]), ?_⟩
        refine H.one (i := 20) rfl (by kernel_rfl) ?_
        refine S.call hf rfl rfl rfl (call_fn (vs := [.slice A1 ([[112, 108, 97, 99, 101], xk2.Part, xk2.Typ, (itoaS xk2.At.X), (itoaS xk2.At.Y), (itoaS xk2.Quarters), y2] : List Str).length 7, .string (ba [32])]) rfl rfl rfl Tryz.call65) (R_strings_Join ([[112, 108, 97, 99, 101], xk2.Part, xk2.Typ, (itoaS xk2.At.X), (itoaS xk2.At.Y), (itoaS xk2.Quarters), y2] : List Str) [32] _ A1 7 (hs.ownView 0 rfl) _ h) (fun v a w' hf hr => ?_)
        obtain ⟨y3, rfl, h2, hs2⟩ := hr
        replace h := h2; replace hs := hs.call hs2; clear h2 hs2
        refine R.nil ?_
        refine X.then_ ?_
        refine ⟨(hs.mask [false, true]), ?_⟩
        obtain ⟨hcat, h⟩ := h
        refine H.val hf (hs.mask [false, true]) (v := .string (ba (y3 ++ [10]))) (i := 21) rfl rfl rfl rfl (by kernel_rfl) (by kernel_rfl) (by kernel_rfl) (V.strAdd rfl rfl rfl hcat) (fun a hf => ?_)
        obtain ⟨hcat, h⟩ := h
        refine H.val hf (hs.mask [false, true]) (v := .string (ba (s4 ++ (y3 ++ [10])))) (i := 22) rfl rfl rfl rfl (by kernel_rfl) (by kernel_rfl) (by kernel_rfl) (V.strAdd rfl rfl rfl hcat) (fun a hf => ?_)
        refine H.val hf (hs.mask [false, true]) (v := .string (ba (s4 ++ (y3 ++ [10])))) (i := 23) rfl rfl rfl rfl (by kernel_rfl) (by kernel_rfl) (by kernel_rfl) (V.pure rfl) (fun a hf => ?_)
        refine H.done (by kernel_rfl) ?_
        refine X.blk ?_
        refine X.then_ ?_
        refine R.list ?_
        refine S.val hf hs (v := .int .i64 ((k2 + 1 : Nat) : Int)) rfl rfl rfl (V.incr rfl rfl rfl hltk2 hlenk2) (fun a hf => ?_)
        refine S.val hf hs (v := .int .i64 ((k2 + 1 : Nat) : Int)) rfl rfl rfl (V.pure rfl) (fun a hf => ?_)
        refine R.nil ?_
        refine X.then_ ?_
        exact ⟨xk2, llk2, rfl, k2 + 1, (s4 ++ (y3 ++ [10])), range_drop hlk2, range_len hkk2, (by rw [hnext2] at h; exact h), ((((hf.nil.cons (hf.get 44 _ rfl)).cons (hf.get 43 _ rfl)).cons (hf.get 7 _ rfl)).cons (hf.get 45 _ rfl)), hs.drop.drop⟩
    | cons xk1 llk1 =>
      have hltk1 := range_lt hkk1; have hc := range_go hkk1; have hxk1 := range_get hlk1
      obtain ⟨next1, hnext1⟩ : ∃ X : Str → Prop, X = (fun s2 => forIn' (fun k x (s : Str) next => M_ref10_Text_L1 k x s (fun s2 => next s2)) (fun (s : Str) => (fun (s2 : Str) => forIn' (fun k x (s : Str) next => M_ref10_Text_L2 k x s (fun s4 => next s4)) (fun (s : Str) => (fun (s4 : Str) => cnd (decide ((s4.length : Int) > 300000)) (Q [] 2) (Q s4 0)) s) l 0 s2) s) llk1 (k1 + 1) s2) := ⟨_, rfl⟩
      replace h : M_ref10_Text_L1 k1 xk1 s2 next1 := by rw [hnext1]; exact h
      unfold M_ref10_Text_L1 at h
      refine wp_seq ?_
      refine R.list ?_
      refine S.val hf hs (v := .bool true) rfl rfl rfl (V.cmp true rfl rfl rfl rfl hc) (fun a hf => ?_)
      refine R.nil ?_
      refine X.then_ ?_
      refine wp_seq ?_
      refine C.yes hf rfl ?_
      refine wp_skip ?_
      refine X.then_ ?_
      refine wp_seq ?_
      refine wp_block ?_
      refine wp_seq ?_
      refine R.list ?_
      refine S.val hf hs (v := elemPtr bA (k1 * 5)) rfl rfl rfl (V.index rfl rfl rfl Tryz.runUnderlying46 Tryz.sizeOf52 (hv_b.some_ (lt_of_get hxk1)) (Int.natCast_nonneg _) (lt_of_get hxk1) rfl) (fun a hf => ?_)
      refine S.val hf hs (v := .agg #[.string (ba xk1.Typ), .int .i64 xk1.W, .int .i64 xk1.H, .int .i64 xk1.Tall, .string (ba xk1.Nozzle)]) rfl rfl rfl (V.loadEl (off := 0) (Ag.args _ _ _) (hv_b.flat hxk1) rfl rfl rfl Tryz.isAgg52 Tryz.sizeOf52 rfl rfl) (fun a hf => ?_)
      refine S.alloc hf hs rfl rfl rfl [.string (ba []), .int .i64 0, .int .i64 0, .int .i64 0, .string (ba [])] rfl Tryz.zeroValue52 rfl (fun g2 a w hf hs => ?_)
      refine S.storeBox 0 hf hs rfl rfl [.string (ba xk1.Typ), .int .i64 xk1.W, .int .i64 xk1.H, .int .i64 xk1.Tall, .string (ba xk1.Nozzle)] [.string (ba xk1.Typ), .int .i64 xk1.W, .int .i64 xk1.H, .int .i64 xk1.Tall, .string (ba xk1.Nozzle)] rfl rfl rfl rfl rfl Tryz.sizeOf52 rfl rfl rfl rfl (fun a w hf hs => ?_)
      refine R.nil ?_
      refine X.then_ ?_
      refine H.start (S := Sat w0 none_ [hbox g2 52 [.string (ba xk1.Typ), .int .i64 xk1.W, .int .i64 xk1.H, .int .i64 xk1.Tall, .string (ba xk1.Nozzle)]]) mo ?_
      replace hs := hs.drew
      refine H.val hf hs (v := .string (ba s2)) (i := 0) rfl rfl rfl rfl (by kernel_rfl) (by kernel_rfl) (by kernel_rfl) (V.pure rfl) (fun a hf => ?_)
      refine H.val hf hs (v := .pointer (some ⟨g2, 0, none⟩)) (i := 1) rfl rfl rfl rfl (by kernel_rfl) (by kernel_rfl) (by kernel_rfl) (V.fieldBox rfl rfl Tryz.runUnderlying52 rfl Tryz.sizeOf9 rfl rfl) (fun a hf => ?_)
      refine H.val hf hs (v := .string (ba xk1.Typ)) (i := 2) rfl rfl rfl rfl (by kernel_rfl) (by kernel_rfl) (by kernel_rfl) (V.loadBox 0 rfl rfl rfl Tryz.isAgg9 Tryz.sizeOf9 rfl rfl) (fun a hf => ?_)
      refine H.val hf hs (v := .pointer (some ⟨g2, 1, none⟩)) (i := 3) rfl rfl rfl rfl (by kernel_rfl) (by kernel_rfl) (by kernel_rfl) (V.fieldBox rfl rfl Tryz.runUnderlying52 rfl Tryz.sizeOf3 rfl rfl) (fun a hf => ?_)
      refine H.val hf hs (v := .int .i64 xk1.W) (i := 4) rfl rfl rfl rfl (by kernel_rfl) (by kernel_rfl) (by kernel_rfl) (V.loadBox 0 rfl rfl rfl Tryz.isAgg3 Tryz.sizeOf3 rfl rfl) (fun a hf => ?_)
      refine H.val hf hs (v := .pointer (some ⟨g2, 2, none⟩)) (i := 6) rfl rfl rfl rfl (by kernel_rfl) (by kernel_rfl) (by kernel_rfl) (V.fieldBox rfl rfl Tryz.runUnderlying52 rfl Tryz.sizeOf3 rfl rfl) (fun a hf => ?_)
      refine H.val hf hs (v := .int .i64 xk1.H) (i := 7) rfl rfl rfl rfl (by kernel_rfl) (by kernel_rfl) (by kernel_rfl) (V.loadBox 0 rfl rfl rfl Tryz.isAgg3 Tryz.sizeOf3 rfl rfl) (fun a hf => ?_)
      refine H.val hf hs (v := .pointer (some ⟨g2, 3, none⟩)) (i := 9) rfl rfl rfl rfl (by kernel_rfl) (by kernel_rfl) (by kernel_rfl) (V.fieldBox rfl rfl Tryz.runUnderlying52 rfl Tryz.sizeOf3 rfl rfl) (fun a hf => ?_)
      refine H.val hf hs (v := .int .i64 xk1.Tall) (i := 10) rfl rfl rfl rfl (by kernel_rfl) (by kernel_rfl) (by kernel_rfl) (V.loadBox 0 rfl rfl rfl Tryz.isAgg3 Tryz.sizeOf3 rfl rfl) (fun a hf => ?_)
      refine H.val hf hs (v := .pointer (some ⟨g2, 4, none⟩)) (i := 12) rfl rfl rfl rfl (by kernel_rfl) (by kernel_rfl) (by kernel_rfl) (V.fieldBox rfl rfl Tryz.runUnderlying52 rfl Tryz.sizeOf9 rfl rfl) (fun a hf => ?_)
      refine H.val hf hs (v := .string (ba xk1.Nozzle)) (i := 13) rfl rfl rfl rfl (by kernel_rfl) (by kernel_rfl) (by kernel_rfl) (V.loadBox 0 rfl rfl rfl Tryz.isAgg9 Tryz.sizeOf9 rfl rfl) (fun a hf => ?_)
      refine H.one (i := 5) rfl (by kernel_rfl) ?_
      obtain ⟨hp, h⟩ := h
      refine S.callv hf rfl rfl rfl (call_fn (vs := [.int .i64 xk1.W]) rfl rfl rfl Tryz.call55) (C_strconv_Itoa xk1.W _ (hT.arg hs) hp) (fun a w hf hs' => ?_)
      replace hs := hs.call hs'; clear hs'
      refine R.nil ?_
      refine X.then_ ?_
      refine ⟨hs, ?_⟩
      refine H.one (i := 8) rfl (by kernel_rfl) ?_
      obtain ⟨hp, h⟩ := h
      refine S.callv hf rfl rfl rfl (call_fn (vs := [.int .i64 xk1.H]) rfl rfl rfl Tryz.call55) (C_strconv_Itoa xk1.H _ (hT.arg hs) hp) (fun a w hf hs' => ?_)
      replace hs := hs.call hs'; clear hs'
      refine R.nil ?_
      refine X.then_ ?_
      refine ⟨hs, ?_⟩
      refine H.one (i := 11) rfl (by kernel_rfl) ?_
      obtain ⟨hp, h⟩ := h
      refine S.callv hf rfl rfl rfl (call_fn (vs := [.int .i64 xk1.Tall]) rfl rfl rfl Tryz.call55) (C_strconv_Itoa xk1.Tall _ (hT.arg hs) hp) (fun a w hf hs' => ?_)
      replace hs := hs.call hs'; clear hs'
      refine R.nil ?_
      refine X.then_ ?_
      refine ⟨hs, ?_⟩
      refine H.one (i := 14) rfl (by kernel_rfl) ?_
      refine S.buildSlice hf hs rfl rfl rfl (α := Str) [[98, 111, 100, 121], xk1.Typ, (itoaS xk1.W), (itoaS xk1.H), (itoaS xk1.Tall), xk1.Nozzle] rfl rfl Tryz.runUnderlying74 Tryz.sizeOf9 Tryz.zeroValue9 (by kernel_rfl) rfl (by decide) (by decide) (fun A2 a w hf hs => ?_)
      refine R.nil ?_
      refine X.then_ ?_
      refine ⟨(hs.mask [false, true]), ?_⟩
      refine H.one (i := 15) rfl (by kernel_rfl) ?_
      refine S.call hf rfl rfl rfl (call_fn (vs := [.slice A2 ([[98, 111, 100, 121], xk1.Typ, (itoaS xk1.W), (itoaS xk1.H), (itoaS xk1.Tall), xk1.Nozzle] : List Str).length 6, .string (ba [32])]) rfl rfl rfl Tryz.call65) (R_strings_Join ([[98, 111, 100, 121], xk1.Typ, (itoaS xk1.W), (itoaS xk1.H), (itoaS xk1.Tall), xk1.Nozzle] : List Str) [32] _ A2 6 (hs.ownView 0 rfl) _ h) (fun v a w' hf hr => ?_)
      obtain ⟨y4, rfl, h2, hs2⟩ := hr
      replace h := h2; replace hs := hs.call hs2; clear h2 hs2
      refine R.nil ?_
      refine X.then_ ?_
      refine ⟨(hs.mask [false, true]), ?_⟩
      obtain ⟨hcat, h⟩ := h
      refine H.val hf (hs.mask [false, true]) (v := .string (ba (y4 ++ [10]))) (i := 16) rfl rfl rfl rfl (by kernel_rfl) (by kernel_rfl) (by kernel_rfl) (V.strAdd rfl rfl rfl hcat) (fun a hf => ?_)
      obtain ⟨hcat, h⟩ := h
      refine H.val hf (hs.mask [false, true]) (v := .string (ba (s2 ++ (y4 ++ [10])))) (i := 17) rfl rfl rfl rfl (by kernel_rfl) (by kernel_rfl) (by kernel_rfl) (V.strAdd rfl rfl rfl hcat) (fun a hf => ?_)
      refine H.val hf (hs.mask [false, true]) (v := .string (ba (s2 ++ (y4 ++ [10])))) (i := 18) rfl rfl rfl rfl (by kernel_rfl) (by kernel_rfl) (by kernel_rfl) (V.pure rfl) (fun a hf => ?_)
      refine H.done (by kernel_rfl) ?_
      refine X.blk ?_
      refine X.then_ ?_
      refine R.list ?_
      refine S.val hf hs (v := .int .i64 ((k1 + 1 : Nat) : Int)) rfl rfl rfl (V.incr rfl rfl rfl hltk1 hlenk1) (fun a hf => ?_)
      refine S.val hf hs (v := .int .i64 ((k1 + 1 : Nat) : Int)) rfl rfl rfl (V.pure rfl) (fun a hf => ?_)
      refine R.nil ?_
      refine X.then_ ?_
      exact ⟨xk1, llk1, rfl, k1 + 1, (s2 ++ (y4 ++ [10])), range_drop hlk1, range_len hkk1, (by rw [hnext1] at h; exact h), (((((hf.nil.cons (hf.get 19 _ rfl)).cons (hf.get 18 _ rfl)).cons (hf.get 7 _ rfl)).cons (hf.get 1 _ rfl)).cons (hf.get 20 _ rfl)), hs.drop.drop⟩

set_option linter.unusedVariables false
def M_law_MountTexts_k1 (b : (List Body)) (l : (List Place)) (Q : Bool → Prop) (y1 : Str) (y2 : Int) (c1 : Bool) : Prop :=
  cnd c1 (Q false) (cnd (y2 != 0) (Q true) (M_mount_Read y1 fun y5 y6 y7 y8 => cnd (y8 == 0) (cnd (y7 == 0) (M_equal_body b y5 fun y9 => cnd y9 (M_equal_place l y6 fun y10 => Q y10) (Q false)) (Q false)) (Q false)))
def M_law_MountTexts (b : (List Body)) (l : (List Place)) (Q : Bool → Prop) : Prop :=
  M_mount_Text b l fun y1 y2 => M_ref10_Text b l fun y3 y4 => cnd (y2 != y4) (M_law_MountTexts_k1 b l Q y1 y2 true) (cnd (!(y1 == y3)) (M_law_MountTexts_k1 b l Q y1 y2 true) (M_awake  fun y11 => M_law_MountTexts_k1 b l Q y1 y2 (!y11)))
set_option maxHeartbeats 1000000 in
theorem R_law_MountTexts (b : (List Body)) (l : (List Place)) (w0 : World) (bA : Option Addr) (bC : Nat) (hv_b : View w0 (old w0 none_) bA bC b) (lA : Option Addr) (lC : Nat) (hv_l : View w0 (old w0 none_) lA lC l) (hT : TabIn Tryz.prog w0 (old w0 none_)) (Q : Bool → Prop) (h : M_law_MountTexts b l Q) :
    Ret Tryz.prog 8 #[.slice bA b.length bC, .slice lA l.length lC] w0 fun v w' => ∃ (r0 : Bool), v = .bool r0 ∧ Q r0 ∧ Sat w0 none_ [] w' := by
  refine fn_enter Tryz.func8 rfl Tryz.ntmps8 rfl (fs := [(0, .slice bA b.length bC), (1, .slice lA l.length lC)]) rfl (fun a hf => ?_)
  have hs := Sat.start w0 none_
  unfold M_law_MountTexts at h
  refine wp_seq ?_
  refine R.list ?_
  refine S.val hf hs (v := .bool false) rfl rfl rfl (V.pure rfl) (fun a hf => ?_)
  refine R.nil ?_
  refine X.then_ ?_
  refine wp_seq ?_
  refine R.list ?_
  refine S.val hf hs (v := .slice bA b.length bC) rfl rfl rfl (V.pure rfl) (fun a hf => ?_)
  refine S.val hf hs (v := .slice lA l.length lC) rfl rfl rfl (V.pure rfl) (fun a hf => ?_)
  refine S.call hf rfl rfl rfl (call_fn (vs := [.slice bA b.length bC, .slice lA l.length lC]) rfl rfl rfl Tryz.call30) (R_mount_Text b l _ bA bC ((Ag.args _ _ _).view hv_b hs) lA lC ((Ag.args _ _ _).view hv_l hs) (hT.arg hs) _ h) (fun v a w' hf hr => ?_)
  obtain ⟨y1, y2, rfl, h2, hs2⟩ := hr
  replace h := h2; replace hs := hs.call hs2; clear h2 hs2
  refine S.val hf hs (v := .tuple #[.string (ba y1), .int .i64 y2]) rfl rfl rfl (V.pure rfl) (fun a hf => ?_)
  refine S.val hf hs (v := .string (ba y1)) rfl rfl rfl (V.pure rfl) (fun a hf => ?_)
  refine S.val hf hs (v := .int .i64 y2) rfl rfl rfl (V.pure rfl) (fun a hf => ?_)
  refine S.val hf hs (v := .string (ba y1)) rfl rfl rfl (V.pure rfl) (fun a hf => ?_)
  refine S.val hf hs (v := .int .i64 y2) rfl rfl rfl (V.pure rfl) (fun a hf => ?_)
  refine R.nil ?_
  refine X.then_ ?_
  refine wp_seq ?_
  refine R.list ?_
  refine S.val hf hs (v := .slice bA b.length bC) rfl rfl rfl (V.pure rfl) (fun a hf => ?_)
  refine S.val hf hs (v := .slice lA l.length lC) rfl rfl rfl (V.pure rfl) (fun a hf => ?_)
  refine S.call hf rfl rfl rfl (call_fn (vs := [.slice bA b.length bC, .slice lA l.length lC]) rfl rfl rfl Tryz.call31) (R_ref10_Text b l _ bA bC ((Ag.args _ _ _).view hv_b hs) lA lC ((Ag.args _ _ _).view hv_l hs) (hT.arg hs) _ h) (fun v a w' hf hr => ?_)
  obtain ⟨y3, y4, rfl, h2, hs2⟩ := hr
  replace h := h2; replace hs := hs.call hs2; clear h2 hs2
  refine S.val hf hs (v := .tuple #[.string (ba y3), .int .i64 y4]) rfl rfl rfl (V.pure rfl) (fun a hf => ?_)
  refine S.val hf hs (v := .string (ba y3)) rfl rfl rfl (V.pure rfl) (fun a hf => ?_)
  refine S.val hf hs (v := .int .i64 y4) rfl rfl rfl (V.pure rfl) (fun a hf => ?_)
  refine S.val hf hs (v := .string (ba y3)) rfl rfl rfl (V.pure rfl) (fun a hf => ?_)
  refine S.val hf hs (v := .int .i64 y4) rfl rfl rfl (V.pure rfl) (fun a hf => ?_)
  refine R.nil ?_
  refine X.then_ ?_
  refine wp_seq ?_
  refine wp_seq ?_
  refine C.cut (J := fun a w => ∃ (c1 : Bool), M_law_MountTexts_k1 b l Q y1 y2 c1 ∧ FrOk 61 [(0, .slice bA b.length bC), (1, .slice lA l.length lC), (5, .string (ba y1)), (6, .int .i64 y2), (35, .bool c1)] a ∧ Sat w0 none_ [] w) ?_ ?_
  · rintro a w ⟨c1, h, hf, hs⟩
    unfold M_law_MountTexts_k1 at h
    refine C.cond hf (b := c1) rfl (fun hc => ?_) (fun hc => ?_)
    · replace h := h.1 hc
      refine wp_seq ?_
      refine R.list ?_
      refine S.val hf hs (v := .bool false) rfl rfl rfl (V.pure rfl) (fun a hf => ?_)
      refine R.nil ?_
      refine X.then_ ?_
      refine wp_ret ?_
      refine X.then_ret ?_
      exact L.ret hf (run_results1 Tryz.results8 (ResIs.tmp hf rfl)) ⟨false, rfl, h, hs.nil⟩
    · replace h := h.2 hc
      refine wp_skip ?_
      refine X.then_ ?_
      refine wp_seq ?_
      refine wp_seq ?_
      refine R.list ?_
      refine S.val hf hs (v := .int .i64 y2) rfl rfl rfl (V.pure rfl) (fun a hf => ?_)
      refine S.val hf hs (v := .bool (y2 != 0)) rfl rfl rfl (V.pure rfl) (fun a hf => ?_)
      refine R.nil ?_
      refine X.then_ ?_
      refine C.cond hf (b := y2 != 0) rfl (fun hc => ?_) (fun hc => ?_)
      · replace h := h.1 hc
        refine wp_seq ?_
        refine R.list ?_
        refine S.val hf hs (v := .bool true) rfl rfl rfl (V.pure rfl) (fun a hf => ?_)
        refine R.nil ?_
        refine X.then_ ?_
        refine wp_ret ?_
        refine X.then_ret ?_
        exact L.ret hf (run_results1 Tryz.results8 (ResIs.tmp hf rfl)) ⟨true, rfl, h, hs.nil⟩
      · replace h := h.2 hc
        refine wp_skip ?_
        refine X.then_ ?_
        refine wp_seq ?_
        refine R.list ?_
        refine S.val hf hs (v := .string (ba y1)) rfl rfl rfl (V.pure rfl) (fun a hf => ?_)
        refine S.call hf rfl rfl rfl (call_fn (vs := [.string (ba y1)]) rfl rfl rfl Tryz.call23) (R_mount_Read y1 _  _ h) (fun v a w' hf hr => ?_)
        obtain ⟨y5, y5A, y5C, y6, y6A, y6C, y7, y8, rfl, h2, hs2⟩ := hr
        replace h := h2; replace hs := hs.call hs2; clear h2 hs2
        refine S.val hf hs (v := .tuple #[.slice y5A y5.length y5C, .slice y6A y6.length y6C, .int .i64 y7, .int .i64 y8]) rfl rfl rfl (V.pure rfl) (fun a hf => ?_)
        refine S.val hf hs (v := .slice y5A y5.length y5C) rfl rfl rfl (V.pure rfl) (fun a hf => ?_)
        refine S.val hf hs (v := .slice y6A y6.length y6C) rfl rfl rfl (V.pure rfl) (fun a hf => ?_)
        refine S.val hf hs (v := .int .i64 y7) rfl rfl rfl (V.pure rfl) (fun a hf => ?_)
        refine S.val hf hs (v := .int .i64 y8) rfl rfl rfl (V.pure rfl) (fun a hf => ?_)
        refine S.val hf hs (v := .slice y5A y5.length y5C) rfl rfl rfl (V.pure rfl) (fun a hf => ?_)
        refine S.val hf hs (v := .slice y6A y6.length y6C) rfl rfl rfl (V.pure rfl) (fun a hf => ?_)
        refine S.val hf hs (v := .int .i64 y7) rfl rfl rfl (V.pure rfl) (fun a hf => ?_)
        refine S.val hf hs (v := .int .i64 y8) rfl rfl rfl (V.pure rfl) (fun a hf => ?_)
        refine R.nil ?_
        refine X.then_ ?_
        refine wp_seq ?_
        refine R.list ?_
        refine S.val hf hs (v := .int .i64 y8) rfl rfl rfl (V.pure rfl) (fun a hf => ?_)
        refine S.val hf hs (v := .bool (y8 == 0)) rfl rfl rfl (V.pure rfl) (fun a hf => ?_)
        refine S.split hf hs (b := y8 == 0) rfl rfl rfl (V.pure rfl) (fun hc a hf => ?_) (fun hc a hf => ?_)
        · replace h := h.1 hc
          refine S.val hf hs (v := .int .i64 y7) rfl rfl rfl (V.pure rfl) (fun a hf => ?_)
          refine S.val hf hs (v := .bool (y7 == 0)) rfl rfl rfl (V.pure rfl) (fun a hf => ?_)
          refine S.val hf hs (v := .bool (y7 == 0)) rfl rfl rfl (V.pure rfl) (fun a hf => ?_)
          refine S.split hf hs (b := y7 == 0) rfl rfl rfl (V.pure rfl) (fun hc a hf => ?_) (fun hc a hf => ?_)
          · replace h := h.1 hc
            refine S.val hf hs (v := .slice bA b.length bC) rfl rfl rfl (V.pure rfl) (fun a hf => ?_)
            refine S.val hf hs (v := .slice y5A y5.length y5C) rfl rfl rfl (V.pure rfl) (fun a hf => ?_)
            refine S.call hf rfl rfl rfl (call_fn (vs := [.slice bA b.length bC, .slice y5A y5.length y5C]) rfl rfl rfl Tryz.call25) (R_equal_body b y5 _ bA bC ((Ag.args _ _ _).view hv_b hs) y5A y5C (hs.ownView 0 rfl) _ h) (fun v a w' hf hr => ?_)
            obtain ⟨y9, rfl, h2, hs2⟩ := hr
            replace h := h2; replace hs := hs.call hs2; clear h2 hs2
            refine S.val hf hs (v := .bool y9) rfl rfl rfl (V.pure rfl) (fun a hf => ?_)
            refine S.split hf hs (b := y9) rfl rfl rfl (V.pure rfl) (fun hc a hf => ?_) (fun hc a hf => ?_)
            · replace h := h.1 hc
              refine S.val hf hs (v := .slice lA l.length lC) rfl rfl rfl (V.pure rfl) (fun a hf => ?_)
              refine S.val hf hs (v := .slice y6A y6.length y6C) rfl rfl rfl (V.pure rfl) (fun a hf => ?_)
              refine S.call hf rfl rfl rfl (call_fn (vs := [.slice lA l.length lC, .slice y6A y6.length y6C]) rfl rfl rfl Tryz.call26) (R_equal_place l y6 _ lA lC ((Ag.args _ _ _).view hv_l hs) y6A y6C (hs.ownView 1 rfl) _ h) (fun v a w' hf hr => ?_)
              obtain ⟨y10, rfl, h2, hs2⟩ := hr
              replace h := h2; replace hs := hs.call hs2; clear h2 hs2
              refine S.val hf hs (v := .bool y10) rfl rfl rfl (V.pure rfl) (fun a hf => ?_)
              refine S.val hf hs (v := .bool y10) rfl rfl rfl (V.pure rfl) (fun a hf => ?_)
              refine R.nil ?_
              refine X.then_ ?_
              refine wp_ret ?_
              exact L.ret hf (run_results1 Tryz.results8 (ResIs.tmp hf rfl)) ⟨y10, rfl, h, hs.nil⟩
            · replace h := h.2 hc
              refine S.skip hf rfl rfl rfl (fun a hf => ?_)
              refine S.skip hf rfl rfl rfl (fun a hf => ?_)
              refine S.skip hf rfl rfl rfl (fun a hf => ?_)
              refine S.val hf hs (v := .bool false) rfl rfl rfl (V.pure rfl) (fun a hf => ?_)
              refine S.val hf hs (v := .bool false) rfl rfl rfl (V.pure rfl) (fun a hf => ?_)
              refine R.nil ?_
              refine X.then_ ?_
              refine wp_ret ?_
              exact L.ret hf (run_results1 Tryz.results8 (ResIs.tmp hf rfl)) ⟨false, rfl, h, hs.nil⟩
          · replace h := h.2 hc
            refine S.skip hf rfl rfl rfl (fun a hf => ?_)
            refine S.skip hf rfl rfl rfl (fun a hf => ?_)
            refine S.skip hf rfl rfl rfl (fun a hf => ?_)
            refine S.val hf hs (v := .bool false) rfl rfl rfl (V.pure rfl) (fun a hf => ?_)
            refine S.val hf hs (v := .bool false) rfl rfl rfl (V.pure rfl) (fun a hf => ?_)
            refine S.skip hf rfl rfl rfl (fun a hf => ?_)
            refine S.skip hf rfl rfl rfl (fun a hf => ?_)
            refine S.skip hf rfl rfl rfl (fun a hf => ?_)
            refine S.val hf hs (v := .bool false) rfl rfl rfl (V.pure rfl) (fun a hf => ?_)
            refine S.val hf hs (v := .bool false) rfl rfl rfl (V.pure rfl) (fun a hf => ?_)
            refine R.nil ?_
            refine X.then_ ?_
            refine wp_ret ?_
            exact L.ret hf (run_results1 Tryz.results8 (ResIs.tmp hf rfl)) ⟨false, rfl, h, hs.nil⟩
        · replace h := h.2 hc
          refine S.skip hf rfl rfl rfl (fun a hf => ?_)
          refine S.skip hf rfl rfl rfl (fun a hf => ?_)
          refine S.val hf hs (v := .bool false) rfl rfl rfl (V.pure rfl) (fun a hf => ?_)
          refine S.val hf hs (v := .bool false) rfl rfl rfl (V.pure rfl) (fun a hf => ?_)
          refine S.skip hf rfl rfl rfl (fun a hf => ?_)
          refine S.skip hf rfl rfl rfl (fun a hf => ?_)
          refine S.skip hf rfl rfl rfl (fun a hf => ?_)
          refine S.val hf hs (v := .bool false) rfl rfl rfl (V.pure rfl) (fun a hf => ?_)
          refine S.val hf hs (v := .bool false) rfl rfl rfl (V.pure rfl) (fun a hf => ?_)
          refine S.skip hf rfl rfl rfl (fun a hf => ?_)
          refine S.skip hf rfl rfl rfl (fun a hf => ?_)
          refine S.skip hf rfl rfl rfl (fun a hf => ?_)
          refine S.val hf hs (v := .bool false) rfl rfl rfl (V.pure rfl) (fun a hf => ?_)
          refine S.val hf hs (v := .bool false) rfl rfl rfl (V.pure rfl) (fun a hf => ?_)
          refine R.nil ?_
          refine X.then_ ?_
          refine wp_ret ?_
          exact L.ret hf (run_results1 Tryz.results8 (ResIs.tmp hf rfl)) ⟨false, rfl, h, hs.nil⟩
  · skip
    refine R.list ?_
    refine S.val hf hs (v := .int .i64 y2) rfl rfl rfl (V.pure rfl) (fun a hf => ?_)
    refine S.val hf hs (v := .int .i64 y4) rfl rfl rfl (V.pure rfl) (fun a hf => ?_)
    refine S.val hf hs (v := .bool (y2 != y4)) rfl rfl rfl (V.pure rfl) (fun a hf => ?_)
    refine S.split hf hs (b := y2 != y4) rfl rfl rfl (V.pure rfl) (fun hc a hf => ?_) (fun hc a hf => ?_)
    · replace h := h.1 hc
      refine S.skip hf rfl rfl rfl (fun a hf => ?_)
      refine S.skip hf rfl rfl rfl (fun a hf => ?_)
      refine S.skip hf rfl rfl rfl (fun a hf => ?_)
      refine S.val hf hs (v := .bool true) rfl rfl rfl (V.pure rfl) (fun a hf => ?_)
      refine S.val hf hs (v := .bool true) rfl rfl rfl (V.pure rfl) (fun a hf => ?_)
      refine S.skip hf rfl rfl rfl (fun a hf => ?_)
      refine S.skip hf rfl rfl rfl (fun a hf => ?_)
      refine S.val hf hs (v := .bool true) rfl rfl rfl (V.pure rfl) (fun a hf => ?_)
      refine R.nil ?_
      refine X.then_ ?_
      exact ⟨true, h, (((((hf.nil.cons (hf.get 35 _ rfl)).cons (hf.get 6 _ rfl)).cons (hf.get 5 _ rfl)).cons (hf.get 1 _ rfl)).cons (hf.get 0 _ rfl)), hs⟩
    · replace h := h.2 hc
      refine S.val hf hs (v := .string (ba y1)) rfl rfl rfl (V.pure rfl) (fun a hf => ?_)
      refine S.val hf hs (v := .string (ba y3)) rfl rfl rfl (V.pure rfl) (fun a hf => ?_)
      refine S.val hf hs (v := .bool (!(y1 == y3))) rfl rfl rfl (V.strCmp (!(y1 == y3)) rfl rfl rfl rfl) (fun a hf => ?_)
      refine S.val hf hs (v := .bool (!(y1 == y3))) rfl rfl rfl (V.pure rfl) (fun a hf => ?_)
      refine S.split hf hs (b := !(y1 == y3)) rfl rfl rfl (V.pure rfl) (fun hc a hf => ?_) (fun hc a hf => ?_)
      · replace h := h.1 hc
        refine S.skip hf rfl rfl rfl (fun a hf => ?_)
        refine S.skip hf rfl rfl rfl (fun a hf => ?_)
        refine S.val hf hs (v := .bool true) rfl rfl rfl (V.pure rfl) (fun a hf => ?_)
        refine R.nil ?_
        refine X.then_ ?_
        exact ⟨true, h, (((((hf.nil.cons (hf.get 35 _ rfl)).cons (hf.get 6 _ rfl)).cons (hf.get 5 _ rfl)).cons (hf.get 1 _ rfl)).cons (hf.get 0 _ rfl)), hs⟩
      · replace h := h.2 hc
        refine S.call hf rfl rfl rfl (call_fn (vs := []) rfl rfl rfl Tryz.call27) (R_awake  _  _ h) (fun v a w' hf hr => ?_)
        obtain ⟨y11, rfl, h2, hs2⟩ := hr
        replace h := h2; replace hs := hs.call hs2; clear h2 hs2
        refine S.val hf hs (v := .bool (!y11)) rfl rfl rfl (V.pure rfl) (fun a hf => ?_)
        refine S.val hf hs (v := .bool (!y11)) rfl rfl rfl (V.pure rfl) (fun a hf => ?_)
        refine R.nil ?_
        refine X.then_ ?_
        exact ⟨(!y11), h, (((((hf.nil.cons (hf.get 35 _ rfl)).cons (hf.get 6 _ rfl)).cons (hf.get 5 _ rfl)).cons (hf.get 1 _ rfl)).cons (hf.get 0 _ rfl)), hs⟩


end Go.Proofs.YtdnilnmdbgcmoaaGreatDoor
