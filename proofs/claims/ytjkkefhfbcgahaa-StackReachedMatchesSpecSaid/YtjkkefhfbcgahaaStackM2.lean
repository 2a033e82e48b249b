/- Chapter 4: the reference's reach, Reached, Slim, Fewest: the walks. -/
import Derived.Test.YtjkkefhfbcgahaaStackM
namespace Go.Proofs.Ytjkkefhfbcgahaa
open Go Go.RowKit
set_option linter.unusedVariables false

set_option linter.unusedVariables false
def M_ref4_reach_L4 (xk2 : Through) (next2 : List Bool → Bool → Prop) (again4 : List Bool → Int → Prop) (l6 : List Bool) (n4 : Int) : Prop :=
  cnd (decide (n4 ≤ xk2.To)) (idx l6 n4 fun x4 => again4 (l6.set n4.toNat true) (w64 (n4 + 1))) (next2 l6 true)
def M_ref4_reach_k4 (xk2 : Through) (l4 : List Bool) (c4 : Bool) (next2 : List Bool → Bool → Prop) (c9 : Bool) : Prop :=
  cnd c9 (lp (fun again (s : List Bool × Int) => M_ref4_reach_L4 xk2 next2 (fun l6 n4 => again (l6, n4)) s.1 s.2) (l4, xk2.From)) (next2 l4 c4)
def M_ref4_reach_L3 (xk2 : Through) (l4 : List Bool) (c4 : Bool) (next2 : List Bool → Bool → Prop) (again3 : Bool → Bool → Int → Prop) (c7 : Bool) (c8 : Bool) (n2 : Int) : Prop :=
  cnd (decide (n2 ≤ xk2.To)) (cnd c7 (cnd c8 (idx l4 n2 fun x2 => again3 true x2 (w64 (n2 + 1))) (again3 true false (w64 (n2 + 1)))) (idx l4 n2 fun x3 => cnd c8 (again3 x3 x3 (w64 (n2 + 1))) (again3 x3 false (w64 (n2 + 1))))) (cnd c7 (M_ref4_reach_k4 xk2 l4 c4 next2 (!c8)) (M_ref4_reach_k4 xk2 l4 c4 next2 false))
def M_ref4_reach_L2  (k2 : Nat) (xk2 : Through) (l4 : List Bool) (c4 : Bool) (next2 : List Bool → Bool → Prop) : Prop :=
  lp (fun again (s : Bool × Bool × Int) => M_ref4_reach_L3 xk2 l4 c4 next2 (fun c7 c8 n2 => again (c7, c8, n2)) s.1 s.2.1 s.2.2) (false, true, xk2.From)
def M_ref4_reach_L1 (l : (List Through)) (Q : (List Bool) → Prop) (again1 : List Bool → Bool → Prop) (l2 : List Bool) (c2 : Bool) : Prop :=
  cnd c2 (forIn' (fun k x (s : List Bool × Bool) next => M_ref4_reach_L2 k x s.1 s.2 (fun l4 c4 => next (l4, c4))) (fun (s : List Bool × Bool) => (fun (l4 : List Bool) (c4 : Bool) => again1 l4 c4) s.1 s.2) l 0 (l2, false)) (Q l2)
def M_ref4_reach (l : (List Through)) (many : Int) (from_ : Int) (Q : (List Bool) → Prop) : Prop :=
  must (0 ≤ w64 (many + 1) ∧ w64 (many + 1) * 1 ≤ 281474976710656) (idx (List.replicate ((w64 (many + 1)).toNat) false) from_ fun x1 => lp (fun again (s : List Bool × Bool) => M_ref4_reach_L1 l Q (fun l2 c2 => again (l2, c2)) s.1 s.2) (((List.replicate ((w64 (many + 1)).toNat) false).set from_.toNat true), true))
set_option maxHeartbeats 1000000 in
theorem R_ref4_reach (l : (List Through)) (many : Int) (from_ : Int) (w0 : World) (lA : Option Addr) (lC : Nat) (hv_l : View w0 (old w0 none_) lA lC l) (Q : (List Bool) → Prop) (h : M_ref4_reach l many from_ Q) :
    Ret Try.prog 88 #[.slice lA l.length lC, .int .i64 many, .int .i64 from_] w0 fun v w' => ∃ (r0 : (List Bool)) (r0A : Option Addr) (r0C : Nat), v = .slice r0A r0.length r0C ∧ Q r0 ∧ Sat w0 none_ [hown 4 r0A r0C r0] w' := by
  refine fn_enter Try.func88 rfl Try.ntmps88 rfl (fs := [(0, .slice lA l.length lC), (1, .int .i64 many), (2, .int .i64 from_)]) rfl (fun a hf => ?_)
  have hs := Sat.start w0 none_
  unfold M_ref4_reach at h
  refine wp_seq ?_
  refine R.list ?_
  refine S.val hf hs (v := .slice none 0 0) rfl rfl rfl (V.pure rfl) (fun a hf => ?_)
  refine R.nil ?_
  refine X.then_ ?_
  refine wp_seq ?_
  refine R.list ?_
  refine S.val hf hs (v := .int .i64 many) rfl rfl rfl (V.pure rfl) (fun a hf => ?_)
  refine S.val hf hs (v := .int .i64 (w64 (many + 1))) rfl rfl rfl (V.pure rfl) (fun a hf => ?_)
  obtain ⟨hmk, h⟩ := h
  refine S.make hf hs rfl rfl rfl (α := Bool) false (z := (w64 (many + 1))) (N := (w64 (many + 1)).toNat) rfl rfl rfl Try.underlying115 info4 hmk rfl (by have := hmk.2; omega) (fun A1 a w hf hs => ?_)
  refine S.val hf hs (v := .slice A1 (List.replicate ((w64 (many + 1)).toNat) false).length ((w64 (many + 1)).toNat)) rfl rfl rfl (V.pure rfl) (fun a hf => ?_)
  refine R.nil ?_
  refine X.then_ ?_
  refine wp_seq ?_
  refine R.list ?_
  refine S.val hf hs (v := .slice A1 (List.replicate ((w64 (many + 1)).toNat) false).length ((w64 (many + 1)).toNat)) rfl rfl rfl (V.pure rfl) (fun a hf => ?_)
  refine S.val hf hs (v := .int .i64 from_) rfl rfl rfl (V.pure rfl) (fun a hf => ?_)
  obtain ⟨h0x1, x1, hx1, h⟩ := h
  refine S.val hf hs (v := elemPtr A1 (from_.toNat * 1)) rfl rfl rfl (V.index rfl rfl rfl Try.runUnderlying115 Try.sizeOf4 (hs.ownSome 0 rfl (lt_of_get hx1)) h0x1 (lt_of_get hx1) rfl) (fun a hf => ?_)
  refine S.storeOwn (off := 0) 0 hf hs rfl rfl true [.bool true] rfl hx1 rfl rfl rfl rfl rfl Try.sizeOf4 rfl (by decide) rfl rfl (fun a w hf hs => ?_)
  replace hf := hf.tell 7 (v := .slice A1 ((List.replicate ((w64 (many + 1)).toNat) false).set from_.toNat true).length ((w64 (many + 1)).toNat)) ((hf.get 7 (.slice A1 (List.replicate ((w64 (many + 1)).toNat) false).length ((w64 (many + 1)).toNat)) rfl).trans (congrArg (fun n => Value.slice A1 n ((w64 (many + 1)).toNat)) List.length_set.symm))
  replace hf := hf.tell 17 (v := .slice A1 ((List.replicate ((w64 (many + 1)).toNat) false).set from_.toNat true).length ((w64 (many + 1)).toNat)) ((hf.get 17 (.slice A1 (List.replicate ((w64 (many + 1)).toNat) false).length ((w64 (many + 1)).toNat)) rfl).trans (congrArg (fun n => Value.slice A1 n ((w64 (many + 1)).toNat)) List.length_set.symm))
  replace hf := hf.tell 18 (v := .slice A1 ((List.replicate ((w64 (many + 1)).toNat) false).set from_.toNat true).length ((w64 (many + 1)).toNat)) ((hf.get 18 (.slice A1 (List.replicate ((w64 (many + 1)).toNat) false).length ((w64 (many + 1)).toNat)) rfl).trans (congrArg (fun n => Value.slice A1 n ((w64 (many + 1)).toNat)) List.length_set.symm))
  refine R.nil ?_
  refine X.then_ ?_
  refine wp_seq ?_
  refine wp_seq ?_
  refine R.list ?_
  refine S.val hf hs (v := .bool true) rfl rfl rfl (V.pure rfl) (fun a hf => ?_)
  refine R.nil ?_
  refine X.then_ ?_
  refine wp_block ?_
  obtain ⟨kk, h⟩ := h
  refine C.loop (fun kk a w => ∃ (l2 : List Bool) (l2A : Option Addr) (l2C : Nat) (c2 : Bool), iterF (fun again (s : List Bool × Bool) => M_ref4_reach_L1 l Q (fun l2 c2 => again (l2, c2)) s.1 s.2) kk (l2, c2) ∧ FrOk 68 [(0, .slice lA l.length lC), (7, .slice l2A l2.length l2C), (8, .bool c2)] a ∧ Sat w0 none_ [hown 4 l2A l2C l2] w) kk ⟨((List.replicate ((w64 (many + 1)).toNat) false).set from_.toNat true), A1, ((w64 (many + 1)).toNat), true, h, (((hf.nil.cons (hf.get 8 _ rfl)).cons (hf.get 7 _ rfl)).cons (hf.get 0 _ rfl)), hs⟩ (fun a w ⟨_, _, _, _, h, _, _⟩ => h) ?_
  clear h hf hs
  rintro kk a w ⟨l2, l2A, l2C, c2, h, hf, hs⟩
  obtain ⟨again1, hagain1⟩ : ∃ X : List Bool → Bool → Prop, X = (fun l2 c2 => iterF (fun again (s : List Bool × Bool) => M_ref4_reach_L1 l Q (fun l2 c2 => again (l2, c2)) s.1 s.2) kk (l2, c2)) := ⟨_, rfl⟩
  replace h : M_ref4_reach_L1 l Q again1 l2 c2 := by rw [hagain1]; exact h
  unfold M_ref4_reach_L1 at h
  refine wp_seq ?_
  refine wp_seq ?_
  refine R.list ?_
  refine S.val hf hs (v := .bool c2) rfl rfl rfl (V.pure rfl) (fun a hf => ?_)
  refine R.nil ?_
  refine X.then_ ?_
  refine C.cond hf (b := c2) rfl (fun hc => ?_) (fun hc => ?_)
  · replace h := h.1 hc
    refine wp_skip ?_
    refine X.then_ ?_
    refine wp_block ?_
    refine wp_seq ?_
    refine R.list ?_
    refine S.val hf hs (v := .bool false) rfl rfl rfl (V.pure rfl) (fun a hf => ?_)
    refine R.nil ?_
    refine X.then_ ?_
    refine wp_seq ?_
    refine R.list ?_
    refine S.val hf hs (v := .slice lA l.length lC) rfl rfl rfl (V.pure rfl) (fun a hf => ?_)
    refine S.val hf hs (v := .int .i64 (l.length : Int)) rfl rfl rfl (V.len rfl rfl Try.runUnderlying52) (fun a hf => ?_)
    refine S.val hf hs (v := .int .i64 0) rfl rfl rfl (V.pure rfl) (fun a hf => ?_)
    refine R.nil ?_
    refine X.then_ ?_
    refine wp_block ?_
    have hlenk2 := hv_l.len64
    refine C.range (fun (ll : List Through) a w => ∃ (k2 : Nat) (l4 : List Bool) (l4A : Option Addr) (l4C : Nat) (c4 : Bool), l.drop k2 = ll ∧ k2 + ll.length = l.length ∧ forIn' (fun k x (s : List Bool × Bool) next => M_ref4_reach_L2 k x s.1 s.2 (fun l4 c4 => next (l4, c4))) (fun (s : List Bool × Bool) => (fun (l4 : List Bool) (c4 : Bool) => again1 l4 c4) s.1 s.2) ll k2 (l4, c4) ∧ FrOk 68 [(24, .int .i64 (k2 : Int)), (0, .slice lA l.length lC), (7, .slice l4A l4.length l4C), (8, .bool c4), (22, .slice lA l.length lC), (23, .int .i64 (l.length : Int))] a ∧ Sat w0 none_ [hown 4 l4A l4C l4] w) l ⟨0, l2, l2A, l2C, false, rfl, Nat.zero_add _, h, ((((((hf.nil.cons (hf.get 23 _ rfl)).cons (hf.get 22 _ rfl)).cons (hf.get 8 _ rfl)).cons (hf.get 7 _ rfl)).cons (hf.get 0 _ rfl)).cons (hf.get 24 _ rfl)), hs⟩ ?_
    clear h hf hs
    rintro llk2 a w ⟨k2, l4, l4A, l4C, c4, hlk2, hkk2, h, hf, hs⟩
    cases llk2 with
    | nil =>
      have hc := range_done hkk2
      replace h : (fun (l4 : List Bool) (c4 : Bool) => again1 l4 c4) l4 c4 := h
      refine wp_seq ?_
      refine R.list ?_
      refine S.val hf hs (v := .bool false) rfl rfl rfl (V.cmp false rfl rfl rfl rfl hc) (fun a hf => ?_)
      refine R.nil ?_
      refine X.then_ ?_
      refine wp_seq ?_
      refine C.no hf rfl ?_
      refine wp_exit ?_
      refine X.then_exit ?_
      refine X.then_exit ?_
      refine X.blk_exit ?_
      refine X.blk ?_
      refine X.then_ ?_
      exact ⟨l4, l4A, l4C, c4, (by rw [hagain1] at h; exact h), (((hf.nil.cons (hf.get 8 _ rfl)).cons (hf.get 7 _ rfl)).cons (hf.get 0 _ rfl)), hs⟩
    | cons xk2 llk2 =>
      have hltk2 := range_lt hkk2; have hc := range_go hkk2; have hxk2 := range_get hlk2
      obtain ⟨next2, hnext2⟩ : ∃ X : List Bool → Bool → Prop, X = (fun l4 c4 => forIn' (fun k x (s : List Bool × Bool) next => M_ref4_reach_L2 k x s.1 s.2 (fun l4 c4 => next (l4, c4))) (fun (s : List Bool × Bool) => (fun (l4 : List Bool) (c4 : Bool) => again1 l4 c4) s.1 s.2) llk2 (k2 + 1) (l4, c4)) := ⟨_, rfl⟩
      replace h : M_ref4_reach_L2 k2 xk2 l4 c4 next2 := by rw [hnext2]; exact h
      unfold M_ref4_reach_L2 at h
      refine wp_seq ?_
      refine R.list ?_
      refine S.val hf hs (v := .bool true) rfl rfl rfl (V.cmp true rfl rfl rfl rfl hc) (fun a hf => ?_)
      refine R.nil ?_
      refine X.then_ ?_
      refine wp_seq ?_
      refine C.yes hf rfl ?_
      refine wp_skip ?_
      refine X.then_ ?_
      refine wp_seq ?_
      refine wp_block ?_
      refine wp_seq ?_
      refine R.list ?_
      refine S.val hf hs (v := elemPtr lA (k2 * 2)) rfl rfl rfl (V.index rfl rfl rfl Try.runUnderlying52 Try.sizeOf59 (hv_l.some_ (lt_of_get hxk2)) (Int.natCast_nonneg _) (lt_of_get hxk2) rfl) (fun a hf => ?_)
      refine S.val hf hs (v := .agg #[.int .i64 xk2.From, .int .i64 xk2.To]) rfl rfl rfl (V.loadEl (off := 0) (Ag.args _ _ _) (hv_l.flat hxk2) rfl rfl rfl Try.isAgg59 Try.sizeOf59 rfl rfl) (fun a hf => ?_)
      refine S.alloc hf hs rfl rfl rfl [.int .i64 0, .int .i64 0] rfl Try.zeroValue59 rfl (fun g1 a w hf hs => ?_)
      refine S.storeBox 0 hf hs rfl rfl [.int .i64 xk2.From, .int .i64 xk2.To] [.int .i64 xk2.From, .int .i64 xk2.To] rfl rfl rfl rfl rfl Try.sizeOf59 rfl rfl rfl rfl (fun a w hf hs => ?_)
      refine R.nil ?_
      refine X.then_ ?_
      refine wp_seq ?_
      refine R.list ?_
      refine S.val hf hs (v := .bool false) rfl rfl rfl (V.pure rfl) (fun a hf => ?_)
      refine S.val hf hs (v := .bool true) rfl rfl rfl (V.pure rfl) (fun a hf => ?_)
      refine R.nil ?_
      refine X.then_ ?_
      refine wp_seq ?_
      refine wp_seq ?_
      refine R.list ?_
      refine S.val hf hs (v := .pointer (some ⟨g1, 0, none⟩)) rfl rfl rfl (V.fieldBox rfl rfl Try.runUnderlying59 rfl Try.sizeOf3 rfl rfl) (fun a hf => ?_)
      refine S.val hf hs (v := .int .i64 xk2.From) rfl rfl rfl (V.loadBox 0 rfl rfl rfl Try.isAgg3 Try.sizeOf3 rfl rfl) (fun a hf => ?_)
      refine S.val hf hs (v := .int .i64 xk2.From) rfl rfl rfl (V.pure rfl) (fun a hf => ?_)
      refine R.nil ?_
      refine X.then_ ?_
      refine wp_block ?_
      obtain ⟨kk, h⟩ := h
      refine C.loop (fun kk a w => ∃ (c7 : Bool) (c8 : Bool) (n2 : Int), iterF (fun again (s : Bool × Bool × Int) => M_ref4_reach_L3 xk2 l4 c4 next2 (fun c7 c8 n2 => again (c7, c8, n2)) s.1 s.2.1 s.2.2) kk (c7, c8, n2) ∧ FrOk 68 [(0, .slice lA l.length lC), (7, .slice l4A l4.length l4C), (8, .bool c4), (10, .pointer (some ⟨g1, 0, none⟩)), (11, .bool c7), (12, .bool c8), (13, .int .i64 n2), (22, .slice lA l.length lC), (23, .int .i64 (l.length : Int)), (24, .int .i64 (k2 : Int))] a ∧ Sat w0 none_ [hbox g1 59 [.int .i64 xk2.From, .int .i64 xk2.To], hown 4 l4A l4C l4] w) kk ⟨false, true, xk2.From, h, ((((((((((hf.nil.cons (hf.get 24 _ rfl)).cons (hf.get 23 _ rfl)).cons (hf.get 22 _ rfl)).cons (hf.get 13 _ rfl)).cons (hf.get 12 _ rfl)).cons (hf.get 11 _ rfl)).cons (hf.get 10 _ rfl)).cons (hf.get 8 _ rfl)).cons (hf.get 7 _ rfl)).cons (hf.get 0 _ rfl)), hs⟩ (fun a w ⟨_, _, _, h, _, _⟩ => h) ?_
      clear h hf hs
      rintro kk a w ⟨c7, c8, n2, h, hf, hs⟩
      obtain ⟨again3, hagain3⟩ : ∃ X : Bool → Bool → Int → Prop, X = (fun c7 c8 n2 => iterF (fun again (s : Bool × Bool × Int) => M_ref4_reach_L3 xk2 l4 c4 next2 (fun c7 c8 n2 => again (c7, c8, n2)) s.1 s.2.1 s.2.2) kk (c7, c8, n2)) := ⟨_, rfl⟩
      replace h : M_ref4_reach_L3 xk2 l4 c4 next2 again3 c7 c8 n2 := by rw [hagain3]; exact h
      unfold M_ref4_reach_L3 at h
      refine wp_seq ?_
      refine wp_seq ?_
      refine R.list ?_
      refine S.val hf hs (v := .int .i64 n2) rfl rfl rfl (V.pure rfl) (fun a hf => ?_)
      refine S.val hf hs (v := .pointer (some ⟨g1, 1, none⟩)) rfl rfl rfl (V.fieldBox rfl rfl Try.runUnderlying59 rfl Try.sizeOf3 rfl rfl) (fun a hf => ?_)
      refine S.val hf hs (v := .int .i64 xk2.To) rfl rfl rfl (V.loadBox 0 rfl rfl rfl Try.isAgg3 Try.sizeOf3 rfl rfl) (fun a hf => ?_)
      refine S.val hf hs (v := .bool (decide (n2 ≤ xk2.To))) rfl rfl rfl (V.pure rfl) (fun a hf => ?_)
      refine R.nil ?_
      refine X.then_ ?_
      refine C.cond hf (b := decide (n2 ≤ xk2.To)) rfl (fun hc => ?_) (fun hc => ?_)
      · replace h := h.1 hc
        refine wp_skip ?_
        refine X.then_ ?_
        refine wp_seq ?_
        refine wp_block ?_
        refine R.draw mo (by kernel_rfl) hs ?_
        refine D.val hf (v := .bool c7) rfl rfl rfl (V.pure rfl) (fun a hf => ?_)
        refine D.split hf (b := c7) rfl rfl rfl (V.pure rfl) (fun hc a hf => ?_) (fun hc a hf => ?_)
        · replace h := h.1 hc
          refine D.skip hf rfl rfl rfl (fun a hf => ?_)
          refine D.skip hf rfl rfl rfl (fun a hf => ?_)
          refine D.skip hf rfl rfl rfl (fun a hf => ?_)
          refine D.skip hf rfl rfl rfl (fun a hf => ?_)
          refine D.val hf (v := .bool true) rfl rfl rfl (V.pure rfl) (fun a hf => ?_)
          refine D.val hf (v := .bool c8) rfl rfl rfl (V.pure rfl) (fun a hf => ?_)
          refine D.split hf (b := c8) rfl rfl rfl (V.pure rfl) (fun hc a hf => ?_) (fun hc a hf => ?_)
          · replace h := h.1 hc
            refine D.val hf (v := .slice l4A l4.length l4C) rfl rfl rfl (V.pure rfl) (fun a hf => ?_)
            refine D.val hf (v := .int .i64 n2) rfl rfl rfl (V.pure rfl) (fun a hf => ?_)
            obtain ⟨h0x2, x2, hx2, h⟩ := h
            refine D.val hf (v := elemPtr l4A (n2.toNat * 1)) rfl rfl rfl (V.index rfl rfl rfl Try.runUnderlying115 Try.sizeOf4 (hs.ownSome 1 rfl (lt_of_get hx2)) h0x2 (lt_of_get hx2) rfl) (fun a hf => ?_)
            refine D.val hf (v := .bool x2) rfl rfl rfl (V.loadOwn (off := 0) 1 rfl hx2 rfl rfl rfl Try.isAgg4 Try.sizeOf4 rfl rfl) (fun a hf => ?_)
            refine D.val hf (v := .bool x2) rfl rfl rfl (V.pure rfl) (fun a hf => ?_)
            refine D.val hf (v := .bool true) rfl rfl rfl (V.pure rfl) (fun a hf => ?_)
            refine D.val hf (v := .bool x2) rfl rfl rfl (V.pure rfl) (fun a hf => ?_)
            refine D.done (fun w hs => ?_)
            refine X.blk ?_
            refine X.then_ ?_
            refine R.list ?_
            refine S.val hf hs (v := .int .i64 n2) rfl rfl rfl (V.pure rfl) (fun a hf => ?_)
            refine S.val hf hs (v := .int .i64 (w64 (n2 + 1))) rfl rfl rfl (V.pure rfl) (fun a hf => ?_)
            refine S.val hf hs (v := .int .i64 (w64 (n2 + 1))) rfl rfl rfl (V.pure rfl) (fun a hf => ?_)
            refine R.nil ?_
            refine X.then_ ?_
            exact ⟨true, x2, (w64 (n2 + 1)), (by rw [hagain3] at h; exact h), ((((((((((hf.nil.cons (hf.get 24 _ rfl)).cons (hf.get 23 _ rfl)).cons (hf.get 22 _ rfl)).cons (hf.get 13 _ rfl)).cons (hf.get 12 _ rfl)).cons (hf.get 11 _ rfl)).cons (hf.get 10 _ rfl)).cons (hf.get 8 _ rfl)).cons (hf.get 7 _ rfl)).cons (hf.get 0 _ rfl)), hs⟩
          · replace h := h.2 hc
            refine D.skip hf rfl rfl rfl (fun a hf => ?_)
            refine D.skip hf rfl rfl rfl (fun a hf => ?_)
            refine D.skip hf rfl rfl rfl (fun a hf => ?_)
            refine D.skip hf rfl rfl rfl (fun a hf => ?_)
            refine D.val hf (v := .bool false) rfl rfl rfl (V.pure rfl) (fun a hf => ?_)
            refine D.val hf (v := .bool true) rfl rfl rfl (V.pure rfl) (fun a hf => ?_)
            refine D.val hf (v := .bool false) rfl rfl rfl (V.pure rfl) (fun a hf => ?_)
            refine D.done (fun w hs => ?_)
            refine X.blk ?_
            refine X.then_ ?_
            refine R.list ?_
            refine S.val hf hs (v := .int .i64 n2) rfl rfl rfl (V.pure rfl) (fun a hf => ?_)
            refine S.val hf hs (v := .int .i64 (w64 (n2 + 1))) rfl rfl rfl (V.pure rfl) (fun a hf => ?_)
            refine S.val hf hs (v := .int .i64 (w64 (n2 + 1))) rfl rfl rfl (V.pure rfl) (fun a hf => ?_)
            refine R.nil ?_
            refine X.then_ ?_
            exact ⟨true, false, (w64 (n2 + 1)), (by rw [hagain3] at h; exact h), ((((((((((hf.nil.cons (hf.get 24 _ rfl)).cons (hf.get 23 _ rfl)).cons (hf.get 22 _ rfl)).cons (hf.get 13 _ rfl)).cons (hf.get 12 _ rfl)).cons (hf.get 11 _ rfl)).cons (hf.get 10 _ rfl)).cons (hf.get 8 _ rfl)).cons (hf.get 7 _ rfl)).cons (hf.get 0 _ rfl)), hs⟩
        · replace h := h.2 hc
          refine D.val hf (v := .slice l4A l4.length l4C) rfl rfl rfl (V.pure rfl) (fun a hf => ?_)
          refine D.val hf (v := .int .i64 n2) rfl rfl rfl (V.pure rfl) (fun a hf => ?_)
          obtain ⟨h0x3, x3, hx3, h⟩ := h
          refine D.val hf (v := elemPtr l4A (n2.toNat * 1)) rfl rfl rfl (V.index rfl rfl rfl Try.runUnderlying115 Try.sizeOf4 (hs.ownSome 1 rfl (lt_of_get hx3)) h0x3 (lt_of_get hx3) rfl) (fun a hf => ?_)
          refine D.val hf (v := .bool x3) rfl rfl rfl (V.loadOwn (off := 0) 1 rfl hx3 rfl rfl rfl Try.isAgg4 Try.sizeOf4 rfl rfl) (fun a hf => ?_)
          refine D.val hf (v := .bool x3) rfl rfl rfl (V.pure rfl) (fun a hf => ?_)
          refine D.val hf (v := .bool c8) rfl rfl rfl (V.pure rfl) (fun a hf => ?_)
          refine D.split hf (b := c8) rfl rfl rfl (V.pure rfl) (fun hc a hf => ?_) (fun hc a hf => ?_)
          · replace h := h.1 hc
            refine D.val hf (v := .slice l4A l4.length l4C) rfl rfl rfl (V.pure rfl) (fun a hf => ?_)
            refine D.val hf (v := .int .i64 n2) rfl rfl rfl (V.pure rfl) (fun a hf => ?_)
            refine D.val hf (v := elemPtr l4A (n2.toNat * 1)) rfl rfl rfl (V.index rfl rfl rfl Try.runUnderlying115 Try.sizeOf4 (hs.ownSome 1 rfl (lt_of_get hx3)) h0x3 (lt_of_get hx3) rfl) (fun a hf => ?_)
            refine D.val hf (v := .bool x3) rfl rfl rfl (V.loadOwn (off := 0) 1 rfl hx3 rfl rfl rfl Try.isAgg4 Try.sizeOf4 rfl rfl) (fun a hf => ?_)
            refine D.val hf (v := .bool x3) rfl rfl rfl (V.pure rfl) (fun a hf => ?_)
            refine D.val hf (v := .bool x3) rfl rfl rfl (V.pure rfl) (fun a hf => ?_)
            refine D.val hf (v := .bool x3) rfl rfl rfl (V.pure rfl) (fun a hf => ?_)
            refine D.done (fun w hs => ?_)
            refine X.blk ?_
            refine X.then_ ?_
            refine R.list ?_
            refine S.val hf hs (v := .int .i64 n2) rfl rfl rfl (V.pure rfl) (fun a hf => ?_)
            refine S.val hf hs (v := .int .i64 (w64 (n2 + 1))) rfl rfl rfl (V.pure rfl) (fun a hf => ?_)
            refine S.val hf hs (v := .int .i64 (w64 (n2 + 1))) rfl rfl rfl (V.pure rfl) (fun a hf => ?_)
            refine R.nil ?_
            refine X.then_ ?_
            exact ⟨x3, x3, (w64 (n2 + 1)), (by rw [hagain3] at h; exact h), ((((((((((hf.nil.cons (hf.get 24 _ rfl)).cons (hf.get 23 _ rfl)).cons (hf.get 22 _ rfl)).cons (hf.get 13 _ rfl)).cons (hf.get 12 _ rfl)).cons (hf.get 11 _ rfl)).cons (hf.get 10 _ rfl)).cons (hf.get 8 _ rfl)).cons (hf.get 7 _ rfl)).cons (hf.get 0 _ rfl)), hs⟩
          · replace h := h.2 hc
            refine D.skip hf rfl rfl rfl (fun a hf => ?_)
            refine D.skip hf rfl rfl rfl (fun a hf => ?_)
            refine D.skip hf rfl rfl rfl (fun a hf => ?_)
            refine D.skip hf rfl rfl rfl (fun a hf => ?_)
            refine D.val hf (v := .bool false) rfl rfl rfl (V.pure rfl) (fun a hf => ?_)
            refine D.val hf (v := .bool x3) rfl rfl rfl (V.pure rfl) (fun a hf => ?_)
            refine D.val hf (v := .bool false) rfl rfl rfl (V.pure rfl) (fun a hf => ?_)
            refine D.done (fun w hs => ?_)
            refine X.blk ?_
            refine X.then_ ?_
            refine R.list ?_
            refine S.val hf hs (v := .int .i64 n2) rfl rfl rfl (V.pure rfl) (fun a hf => ?_)
            refine S.val hf hs (v := .int .i64 (w64 (n2 + 1))) rfl rfl rfl (V.pure rfl) (fun a hf => ?_)
            refine S.val hf hs (v := .int .i64 (w64 (n2 + 1))) rfl rfl rfl (V.pure rfl) (fun a hf => ?_)
            refine R.nil ?_
            refine X.then_ ?_
            exact ⟨x3, false, (w64 (n2 + 1)), (by rw [hagain3] at h; exact h), ((((((((((hf.nil.cons (hf.get 24 _ rfl)).cons (hf.get 23 _ rfl)).cons (hf.get 22 _ rfl)).cons (hf.get 13 _ rfl)).cons (hf.get 12 _ rfl)).cons (hf.get 11 _ rfl)).cons (hf.get 10 _ rfl)).cons (hf.get 8 _ rfl)).cons (hf.get 7 _ rfl)).cons (hf.get 0 _ rfl)), hs⟩
      · replace h := h.2 hc
        refine wp_exit ?_
        refine X.then_exit ?_
        refine X.then_exit ?_
        refine X.blk_exit ?_
        refine X.then_ ?_
        refine wp_seq ?_
        refine C.cut (J := fun a w => ∃ (c9 : Bool), M_ref4_reach_k4 xk2 l4 c4 next2 c9 ∧ FrOk 68 [(0, .slice lA l.length lC), (7, .slice l4A l4.length l4C), (8, .bool c4), (10, .pointer (some ⟨g1, 0, none⟩)), (22, .slice lA l.length lC), (23, .int .i64 (l.length : Int)), (24, .int .i64 (k2 : Int)), (54, .bool c9)] a ∧ Sat w0 none_ [hbox g1 59 [.int .i64 xk2.From, .int .i64 xk2.To], hown 4 l4A l4C l4] w) ?_ ?_
        · rintro a w ⟨c9, h, hf, hs⟩
          unfold M_ref4_reach_k4 at h
          refine C.cond hf (b := c9) rfl (fun hc => ?_) (fun hc => ?_)
          · replace h := h.1 hc
            refine wp_seq ?_
            refine R.list ?_
            refine S.val hf hs (v := .bool true) rfl rfl rfl (V.pure rfl) (fun a hf => ?_)
            refine R.nil ?_
            refine X.then_ ?_
            refine wp_seq ?_
            refine R.list ?_
            refine S.val hf hs (v := .pointer (some ⟨g1, 0, none⟩)) rfl rfl rfl (V.fieldBox rfl rfl Try.runUnderlying59 rfl Try.sizeOf3 rfl rfl) (fun a hf => ?_)
            refine S.val hf hs (v := .int .i64 xk2.From) rfl rfl rfl (V.loadBox 0 rfl rfl rfl Try.isAgg3 Try.sizeOf3 rfl rfl) (fun a hf => ?_)
            refine S.val hf hs (v := .int .i64 xk2.From) rfl rfl rfl (V.pure rfl) (fun a hf => ?_)
            refine R.nil ?_
            refine X.then_ ?_
            refine wp_block ?_
            obtain ⟨kk, h⟩ := h
            refine C.loop (fun kk a w => ∃ (l6 : List Bool) (l6A : Option Addr) (l6C : Nat) (n4 : Int), iterF (fun again (s : List Bool × Int) => M_ref4_reach_L4 xk2 next2 (fun l6 n4 => again (l6, n4)) s.1 s.2) kk (l6, n4) ∧ FrOk 68 [(0, .slice lA l.length lC), (7, .slice l6A l6.length l6C), (8, .bool true), (10, .pointer (some ⟨g1, 0, none⟩)), (14, .int .i64 n4), (22, .slice lA l.length lC), (23, .int .i64 (l.length : Int)), (24, .int .i64 (k2 : Int))] a ∧ Sat w0 none_ [hbox g1 59 [.int .i64 xk2.From, .int .i64 xk2.To], hown 4 l6A l6C l6] w) kk ⟨l4, l4A, l4C, xk2.From, h, ((((((((hf.nil.cons (hf.get 24 _ rfl)).cons (hf.get 23 _ rfl)).cons (hf.get 22 _ rfl)).cons (hf.get 14 _ rfl)).cons (hf.get 10 _ rfl)).cons (hf.get 8 _ rfl)).cons (hf.get 7 _ rfl)).cons (hf.get 0 _ rfl)), hs⟩ (fun a w ⟨_, _, _, _, h, _, _⟩ => h) ?_
            clear h hf hs
            rintro kk a w ⟨l6, l6A, l6C, n4, h, hf, hs⟩
            obtain ⟨again4, hagain4⟩ : ∃ X : List Bool → Int → Prop, X = (fun l6 n4 => iterF (fun again (s : List Bool × Int) => M_ref4_reach_L4 xk2 next2 (fun l6 n4 => again (l6, n4)) s.1 s.2) kk (l6, n4)) := ⟨_, rfl⟩
            replace h : M_ref4_reach_L4 xk2 next2 again4 l6 n4 := by rw [hagain4]; exact h
            unfold M_ref4_reach_L4 at h
            refine wp_seq ?_
            refine wp_seq ?_
            refine R.list ?_
            refine S.val hf hs (v := .int .i64 n4) rfl rfl rfl (V.pure rfl) (fun a hf => ?_)
            refine S.val hf hs (v := .pointer (some ⟨g1, 1, none⟩)) rfl rfl rfl (V.fieldBox rfl rfl Try.runUnderlying59 rfl Try.sizeOf3 rfl rfl) (fun a hf => ?_)
            refine S.val hf hs (v := .int .i64 xk2.To) rfl rfl rfl (V.loadBox 0 rfl rfl rfl Try.isAgg3 Try.sizeOf3 rfl rfl) (fun a hf => ?_)
            refine S.val hf hs (v := .bool (decide (n4 ≤ xk2.To))) rfl rfl rfl (V.pure rfl) (fun a hf => ?_)
            refine R.nil ?_
            refine X.then_ ?_
            refine C.cond hf (b := decide (n4 ≤ xk2.To)) rfl (fun hc => ?_) (fun hc => ?_)
            · replace h := h.1 hc
              refine wp_skip ?_
              refine X.then_ ?_
              refine wp_seq ?_
              refine wp_block ?_
              refine R.list ?_
              refine S.val hf hs (v := .slice l6A l6.length l6C) rfl rfl rfl (V.pure rfl) (fun a hf => ?_)
              refine S.val hf hs (v := .int .i64 n4) rfl rfl rfl (V.pure rfl) (fun a hf => ?_)
              obtain ⟨h0x4, x4, hx4, h⟩ := h
              refine S.val hf hs (v := elemPtr l6A (n4.toNat * 1)) rfl rfl rfl (V.index rfl rfl rfl Try.runUnderlying115 Try.sizeOf4 (hs.ownSome 1 rfl (lt_of_get hx4)) h0x4 (lt_of_get hx4) rfl) (fun a hf => ?_)
              refine S.storeOwn (off := 0) 1 hf hs rfl rfl true [.bool true] rfl hx4 rfl rfl rfl rfl rfl Try.sizeOf4 rfl (by decide) rfl rfl (fun a w hf hs => ?_)
              replace hf := hf.tell 7 (v := .slice l6A (l6.set n4.toNat true).length l6C) ((hf.get 7 (.slice l6A l6.length l6C) rfl).trans (congrArg (fun n => Value.slice l6A n l6C) List.length_set.symm))
              replace hf := hf.tell 63 (v := .slice l6A (l6.set n4.toNat true).length l6C) ((hf.get 63 (.slice l6A l6.length l6C) rfl).trans (congrArg (fun n => Value.slice l6A n l6C) List.length_set.symm))
              refine R.nil ?_
              refine X.blk ?_
              refine X.then_ ?_
              refine R.list ?_
              refine S.val hf hs (v := .int .i64 n4) rfl rfl rfl (V.pure rfl) (fun a hf => ?_)
              refine S.val hf hs (v := .int .i64 (w64 (n4 + 1))) rfl rfl rfl (V.pure rfl) (fun a hf => ?_)
              refine S.val hf hs (v := .int .i64 (w64 (n4 + 1))) rfl rfl rfl (V.pure rfl) (fun a hf => ?_)
              refine R.nil ?_
              refine X.then_ ?_
              exact ⟨(l6.set n4.toNat true), l6A, l6C, (w64 (n4 + 1)), (by rw [hagain4] at h; exact h), ((((((((hf.nil.cons (hf.get 24 _ rfl)).cons (hf.get 23 _ rfl)).cons (hf.get 22 _ rfl)).cons (hf.get 14 _ rfl)).cons (hf.get 10 _ rfl)).cons (hf.get 8 _ rfl)).cons (hf.get 7 _ rfl)).cons (hf.get 0 _ rfl)), hs⟩
            · replace h := h.2 hc
              refine wp_exit ?_
              refine X.then_exit ?_
              refine X.then_exit ?_
              refine X.blk_exit ?_
              refine X.blk ?_
              refine X.then_ ?_
              refine R.list ?_
              refine S.val hf hs (v := .int .i64 ((k2 + 1 : Nat) : Int)) rfl rfl rfl (V.incr rfl rfl rfl hltk2 hlenk2) (fun a hf => ?_)
              refine S.val hf hs (v := .int .i64 ((k2 + 1 : Nat) : Int)) rfl rfl rfl (V.pure rfl) (fun a hf => ?_)
              refine R.nil ?_
              refine X.then_ ?_
              exact ⟨xk2, llk2, rfl, k2 + 1, l6, l6A, l6C, true, range_drop hlk2, range_len hkk2, (by rw [hnext2] at h; exact h), ((((((hf.nil.cons (hf.get 23 _ rfl)).cons (hf.get 22 _ rfl)).cons (hf.get 8 _ rfl)).cons (hf.get 7 _ rfl)).cons (hf.get 0 _ rfl)).cons (hf.get 24 _ rfl)), hs.drop⟩
          · replace h := h.2 hc
            refine wp_skip ?_
            refine X.blk ?_
            refine X.then_ ?_
            refine R.list ?_
            refine S.val hf hs (v := .int .i64 ((k2 + 1 : Nat) : Int)) rfl rfl rfl (V.incr rfl rfl rfl hltk2 hlenk2) (fun a hf => ?_)
            refine S.val hf hs (v := .int .i64 ((k2 + 1 : Nat) : Int)) rfl rfl rfl (V.pure rfl) (fun a hf => ?_)
            refine R.nil ?_
            refine X.then_ ?_
            exact ⟨xk2, llk2, rfl, k2 + 1, l4, l4A, l4C, c4, range_drop hlk2, range_len hkk2, (by rw [hnext2] at h; exact h), ((((((hf.nil.cons (hf.get 23 _ rfl)).cons (hf.get 22 _ rfl)).cons (hf.get 8 _ rfl)).cons (hf.get 7 _ rfl)).cons (hf.get 0 _ rfl)).cons (hf.get 24 _ rfl)), hs.drop⟩
        · skip
          refine R.list ?_
          refine S.val hf hs (v := .bool c7) rfl rfl rfl (V.pure rfl) (fun a hf => ?_)
          refine S.split hf hs (b := c7) rfl rfl rfl (V.pure rfl) (fun hc a hf => ?_) (fun hc a hf => ?_)
          · replace h := h.1 hc
            refine S.val hf hs (v := .bool c8) rfl rfl rfl (V.pure rfl) (fun a hf => ?_)
            refine S.val hf hs (v := .bool (!c8)) rfl rfl rfl (V.pure rfl) (fun a hf => ?_)
            refine S.val hf hs (v := .bool (!c8)) rfl rfl rfl (V.pure rfl) (fun a hf => ?_)
            refine R.nil ?_
            refine X.then_ ?_
            exact ⟨(!c8), h, ((((((((hf.nil.cons (hf.get 54 _ rfl)).cons (hf.get 24 _ rfl)).cons (hf.get 23 _ rfl)).cons (hf.get 22 _ rfl)).cons (hf.get 10 _ rfl)).cons (hf.get 8 _ rfl)).cons (hf.get 7 _ rfl)).cons (hf.get 0 _ rfl)), hs⟩
          · replace h := h.2 hc
            refine S.skip hf rfl rfl rfl (fun a hf => ?_)
            refine S.skip hf rfl rfl rfl (fun a hf => ?_)
            refine S.val hf hs (v := .bool false) rfl rfl rfl (V.pure rfl) (fun a hf => ?_)
            refine R.nil ?_
            refine X.then_ ?_
            exact ⟨false, h, ((((((((hf.nil.cons (hf.get 54 _ rfl)).cons (hf.get 24 _ rfl)).cons (hf.get 23 _ rfl)).cons (hf.get 22 _ rfl)).cons (hf.get 10 _ rfl)).cons (hf.get 8 _ rfl)).cons (hf.get 7 _ rfl)).cons (hf.get 0 _ rfl)), hs⟩
  · replace h := h.2 hc
    refine wp_exit ?_
    refine X.then_exit ?_
    refine X.then_exit ?_
    refine X.blk_exit ?_
    refine X.then_ ?_
    refine wp_seq ?_
    refine R.list ?_
    refine S.val hf hs (v := .slice l2A l2.length l2C) rfl rfl rfl (V.pure rfl) (fun a hf => ?_)
    refine S.val hf hs (v := .slice l2A l2.length l2C) rfl rfl rfl (V.pure rfl) (fun a hf => ?_)
    refine R.nil ?_
    refine X.then_ ?_
    refine wp_ret ?_
    replace hs := hs.take 1
    exact L.ret hf (run_results1 Try.results88 (ResIs.tmp hf rfl)) ⟨l2, l2A, l2C, rfl, h, hs⟩

set_option linter.unusedVariables false
def M_ref4_Reached_L1 (s_ : (List Layer)) (y5 : (List Bool)) (k1 : Nat) (xk1 : Int) (l2 : List Str) (next1 : List Str → Prop) : Prop :=
  idx y5 ((k1 + 1 : Nat) : Int) fun x1 => cnd x1 (idx s_ xk1 fun x2 => must (room (l2 ++ [x2.Name]).length 16) (next1 (l2 ++ [x2.Name]))) (next1 l2)
def M_ref4_Reached (m : (List Material)) (s_ : (List Layer)) (l : (List Through)) (name : Str) (Q : (List Str) → Int → Prop) : Prop :=
  M_ref4_CheckSpans m s_ l fun y1 => cnd (y1 != 0) (Q ([] : List Str) y1) (M_ref4_placeOf m s_ name fun y2 => cnd (decide (y2 < 0)) (Q ([] : List Str) 9) (M_ref4_coppers m s_ fun y3 => M_index_int y3 y2 fun y4 => M_ref4_reach l (y3.length : Int) (w64 (y4 + 1)) fun y5 => forIn' (fun k x (s : List Str) next => M_ref4_Reached_L1 s_ y5 k x s (fun l2 => next l2)) (fun (s : List Str) => (fun (l2 : List Str) => Q l2 0) s) y3 0 ([] : List Str)))
set_option maxHeartbeats 1000000 in
theorem R_ref4_Reached (m : (List Material)) (s_ : (List Layer)) (l : (List Through)) (name : Str) (w0 : World) (mA : Option Addr) (mC : Nat) (hv_m : View w0 (old w0 none_) mA mC m) (s_A : Option Addr) (s_C : Nat) (hv_s_ : View w0 (old w0 none_) s_A s_C s_) (lA : Option Addr) (lC : Nat) (hv_l : View w0 (old w0 none_) lA lC l) (Q : (List Str) → Int → Prop) (h : M_ref4_Reached m s_ l name Q) :
    Ret Try.prog 49 #[.slice mA m.length mC, .slice s_A s_.length s_C, .slice lA l.length lC, .string (ba name)] w0 fun v w' => ∃ (r0 : (List Str)) (r0A : Option Addr) (r0C : Nat) (r1 : Int), v = .tuple #[.slice r0A r0.length r0C, .int .i64 r1] ∧ Q r0 r1 ∧ Sat w0 none_ [hown 9 r0A r0C r0] w' := by
  refine fn_enter Try.func49 rfl Try.ntmps49 rfl (fs := [(0, .slice mA m.length mC), (1, .slice s_A s_.length s_C), (2, .slice lA l.length lC), (3, .string (ba name))]) rfl (fun a hf => ?_)
  have hs := Sat.start w0 none_
  unfold M_ref4_Reached at h
  refine wp_seq ?_
  refine R.list ?_
  refine S.val hf hs (v := .slice none 0 0) rfl rfl rfl (V.pure rfl) (fun a hf => ?_)
  refine S.val hf hs (v := .int .i64 0) rfl rfl rfl (V.pure rfl) (fun a hf => ?_)
  refine R.nil ?_
  refine X.then_ ?_
  refine wp_seq ?_
  refine wp_seq ?_
  refine R.list ?_
  refine S.val hf hs (v := .slice mA m.length mC) rfl rfl rfl (V.pure rfl) (fun a hf => ?_)
  refine S.val hf hs (v := .slice s_A s_.length s_C) rfl rfl rfl (V.pure rfl) (fun a hf => ?_)
  refine S.val hf hs (v := .slice lA l.length lC) rfl rfl rfl (V.pure rfl) (fun a hf => ?_)
  refine S.call hf rfl rfl rfl (call_fn (vs := [.slice mA m.length mC, .slice s_A s_.length s_C, .slice lA l.length lC]) rfl rfl rfl Try.call46) (R_ref4_CheckSpans m s_ l _ mA mC ((Ag.args _ _ _).view hv_m hs) s_A s_C ((Ag.args _ _ _).view hv_s_ hs) lA lC ((Ag.args _ _ _).view hv_l hs) _ h) (fun v a w' hf hr => ?_)
  obtain ⟨y1, rfl, h2, hs2⟩ := hr
  replace h := h2; replace hs := hs.call hs2; clear h2 hs2
  refine S.val hf hs (v := .int .i64 y1) rfl rfl rfl (V.pure rfl) (fun a hf => ?_)
  refine R.nil ?_
  refine X.then_ ?_
  refine wp_seq ?_
  refine R.list ?_
  refine S.val hf hs (v := .int .i64 y1) rfl rfl rfl (V.pure rfl) (fun a hf => ?_)
  refine S.val hf hs (v := .bool (y1 != 0)) rfl rfl rfl (V.pure rfl) (fun a hf => ?_)
  refine R.nil ?_
  refine X.then_ ?_
  refine C.cond hf (b := y1 != 0) rfl (fun hc => ?_) (fun hc => ?_)
  · replace h := h.1 hc
    refine wp_seq ?_
    refine R.list ?_
    refine S.val hf hs (v := .int .i64 y1) rfl rfl rfl (V.pure rfl) (fun a hf => ?_)
    refine S.val hf hs (v := .slice none 0 0) rfl rfl rfl (V.pure rfl) (fun a hf => ?_)
    refine S.val hf hs (v := .int .i64 y1) rfl rfl rfl (V.pure rfl) (fun a hf => ?_)
    refine R.nil ?_
    refine X.then_ ?_
    refine wp_ret ?_
    refine X.then_ret ?_
    replace hs := hs.nilOwn (α := Str) 9
    replace hs := hs.take 1
    exact L.ret hf (run_results2 Try.results49 (ResIs.tmp hf rfl) (ResIs.tmp hf rfl)) ⟨([] : List Str), none, 0, y1, rfl, h, hs⟩
  · replace h := h.2 hc
    refine wp_skip ?_
    refine X.then_ ?_
    refine wp_seq ?_
    refine R.list ?_
    refine S.val hf hs (v := .slice mA m.length mC) rfl rfl rfl (V.pure rfl) (fun a hf => ?_)
    refine S.val hf hs (v := .slice s_A s_.length s_C) rfl rfl rfl (V.pure rfl) (fun a hf => ?_)
    refine S.val hf hs (v := .string (ba name)) rfl rfl rfl (V.pure rfl) (fun a hf => ?_)
    refine S.call hf rfl rfl rfl (call_fn (vs := [.slice mA m.length mC, .slice s_A s_.length s_C, .string (ba name)]) rfl rfl rfl Try.call67) (R_ref4_placeOf m s_ name _ mA mC ((Ag.args _ _ _).view hv_m hs) s_A s_C ((Ag.args _ _ _).view hv_s_ hs) _ h) (fun v a w' hf hr => ?_)
    obtain ⟨y2, rfl, h2, hs2⟩ := hr
    replace h := h2; replace hs := hs.call hs2; clear h2 hs2
    refine S.val hf hs (v := .int .i64 y2) rfl rfl rfl (V.pure rfl) (fun a hf => ?_)
    refine R.nil ?_
    refine X.then_ ?_
    refine wp_seq ?_
    refine wp_seq ?_
    refine R.list ?_
    refine S.val hf hs (v := .int .i64 y2) rfl rfl rfl (V.pure rfl) (fun a hf => ?_)
    refine S.val hf hs (v := .bool (decide (y2 < 0))) rfl rfl rfl (V.pure rfl) (fun a hf => ?_)
    refine R.nil ?_
    refine X.then_ ?_
    refine C.cond hf (b := decide (y2 < 0)) rfl (fun hc => ?_) (fun hc => ?_)
    · replace h := h.1 hc
      refine wp_seq ?_
      refine R.list ?_
      refine S.val hf hs (v := .slice none 0 0) rfl rfl rfl (V.pure rfl) (fun a hf => ?_)
      refine S.val hf hs (v := .int .i64 9) rfl rfl rfl (V.pure rfl) (fun a hf => ?_)
      refine R.nil ?_
      refine X.then_ ?_
      refine wp_ret ?_
      refine X.then_ret ?_
      replace hs := hs.nilOwn (α := Str) 9
      replace hs := hs.take 1
      exact L.ret hf (run_results2 Try.results49 (ResIs.tmp hf rfl) (ResIs.tmp hf rfl)) ⟨([] : List Str), none, 0, 9, rfl, h, hs⟩
    · replace h := h.2 hc
      refine wp_skip ?_
      refine X.then_ ?_
      refine wp_seq ?_
      refine R.list ?_
      refine S.val hf hs (v := .slice mA m.length mC) rfl rfl rfl (V.pure rfl) (fun a hf => ?_)
      refine S.val hf hs (v := .slice s_A s_.length s_C) rfl rfl rfl (V.pure rfl) (fun a hf => ?_)
      refine S.call hf rfl rfl rfl (call_fn (vs := [.slice mA m.length mC, .slice s_A s_.length s_C]) rfl rfl rfl Try.call64) (R_ref4_coppers m s_ _ mA mC ((Ag.args _ _ _).view hv_m hs) s_A s_C ((Ag.args _ _ _).view hv_s_ hs) _ h) (fun v a w' hf hr => ?_)
      obtain ⟨y3, y3A, y3C, rfl, h2, hs2⟩ := hr
      replace h := h2; replace hs := hs.call hs2; clear h2 hs2
      refine S.val hf hs (v := .slice y3A y3.length y3C) rfl rfl rfl (V.pure rfl) (fun a hf => ?_)
      refine R.nil ?_
      refine X.then_ ?_
      refine wp_seq ?_
      refine R.list ?_
      refine S.val hf hs (v := .slice lA l.length lC) rfl rfl rfl (V.pure rfl) (fun a hf => ?_)
      refine S.val hf hs (v := .slice y3A y3.length y3C) rfl rfl rfl (V.pure rfl) (fun a hf => ?_)
      refine S.val hf hs (v := .int .i64 (y3.length : Int)) rfl rfl rfl (V.len rfl rfl Try.runUnderlying43) (fun a hf => ?_)
      refine S.val hf hs (v := .slice y3A y3.length y3C) rfl rfl rfl (V.pure rfl) (fun a hf => ?_)
      refine S.val hf hs (v := .int .i64 y2) rfl rfl rfl (V.pure rfl) (fun a hf => ?_)
      refine S.call hf rfl rfl rfl (call_fn (vs := [.slice y3A y3.length y3C, .int .i64 y2]) rfl rfl rfl Try.call78) (R_index_int y3 y2 _ y3A y3C (hs.ownView 0 rfl) _ h) (fun v a w' hf hr => ?_)
      obtain ⟨y4, rfl, h2, hs2⟩ := hr
      replace h := h2; replace hs := hs.call hs2; clear h2 hs2
      refine S.val hf hs (v := .int .i64 (w64 (y4 + 1))) rfl rfl rfl (V.pure rfl) (fun a hf => ?_)
      refine S.call hf rfl rfl rfl (call_fn (vs := [.slice lA l.length lC, .int .i64 (y3.length : Int), .int .i64 (w64 (y4 + 1))]) rfl rfl rfl Try.call88) (R_ref4_reach l (y3.length : Int) (w64 (y4 + 1)) _ lA lC ((Ag.args _ _ _).view hv_l hs) _ h) (fun v a w' hf hr => ?_)
      obtain ⟨y5, y5A, y5C, rfl, h2, hs2⟩ := hr
      replace h := h2; replace hs := hs.call hs2; clear h2 hs2
      refine S.val hf hs (v := .slice y5A y5.length y5C) rfl rfl rfl (V.pure rfl) (fun a hf => ?_)
      refine R.nil ?_
      refine X.then_ ?_
      refine wp_seq ?_
      refine R.list ?_
      refine S.val hf hs (v := .slice none 0 0) rfl rfl rfl (V.pure rfl) (fun a hf => ?_)
      refine R.nil ?_
      refine X.then_ ?_
      refine wp_seq ?_
      refine wp_seq ?_
      refine R.list ?_
      refine S.val hf hs (v := .slice y3A y3.length y3C) rfl rfl rfl (V.pure rfl) (fun a hf => ?_)
      refine S.val hf hs (v := .int .i64 (y3.length : Int)) rfl rfl rfl (V.len rfl rfl Try.runUnderlying43) (fun a hf => ?_)
      refine S.val hf hs (v := .int .i64 0) rfl rfl rfl (V.pure rfl) (fun a hf => ?_)
      refine R.nil ?_
      refine X.then_ ?_
      refine wp_block ?_
      replace hs := hs.nilOwn (α := Str) 9
      have hlenk1 := (hs.ownView 2 rfl).len64
      refine C.range (fun (ll : List Int) a w => ∃ (k1 : Nat) (l2 : List Str) (l2A : Option Addr) (l2C : Nat), y3.drop k1 = ll ∧ k1 + ll.length = y3.length ∧ forIn' (fun k x (s : List Str) next => M_ref4_Reached_L1 s_ y5 k x s (fun l2 => next l2)) (fun (s : List Str) => (fun (l2 : List Str) => Q l2 0) s) ll k1 l2 ∧ FrOk 63 [(43, .int .i64 (k1 : Int)), (1, .slice s_A s_.length s_C), (13, .slice y5A y5.length y5C), (14, .slice l2A l2.length l2C), (41, .slice y3A y3.length y3C), (42, .int .i64 (y3.length : Int))] a ∧ Sat w0 none_ [hown 9 l2A l2C l2, hown 4 y5A y5C y5, hown 3 y3A y3C y3] w) y3 ⟨0, ([] : List Str), none, 0, rfl, Nat.zero_add _, h, ((((((hf.nil.cons (hf.get 42 _ rfl)).cons (hf.get 41 _ rfl)).cons (hf.get 14 _ rfl)).cons (hf.get 13 _ rfl)).cons (hf.get 1 _ rfl)).cons (hf.get 43 _ rfl)), hs⟩ ?_
      clear h hf hs
      rintro llk1 a w ⟨k1, l2, l2A, l2C, hlk1, hkk1, h, hf, hs⟩
      cases llk1 with
      | nil =>
        have hc := range_done hkk1
        replace h : (fun (l2 : List Str) => Q l2 0) l2 := h
        refine wp_seq ?_
        refine R.list ?_
        refine S.val hf hs (v := .bool false) rfl rfl rfl (V.cmp false rfl rfl rfl rfl hc) (fun a hf => ?_)
        refine R.nil ?_
        refine X.then_ ?_
        refine wp_seq ?_
        refine C.no hf rfl ?_
        refine wp_exit ?_
        refine X.then_exit ?_
        refine X.then_exit ?_
        refine X.blk_exit ?_
        refine X.then_ ?_
        refine wp_seq ?_
        refine R.list ?_
        refine S.val hf hs (v := .slice l2A l2.length l2C) rfl rfl rfl (V.pure rfl) (fun a hf => ?_)
        refine S.val hf hs (v := .slice l2A l2.length l2C) rfl rfl rfl (V.pure rfl) (fun a hf => ?_)
        refine S.val hf hs (v := .int .i64 0) rfl rfl rfl (V.pure rfl) (fun a hf => ?_)
        refine R.nil ?_
        refine X.then_ ?_
        refine wp_ret ?_
        replace hs := hs.take 1
        exact L.ret hf (run_results2 Try.results49 (ResIs.tmp hf rfl) (ResIs.tmp hf rfl)) ⟨l2, l2A, l2C, 0, rfl, h, hs⟩
      | cons xk1 llk1 =>
        have hltk1 := range_lt hkk1; have hc := range_go hkk1; have hxk1 := range_get hlk1
        obtain ⟨next1, hnext1⟩ : ∃ X : List Str → Prop, X = (fun l2 => forIn' (fun k x (s : List Str) next => M_ref4_Reached_L1 s_ y5 k x s (fun l2 => next l2)) (fun (s : List Str) => (fun (l2 : List Str) => Q l2 0) s) llk1 (k1 + 1) l2) := ⟨_, rfl⟩
        replace h : M_ref4_Reached_L1 s_ y5 k1 xk1 l2 next1 := by rw [hnext1]; exact h
        unfold M_ref4_Reached_L1 at h
        refine wp_seq ?_
        refine R.list ?_
        refine S.val hf hs (v := .bool true) rfl rfl rfl (V.cmp true rfl rfl rfl rfl hc) (fun a hf => ?_)
        refine R.nil ?_
        refine X.then_ ?_
        refine wp_seq ?_
        refine C.yes hf rfl ?_
        refine wp_skip ?_
        refine X.then_ ?_
        refine wp_seq ?_
        refine wp_block ?_
        refine wp_seq ?_
        refine R.list ?_
        refine S.val hf hs (v := .int .i64 (k1 : Int)) rfl rfl rfl (V.pure rfl) (fun a hf => ?_)
        refine S.val hf hs (v := elemPtr y3A (k1 * 1)) rfl rfl rfl (V.index rfl rfl rfl Try.runUnderlying43 Try.sizeOf3 (hs.ownSome 2 rfl (lt_of_get hxk1)) (Int.natCast_nonneg _) (lt_of_get hxk1) rfl) (fun a hf => ?_)
        refine S.val hf hs (v := .int .i64 xk1) rfl rfl rfl (V.loadOwn (off := 0) 2 rfl hxk1 rfl rfl rfl Try.isAgg3 Try.sizeOf3 rfl rfl) (fun a hf => ?_)
        refine S.val hf hs (v := .int .i64 (k1 : Int)) rfl rfl rfl (V.pure rfl) (fun a hf => ?_)
        refine S.val hf hs (v := .int .i64 xk1) rfl rfl rfl (V.pure rfl) (fun a hf => ?_)
        refine R.nil ?_
        refine X.then_ ?_
        refine wp_seq ?_
        refine R.list ?_
        refine S.val hf hs (v := .slice y5A y5.length y5C) rfl rfl rfl (V.pure rfl) (fun a hf => ?_)
        refine S.val hf hs (v := .int .i64 (k1 : Int)) rfl rfl rfl (V.pure rfl) (fun a hf => ?_)
        refine S.val hf hs (v := .int .i64 ((k1 + 1 : Nat) : Int)) rfl rfl rfl (V.incr rfl rfl rfl hltk1 hlenk1) (fun a hf => ?_)
        obtain ⟨h0x1, x1, hx1, h⟩ := h
        refine S.val hf hs (v := elemPtr y5A ((k1 + 1) * 1)) rfl rfl rfl (V.index rfl rfl rfl Try.runUnderlying115 Try.sizeOf4 (hs.ownSome 1 rfl (lt_of_get hx1)) (Int.natCast_nonneg _) (lt_of_get hx1) rfl) (fun a hf => ?_)
        refine S.val hf hs (v := .bool x1) rfl rfl rfl (V.loadOwn (off := 0) 1 rfl hx1 rfl rfl rfl Try.isAgg4 Try.sizeOf4 rfl rfl) (fun a hf => ?_)
        refine R.nil ?_
        refine X.then_ ?_
        refine C.cond hf (b := x1) rfl (fun hc => ?_) (fun hc => ?_)
        · replace h := h.1 hc
          refine R.list ?_
          refine S.val hf hs (v := .slice l2A l2.length l2C) rfl rfl rfl (V.pure rfl) (fun a hf => ?_)
          refine S.val hf hs (v := .slice s_A s_.length s_C) rfl rfl rfl (V.pure rfl) (fun a hf => ?_)
          refine S.val hf hs (v := .int .i64 xk1) rfl rfl rfl (V.pure rfl) (fun a hf => ?_)
          obtain ⟨h0x2, x2, hx2, h⟩ := h
          refine S.val hf hs (v := elemPtr s_A (xk1.toNat * 2)) rfl rfl rfl (V.index rfl rfl rfl Try.runUnderlying23 Try.sizeOf35 (hv_s_.some_ (lt_of_get hx2)) h0x2 (lt_of_get hx2) rfl) (fun a hf => ?_)
          refine S.val hf hs (v := elemPtr s_A (xk1.toNat * 2)) rfl rfl rfl (V.fieldEl rfl rfl (hv_s_.some_ (lt_of_get hx2)) Try.runUnderlying35 rfl Try.sizeOf9 rfl rfl) (fun a hf => ?_)
          refine S.val hf hs (v := .string (ba x2.Name)) rfl rfl rfl (V.loadEl (off := 0) (Ag.args _ _ _) (hv_s_.flat hx2) rfl rfl rfl Try.isAgg9 Try.sizeOf9 rfl rfl) (fun a hf => ?_)
          refine S.build1 hf hs rfl rfl rfl (α := Str) x2.Name rfl rfl rfl Try.runUnderlying63 Try.sizeOf9 Try.zeroValue9 rfl (by decide) (fun A1 a w hf hs => ?_)
          obtain ⟨hroom, h⟩ := h
          refine S.appendCells 1 hf hs rfl rfl rfl rfl rfl rfl rfl Try.underlying63 info9 rfl hroom ((hs.ownView 0 rfl).some_ (i := 0) (by simp)) (hs.ownView 0 rfl) (fun A2 C1 a w hf hs => ?_)
          replace hs := hs.drop
          refine S.val hf hs (v := .slice A2 (l2 ++ [x2.Name]).length C1) rfl rfl rfl (V.pure rfl) (fun a hf => ?_)
          refine R.nil ?_
          refine X.blk ?_
          refine X.then_ ?_
          refine R.list ?_
          refine S.val hf hs (v := .int .i64 ((k1 + 1 : Nat) : Int)) rfl rfl rfl (V.incr rfl rfl rfl hltk1 hlenk1) (fun a hf => ?_)
          refine S.val hf hs (v := .int .i64 ((k1 + 1 : Nat) : Int)) rfl rfl rfl (V.pure rfl) (fun a hf => ?_)
          refine R.nil ?_
          refine X.then_ ?_
          exact ⟨xk1, llk1, rfl, k1 + 1, (l2 ++ [x2.Name]), A2, C1, range_drop hlk1, range_len hkk1, (by rw [hnext1] at h; exact h), ((((((hf.nil.cons (hf.get 42 _ rfl)).cons (hf.get 41 _ rfl)).cons (hf.get 14 _ rfl)).cons (hf.get 13 _ rfl)).cons (hf.get 1 _ rfl)).cons (hf.get 43 _ rfl)), hs⟩
        · replace h := h.2 hc
          refine wp_skip ?_
          refine X.blk ?_
          refine X.then_ ?_
          refine R.list ?_
          refine S.val hf hs (v := .int .i64 ((k1 + 1 : Nat) : Int)) rfl rfl rfl (V.incr rfl rfl rfl hltk1 hlenk1) (fun a hf => ?_)
          refine S.val hf hs (v := .int .i64 ((k1 + 1 : Nat) : Int)) rfl rfl rfl (V.pure rfl) (fun a hf => ?_)
          refine R.nil ?_
          refine X.then_ ?_
          exact ⟨xk1, llk1, rfl, k1 + 1, l2, l2A, l2C, range_drop hlk1, range_len hkk1, (by rw [hnext1] at h; exact h), ((((((hf.nil.cons (hf.get 42 _ rfl)).cons (hf.get 41 _ rfl)).cons (hf.get 14 _ rfl)).cons (hf.get 13 _ rfl)).cons (hf.get 1 _ rfl)).cons (hf.get 43 _ rfl)), hs⟩

set_option linter.unusedVariables false
def M_ref4_Slim_L2 (m : (List Material)) (s_ : (List Layer)) (sizes : (List Int)) (most : Int) (y2 : (List Int)) (k2 : Nat) (xk2 : Through) (l2 : List Int) (next2 : List Int → Prop) : Prop :=
  idx y2 (w64 (xk2.From - 1)) fun x1 => idx y2 (w64 (xk2.To - 1)) fun x2 => must (0 ≤ x1 ∧ x1 ≤ w64 (x2 + 1) ∧ w64 (x2 + 1) ≤ (s_.length : Int)) (idx sizes (k2 : Int) fun x3 => M_ref4_thickness m (seg s_ x1 (w64 (x2 + 1))) fun y3 => cnd (decide (w64 (10 * y3) > w64 (most * x3))) (must (room (l2 ++ [(k2 : Int)]).length 8) (next2 (l2 ++ [(k2 : Int)]))) (next2 l2))
def M_ref4_Slim_L1 (Q : (List Int) → Int → Prop) (k1 : Nat) (xk1 : Int)  (next1 : Prop) : Prop :=
  cnd (!(within xk1 1 2000)) (Q ([] : List Int) 1) (next1)
def M_ref4_Slim (m : (List Material)) (s_ : (List Layer)) (l : (List Through)) (sizes : (List Int)) (most : Int) (Q : (List Int) → Int → Prop) : Prop :=
  M_ref4_CheckSpans m s_ l fun y1 => cnd (y1 != 0) (Q ([] : List Int) y1) (cnd ((sizes.length : Int) != (l.length : Int)) (Q ([] : List Int) 3) (forIn' (fun k x (s : Unit) next => M_ref4_Slim_L1 Q k x (next ())) (fun (s : Unit) => cnd (!(within most 1 1000)) (Q ([] : List Int) 1) (M_ref4_coppers m s_ fun y2 => forIn' (fun k x (s : List Int) next => M_ref4_Slim_L2 m s_ sizes most y2 k x s (fun l2 => next l2)) (fun (s : List Int) => (fun (l2 : List Int) => Q l2 0) s) l 0 ([] : List Int))) sizes 0 ()))
set_option maxHeartbeats 1000000 in
theorem R_ref4_Slim (m : (List Material)) (s_ : (List Layer)) (l : (List Through)) (sizes : (List Int)) (most : Int) (w0 : World) (mA : Option Addr) (mC : Nat) (hv_m : View w0 (old w0 none_) mA mC m) (s_A : Option Addr) (s_C : Nat) (hv_s_ : View w0 (old w0 none_) s_A s_C s_) (lA : Option Addr) (lC : Nat) (hv_l : View w0 (old w0 none_) lA lC l) (sizesA : Option Addr) (sizesC : Nat) (hv_sizes : View w0 (old w0 none_) sizesA sizesC sizes) (Q : (List Int) → Int → Prop) (h : M_ref4_Slim m s_ l sizes most Q) :
    Ret Try.prog 51 #[.slice mA m.length mC, .slice s_A s_.length s_C, .slice lA l.length lC, .slice sizesA sizes.length sizesC, .int .i64 most] w0 fun v w' => ∃ (r0 : (List Int)) (r0A : Option Addr) (r0C : Nat) (r1 : Int), v = .tuple #[.slice r0A r0.length r0C, .int .i64 r1] ∧ Q r0 r1 ∧ Sat w0 none_ [hown 3 r0A r0C r0] w' := by
  refine fn_enter Try.func51 rfl Try.ntmps51 rfl (fs := [(0, .slice mA m.length mC), (1, .slice s_A s_.length s_C), (2, .slice lA l.length lC), (3, .slice sizesA sizes.length sizesC), (4, .int .i64 most)]) rfl (fun a hf => ?_)
  have hs := Sat.start w0 none_
  unfold M_ref4_Slim at h
  refine wp_seq ?_
  refine R.list ?_
  refine S.val hf hs (v := .slice none 0 0) rfl rfl rfl (V.pure rfl) (fun a hf => ?_)
  refine S.val hf hs (v := .int .i64 0) rfl rfl rfl (V.pure rfl) (fun a hf => ?_)
  refine R.nil ?_
  refine X.then_ ?_
  refine wp_seq ?_
  refine wp_seq ?_
  refine R.list ?_
  refine S.val hf hs (v := .slice mA m.length mC) rfl rfl rfl (V.pure rfl) (fun a hf => ?_)
  refine S.val hf hs (v := .slice s_A s_.length s_C) rfl rfl rfl (V.pure rfl) (fun a hf => ?_)
  refine S.val hf hs (v := .slice lA l.length lC) rfl rfl rfl (V.pure rfl) (fun a hf => ?_)
  refine S.call hf rfl rfl rfl (call_fn (vs := [.slice mA m.length mC, .slice s_A s_.length s_C, .slice lA l.length lC]) rfl rfl rfl Try.call46) (R_ref4_CheckSpans m s_ l _ mA mC ((Ag.args _ _ _).view hv_m hs) s_A s_C ((Ag.args _ _ _).view hv_s_ hs) lA lC ((Ag.args _ _ _).view hv_l hs) _ h) (fun v a w' hf hr => ?_)
  obtain ⟨y1, rfl, h2, hs2⟩ := hr
  replace h := h2; replace hs := hs.call hs2; clear h2 hs2
  refine S.val hf hs (v := .int .i64 y1) rfl rfl rfl (V.pure rfl) (fun a hf => ?_)
  refine R.nil ?_
  refine X.then_ ?_
  refine wp_seq ?_
  refine R.list ?_
  refine S.val hf hs (v := .int .i64 y1) rfl rfl rfl (V.pure rfl) (fun a hf => ?_)
  refine S.val hf hs (v := .bool (y1 != 0)) rfl rfl rfl (V.pure rfl) (fun a hf => ?_)
  refine R.nil ?_
  refine X.then_ ?_
  refine C.cond hf (b := y1 != 0) rfl (fun hc => ?_) (fun hc => ?_)
  · replace h := h.1 hc
    refine wp_seq ?_
    refine R.list ?_
    refine S.val hf hs (v := .int .i64 y1) rfl rfl rfl (V.pure rfl) (fun a hf => ?_)
    refine S.val hf hs (v := .slice none 0 0) rfl rfl rfl (V.pure rfl) (fun a hf => ?_)
    refine S.val hf hs (v := .int .i64 y1) rfl rfl rfl (V.pure rfl) (fun a hf => ?_)
    refine R.nil ?_
    refine X.then_ ?_
    refine wp_ret ?_
    refine X.then_ret ?_
    replace hs := hs.nilOwn (α := Int) 3
    replace hs := hs.take 1
    exact L.ret hf (run_results2 Try.results51 (ResIs.tmp hf rfl) (ResIs.tmp hf rfl)) ⟨([] : List Int), none, 0, y1, rfl, h, hs⟩
  · replace h := h.2 hc
    refine wp_skip ?_
    refine X.then_ ?_
    refine wp_seq ?_
    refine wp_seq ?_
    refine R.list ?_
    refine S.val hf hs (v := .slice sizesA sizes.length sizesC) rfl rfl rfl (V.pure rfl) (fun a hf => ?_)
    refine S.val hf hs (v := .int .i64 (sizes.length : Int)) rfl rfl rfl (V.len rfl rfl Try.runUnderlying43) (fun a hf => ?_)
    refine S.val hf hs (v := .slice lA l.length lC) rfl rfl rfl (V.pure rfl) (fun a hf => ?_)
    refine S.val hf hs (v := .int .i64 (l.length : Int)) rfl rfl rfl (V.len rfl rfl Try.runUnderlying52) (fun a hf => ?_)
    refine S.val hf hs (v := .bool ((sizes.length : Int) != (l.length : Int))) rfl rfl rfl (V.pure rfl) (fun a hf => ?_)
    refine R.nil ?_
    refine X.then_ ?_
    refine C.cond hf (b := (sizes.length : Int) != (l.length : Int)) rfl (fun hc => ?_) (fun hc => ?_)
    · replace h := h.1 hc
      refine wp_seq ?_
      refine R.list ?_
      refine S.val hf hs (v := .slice none 0 0) rfl rfl rfl (V.pure rfl) (fun a hf => ?_)
      refine S.val hf hs (v := .int .i64 3) rfl rfl rfl (V.pure rfl) (fun a hf => ?_)
      refine R.nil ?_
      refine X.then_ ?_
      refine wp_ret ?_
      refine X.then_ret ?_
      replace hs := hs.nilOwn (α := Int) 3
      replace hs := hs.take 1
      exact L.ret hf (run_results2 Try.results51 (ResIs.tmp hf rfl) (ResIs.tmp hf rfl)) ⟨([] : List Int), none, 0, 3, rfl, h, hs⟩
    · replace h := h.2 hc
      refine wp_skip ?_
      refine X.then_ ?_
      refine wp_seq ?_
      refine wp_seq ?_
      refine R.list ?_
      refine S.val hf hs (v := .slice sizesA sizes.length sizesC) rfl rfl rfl (V.pure rfl) (fun a hf => ?_)
      refine S.val hf hs (v := .int .i64 (sizes.length : Int)) rfl rfl rfl (V.len rfl rfl Try.runUnderlying43) (fun a hf => ?_)
      refine S.val hf hs (v := .int .i64 0) rfl rfl rfl (V.pure rfl) (fun a hf => ?_)
      refine R.nil ?_
      refine X.then_ ?_
      refine wp_block ?_
      have hlenk1 := hv_sizes.len64
      refine C.range (fun (ll : List Int) a w => ∃ (k1 : Nat) , sizes.drop k1 = ll ∧ k1 + ll.length = sizes.length ∧ forIn' (fun k x (s : Unit) next => M_ref4_Slim_L1 Q k x (next ())) (fun (s : Unit) => cnd (!(within most 1 1000)) (Q ([] : List Int) 1) (M_ref4_coppers m s_ fun y2 => forIn' (fun k x (s : List Int) next => M_ref4_Slim_L2 m s_ sizes most y2 k x s (fun l2 => next l2)) (fun (s : List Int) => (fun (l2 : List Int) => Q l2 0) s) l 0 ([] : List Int))) ll k1 () ∧ FrOk 85 [(33, .int .i64 (k1 : Int)), (0, .slice mA m.length mC), (1, .slice s_A s_.length s_C), (2, .slice lA l.length lC), (3, .slice sizesA sizes.length sizesC), (4, .int .i64 most), (31, .slice sizesA sizes.length sizesC), (32, .int .i64 (sizes.length : Int))] a ∧ Sat w0 none_ [] w) sizes ⟨0, rfl, Nat.zero_add _, h, ((((((((hf.nil.cons (hf.get 32 _ rfl)).cons (hf.get 31 _ rfl)).cons (hf.get 4 _ rfl)).cons (hf.get 3 _ rfl)).cons (hf.get 2 _ rfl)).cons (hf.get 1 _ rfl)).cons (hf.get 0 _ rfl)).cons (hf.get 33 _ rfl)), hs⟩ ?_
      clear h hf hs
      rintro llk1 a w ⟨k1, hlk1, hkk1, h, hf, hs⟩
      cases llk1 with
      | nil =>
        have hc := range_done hkk1
        replace h : cnd (!(within most 1 1000)) (Q ([] : List Int) 1) (M_ref4_coppers m s_ fun y2 => forIn' (fun k x (s : List Int) next => M_ref4_Slim_L2 m s_ sizes most y2 k x s (fun l2 => next l2)) (fun (s : List Int) => (fun (l2 : List Int) => Q l2 0) s) l 0 ([] : List Int)) := h
        refine wp_seq ?_
        refine R.list ?_
        refine S.val hf hs (v := .bool false) rfl rfl rfl (V.cmp false rfl rfl rfl rfl hc) (fun a hf => ?_)
        refine R.nil ?_
        refine X.then_ ?_
        refine wp_seq ?_
        refine C.no hf rfl ?_
        refine wp_exit ?_
        refine X.then_exit ?_
        refine X.then_exit ?_
        refine X.blk_exit ?_
        refine X.then_ ?_
        refine wp_seq ?_
        refine wp_seq ?_
        refine R.list ?_
        refine S.val hf hs (v := .int .i64 most) rfl rfl rfl (V.pure rfl) (fun a hf => ?_)
        refine S.callv hf rfl rfl rfl (call_fn (vs := [.int .i64 most, .int .i64 1, .int .i64 1000]) rfl rfl rfl Try.call59) (C_ref4_within most 1 1000 _ ) (fun a w hf hs' => ?_)
        replace hs := hs.call hs'; clear hs'
        refine S.val hf hs (v := .bool (!(within most 1 1000))) rfl rfl rfl (V.pure rfl) (fun a hf => ?_)
        refine R.nil ?_
        refine X.then_ ?_
        refine C.cond hf (b := !(within most 1 1000)) rfl (fun hc => ?_) (fun hc => ?_)
        · replace h := h.1 hc
          refine wp_seq ?_
          refine R.list ?_
          refine S.val hf hs (v := .slice none 0 0) rfl rfl rfl (V.pure rfl) (fun a hf => ?_)
          refine S.val hf hs (v := .int .i64 1) rfl rfl rfl (V.pure rfl) (fun a hf => ?_)
          refine R.nil ?_
          refine X.then_ ?_
          refine wp_ret ?_
          refine X.then_ret ?_
          replace hs := hs.nilOwn (α := Int) 3
          replace hs := hs.take 1
          exact L.ret hf (run_results2 Try.results51 (ResIs.tmp hf rfl) (ResIs.tmp hf rfl)) ⟨([] : List Int), none, 0, 1, rfl, h, hs⟩
        · replace h := h.2 hc
          refine wp_skip ?_
          refine X.then_ ?_
          refine wp_seq ?_
          refine R.list ?_
          refine S.val hf hs (v := .slice mA m.length mC) rfl rfl rfl (V.pure rfl) (fun a hf => ?_)
          refine S.val hf hs (v := .slice s_A s_.length s_C) rfl rfl rfl (V.pure rfl) (fun a hf => ?_)
          refine S.call hf rfl rfl rfl (call_fn (vs := [.slice mA m.length mC, .slice s_A s_.length s_C]) rfl rfl rfl Try.call64) (R_ref4_coppers m s_ _ mA mC ((Ag.args _ _ _).view hv_m hs) s_A s_C ((Ag.args _ _ _).view hv_s_ hs) _ h) (fun v a w' hf hr => ?_)
          obtain ⟨y2, y2A, y2C, rfl, h2, hs2⟩ := hr
          replace h := h2; replace hs := hs.call hs2; clear h2 hs2
          refine S.val hf hs (v := .slice y2A y2.length y2C) rfl rfl rfl (V.pure rfl) (fun a hf => ?_)
          refine R.nil ?_
          refine X.then_ ?_
          refine wp_seq ?_
          refine R.list ?_
          refine S.val hf hs (v := .slice none 0 0) rfl rfl rfl (V.pure rfl) (fun a hf => ?_)
          refine R.nil ?_
          refine X.then_ ?_
          refine wp_seq ?_
          refine wp_seq ?_
          refine R.list ?_
          refine S.val hf hs (v := .slice lA l.length lC) rfl rfl rfl (V.pure rfl) (fun a hf => ?_)
          refine S.val hf hs (v := .int .i64 (l.length : Int)) rfl rfl rfl (V.len rfl rfl Try.runUnderlying52) (fun a hf => ?_)
          refine S.val hf hs (v := .int .i64 0) rfl rfl rfl (V.pure rfl) (fun a hf => ?_)
          refine R.nil ?_
          refine X.then_ ?_
          refine wp_block ?_
          replace hs := hs.nilOwn (α := Int) 3
          have hlenk2 := hv_l.len64
          refine C.range (fun (ll : List Through) a w => ∃ (k2 : Nat) (l2 : List Int) (l2A : Option Addr) (l2C : Nat), l.drop k2 = ll ∧ k2 + ll.length = l.length ∧ forIn' (fun k x (s : List Int) next => M_ref4_Slim_L2 m s_ sizes most y2 k x s (fun l2 => next l2)) (fun (s : List Int) => (fun (l2 : List Int) => Q l2 0) s) ll k2 l2 ∧ FrOk 85 [(49, .int .i64 (k2 : Int)), (0, .slice mA m.length mC), (1, .slice s_A s_.length s_C), (3, .slice sizesA sizes.length sizesC), (4, .int .i64 most), (15, .slice y2A y2.length y2C), (16, .slice l2A l2.length l2C), (47, .slice lA l.length lC), (48, .int .i64 (l.length : Int))] a ∧ Sat w0 none_ [hown 3 l2A l2C l2, hown 3 y2A y2C y2] w) l ⟨0, ([] : List Int), none, 0, rfl, Nat.zero_add _, h, (((((((((hf.nil.cons (hf.get 48 _ rfl)).cons (hf.get 47 _ rfl)).cons (hf.get 16 _ rfl)).cons (hf.get 15 _ rfl)).cons (hf.get 4 _ rfl)).cons (hf.get 3 _ rfl)).cons (hf.get 1 _ rfl)).cons (hf.get 0 _ rfl)).cons (hf.get 49 _ rfl)), hs⟩ ?_
          clear h hf hs
          rintro llk2 a w ⟨k2, l2, l2A, l2C, hlk2, hkk2, h, hf, hs⟩
          cases llk2 with
          | nil =>
            have hc := range_done hkk2
            replace h : (fun (l2 : List Int) => Q l2 0) l2 := h
            refine wp_seq ?_
            refine R.list ?_
            refine S.val hf hs (v := .bool false) rfl rfl rfl (V.cmp false rfl rfl rfl rfl hc) (fun a hf => ?_)
            refine R.nil ?_
            refine X.then_ ?_
            refine wp_seq ?_
            refine C.no hf rfl ?_
            refine wp_exit ?_
            refine X.then_exit ?_
            refine X.then_exit ?_
            refine X.blk_exit ?_
            refine X.then_ ?_
            refine wp_seq ?_
            refine R.list ?_
            refine S.val hf hs (v := .slice l2A l2.length l2C) rfl rfl rfl (V.pure rfl) (fun a hf => ?_)
            refine S.val hf hs (v := .slice l2A l2.length l2C) rfl rfl rfl (V.pure rfl) (fun a hf => ?_)
            refine S.val hf hs (v := .int .i64 0) rfl rfl rfl (V.pure rfl) (fun a hf => ?_)
            refine R.nil ?_
            refine X.then_ ?_
            refine wp_ret ?_
            replace hs := hs.take 1
            exact L.ret hf (run_results2 Try.results51 (ResIs.tmp hf rfl) (ResIs.tmp hf rfl)) ⟨l2, l2A, l2C, 0, rfl, h, hs⟩
          | cons xk2 llk2 =>
            have hltk2 := range_lt hkk2; have hc := range_go hkk2; have hxk2 := range_get hlk2
            obtain ⟨next2, hnext2⟩ : ∃ X : List Int → Prop, X = (fun l2 => forIn' (fun k x (s : List Int) next => M_ref4_Slim_L2 m s_ sizes most y2 k x s (fun l2 => next l2)) (fun (s : List Int) => (fun (l2 : List Int) => Q l2 0) s) llk2 (k2 + 1) l2) := ⟨_, rfl⟩
            replace h : M_ref4_Slim_L2 m s_ sizes most y2 k2 xk2 l2 next2 := by rw [hnext2]; exact h
            unfold M_ref4_Slim_L2 at h
            refine wp_seq ?_
            refine R.list ?_
            refine S.val hf hs (v := .bool true) rfl rfl rfl (V.cmp true rfl rfl rfl rfl hc) (fun a hf => ?_)
            refine R.nil ?_
            refine X.then_ ?_
            refine wp_seq ?_
            refine C.yes hf rfl ?_
            refine wp_skip ?_
            refine X.then_ ?_
            refine wp_seq ?_
            refine wp_block ?_
            refine wp_seq ?_
            refine R.list ?_
            refine S.val hf hs (v := .int .i64 (k2 : Int)) rfl rfl rfl (V.pure rfl) (fun a hf => ?_)
            refine S.val hf hs (v := elemPtr lA (k2 * 2)) rfl rfl rfl (V.index rfl rfl rfl Try.runUnderlying52 Try.sizeOf59 (hv_l.some_ (lt_of_get hxk2)) (Int.natCast_nonneg _) (lt_of_get hxk2) rfl) (fun a hf => ?_)
            refine S.val hf hs (v := .agg #[.int .i64 xk2.From, .int .i64 xk2.To]) rfl rfl rfl (V.loadEl (off := 0) (Ag.args _ _ _) (hv_l.flat hxk2) rfl rfl rfl Try.isAgg59 Try.sizeOf59 rfl rfl) (fun a hf => ?_)
            refine S.alloc hf hs rfl rfl rfl [.int .i64 0, .int .i64 0] rfl Try.zeroValue59 rfl (fun g1 a w hf hs => ?_)
            refine S.val hf hs (v := .int .i64 (k2 : Int)) rfl rfl rfl (V.pure rfl) (fun a hf => ?_)
            refine S.storeBox 0 hf hs rfl rfl [.int .i64 xk2.From, .int .i64 xk2.To] [.int .i64 xk2.From, .int .i64 xk2.To] rfl rfl rfl rfl rfl Try.sizeOf59 rfl rfl rfl rfl (fun a w hf hs => ?_)
            refine R.nil ?_
            refine X.then_ ?_
            refine wp_seq ?_
            refine H.start (S := Sat w0 none_ [hbox g1 59 [.int .i64 xk2.From, .int .i64 xk2.To], hown 3 l2A l2C l2, hown 3 y2A y2C y2]) mo ?_
            replace hs := hs.drew
            refine H.val hf hs (v := .slice mA m.length mC) (i := 0) rfl rfl rfl rfl (by kernel_rfl) (by kernel_rfl) (by kernel_rfl) (V.pure rfl) (fun a hf => ?_)
            refine H.val hf hs (v := .slice s_A s_.length s_C) (i := 1) rfl rfl rfl rfl (by kernel_rfl) (by kernel_rfl) (by kernel_rfl) (V.pure rfl) (fun a hf => ?_)
            refine H.val hf hs (v := .slice y2A y2.length y2C) (i := 2) rfl rfl rfl rfl (by kernel_rfl) (by kernel_rfl) (by kernel_rfl) (V.pure rfl) (fun a hf => ?_)
            refine H.val hf hs (v := .pointer (some ⟨g1, 0, none⟩)) (i := 3) rfl rfl rfl rfl (by kernel_rfl) (by kernel_rfl) (by kernel_rfl) (V.fieldBox rfl rfl Try.runUnderlying59 rfl Try.sizeOf3 rfl rfl) (fun a hf => ?_)
            refine H.val hf hs (v := .int .i64 xk2.From) (i := 4) rfl rfl rfl rfl (by kernel_rfl) (by kernel_rfl) (by kernel_rfl) (V.loadBox 0 rfl rfl rfl Try.isAgg3 Try.sizeOf3 rfl rfl) (fun a hf => ?_)
            refine H.val hf hs (v := .int .i64 (w64 (xk2.From - 1))) (i := 5) rfl rfl rfl rfl (by kernel_rfl) (by kernel_rfl) (by kernel_rfl) (V.pure rfl) (fun a hf => ?_)
            obtain ⟨h0x1, x1, hx1, h⟩ := h
            refine H.val hf hs (v := elemPtr y2A ((w64 (xk2.From - 1)).toNat * 1)) (i := 6) rfl rfl rfl rfl (by kernel_rfl) (by kernel_rfl) (by kernel_rfl) (V.index rfl rfl rfl Try.runUnderlying43 Try.sizeOf3 (hs.ownSome 2 rfl (lt_of_get hx1)) h0x1 (lt_of_get hx1) rfl) (fun a hf => ?_)
            refine H.val hf hs (v := .int .i64 x1) (i := 7) rfl rfl rfl rfl (by kernel_rfl) (by kernel_rfl) (by kernel_rfl) (V.loadOwn (off := 0) 2 rfl hx1 rfl rfl rfl Try.isAgg3 Try.sizeOf3 rfl rfl) (fun a hf => ?_)
            refine H.val hf hs (v := .slice y2A y2.length y2C) (i := 8) rfl rfl rfl rfl (by kernel_rfl) (by kernel_rfl) (by kernel_rfl) (V.pure rfl) (fun a hf => ?_)
            refine H.val hf hs (v := .pointer (some ⟨g1, 1, none⟩)) (i := 9) rfl rfl rfl rfl (by kernel_rfl) (by kernel_rfl) (by kernel_rfl) (V.fieldBox rfl rfl Try.runUnderlying59 rfl Try.sizeOf3 rfl rfl) (fun a hf => ?_)
            refine H.val hf hs (v := .int .i64 xk2.To) (i := 10) rfl rfl rfl rfl (by kernel_rfl) (by kernel_rfl) (by kernel_rfl) (V.loadBox 0 rfl rfl rfl Try.isAgg3 Try.sizeOf3 rfl rfl) (fun a hf => ?_)
            refine H.val hf hs (v := .int .i64 (w64 (xk2.To - 1))) (i := 11) rfl rfl rfl rfl (by kernel_rfl) (by kernel_rfl) (by kernel_rfl) (V.pure rfl) (fun a hf => ?_)
            obtain ⟨h0x2, x2, hx2, h⟩ := h
            refine H.val hf hs (v := elemPtr y2A ((w64 (xk2.To - 1)).toNat * 1)) (i := 12) rfl rfl rfl rfl (by kernel_rfl) (by kernel_rfl) (by kernel_rfl) (V.index rfl rfl rfl Try.runUnderlying43 Try.sizeOf3 (hs.ownSome 2 rfl (lt_of_get hx2)) h0x2 (lt_of_get hx2) rfl) (fun a hf => ?_)
            refine H.val hf hs (v := .int .i64 x2) (i := 13) rfl rfl rfl rfl (by kernel_rfl) (by kernel_rfl) (by kernel_rfl) (V.loadOwn (off := 0) 2 rfl hx2 rfl rfl rfl Try.isAgg3 Try.sizeOf3 rfl rfl) (fun a hf => ?_)
            refine H.val hf hs (v := .int .i64 (w64 (x2 + 1))) (i := 14) rfl rfl rfl rfl (by kernel_rfl) (by kernel_rfl) (by kernel_rfl) (V.pure rfl) (fun a hf => ?_)
            obtain ⟨hp1, h⟩ := h
            refine H.val hf hs (v := .slice (segA s_A s_C (x1 : Int).toNat 2) (seg s_ x1 (w64 (x2 + 1))).length (s_C - (x1 : Int).toNat)) (i := 15) rfl rfl rfl rfl (by kernel_rfl) (by kernel_rfl) (by kernel_rfl) (V.slice rfl rfl rfl rfl Try.runUnderlying23 Try.sizeOf35 rfl rfl hp1 hv_s_.cap (seg_length (by have := hp1.2.2; omega))) (fun a hf => ?_)
            refine H.val hf hs (v := .int .i64 most) (i := 18) rfl rfl rfl rfl (by kernel_rfl) (by kernel_rfl) (by kernel_rfl) (V.pure rfl) (fun a hf => ?_)
            refine H.val hf hs (v := .slice sizesA sizes.length sizesC) (i := 19) rfl rfl rfl rfl (by kernel_rfl) (by kernel_rfl) (by kernel_rfl) (V.pure rfl) (fun a hf => ?_)
            refine H.val hf hs (v := .int .i64 (k2 : Int)) (i := 20) rfl rfl rfl rfl (by kernel_rfl) (by kernel_rfl) (by kernel_rfl) (V.pure rfl) (fun a hf => ?_)
            obtain ⟨h0x3, x3, hx3, h⟩ := h
            refine H.val hf hs (v := elemPtr sizesA (k2 * 1)) (i := 21) rfl rfl rfl rfl (by kernel_rfl) (by kernel_rfl) (by kernel_rfl) (V.index rfl rfl rfl Try.runUnderlying43 Try.sizeOf3 (hv_sizes.some_ (lt_of_get hx3)) (Int.natCast_nonneg _) (lt_of_get hx3) rfl) (fun a hf => ?_)
            refine H.val hf hs (v := .int .i64 x3) (i := 22) rfl rfl rfl rfl (by kernel_rfl) (by kernel_rfl) (by kernel_rfl) (V.loadEl (off := 0) (Ag.args _ _ _) (hv_sizes.flat hx3) rfl rfl rfl Try.isAgg3 Try.sizeOf3 rfl rfl) (fun a hf => ?_)
            refine H.val hf hs (v := .int .i64 (w64 (most * x3))) (i := 23) rfl rfl rfl rfl (by kernel_rfl) (by kernel_rfl) (by kernel_rfl) (V.pure rfl) (fun a hf => ?_)
            refine H.one (i := 16) rfl (by kernel_rfl) ?_
            refine S.call hf rfl rfl rfl (call_fn (vs := [.slice mA m.length mC, .slice (segA s_A s_C (x1 : Int).toNat 2) (seg s_ x1 (w64 (x2 + 1))).length (s_C - (x1 : Int).toNat)]) rfl rfl rfl Try.call55) (R_ref4_thickness m (seg s_ x1 (w64 (x2 + 1))) _ mA mC ((Ag.args _ _ _).view hv_m hs) (segA s_A s_C (x1 : Int).toNat 2) (s_C - (x1 : Int).toNat) ((Ag.args _ _ _).view (View.sub hv_s_ hp1) hs) _ h) (fun v a w' hf hr => ?_)
            obtain ⟨y3, rfl, h2, hs2⟩ := hr
            replace h := h2; replace hs := hs.call hs2; clear h2 hs2
            refine R.nil ?_
            refine X.then_ ?_
            refine ⟨hs, ?_⟩
            refine H.val hf hs (v := .int .i64 (w64 (10 * y3))) (i := 17) rfl rfl rfl rfl (by kernel_rfl) (by kernel_rfl) (by kernel_rfl) (V.pure rfl) (fun a hf => ?_)
            refine H.val hf hs (v := .bool (decide (w64 (10 * y3) > w64 (most * x3)))) (i := 24) rfl rfl rfl rfl (by kernel_rfl) (by kernel_rfl) (by kernel_rfl) (V.pure rfl) (fun a hf => ?_)
            refine H.done (by kernel_rfl) ?_
            refine X.then_ ?_
            refine C.cond hf (b := decide (w64 (10 * y3) > w64 (most * x3))) rfl (fun hc => ?_) (fun hc => ?_)
            · replace h := h.1 hc
              refine R.list ?_
              refine S.val hf hs (v := .slice l2A l2.length l2C) rfl rfl rfl (V.pure rfl) (fun a hf => ?_)
              refine S.val hf hs (v := .int .i64 (k2 : Int)) rfl rfl rfl (V.pure rfl) (fun a hf => ?_)
              refine S.build1 hf hs rfl rfl rfl (α := Int) (k2 : Int) rfl rfl rfl Try.runUnderlying43 Try.sizeOf3 Try.zeroValue3 rfl (by decide) (fun A1 a w hf hs => ?_)
              obtain ⟨hroom, h⟩ := h
              refine S.appendCells 2 hf hs rfl rfl rfl rfl rfl rfl rfl Try.underlying43 info3 rfl hroom ((hs.ownView 0 rfl).some_ (i := 0) (by simp)) (hs.ownView 0 rfl) (fun A2 C1 a w hf hs => ?_)
              replace hs := hs.drop
              refine S.val hf hs (v := .slice A2 (l2 ++ [(k2 : Int)]).length C1) rfl rfl rfl (V.pure rfl) (fun a hf => ?_)
              refine R.nil ?_
              refine X.blk ?_
              refine X.then_ ?_
              refine R.list ?_
              refine S.val hf hs (v := .int .i64 ((k2 + 1 : Nat) : Int)) rfl rfl rfl (V.incr rfl rfl rfl hltk2 hlenk2) (fun a hf => ?_)
              refine S.val hf hs (v := .int .i64 ((k2 + 1 : Nat) : Int)) rfl rfl rfl (V.pure rfl) (fun a hf => ?_)
              refine R.nil ?_
              refine X.then_ ?_
              exact ⟨xk2, llk2, rfl, k2 + 1, (l2 ++ [(k2 : Int)]), A2, C1, range_drop hlk2, range_len hkk2, (by rw [hnext2] at h; exact h), (((((((((hf.nil.cons (hf.get 48 _ rfl)).cons (hf.get 47 _ rfl)).cons (hf.get 16 _ rfl)).cons (hf.get 15 _ rfl)).cons (hf.get 4 _ rfl)).cons (hf.get 3 _ rfl)).cons (hf.get 1 _ rfl)).cons (hf.get 0 _ rfl)).cons (hf.get 49 _ rfl)), hs.drop⟩
            · replace h := h.2 hc
              refine wp_skip ?_
              refine X.blk ?_
              refine X.then_ ?_
              refine R.list ?_
              refine S.val hf hs (v := .int .i64 ((k2 + 1 : Nat) : Int)) rfl rfl rfl (V.incr rfl rfl rfl hltk2 hlenk2) (fun a hf => ?_)
              refine S.val hf hs (v := .int .i64 ((k2 + 1 : Nat) : Int)) rfl rfl rfl (V.pure rfl) (fun a hf => ?_)
              refine R.nil ?_
              refine X.then_ ?_
              exact ⟨xk2, llk2, rfl, k2 + 1, l2, l2A, l2C, range_drop hlk2, range_len hkk2, (by rw [hnext2] at h; exact h), (((((((((hf.nil.cons (hf.get 48 _ rfl)).cons (hf.get 47 _ rfl)).cons (hf.get 16 _ rfl)).cons (hf.get 15 _ rfl)).cons (hf.get 4 _ rfl)).cons (hf.get 3 _ rfl)).cons (hf.get 1 _ rfl)).cons (hf.get 0 _ rfl)).cons (hf.get 49 _ rfl)), hs.drop⟩
      | cons xk1 llk1 =>
        have hltk1 := range_lt hkk1; have hc := range_go hkk1; have hxk1 := range_get hlk1
        obtain ⟨next1, hnext1⟩ : ∃ X : Prop, X = (forIn' (fun k x (s : Unit) next => M_ref4_Slim_L1 Q k x (next ())) (fun (s : Unit) => cnd (!(within most 1 1000)) (Q ([] : List Int) 1) (M_ref4_coppers m s_ fun y2 => forIn' (fun k x (s : List Int) next => M_ref4_Slim_L2 m s_ sizes most y2 k x s (fun l2 => next l2)) (fun (s : List Int) => (fun (l2 : List Int) => Q l2 0) s) l 0 ([] : List Int))) llk1 (k1 + 1) ()) := ⟨_, rfl⟩
        replace h : M_ref4_Slim_L1 Q k1 xk1  next1 := by rw [hnext1]; exact h
        unfold M_ref4_Slim_L1 at h
        refine wp_seq ?_
        refine R.list ?_
        refine S.val hf hs (v := .bool true) rfl rfl rfl (V.cmp true rfl rfl rfl rfl hc) (fun a hf => ?_)
        refine R.nil ?_
        refine X.then_ ?_
        refine wp_seq ?_
        refine C.yes hf rfl ?_
        refine wp_skip ?_
        refine X.then_ ?_
        refine wp_seq ?_
        refine wp_block ?_
        refine wp_seq ?_
        refine R.list ?_
        refine S.val hf hs (v := elemPtr sizesA (k1 * 1)) rfl rfl rfl (V.index rfl rfl rfl Try.runUnderlying43 Try.sizeOf3 (hv_sizes.some_ (lt_of_get hxk1)) (Int.natCast_nonneg _) (lt_of_get hxk1) rfl) (fun a hf => ?_)
        refine S.val hf hs (v := .int .i64 xk1) rfl rfl rfl (V.loadEl (off := 0) (Ag.args _ _ _) (hv_sizes.flat hxk1) rfl rfl rfl Try.isAgg3 Try.sizeOf3 rfl rfl) (fun a hf => ?_)
        refine S.val hf hs (v := .int .i64 xk1) rfl rfl rfl (V.pure rfl) (fun a hf => ?_)
        refine R.nil ?_
        refine X.then_ ?_
        refine wp_seq ?_
        refine R.list ?_
        refine S.val hf hs (v := .int .i64 xk1) rfl rfl rfl (V.pure rfl) (fun a hf => ?_)
        refine S.callv hf rfl rfl rfl (call_fn (vs := [.int .i64 xk1, .int .i64 1, .int .i64 2000]) rfl rfl rfl Try.call59) (C_ref4_within xk1 1 2000 _ ) (fun a w hf hs' => ?_)
        replace hs := hs.call hs'; clear hs'
        refine S.val hf hs (v := .bool (!(within xk1 1 2000))) rfl rfl rfl (V.pure rfl) (fun a hf => ?_)
        refine R.nil ?_
        refine X.then_ ?_
        refine C.cond hf (b := !(within xk1 1 2000)) rfl (fun hc => ?_) (fun hc => ?_)
        · replace h := h.1 hc
          refine wp_seq ?_
          refine R.list ?_
          refine S.val hf hs (v := .slice none 0 0) rfl rfl rfl (V.pure rfl) (fun a hf => ?_)
          refine S.val hf hs (v := .int .i64 1) rfl rfl rfl (V.pure rfl) (fun a hf => ?_)
          refine R.nil ?_
          refine X.then_ ?_
          refine wp_ret ?_
          refine X.blk_ret ?_
          refine X.then_ret ?_
          refine X.then_ret ?_
          refine X.blk_ret ?_
          refine X.then_ret ?_
          replace hs := hs.nilOwn (α := Int) 3
          replace hs := hs.take 1
          exact L.ret hf (run_results2 Try.results51 (ResIs.tmp hf rfl) (ResIs.tmp hf rfl)) ⟨([] : List Int), none, 0, 1, rfl, h, hs⟩
        · replace h := h.2 hc
          refine wp_skip ?_
          refine X.blk ?_
          refine X.then_ ?_
          refine R.list ?_
          refine S.val hf hs (v := .int .i64 ((k1 + 1 : Nat) : Int)) rfl rfl rfl (V.incr rfl rfl rfl hltk1 hlenk1) (fun a hf => ?_)
          refine S.val hf hs (v := .int .i64 ((k1 + 1 : Nat) : Int)) rfl rfl rfl (V.pure rfl) (fun a hf => ?_)
          refine R.nil ?_
          refine X.then_ ?_
          exact ⟨xk1, llk1, rfl, k1 + 1, range_drop hlk1, range_len hkk1, (by rw [hnext1] at h; exact h), ((((((((hf.nil.cons (hf.get 32 _ rfl)).cons (hf.get 31 _ rfl)).cons (hf.get 4 _ rfl)).cons (hf.get 3 _ rfl)).cons (hf.get 2 _ rfl)).cons (hf.get 1 _ rfl)).cons (hf.get 0 _ rfl)).cons (hf.get 33 _ rfl)), hs⟩

set_option linter.unusedVariables false
def M_equal_bool_L1 (s2 : (List Bool)) (Q : Bool → Prop) (k1 : Nat) (xk1 : Bool)  (next1 : Prop) : Prop :=
  idx s2 (k1 : Int) fun x1 => cnd (!(xk1 == x1)) (Q false) (next1)
def M_equal_bool (s1 : (List Bool)) (s2 : (List Bool)) (Q : Bool → Prop) : Prop :=
  cnd ((s1.length : Int) != (s2.length : Int)) (Q false) (forIn' (fun k x (s : Unit) next => M_equal_bool_L1 s2 Q k x (next ())) (fun (s : Unit) => Q true) s1 0 ())
set_option maxHeartbeats 1000000 in
theorem R_equal_bool (s1 : (List Bool)) (s2 : (List Bool)) (w0 : World) (s1A : Option Addr) (s1C : Nat) (hv_s1 : View w0 (old w0 none_) s1A s1C s1) (s2A : Option Addr) (s2C : Nat) (hv_s2 : View w0 (old w0 none_) s2A s2C s2) (Q : Bool → Prop) (h : M_equal_bool s1 s2 Q) :
    Ret Try.prog 109 #[.slice s1A s1.length s1C, .slice s2A s2.length s2C] w0 fun v w' => ∃ (r0 : Bool), v = .bool r0 ∧ Q r0 ∧ Sat w0 none_ [] w' := by
  refine fn_enter Try.func109 rfl Try.ntmps109 rfl (fs := [(0, .slice s1A s1.length s1C), (1, .slice s2A s2.length s2C)]) rfl (fun a hf => ?_)
  have hs := Sat.start w0 none_
  unfold M_equal_bool at h
  refine wp_seq ?_
  refine R.list ?_
  refine S.val hf hs (v := .bool false) rfl rfl rfl (V.pure rfl) (fun a hf => ?_)
  refine R.nil ?_
  refine X.then_ ?_
  refine wp_seq ?_
  refine wp_seq ?_
  refine R.list ?_
  refine S.val hf hs (v := .slice s1A s1.length s1C) rfl rfl rfl (V.pure rfl) (fun a hf => ?_)
  refine S.val hf hs (v := .int .i64 (s1.length : Int)) rfl rfl rfl (V.len rfl rfl Try.runUnderlying115) (fun a hf => ?_)
  refine S.val hf hs (v := .slice s2A s2.length s2C) rfl rfl rfl (V.pure rfl) (fun a hf => ?_)
  refine S.val hf hs (v := .int .i64 (s2.length : Int)) rfl rfl rfl (V.len rfl rfl Try.runUnderlying115) (fun a hf => ?_)
  refine S.val hf hs (v := .bool ((s1.length : Int) != (s2.length : Int))) rfl rfl rfl (V.pure rfl) (fun a hf => ?_)
  refine R.nil ?_
  refine X.then_ ?_
  refine C.cond hf (b := (s1.length : Int) != (s2.length : Int)) rfl (fun hc => ?_) (fun hc => ?_)
  · replace h := h.1 hc
    refine wp_seq ?_
    refine R.list ?_
    refine S.val hf hs (v := .bool false) rfl rfl rfl (V.pure rfl) (fun a hf => ?_)
    refine R.nil ?_
    refine X.then_ ?_
    refine wp_ret ?_
    refine X.then_ret ?_
    exact L.ret hf (run_results1 Try.results109 (ResIs.tmp hf rfl)) ⟨false, rfl, h, hs.nil⟩
  · replace h := h.2 hc
    refine wp_skip ?_
    refine X.then_ ?_
    refine wp_seq ?_
    refine wp_seq ?_
    refine R.list ?_
    refine S.val hf hs (v := .slice s1A s1.length s1C) rfl rfl rfl (V.pure rfl) (fun a hf => ?_)
    refine S.val hf hs (v := .int .i64 (s1.length : Int)) rfl rfl rfl (V.len rfl rfl Try.runUnderlying115) (fun a hf => ?_)
    refine S.val hf hs (v := .int .i64 0) rfl rfl rfl (V.pure rfl) (fun a hf => ?_)
    refine R.nil ?_
    refine X.then_ ?_
    refine wp_block ?_
    have hlenk1 := hv_s1.len64
    refine C.range (fun (ll : List Bool) a w => ∃ (k1 : Nat) , s1.drop k1 = ll ∧ k1 + ll.length = s1.length ∧ forIn' (fun k x (s : Unit) next => M_equal_bool_L1 s2 Q k x (next ())) (fun (s : Unit) => Q true) ll k1 () ∧ FrOk 26 [(13, .int .i64 (k1 : Int)), (0, .slice s1A s1.length s1C), (1, .slice s2A s2.length s2C), (12, .int .i64 (s1.length : Int))] a ∧ Sat w0 none_ [] w) s1 ⟨0, rfl, Nat.zero_add _, h, ((((hf.nil.cons (hf.get 12 _ rfl)).cons (hf.get 1 _ rfl)).cons (hf.get 0 _ rfl)).cons (hf.get 13 _ rfl)), hs⟩ ?_
    clear h hf hs
    rintro llk1 a w ⟨k1, hlk1, hkk1, h, hf, hs⟩
    cases llk1 with
    | nil =>
      have hc := range_done hkk1
      replace h : Q true := h
      refine wp_seq ?_
      refine R.list ?_
      refine S.val hf hs (v := .bool false) rfl rfl rfl (V.cmp false rfl rfl rfl rfl hc) (fun a hf => ?_)
      refine R.nil ?_
      refine X.then_ ?_
      refine wp_seq ?_
      refine C.no hf rfl ?_
      refine wp_exit ?_
      refine X.then_exit ?_
      refine X.then_exit ?_
      refine X.blk_exit ?_
      refine X.then_ ?_
      refine wp_seq ?_
      refine R.list ?_
      refine S.val hf hs (v := .bool true) rfl rfl rfl (V.pure rfl) (fun a hf => ?_)
      refine R.nil ?_
      refine X.then_ ?_
      refine wp_ret ?_
      exact L.ret hf (run_results1 Try.results109 (ResIs.tmp hf rfl)) ⟨true, rfl, h, hs.nil⟩
    | cons xk1 llk1 =>
      have hltk1 := range_lt hkk1; have hc := range_go hkk1; have hxk1 := range_get hlk1
      obtain ⟨next1, hnext1⟩ : ∃ X : Prop, X = (forIn' (fun k x (s : Unit) next => M_equal_bool_L1 s2 Q k x (next ())) (fun (s : Unit) => Q true) llk1 (k1 + 1) ()) := ⟨_, rfl⟩
      replace h : M_equal_bool_L1 s2 Q k1 xk1  next1 := by rw [hnext1]; exact h
      unfold M_equal_bool_L1 at h
      refine wp_seq ?_
      refine R.list ?_
      refine S.val hf hs (v := .bool true) rfl rfl rfl (V.cmp true rfl rfl rfl rfl hc) (fun a hf => ?_)
      refine R.nil ?_
      refine X.then_ ?_
      refine wp_seq ?_
      refine C.yes hf rfl ?_
      refine wp_skip ?_
      refine X.then_ ?_
      refine wp_seq ?_
      refine wp_block ?_
      refine wp_seq ?_
      refine R.list ?_
      refine S.val hf hs (v := .int .i64 (k1 : Int)) rfl rfl rfl (V.pure rfl) (fun a hf => ?_)
      refine S.val hf hs (v := .int .i64 (k1 : Int)) rfl rfl rfl (V.pure rfl) (fun a hf => ?_)
      refine R.nil ?_
      refine X.then_ ?_
      refine wp_seq ?_
      refine R.draw mo (by kernel_rfl) hs ?_
      refine D.val hf (v := .slice s1A s1.length s1C) rfl rfl rfl (V.pure rfl) (fun a hf => ?_)
      refine D.val hf (v := .int .i64 (k1 : Int)) rfl rfl rfl (V.pure rfl) (fun a hf => ?_)
      refine D.val hf (v := elemPtr s1A (k1 * 1)) rfl rfl rfl (V.index rfl rfl rfl Try.runUnderlying115 Try.sizeOf4 (hv_s1.some_ (lt_of_get hxk1)) (Int.natCast_nonneg _) (lt_of_get hxk1) rfl) (fun a hf => ?_)
      refine D.val hf (v := .bool xk1) rfl rfl rfl (V.loadEl (off := 0) (Ag.args _ _ _) (hv_s1.flat hxk1) rfl rfl rfl Try.isAgg4 Try.sizeOf4 rfl rfl) (fun a hf => ?_)
      refine D.val hf (v := .slice s2A s2.length s2C) rfl rfl rfl (V.pure rfl) (fun a hf => ?_)
      refine D.val hf (v := .int .i64 (k1 : Int)) rfl rfl rfl (V.pure rfl) (fun a hf => ?_)
      obtain ⟨h0x1, x1, hx1, h⟩ := h
      refine D.val hf (v := elemPtr s2A (k1 * 1)) rfl rfl rfl (V.index rfl rfl rfl Try.runUnderlying115 Try.sizeOf4 (hv_s2.some_ (lt_of_get hx1)) (Int.natCast_nonneg _) (lt_of_get hx1) rfl) (fun a hf => ?_)
      refine D.val hf (v := .bool x1) rfl rfl rfl (V.loadEl (off := 0) (Ag.args _ _ _) (hv_s2.flat hx1) rfl rfl rfl Try.isAgg4 Try.sizeOf4 rfl rfl) (fun a hf => ?_)
      refine D.val hf (v := .bool (!(xk1 == x1))) rfl rfl rfl (V.boolEq rfl rfl rfl Try.underlying4 rfl) (fun a hf => ?_)
      refine D.done (fun w hs => ?_)
      refine X.then_ ?_
      refine C.cond hf (b := !(xk1 == x1)) rfl (fun hc => ?_) (fun hc => ?_)
      · replace h := h.1 hc
        refine wp_seq ?_
        refine R.list ?_
        refine S.val hf hs (v := .bool false) rfl rfl rfl (V.pure rfl) (fun a hf => ?_)
        refine R.nil ?_
        refine X.then_ ?_
        refine wp_ret ?_
        refine X.blk_ret ?_
        refine X.then_ret ?_
        refine X.then_ret ?_
        refine X.blk_ret ?_
        refine X.then_ret ?_
        exact L.ret hf (run_results1 Try.results109 (ResIs.tmp hf rfl)) ⟨false, rfl, h, hs.nil⟩
      · replace h := h.2 hc
        refine wp_skip ?_
        refine X.blk ?_
        refine X.then_ ?_
        refine R.list ?_
        refine S.val hf hs (v := .int .i64 ((k1 + 1 : Nat) : Int)) rfl rfl rfl (V.incr rfl rfl rfl hltk1 hlenk1) (fun a hf => ?_)
        refine S.val hf hs (v := .int .i64 ((k1 + 1 : Nat) : Int)) rfl rfl rfl (V.pure rfl) (fun a hf => ?_)
        refine R.nil ?_
        refine X.then_ ?_
        exact ⟨xk1, llk1, rfl, k1 + 1, range_drop hlk1, range_len hkk1, (by rw [hnext1] at h; exact h), ((((hf.nil.cons (hf.get 12 _ rfl)).cons (hf.get 1 _ rfl)).cons (hf.get 0 _ rfl)).cons (hf.get 13 _ rfl)), hs⟩

set_option linter.unusedVariables false
def M_ref4_sameReach_L1 (a_ : (List Through)) (b : (List Through)) (many : Int) (Q : Bool → Prop) (again1 : Int → Prop) (n2 : Int) : Prop :=
  cnd (decide (n2 ≤ many)) (M_ref4_reach a_ many n2 fun y1 => M_ref4_reach b many n2 fun y2 => M_equal_bool y1 y2 fun y3 => cnd (!y3) (Q false) (again1 (w64 (n2 + 1)))) (Q true)
def M_ref4_sameReach (a_ : (List Through)) (b : (List Through)) (many : Int) (Q : Bool → Prop) : Prop :=
  lp (fun again (s : Int) => M_ref4_sameReach_L1 a_ b many Q (fun n2 => again n2) s) 1
set_option maxHeartbeats 1000000 in
theorem R_ref4_sameReach (a_ : (List Through)) (b : (List Through)) (many : Int) (w0 : World) (a_A : Option Addr) (a_C : Nat) (hv_a_ : View w0 (old w0 none_) a_A a_C a_) (bA : Option Addr) (bC : Nat) (hv_b : View w0 (old w0 none_) bA bC b) (Q : Bool → Prop) (h : M_ref4_sameReach a_ b many Q) :
    Ret Try.prog 92 #[.slice a_A a_.length a_C, .slice bA b.length bC, .int .i64 many] w0 fun v w' => ∃ (r0 : Bool), v = .bool r0 ∧ Q r0 ∧ Sat w0 none_ [] w' := by
  refine fn_enter Try.func92 rfl Try.ntmps92 rfl (fs := [(0, .slice a_A a_.length a_C), (1, .slice bA b.length bC), (2, .int .i64 many)]) rfl (fun a hf => ?_)
  have hs := Sat.start w0 none_
  unfold M_ref4_sameReach at h
  refine wp_seq ?_
  refine R.list ?_
  refine S.val hf hs (v := .bool false) rfl rfl rfl (V.pure rfl) (fun a hf => ?_)
  refine R.nil ?_
  refine X.then_ ?_
  refine wp_seq ?_
  refine wp_seq ?_
  refine R.list ?_
  refine S.val hf hs (v := .int .i64 1) rfl rfl rfl (V.pure rfl) (fun a hf => ?_)
  refine R.nil ?_
  refine X.then_ ?_
  refine wp_block ?_
  obtain ⟨kk, h⟩ := h
  refine C.loop (fun kk a w => ∃ (n2 : Int), iterF (fun again (s : Int) => M_ref4_sameReach_L1 a_ b many Q (fun n2 => again n2) s) kk n2 ∧ FrOk 23 [(0, .slice a_A a_.length a_C), (1, .slice bA b.length bC), (2, .int .i64 many), (7, .int .i64 n2)] a ∧ Sat w0 none_ [] w) kk ⟨1, h, ((((hf.nil.cons (hf.get 7 _ rfl)).cons (hf.get 2 _ rfl)).cons (hf.get 1 _ rfl)).cons (hf.get 0 _ rfl)), hs⟩ (fun a w ⟨_, h, _, _⟩ => h) ?_
  clear h hf hs
  rintro kk a w ⟨n2, h, hf, hs⟩
  obtain ⟨again1, hagain1⟩ : ∃ X : Int → Prop, X = (fun n2 => iterF (fun again (s : Int) => M_ref4_sameReach_L1 a_ b many Q (fun n2 => again n2) s) kk n2) := ⟨_, rfl⟩
  replace h : M_ref4_sameReach_L1 a_ b many Q again1 n2 := by rw [hagain1]; exact h
  unfold M_ref4_sameReach_L1 at h
  refine wp_seq ?_
  refine wp_seq ?_
  refine R.list ?_
  refine S.val hf hs (v := .int .i64 n2) rfl rfl rfl (V.pure rfl) (fun a hf => ?_)
  refine S.val hf hs (v := .int .i64 many) rfl rfl rfl (V.pure rfl) (fun a hf => ?_)
  refine S.val hf hs (v := .bool (decide (n2 ≤ many))) rfl rfl rfl (V.pure rfl) (fun a hf => ?_)
  refine R.nil ?_
  refine X.then_ ?_
  refine C.cond hf (b := decide (n2 ≤ many)) rfl (fun hc => ?_) (fun hc => ?_)
  · replace h := h.1 hc
    refine wp_skip ?_
    refine X.then_ ?_
    refine wp_seq ?_
    refine wp_block ?_
    refine wp_seq ?_
    refine R.list ?_
    refine S.val hf hs (v := .slice a_A a_.length a_C) rfl rfl rfl (V.pure rfl) (fun a hf => ?_)
    refine S.val hf hs (v := .int .i64 many) rfl rfl rfl (V.pure rfl) (fun a hf => ?_)
    refine S.val hf hs (v := .int .i64 n2) rfl rfl rfl (V.pure rfl) (fun a hf => ?_)
    refine S.call hf rfl rfl rfl (call_fn (vs := [.slice a_A a_.length a_C, .int .i64 many, .int .i64 n2]) rfl rfl rfl Try.call88) (R_ref4_reach a_ many n2 _ a_A a_C ((Ag.args _ _ _).view hv_a_ hs) _ h) (fun v a w' hf hr => ?_)
    obtain ⟨y1, y1A, y1C, rfl, h2, hs2⟩ := hr
    replace h := h2; replace hs := hs.call hs2; clear h2 hs2
    refine S.val hf hs (v := .slice bA b.length bC) rfl rfl rfl (V.pure rfl) (fun a hf => ?_)
    refine S.val hf hs (v := .int .i64 many) rfl rfl rfl (V.pure rfl) (fun a hf => ?_)
    refine S.val hf hs (v := .int .i64 n2) rfl rfl rfl (V.pure rfl) (fun a hf => ?_)
    refine S.call hf rfl rfl rfl (call_fn (vs := [.slice bA b.length bC, .int .i64 many, .int .i64 n2]) rfl rfl rfl Try.call88) (R_ref4_reach b many n2 _ bA bC ((Ag.args _ _ _).view hv_b hs) _ h) (fun v a w' hf hr => ?_)
    obtain ⟨y2, y2A, y2C, rfl, h2, hs2⟩ := hr
    replace h := h2; replace hs := hs.call hs2; clear h2 hs2
    refine S.call hf rfl rfl rfl (call_fn (vs := [.slice y1A y1.length y1C, .slice y2A y2.length y2C]) rfl rfl rfl Try.call109) (R_equal_bool y1 y2 _ y1A y1C (hs.ownView 1 rfl) y2A y2C (hs.ownView 0 rfl) _ h) (fun v a w' hf hr => ?_)
    obtain ⟨y3, rfl, h2, hs2⟩ := hr
    replace h := h2; replace hs := hs.call hs2; clear h2 hs2
    refine S.val hf hs (v := .bool (!y3)) rfl rfl rfl (V.pure rfl) (fun a hf => ?_)
    refine R.nil ?_
    refine X.then_ ?_
    refine C.cond hf (b := !y3) rfl (fun hc => ?_) (fun hc => ?_)
    · replace h := h.1 hc
      refine wp_seq ?_
      refine R.list ?_
      refine S.val hf hs (v := .bool false) rfl rfl rfl (V.pure rfl) (fun a hf => ?_)
      refine R.nil ?_
      refine X.then_ ?_
      refine wp_ret ?_
      refine X.blk_ret ?_
      refine X.then_ret ?_
      refine X.then_ret ?_
      refine X.blk_ret ?_
      refine X.then_ret ?_
      exact L.ret hf (run_results1 Try.results92 (ResIs.tmp hf rfl)) ⟨false, rfl, h, hs.nil⟩
    · replace h := h.2 hc
      refine wp_skip ?_
      refine X.blk ?_
      refine X.then_ ?_
      refine R.list ?_
      refine S.val hf hs (v := .int .i64 n2) rfl rfl rfl (V.pure rfl) (fun a hf => ?_)
      refine S.val hf hs (v := .int .i64 (w64 (n2 + 1))) rfl rfl rfl (V.pure rfl) (fun a hf => ?_)
      refine S.val hf hs (v := .int .i64 (w64 (n2 + 1))) rfl rfl rfl (V.pure rfl) (fun a hf => ?_)
      refine R.nil ?_
      refine X.then_ ?_
      exact ⟨(w64 (n2 + 1)), (by rw [hagain1] at h; exact h), ((((hf.nil.cons (hf.get 7 _ rfl)).cons (hf.get 2 _ rfl)).cons (hf.get 1 _ rfl)).cons (hf.get 0 _ rfl)), hs.drop.drop⟩
  · replace h := h.2 hc
    refine wp_exit ?_
    refine X.then_exit ?_
    refine X.then_exit ?_
    refine X.blk_exit ?_
    refine X.then_ ?_
    refine wp_seq ?_
    refine R.list ?_
    refine S.val hf hs (v := .bool true) rfl rfl rfl (V.pure rfl) (fun a hf => ?_)
    refine R.nil ?_
    refine X.then_ ?_
    refine wp_ret ?_
    exact L.ret hf (run_results1 Try.results92 (ResIs.tmp hf rfl)) ⟨true, rfl, h, hs.nil⟩

set_option linter.unusedVariables false
def M_ref4_Fewest_k2 (l2 : List Through) (n2 : Int) (again1 : List Through → Int → Prop) (y4 : (List Through)) (c1 : Bool) : Prop :=
  cnd c1 (again1 y4 (w64 (n2 - 1))) (again1 l2 (w64 (n2 - 1)))
def M_ref4_Fewest_L1 (m : (List Material)) (s_ : (List Layer)) (l : (List Through)) (Q : (List Through) → Int → Prop) (again1 : List Through → Int → Prop) (l2 : List Through) (n2 : Int) : Prop :=
  cnd (decide (n2 ≥ 0)) (M_clone_thr l2 fun y3 => M_delete_thr y3 n2 (w64 (n2 + 1)) fun y4 => M_ref4_CheckSpans m s_ y4 fun y5 => cnd (y5 == 0) (M_ref4_coppers m s_ fun y6 => M_ref4_sameReach l y4 (y6.length : Int) fun y7 => M_ref4_Fewest_k2 l2 n2 again1 y4 y7) (M_ref4_Fewest_k2 l2 n2 again1 y4 false)) (Q l2 0)
def M_ref4_Fewest (m : (List Material)) (s_ : (List Layer)) (l : (List Through)) (Q : (List Through) → Int → Prop) : Prop :=
  M_ref4_CheckSpans m s_ l fun y1 => cnd (y1 != 0) (Q ([] : List Through) y1) (M_clone_thr l fun y2 => lp (fun again (s : List Through × Int) => M_ref4_Fewest_L1 m s_ l Q (fun l2 n2 => again (l2, n2)) s.1 s.2) (y2, w64 ((y2.length : Int) - 1)))
set_option maxHeartbeats 1000000 in
theorem R_ref4_Fewest (m : (List Material)) (s_ : (List Layer)) (l : (List Through)) (w0 : World) (mA : Option Addr) (mC : Nat) (hv_m : View w0 (old w0 none_) mA mC m) (s_A : Option Addr) (s_C : Nat) (hv_s_ : View w0 (old w0 none_) s_A s_C s_) (lA : Option Addr) (lC : Nat) (hv_l : View w0 (old w0 none_) lA lC l) (Q : (List Through) → Int → Prop) (h : M_ref4_Fewest m s_ l Q) :
    Ret Try.prog 52 #[.slice mA m.length mC, .slice s_A s_.length s_C, .slice lA l.length lC] w0 fun v w' => ∃ (r0 : (List Through)) (r0A : Option Addr) (r0C : Nat) (r1 : Int), v = .tuple #[.slice r0A r0.length r0C, .int .i64 r1] ∧ Q r0 r1 ∧ Sat w0 none_ [hown 59 r0A r0C r0] w' := by
  refine fn_enter Try.func52 rfl Try.ntmps52 rfl (fs := [(0, .slice mA m.length mC), (1, .slice s_A s_.length s_C), (2, .slice lA l.length lC)]) rfl (fun a hf => ?_)
  have hs := Sat.start w0 none_
  unfold M_ref4_Fewest at h
  refine wp_seq ?_
  refine R.list ?_
  refine S.val hf hs (v := .slice none 0 0) rfl rfl rfl (V.pure rfl) (fun a hf => ?_)
  refine S.val hf hs (v := .int .i64 0) rfl rfl rfl (V.pure rfl) (fun a hf => ?_)
  refine R.nil ?_
  refine X.then_ ?_
  refine wp_seq ?_
  refine wp_seq ?_
  refine R.list ?_
  refine S.val hf hs (v := .slice mA m.length mC) rfl rfl rfl (V.pure rfl) (fun a hf => ?_)
  refine S.val hf hs (v := .slice s_A s_.length s_C) rfl rfl rfl (V.pure rfl) (fun a hf => ?_)
  refine S.val hf hs (v := .slice lA l.length lC) rfl rfl rfl (V.pure rfl) (fun a hf => ?_)
  refine S.call hf rfl rfl rfl (call_fn (vs := [.slice mA m.length mC, .slice s_A s_.length s_C, .slice lA l.length lC]) rfl rfl rfl Try.call46) (R_ref4_CheckSpans m s_ l _ mA mC ((Ag.args _ _ _).view hv_m hs) s_A s_C ((Ag.args _ _ _).view hv_s_ hs) lA lC ((Ag.args _ _ _).view hv_l hs) _ h) (fun v a w' hf hr => ?_)
  obtain ⟨y1, rfl, h2, hs2⟩ := hr
  replace h := h2; replace hs := hs.call hs2; clear h2 hs2
  refine S.val hf hs (v := .int .i64 y1) rfl rfl rfl (V.pure rfl) (fun a hf => ?_)
  refine R.nil ?_
  refine X.then_ ?_
  refine wp_seq ?_
  refine R.list ?_
  refine S.val hf hs (v := .int .i64 y1) rfl rfl rfl (V.pure rfl) (fun a hf => ?_)
  refine S.val hf hs (v := .bool (y1 != 0)) rfl rfl rfl (V.pure rfl) (fun a hf => ?_)
  refine R.nil ?_
  refine X.then_ ?_
  refine C.cond hf (b := y1 != 0) rfl (fun hc => ?_) (fun hc => ?_)
  · replace h := h.1 hc
    refine wp_seq ?_
    refine R.list ?_
    refine S.val hf hs (v := .int .i64 y1) rfl rfl rfl (V.pure rfl) (fun a hf => ?_)
    refine S.val hf hs (v := .slice none 0 0) rfl rfl rfl (V.pure rfl) (fun a hf => ?_)
    refine S.val hf hs (v := .int .i64 y1) rfl rfl rfl (V.pure rfl) (fun a hf => ?_)
    refine R.nil ?_
    refine X.then_ ?_
    refine wp_ret ?_
    refine X.then_ret ?_
    replace hs := hs.nilOwn (α := Through) 59
    replace hs := hs.take 1
    exact L.ret hf (run_results2 Try.results52 (ResIs.tmp hf rfl) (ResIs.tmp hf rfl)) ⟨([] : List Through), none, 0, y1, rfl, h, hs⟩
  · replace h := h.2 hc
    refine wp_skip ?_
    refine X.then_ ?_
    refine wp_seq ?_
    refine R.list ?_
    refine S.val hf hs (v := .slice lA l.length lC) rfl rfl rfl (V.pure rfl) (fun a hf => ?_)
    refine S.call hf rfl rfl rfl (call_fn (vs := [.slice lA l.length lC]) rfl rfl rfl Try.call80) (R_clone_thr l _ lA lC ((Ag.args _ _ _).view hv_l hs) _ h) (fun v a w' hf hr => ?_)
    obtain ⟨y2, y2A, y2C, rfl, h2, hs2⟩ := hr
    replace h := h2; replace hs := hs.call hs2; clear h2 hs2
    refine S.val hf hs (v := .slice y2A y2.length y2C) rfl rfl rfl (V.pure rfl) (fun a hf => ?_)
    refine R.nil ?_
    refine X.then_ ?_
    refine wp_seq ?_
    refine wp_seq ?_
    refine R.list ?_
    refine S.val hf hs (v := .slice y2A y2.length y2C) rfl rfl rfl (V.pure rfl) (fun a hf => ?_)
    refine S.val hf hs (v := .int .i64 (y2.length : Int)) rfl rfl rfl (V.len rfl rfl Try.runUnderlying52) (fun a hf => ?_)
    refine S.val hf hs (v := .int .i64 (w64 ((y2.length : Int) - 1))) rfl rfl rfl (V.pure rfl) (fun a hf => ?_)
    refine S.val hf hs (v := .int .i64 (w64 ((y2.length : Int) - 1))) rfl rfl rfl (V.pure rfl) (fun a hf => ?_)
    refine R.nil ?_
    refine X.then_ ?_
    refine wp_block ?_
    obtain ⟨kk, h⟩ := h
    refine C.loop (fun kk a w => ∃ (l2 : List Through) (l2A : Option Addr) (l2C : Nat) (n2 : Int), iterF (fun again (s : List Through × Int) => M_ref4_Fewest_L1 m s_ l Q (fun l2 n2 => again (l2, n2)) s.1 s.2) kk (l2, n2) ∧ FrOk 50 [(0, .slice mA m.length mC), (1, .slice s_A s_.length s_C), (2, .slice lA l.length lC), (9, .slice l2A l2.length l2C), (10, .int .i64 n2)] a ∧ Sat w0 none_ [hown 59 l2A l2C l2] w) kk ⟨y2, y2A, y2C, (w64 ((y2.length : Int) - 1)), h, (((((hf.nil.cons (hf.get 10 _ rfl)).cons (hf.get 9 _ rfl)).cons (hf.get 2 _ rfl)).cons (hf.get 1 _ rfl)).cons (hf.get 0 _ rfl)), hs⟩ (fun a w ⟨_, _, _, _, h, _, _⟩ => h) ?_
    clear h hf hs
    rintro kk a w ⟨l2, l2A, l2C, n2, h, hf, hs⟩
    obtain ⟨again1, hagain1⟩ : ∃ X : List Through → Int → Prop, X = (fun l2 n2 => iterF (fun again (s : List Through × Int) => M_ref4_Fewest_L1 m s_ l Q (fun l2 n2 => again (l2, n2)) s.1 s.2) kk (l2, n2)) := ⟨_, rfl⟩
    replace h : M_ref4_Fewest_L1 m s_ l Q again1 l2 n2 := by rw [hagain1]; exact h
    unfold M_ref4_Fewest_L1 at h
    refine wp_seq ?_
    refine wp_seq ?_
    refine R.list ?_
    refine S.val hf hs (v := .int .i64 n2) rfl rfl rfl (V.pure rfl) (fun a hf => ?_)
    refine S.val hf hs (v := .bool (decide (n2 ≥ 0))) rfl rfl rfl (V.pure rfl) (fun a hf => ?_)
    refine R.nil ?_
    refine X.then_ ?_
    refine C.cond hf (b := decide (n2 ≥ 0)) rfl (fun hc => ?_) (fun hc => ?_)
    · replace h := h.1 hc
      refine wp_skip ?_
      refine X.then_ ?_
      refine wp_seq ?_
      refine wp_block ?_
      refine wp_seq ?_
      refine R.list ?_
      refine S.val hf hs (v := .slice l2A l2.length l2C) rfl rfl rfl (V.pure rfl) (fun a hf => ?_)
      refine S.call hf rfl rfl rfl (call_fn (vs := [.slice l2A l2.length l2C]) rfl rfl rfl Try.call80) (R_clone_thr l2 _ l2A l2C (hs.ownView 0 rfl) _ h) (fun v a w' hf hr => ?_)
      obtain ⟨y3, y3A, y3C, rfl, h2, hs2⟩ := hr
      replace h := h2; replace hs := hs.call hs2; clear h2 hs2
      refine S.val hf hs (v := .int .i64 n2) rfl rfl rfl (V.pure rfl) (fun a hf => ?_)
      refine S.val hf hs (v := .int .i64 n2) rfl rfl rfl (V.pure rfl) (fun a hf => ?_)
      refine S.val hf hs (v := .int .i64 (w64 (n2 + 1))) rfl rfl rfl (V.pure rfl) (fun a hf => ?_)
      obtain ⟨F1, hsF, hback, hold, hrest⟩ := Sat.callOwns [hown 59 y3A y3C y3] (σ := [hown 59 l2A l2C l2]) hs
      refine S.call hf rfl rfl rfl (call_fn (vs := [.slice y3A y3.length y3C, .int .i64 n2, .int .i64 (w64 (n2 + 1))]) rfl rfl rfl Try.call91) (R_delete_thr y3 n2 (w64 (n2 + 1)) _ _ y3A y3C hsF _ h) (fun v a w' hf hr => ?_)
      obtain ⟨y4, y4A, y4C, rfl, h2, hs2⟩ := hr
      replace h := h2; replace hs := hback _ _ hs2; clear h2 hs2 hback hold hrest hsF
      refine S.val hf hs (v := .slice y4A y4.length y4C) rfl rfl rfl (V.pure rfl) (fun a hf => ?_)
      refine R.nil ?_
      refine X.then_ ?_
      refine wp_seq ?_
      refine C.cut (J := fun a w => ∃ (c1 : Bool), M_ref4_Fewest_k2 l2 n2 again1 y4 c1 ∧ FrOk 50 [(0, .slice mA m.length mC), (1, .slice s_A s_.length s_C), (2, .slice lA l.length lC), (9, .slice l2A l2.length l2C), (10, .int .i64 n2), (11, .slice y4A y4.length y4C), (47, .bool c1)] a ∧ Sat w0 none_ [hown 59 y4A y4C y4, hown 59 l2A l2C l2] w) ?_ ?_
      · rintro a w ⟨c1, h, hf, hs⟩
        unfold M_ref4_Fewest_k2 at h
        refine C.cond hf (b := c1) rfl (fun hc => ?_) (fun hc => ?_)
        · replace h := h.1 hc
          refine R.list ?_
          refine S.val hf hs (v := .slice y4A y4.length y4C) rfl rfl rfl (V.pure rfl) (fun a hf => ?_)
          refine S.val hf hs (v := .slice y4A y4.length y4C) rfl rfl rfl (V.pure rfl) (fun a hf => ?_)
          refine R.nil ?_
          refine X.blk ?_
          refine X.then_ ?_
          refine R.list ?_
          refine S.val hf hs (v := .int .i64 n2) rfl rfl rfl (V.pure rfl) (fun a hf => ?_)
          refine S.val hf hs (v := .int .i64 (w64 (n2 - 1))) rfl rfl rfl (V.pure rfl) (fun a hf => ?_)
          refine S.val hf hs (v := .int .i64 (w64 (n2 - 1))) rfl rfl rfl (V.pure rfl) (fun a hf => ?_)
          refine R.nil ?_
          refine X.then_ ?_
          replace hs := hs.take 1
          exact ⟨y4, y4A, y4C, (w64 (n2 - 1)), (by rw [hagain1] at h; exact h), (((((hf.nil.cons (hf.get 10 _ rfl)).cons (hf.get 9 _ rfl)).cons (hf.get 2 _ rfl)).cons (hf.get 1 _ rfl)).cons (hf.get 0 _ rfl)), hs⟩
        · replace h := h.2 hc
          refine wp_skip ?_
          refine X.blk ?_
          refine X.then_ ?_
          refine R.list ?_
          refine S.val hf hs (v := .int .i64 n2) rfl rfl rfl (V.pure rfl) (fun a hf => ?_)
          refine S.val hf hs (v := .int .i64 (w64 (n2 - 1))) rfl rfl rfl (V.pure rfl) (fun a hf => ?_)
          refine S.val hf hs (v := .int .i64 (w64 (n2 - 1))) rfl rfl rfl (V.pure rfl) (fun a hf => ?_)
          refine R.nil ?_
          refine X.then_ ?_
          replace hs := hs.front 1 rfl
          replace hs := hs.take 1
          exact ⟨l2, l2A, l2C, (w64 (n2 - 1)), (by rw [hagain1] at h; exact h), (((((hf.nil.cons (hf.get 10 _ rfl)).cons (hf.get 9 _ rfl)).cons (hf.get 2 _ rfl)).cons (hf.get 1 _ rfl)).cons (hf.get 0 _ rfl)), hs⟩
      · skip
        refine R.list ?_
        refine S.val hf hs (v := .slice mA m.length mC) rfl rfl rfl (V.pure rfl) (fun a hf => ?_)
        refine S.val hf hs (v := .slice s_A s_.length s_C) rfl rfl rfl (V.pure rfl) (fun a hf => ?_)
        refine S.val hf hs (v := .slice y4A y4.length y4C) rfl rfl rfl (V.pure rfl) (fun a hf => ?_)
        refine S.call hf rfl rfl rfl (call_fn (vs := [.slice mA m.length mC, .slice s_A s_.length s_C, .slice y4A y4.length y4C]) rfl rfl rfl Try.call46) (R_ref4_CheckSpans m s_ y4 _ mA mC ((Ag.args _ _ _).view hv_m hs) s_A s_C ((Ag.args _ _ _).view hv_s_ hs) y4A y4C (hs.ownView 0 rfl) _ h) (fun v a w' hf hr => ?_)
        obtain ⟨y5, rfl, h2, hs2⟩ := hr
        replace h := h2; replace hs := hs.call hs2; clear h2 hs2
        refine S.val hf hs (v := .bool (y5 == 0)) rfl rfl rfl (V.pure rfl) (fun a hf => ?_)
        refine S.split hf hs (b := y5 == 0) rfl rfl rfl (V.pure rfl) (fun hc a hf => ?_) (fun hc a hf => ?_)
        · replace h := h.1 hc
          refine S.val hf hs (v := .slice lA l.length lC) rfl rfl rfl (V.pure rfl) (fun a hf => ?_)
          refine S.val hf hs (v := .slice y4A y4.length y4C) rfl rfl rfl (V.pure rfl) (fun a hf => ?_)
          refine S.val hf hs (v := .slice mA m.length mC) rfl rfl rfl (V.pure rfl) (fun a hf => ?_)
          refine S.val hf hs (v := .slice s_A s_.length s_C) rfl rfl rfl (V.pure rfl) (fun a hf => ?_)
          refine S.call hf rfl rfl rfl (call_fn (vs := [.slice mA m.length mC, .slice s_A s_.length s_C]) rfl rfl rfl Try.call64) (R_ref4_coppers m s_ _ mA mC ((Ag.args _ _ _).view hv_m hs) s_A s_C ((Ag.args _ _ _).view hv_s_ hs) _ h) (fun v a w' hf hr => ?_)
          obtain ⟨y6, y6A, y6C, rfl, h2, hs2⟩ := hr
          replace h := h2; replace hs := hs.call hs2; clear h2 hs2
          refine S.val hf hs (v := .int .i64 (y6.length : Int)) rfl rfl rfl (V.len rfl rfl Try.runUnderlying43) (fun a hf => ?_)
          refine S.call hf rfl rfl rfl (call_fn (vs := [.slice lA l.length lC, .slice y4A y4.length y4C, .int .i64 (y6.length : Int)]) rfl rfl rfl Try.call92) (R_ref4_sameReach l y4 (y6.length : Int) _ lA lC ((Ag.args _ _ _).view hv_l hs) y4A y4C (hs.ownView 1 rfl) _ h) (fun v a w' hf hr => ?_)
          obtain ⟨y7, rfl, h2, hs2⟩ := hr
          replace h := h2; replace hs := hs.call hs2; clear h2 hs2
          refine S.val hf hs (v := .bool y7) rfl rfl rfl (V.pure rfl) (fun a hf => ?_)
          refine R.nil ?_
          refine X.then_ ?_
          exact ⟨y7, h, (((((((hf.nil.cons (hf.get 47 _ rfl)).cons (hf.get 11 _ rfl)).cons (hf.get 10 _ rfl)).cons (hf.get 9 _ rfl)).cons (hf.get 2 _ rfl)).cons (hf.get 1 _ rfl)).cons (hf.get 0 _ rfl)), hs.drop⟩
        · replace h := h.2 hc
          refine S.skip hf rfl rfl rfl (fun a hf => ?_)
          refine S.skip hf rfl rfl rfl (fun a hf => ?_)
          refine S.skip hf rfl rfl rfl (fun a hf => ?_)
          refine S.skip hf rfl rfl rfl (fun a hf => ?_)
          refine S.skip hf rfl rfl rfl (fun a hf => ?_)
          refine S.skip hf rfl rfl rfl (fun a hf => ?_)
          refine S.skip hf rfl rfl rfl (fun a hf => ?_)
          refine S.val hf hs (v := .bool false) rfl rfl rfl (V.pure rfl) (fun a hf => ?_)
          refine R.nil ?_
          refine X.then_ ?_
          exact ⟨false, h, (((((((hf.nil.cons (hf.get 47 _ rfl)).cons (hf.get 11 _ rfl)).cons (hf.get 10 _ rfl)).cons (hf.get 9 _ rfl)).cons (hf.get 2 _ rfl)).cons (hf.get 1 _ rfl)).cons (hf.get 0 _ rfl)), hs⟩
    · replace h := h.2 hc
      refine wp_exit ?_
      refine X.then_exit ?_
      refine X.then_exit ?_
      refine X.blk_exit ?_
      refine X.then_ ?_
      refine wp_seq ?_
      refine R.list ?_
      refine S.val hf hs (v := .slice l2A l2.length l2C) rfl rfl rfl (V.pure rfl) (fun a hf => ?_)
      refine S.val hf hs (v := .slice l2A l2.length l2C) rfl rfl rfl (V.pure rfl) (fun a hf => ?_)
      refine S.val hf hs (v := .int .i64 0) rfl rfl rfl (V.pure rfl) (fun a hf => ?_)
      refine R.nil ?_
      refine X.then_ ?_
      refine wp_ret ?_
      replace hs := hs.take 1
      exact L.ret hf (run_results2 Try.results52 (ResIs.tmp hf rfl) (ResIs.tmp hf rfl)) ⟨l2, l2A, l2C, 0, rfl, h, hs⟩

set_option linter.unusedVariables false
def M_equal_thr_L1 (s2 : (List Through)) (Q : Bool → Prop) (k1 : Nat) (xk1 : Through)  (next1 : Prop) : Prop :=
  idx s2 (k1 : Int) fun x1 => cnd (!(decide (xk1 = x1))) (Q false) (next1)
def M_equal_thr (s1 : (List Through)) (s2 : (List Through)) (Q : Bool → Prop) : Prop :=
  cnd ((s1.length : Int) != (s2.length : Int)) (Q false) (forIn' (fun k x (s : Unit) next => M_equal_thr_L1 s2 Q k x (next ())) (fun (s : Unit) => Q true) s1 0 ())
set_option maxHeartbeats 1000000 in
theorem R_equal_thr (s1 : (List Through)) (s2 : (List Through)) (w0 : World) (s1A : Option Addr) (s1C : Nat) (hv_s1 : View w0 (old w0 none_) s1A s1C s1) (s2A : Option Addr) (s2C : Nat) (hv_s2 : View w0 (old w0 none_) s2A s2C s2) (Q : Bool → Prop) (h : M_equal_thr s1 s2 Q) :
    Ret Try.prog 53 #[.slice s1A s1.length s1C, .slice s2A s2.length s2C] w0 fun v w' => ∃ (r0 : Bool), v = .bool r0 ∧ Q r0 ∧ Sat w0 none_ [] w' := by
  refine fn_enter Try.func53 rfl Try.ntmps53 rfl (fs := [(0, .slice s1A s1.length s1C), (1, .slice s2A s2.length s2C)]) rfl (fun a hf => ?_)
  have hs := Sat.start w0 none_
  unfold M_equal_thr at h
  refine wp_seq ?_
  refine R.list ?_
  refine S.val hf hs (v := .bool false) rfl rfl rfl (V.pure rfl) (fun a hf => ?_)
  refine R.nil ?_
  refine X.then_ ?_
  refine wp_seq ?_
  refine wp_seq ?_
  refine R.list ?_
  refine S.val hf hs (v := .slice s1A s1.length s1C) rfl rfl rfl (V.pure rfl) (fun a hf => ?_)
  refine S.val hf hs (v := .int .i64 (s1.length : Int)) rfl rfl rfl (V.len rfl rfl Try.runUnderlying52) (fun a hf => ?_)
  refine S.val hf hs (v := .slice s2A s2.length s2C) rfl rfl rfl (V.pure rfl) (fun a hf => ?_)
  refine S.val hf hs (v := .int .i64 (s2.length : Int)) rfl rfl rfl (V.len rfl rfl Try.runUnderlying52) (fun a hf => ?_)
  refine S.val hf hs (v := .bool ((s1.length : Int) != (s2.length : Int))) rfl rfl rfl (V.pure rfl) (fun a hf => ?_)
  refine R.nil ?_
  refine X.then_ ?_
  refine C.cond hf (b := (s1.length : Int) != (s2.length : Int)) rfl (fun hc => ?_) (fun hc => ?_)
  · replace h := h.1 hc
    refine wp_seq ?_
    refine R.list ?_
    refine S.val hf hs (v := .bool false) rfl rfl rfl (V.pure rfl) (fun a hf => ?_)
    refine R.nil ?_
    refine X.then_ ?_
    refine wp_ret ?_
    refine X.then_ret ?_
    exact L.ret hf (run_results1 Try.results53 (ResIs.tmp hf rfl)) ⟨false, rfl, h, hs.nil⟩
  · replace h := h.2 hc
    refine wp_skip ?_
    refine X.then_ ?_
    refine wp_seq ?_
    refine wp_seq ?_
    refine R.list ?_
    refine S.val hf hs (v := .slice s1A s1.length s1C) rfl rfl rfl (V.pure rfl) (fun a hf => ?_)
    refine S.val hf hs (v := .int .i64 (s1.length : Int)) rfl rfl rfl (V.len rfl rfl Try.runUnderlying52) (fun a hf => ?_)
    refine S.val hf hs (v := .int .i64 0) rfl rfl rfl (V.pure rfl) (fun a hf => ?_)
    refine R.nil ?_
    refine X.then_ ?_
    refine wp_block ?_
    have hlenk1 := hv_s1.len64
    refine C.range (fun (ll : List Through) a w => ∃ (k1 : Nat) , s1.drop k1 = ll ∧ k1 + ll.length = s1.length ∧ forIn' (fun k x (s : Unit) next => M_equal_thr_L1 s2 Q k x (next ())) (fun (s : Unit) => Q true) ll k1 () ∧ FrOk 26 [(13, .int .i64 (k1 : Int)), (0, .slice s1A s1.length s1C), (1, .slice s2A s2.length s2C), (12, .int .i64 (s1.length : Int))] a ∧ Sat w0 none_ [] w) s1 ⟨0, rfl, Nat.zero_add _, h, ((((hf.nil.cons (hf.get 12 _ rfl)).cons (hf.get 1 _ rfl)).cons (hf.get 0 _ rfl)).cons (hf.get 13 _ rfl)), hs⟩ ?_
    clear h hf hs
    rintro llk1 a w ⟨k1, hlk1, hkk1, h, hf, hs⟩
    cases llk1 with
    | nil =>
      have hc := range_done hkk1
      replace h : Q true := h
      refine wp_seq ?_
      refine R.list ?_
      refine S.val hf hs (v := .bool false) rfl rfl rfl (V.cmp false rfl rfl rfl rfl hc) (fun a hf => ?_)
      refine R.nil ?_
      refine X.then_ ?_
      refine wp_seq ?_
      refine C.no hf rfl ?_
      refine wp_exit ?_
      refine X.then_exit ?_
      refine X.then_exit ?_
      refine X.blk_exit ?_
      refine X.then_ ?_
      refine wp_seq ?_
      refine R.list ?_
      refine S.val hf hs (v := .bool true) rfl rfl rfl (V.pure rfl) (fun a hf => ?_)
      refine R.nil ?_
      refine X.then_ ?_
      refine wp_ret ?_
      exact L.ret hf (run_results1 Try.results53 (ResIs.tmp hf rfl)) ⟨true, rfl, h, hs.nil⟩
    | cons xk1 llk1 =>
      have hltk1 := range_lt hkk1; have hc := range_go hkk1; have hxk1 := range_get hlk1
      obtain ⟨next1, hnext1⟩ : ∃ X : Prop, X = (forIn' (fun k x (s : Unit) next => M_equal_thr_L1 s2 Q k x (next ())) (fun (s : Unit) => Q true) llk1 (k1 + 1) ()) := ⟨_, rfl⟩
      replace h : M_equal_thr_L1 s2 Q k1 xk1  next1 := by rw [hnext1]; exact h
      unfold M_equal_thr_L1 at h
      refine wp_seq ?_
      refine R.list ?_
      refine S.val hf hs (v := .bool true) rfl rfl rfl (V.cmp true rfl rfl rfl rfl hc) (fun a hf => ?_)
      refine R.nil ?_
      refine X.then_ ?_
      refine wp_seq ?_
      refine C.yes hf rfl ?_
      refine wp_skip ?_
      refine X.then_ ?_
      refine wp_seq ?_
      refine wp_block ?_
      refine wp_seq ?_
      refine R.list ?_
      refine S.val hf hs (v := .int .i64 (k1 : Int)) rfl rfl rfl (V.pure rfl) (fun a hf => ?_)
      refine S.val hf hs (v := .int .i64 (k1 : Int)) rfl rfl rfl (V.pure rfl) (fun a hf => ?_)
      refine R.nil ?_
      refine X.then_ ?_
      refine wp_seq ?_
      refine R.draw mo (by kernel_rfl) hs ?_
      refine D.val hf (v := .slice s1A s1.length s1C) rfl rfl rfl (V.pure rfl) (fun a hf => ?_)
      refine D.val hf (v := .int .i64 (k1 : Int)) rfl rfl rfl (V.pure rfl) (fun a hf => ?_)
      refine D.val hf (v := elemPtr s1A (k1 * 2)) rfl rfl rfl (V.index rfl rfl rfl Try.runUnderlying52 Try.sizeOf59 (hv_s1.some_ (lt_of_get hxk1)) (Int.natCast_nonneg _) (lt_of_get hxk1) rfl) (fun a hf => ?_)
      refine D.val hf (v := .agg #[.int .i64 xk1.From, .int .i64 xk1.To]) rfl rfl rfl (V.loadEl (off := 0) (Ag.args _ _ _) (hv_s1.flat hxk1) rfl rfl rfl Try.isAgg59 Try.sizeOf59 rfl rfl) (fun a hf => ?_)
      refine D.val hf (v := .slice s2A s2.length s2C) rfl rfl rfl (V.pure rfl) (fun a hf => ?_)
      refine D.val hf (v := .int .i64 (k1 : Int)) rfl rfl rfl (V.pure rfl) (fun a hf => ?_)
      obtain ⟨h0x1, x1, hx1, h⟩ := h
      refine D.val hf (v := elemPtr s2A (k1 * 2)) rfl rfl rfl (V.index rfl rfl rfl Try.runUnderlying52 Try.sizeOf59 (hv_s2.some_ (lt_of_get hx1)) (Int.natCast_nonneg _) (lt_of_get hx1) rfl) (fun a hf => ?_)
      refine D.val hf (v := .agg #[.int .i64 x1.From, .int .i64 x1.To]) rfl rfl rfl (V.loadEl (off := 0) (Ag.args _ _ _) (hv_s2.flat hx1) rfl rfl rfl Try.isAgg59 Try.sizeOf59 rfl rfl) (fun a hf => ?_)
      refine D.val hf (v := .bool (!(decide (xk1 = x1)))) rfl rfl rfl (V.aggneq rfl rfl rfl (by kernel_rfl) (fun w => eqS59 xk1 x1 w)) (fun a hf => ?_)
      refine D.done (fun w hs => ?_)
      refine X.then_ ?_
      refine C.cond hf (b := !(decide (xk1 = x1))) rfl (fun hc => ?_) (fun hc => ?_)
      · replace h := h.1 hc
        refine wp_seq ?_
        refine R.list ?_
        refine S.val hf hs (v := .bool false) rfl rfl rfl (V.pure rfl) (fun a hf => ?_)
        refine R.nil ?_
        refine X.then_ ?_
        refine wp_ret ?_
        refine X.blk_ret ?_
        refine X.then_ret ?_
        refine X.then_ret ?_
        refine X.blk_ret ?_
        refine X.then_ret ?_
        exact L.ret hf (run_results1 Try.results53 (ResIs.tmp hf rfl)) ⟨false, rfl, h, hs.nil⟩
      · replace h := h.2 hc
        refine wp_skip ?_
        refine X.blk ?_
        refine X.then_ ?_
        refine R.list ?_
        refine S.val hf hs (v := .int .i64 ((k1 + 1 : Nat) : Int)) rfl rfl rfl (V.incr rfl rfl rfl hltk1 hlenk1) (fun a hf => ?_)
        refine S.val hf hs (v := .int .i64 ((k1 + 1 : Nat) : Int)) rfl rfl rfl (V.pure rfl) (fun a hf => ?_)
        refine R.nil ?_
        refine X.then_ ?_
        exact ⟨xk1, llk1, rfl, k1 + 1, range_drop hlk1, range_len hkk1, (by rw [hnext1] at h; exact h), ((((hf.nil.cons (hf.get 12 _ rfl)).cons (hf.get 1 _ rfl)).cons (hf.get 0 _ rfl)).cons (hf.get 13 _ rfl)), hs⟩

set_option linter.unusedVariables false
def M_law_Reached_k2 (m : (List Material)) (s_ : (List Layer)) (l : (List Through)) (Q : Bool → Prop) (c2 : Bool) : Prop :=
  cnd c2 (Q false) (M_stack_Fewest m s_ l fun y9 y10 => M_ref4_Fewest m s_ l fun y11 y12 => cnd (y10 == y12) (M_equal_thr y9 y11 fun y13 => cnd y13 (M_awake  fun y14 => Q y14) (Q false)) (Q false))
def M_law_Reached_k1 (m : (List Material)) (s_ : (List Layer)) (l : (List Through)) (sizes : (List Int)) (most : Int) (Q : Bool → Prop) (c1 : Bool) : Prop :=
  cnd c1 (Q false) (M_stack_Slim m s_ l sizes most fun y5 y6 => M_ref4_Slim m s_ l sizes most fun y7 y8 => cnd (y6 != y8) (M_law_Reached_k2 m s_ l Q true) (M_equal_int y5 y7 fun y15 => M_law_Reached_k2 m s_ l Q (!y15)))
def M_law_Reached (m : (List Material)) (s_ : (List Layer)) (l : (List Through)) (name : Str) (sizes : (List Int)) (most : Int) (Q : Bool → Prop) : Prop :=
  M_stack_Reached m s_ l name fun y1 y2 => M_ref4_Reached m s_ l name fun y3 y4 => cnd (y2 != y4) (M_law_Reached_k1 m s_ l sizes most Q true) (M_equal_str y1 y3 fun y16 => M_law_Reached_k1 m s_ l sizes most Q (!y16))
set_option maxHeartbeats 1000000 in
theorem R_law_Reached (m : (List Material)) (s_ : (List Layer)) (l : (List Through)) (name : Str) (sizes : (List Int)) (most : Int) (w0 : World) (mA : Option Addr) (mC : Nat) (hv_m : View w0 (old w0 none_) mA mC m) (s_A : Option Addr) (s_C : Nat) (hv_s_ : View w0 (old w0 none_) s_A s_C s_) (lA : Option Addr) (lC : Nat) (hv_l : View w0 (old w0 none_) lA lC l) (sizesA : Option Addr) (sizesC : Nat) (hv_sizes : View w0 (old w0 none_) sizesA sizesC sizes) (Q : Bool → Prop) (h : M_law_Reached m s_ l name sizes most Q) :
    Ret Try.prog 13 #[.slice mA m.length mC, .slice s_A s_.length s_C, .slice lA l.length lC, .string (ba name), .slice sizesA sizes.length sizesC, .int .i64 most] w0 fun v w' => ∃ (r0 : Bool), v = .bool r0 ∧ Q r0 ∧ Sat w0 none_ [] w' := by
  refine fn_enter Try.func13 rfl Try.ntmps13 rfl (fs := [(0, .slice mA m.length mC), (1, .slice s_A s_.length s_C), (2, .slice lA l.length lC), (3, .string (ba name)), (4, .slice sizesA sizes.length sizesC), (5, .int .i64 most)]) rfl (fun a hf => ?_)
  have hs := Sat.start w0 none_
  unfold M_law_Reached at h
  refine wp_seq ?_
  refine R.list ?_
  refine S.val hf hs (v := .bool false) rfl rfl rfl (V.pure rfl) (fun a hf => ?_)
  refine R.nil ?_
  refine X.then_ ?_
  refine wp_seq ?_
  refine R.list ?_
  refine S.val hf hs (v := .slice mA m.length mC) rfl rfl rfl (V.pure rfl) (fun a hf => ?_)
  refine S.val hf hs (v := .slice s_A s_.length s_C) rfl rfl rfl (V.pure rfl) (fun a hf => ?_)
  refine S.val hf hs (v := .slice lA l.length lC) rfl rfl rfl (V.pure rfl) (fun a hf => ?_)
  refine S.val hf hs (v := .string (ba name)) rfl rfl rfl (V.pure rfl) (fun a hf => ?_)
  refine S.call hf rfl rfl rfl (call_fn (vs := [.slice mA m.length mC, .slice s_A s_.length s_C, .slice lA l.length lC, .string (ba name)]) rfl rfl rfl Try.call40) (R_stack_Reached m s_ l name _ mA mC ((Ag.args _ _ _).view hv_m hs) s_A s_C ((Ag.args _ _ _).view hv_s_ hs) lA lC ((Ag.args _ _ _).view hv_l hs) _ h) (fun v a w' hf hr => ?_)
  obtain ⟨y1, y1A, y1C, y2, rfl, h2, hs2⟩ := hr
  replace h := h2; replace hs := hs.call hs2; clear h2 hs2
  refine S.val hf hs (v := .tuple #[.slice y1A y1.length y1C, .int .i64 y2]) rfl rfl rfl (V.pure rfl) (fun a hf => ?_)
  refine S.val hf hs (v := .slice y1A y1.length y1C) rfl rfl rfl (V.pure rfl) (fun a hf => ?_)
  refine S.val hf hs (v := .int .i64 y2) rfl rfl rfl (V.pure rfl) (fun a hf => ?_)
  refine S.val hf hs (v := .slice y1A y1.length y1C) rfl rfl rfl (V.pure rfl) (fun a hf => ?_)
  refine S.val hf hs (v := .int .i64 y2) rfl rfl rfl (V.pure rfl) (fun a hf => ?_)
  refine R.nil ?_
  refine X.then_ ?_
  refine wp_seq ?_
  refine R.list ?_
  refine S.val hf hs (v := .slice mA m.length mC) rfl rfl rfl (V.pure rfl) (fun a hf => ?_)
  refine S.val hf hs (v := .slice s_A s_.length s_C) rfl rfl rfl (V.pure rfl) (fun a hf => ?_)
  refine S.val hf hs (v := .slice lA l.length lC) rfl rfl rfl (V.pure rfl) (fun a hf => ?_)
  refine S.val hf hs (v := .string (ba name)) rfl rfl rfl (V.pure rfl) (fun a hf => ?_)
  refine S.call hf rfl rfl rfl (call_fn (vs := [.slice mA m.length mC, .slice s_A s_.length s_C, .slice lA l.length lC, .string (ba name)]) rfl rfl rfl Try.call49) (R_ref4_Reached m s_ l name _ mA mC ((Ag.args _ _ _).view hv_m hs) s_A s_C ((Ag.args _ _ _).view hv_s_ hs) lA lC ((Ag.args _ _ _).view hv_l hs) _ h) (fun v a w' hf hr => ?_)
  obtain ⟨y3, y3A, y3C, y4, rfl, h2, hs2⟩ := hr
  replace h := h2; replace hs := hs.call hs2; clear h2 hs2
  refine S.val hf hs (v := .tuple #[.slice y3A y3.length y3C, .int .i64 y4]) rfl rfl rfl (V.pure rfl) (fun a hf => ?_)
  refine S.val hf hs (v := .slice y3A y3.length y3C) rfl rfl rfl (V.pure rfl) (fun a hf => ?_)
  refine S.val hf hs (v := .int .i64 y4) rfl rfl rfl (V.pure rfl) (fun a hf => ?_)
  refine S.val hf hs (v := .slice y3A y3.length y3C) rfl rfl rfl (V.pure rfl) (fun a hf => ?_)
  refine S.val hf hs (v := .int .i64 y4) rfl rfl rfl (V.pure rfl) (fun a hf => ?_)
  refine R.nil ?_
  refine X.then_ ?_
  refine wp_seq ?_
  refine wp_seq ?_
  refine C.cut (J := fun a w => ∃ (c1 : Bool), M_law_Reached_k1 m s_ l sizes most Q c1 ∧ FrOk 98 [(0, .slice mA m.length mC), (1, .slice s_A s_.length s_C), (2, .slice lA l.length lC), (4, .slice sizesA sizes.length sizesC), (5, .int .i64 most), (45, .bool c1)] a ∧ Sat w0 none_ [hown 9 y3A y3C y3, hown 9 y1A y1C y1] w) ?_ ?_
  · rintro a w ⟨c1, h, hf, hs⟩
    unfold M_law_Reached_k1 at h
    refine C.cond hf (b := c1) rfl (fun hc => ?_) (fun hc => ?_)
    · replace h := h.1 hc
      refine wp_seq ?_
      refine R.list ?_
      refine S.val hf hs (v := .bool false) rfl rfl rfl (V.pure rfl) (fun a hf => ?_)
      refine R.nil ?_
      refine X.then_ ?_
      refine wp_ret ?_
      refine X.then_ret ?_
      exact L.ret hf (run_results1 Try.results13 (ResIs.tmp hf rfl)) ⟨false, rfl, h, hs.nil⟩
    · replace h := h.2 hc
      refine wp_skip ?_
      refine X.then_ ?_
      refine wp_seq ?_
      refine R.list ?_
      refine S.val hf hs (v := .slice mA m.length mC) rfl rfl rfl (V.pure rfl) (fun a hf => ?_)
      refine S.val hf hs (v := .slice s_A s_.length s_C) rfl rfl rfl (V.pure rfl) (fun a hf => ?_)
      refine S.val hf hs (v := .slice lA l.length lC) rfl rfl rfl (V.pure rfl) (fun a hf => ?_)
      refine S.val hf hs (v := .slice sizesA sizes.length sizesC) rfl rfl rfl (V.pure rfl) (fun a hf => ?_)
      refine S.val hf hs (v := .int .i64 most) rfl rfl rfl (V.pure rfl) (fun a hf => ?_)
      refine S.call hf rfl rfl rfl (call_fn (vs := [.slice mA m.length mC, .slice s_A s_.length s_C, .slice lA l.length lC, .slice sizesA sizes.length sizesC, .int .i64 most]) rfl rfl rfl Try.call50) (R_stack_Slim m s_ l sizes most _ mA mC ((Ag.args _ _ _).view hv_m hs) s_A s_C ((Ag.args _ _ _).view hv_s_ hs) lA lC ((Ag.args _ _ _).view hv_l hs) sizesA sizesC ((Ag.args _ _ _).view hv_sizes hs) _ h) (fun v a w' hf hr => ?_)
      obtain ⟨y5, y5A, y5C, y6, rfl, h2, hs2⟩ := hr
      replace h := h2; replace hs := hs.call hs2; clear h2 hs2
      refine S.val hf hs (v := .tuple #[.slice y5A y5.length y5C, .int .i64 y6]) rfl rfl rfl (V.pure rfl) (fun a hf => ?_)
      refine S.val hf hs (v := .slice y5A y5.length y5C) rfl rfl rfl (V.pure rfl) (fun a hf => ?_)
      refine S.val hf hs (v := .int .i64 y6) rfl rfl rfl (V.pure rfl) (fun a hf => ?_)
      refine S.val hf hs (v := .slice y5A y5.length y5C) rfl rfl rfl (V.pure rfl) (fun a hf => ?_)
      refine S.val hf hs (v := .int .i64 y6) rfl rfl rfl (V.pure rfl) (fun a hf => ?_)
      refine R.nil ?_
      refine X.then_ ?_
      refine wp_seq ?_
      refine R.list ?_
      refine S.val hf hs (v := .slice mA m.length mC) rfl rfl rfl (V.pure rfl) (fun a hf => ?_)
      refine S.val hf hs (v := .slice s_A s_.length s_C) rfl rfl rfl (V.pure rfl) (fun a hf => ?_)
      refine S.val hf hs (v := .slice lA l.length lC) rfl rfl rfl (V.pure rfl) (fun a hf => ?_)
      refine S.val hf hs (v := .slice sizesA sizes.length sizesC) rfl rfl rfl (V.pure rfl) (fun a hf => ?_)
      refine S.val hf hs (v := .int .i64 most) rfl rfl rfl (V.pure rfl) (fun a hf => ?_)
      refine S.call hf rfl rfl rfl (call_fn (vs := [.slice mA m.length mC, .slice s_A s_.length s_C, .slice lA l.length lC, .slice sizesA sizes.length sizesC, .int .i64 most]) rfl rfl rfl Try.call51) (R_ref4_Slim m s_ l sizes most _ mA mC ((Ag.args _ _ _).view hv_m hs) s_A s_C ((Ag.args _ _ _).view hv_s_ hs) lA lC ((Ag.args _ _ _).view hv_l hs) sizesA sizesC ((Ag.args _ _ _).view hv_sizes hs) _ h) (fun v a w' hf hr => ?_)
      obtain ⟨y7, y7A, y7C, y8, rfl, h2, hs2⟩ := hr
      replace h := h2; replace hs := hs.call hs2; clear h2 hs2
      refine S.val hf hs (v := .tuple #[.slice y7A y7.length y7C, .int .i64 y8]) rfl rfl rfl (V.pure rfl) (fun a hf => ?_)
      refine S.val hf hs (v := .slice y7A y7.length y7C) rfl rfl rfl (V.pure rfl) (fun a hf => ?_)
      refine S.val hf hs (v := .int .i64 y8) rfl rfl rfl (V.pure rfl) (fun a hf => ?_)
      refine S.val hf hs (v := .slice y7A y7.length y7C) rfl rfl rfl (V.pure rfl) (fun a hf => ?_)
      refine S.val hf hs (v := .int .i64 y8) rfl rfl rfl (V.pure rfl) (fun a hf => ?_)
      refine R.nil ?_
      refine X.then_ ?_
      refine wp_seq ?_
      refine wp_seq ?_
      refine C.cut (J := fun a w => ∃ (c2 : Bool), M_law_Reached_k2 m s_ l Q c2 ∧ FrOk 98 [(0, .slice mA m.length mC), (1, .slice s_A s_.length s_C), (2, .slice lA l.length lC), (72, .bool c2)] a ∧ Sat w0 none_ [hown 3 y7A y7C y7, hown 3 y5A y5C y5, hown 9 y3A y3C y3, hown 9 y1A y1C y1] w) ?_ ?_
      · rintro a w ⟨c2, h, hf, hs⟩
        unfold M_law_Reached_k2 at h
        refine C.cond hf (b := c2) rfl (fun hc => ?_) (fun hc => ?_)
        · replace h := h.1 hc
          refine wp_seq ?_
          refine R.list ?_
          refine S.val hf hs (v := .bool false) rfl rfl rfl (V.pure rfl) (fun a hf => ?_)
          refine R.nil ?_
          refine X.then_ ?_
          refine wp_ret ?_
          refine X.then_ret ?_
          exact L.ret hf (run_results1 Try.results13 (ResIs.tmp hf rfl)) ⟨false, rfl, h, hs.nil⟩
        · replace h := h.2 hc
          refine wp_skip ?_
          refine X.then_ ?_
          refine wp_seq ?_
          refine R.list ?_
          refine S.val hf hs (v := .slice mA m.length mC) rfl rfl rfl (V.pure rfl) (fun a hf => ?_)
          refine S.val hf hs (v := .slice s_A s_.length s_C) rfl rfl rfl (V.pure rfl) (fun a hf => ?_)
          refine S.val hf hs (v := .slice lA l.length lC) rfl rfl rfl (V.pure rfl) (fun a hf => ?_)
          refine S.call hf rfl rfl rfl (call_fn (vs := [.slice mA m.length mC, .slice s_A s_.length s_C, .slice lA l.length lC]) rfl rfl rfl Try.call43) (R_stack_Fewest m s_ l _ mA mC ((Ag.args _ _ _).view hv_m hs) s_A s_C ((Ag.args _ _ _).view hv_s_ hs) lA lC ((Ag.args _ _ _).view hv_l hs) _ h) (fun v a w' hf hr => ?_)
          obtain ⟨y9, y9A, y9C, y10, rfl, h2, hs2⟩ := hr
          replace h := h2; replace hs := hs.call hs2; clear h2 hs2
          refine S.val hf hs (v := .tuple #[.slice y9A y9.length y9C, .int .i64 y10]) rfl rfl rfl (V.pure rfl) (fun a hf => ?_)
          refine S.val hf hs (v := .slice y9A y9.length y9C) rfl rfl rfl (V.pure rfl) (fun a hf => ?_)
          refine S.val hf hs (v := .int .i64 y10) rfl rfl rfl (V.pure rfl) (fun a hf => ?_)
          refine S.val hf hs (v := .slice y9A y9.length y9C) rfl rfl rfl (V.pure rfl) (fun a hf => ?_)
          refine S.val hf hs (v := .int .i64 y10) rfl rfl rfl (V.pure rfl) (fun a hf => ?_)
          refine R.nil ?_
          refine X.then_ ?_
          refine wp_seq ?_
          refine R.list ?_
          refine S.val hf hs (v := .slice mA m.length mC) rfl rfl rfl (V.pure rfl) (fun a hf => ?_)
          refine S.val hf hs (v := .slice s_A s_.length s_C) rfl rfl rfl (V.pure rfl) (fun a hf => ?_)
          refine S.val hf hs (v := .slice lA l.length lC) rfl rfl rfl (V.pure rfl) (fun a hf => ?_)
          refine S.call hf rfl rfl rfl (call_fn (vs := [.slice mA m.length mC, .slice s_A s_.length s_C, .slice lA l.length lC]) rfl rfl rfl Try.call52) (R_ref4_Fewest m s_ l _ mA mC ((Ag.args _ _ _).view hv_m hs) s_A s_C ((Ag.args _ _ _).view hv_s_ hs) lA lC ((Ag.args _ _ _).view hv_l hs) _ h) (fun v a w' hf hr => ?_)
          obtain ⟨y11, y11A, y11C, y12, rfl, h2, hs2⟩ := hr
          replace h := h2; replace hs := hs.call hs2; clear h2 hs2
          refine S.val hf hs (v := .tuple #[.slice y11A y11.length y11C, .int .i64 y12]) rfl rfl rfl (V.pure rfl) (fun a hf => ?_)
          refine S.val hf hs (v := .slice y11A y11.length y11C) rfl rfl rfl (V.pure rfl) (fun a hf => ?_)
          refine S.val hf hs (v := .int .i64 y12) rfl rfl rfl (V.pure rfl) (fun a hf => ?_)
          refine S.val hf hs (v := .slice y11A y11.length y11C) rfl rfl rfl (V.pure rfl) (fun a hf => ?_)
          refine S.val hf hs (v := .int .i64 y12) rfl rfl rfl (V.pure rfl) (fun a hf => ?_)
          refine R.nil ?_
          refine X.then_ ?_
          refine wp_seq ?_
          refine R.list ?_
          refine S.val hf hs (v := .int .i64 y10) rfl rfl rfl (V.pure rfl) (fun a hf => ?_)
          refine S.val hf hs (v := .int .i64 y12) rfl rfl rfl (V.pure rfl) (fun a hf => ?_)
          refine S.val hf hs (v := .bool (y10 == y12)) rfl rfl rfl (V.pure rfl) (fun a hf => ?_)
          refine S.split hf hs (b := y10 == y12) rfl rfl rfl (V.pure rfl) (fun hc a hf => ?_) (fun hc a hf => ?_)
          · replace h := h.1 hc
            refine S.val hf hs (v := .slice y9A y9.length y9C) rfl rfl rfl (V.pure rfl) (fun a hf => ?_)
            refine S.val hf hs (v := .slice y11A y11.length y11C) rfl rfl rfl (V.pure rfl) (fun a hf => ?_)
            refine S.call hf rfl rfl rfl (call_fn (vs := [.slice y9A y9.length y9C, .slice y11A y11.length y11C]) rfl rfl rfl Try.call53) (R_equal_thr y9 y11 _ y9A y9C (hs.ownView 1 rfl) y11A y11C (hs.ownView 0 rfl) _ h) (fun v a w' hf hr => ?_)
            obtain ⟨y13, rfl, h2, hs2⟩ := hr
            replace h := h2; replace hs := hs.call hs2; clear h2 hs2
            refine S.val hf hs (v := .bool y13) rfl rfl rfl (V.pure rfl) (fun a hf => ?_)
            refine S.split hf hs (b := y13) rfl rfl rfl (V.pure rfl) (fun hc a hf => ?_) (fun hc a hf => ?_)
            · replace h := h.1 hc
              refine S.call hf rfl rfl rfl (call_fn (vs := []) rfl rfl rfl Try.call20) (R_awake  _  _ h) (fun v a w' hf hr => ?_)
              obtain ⟨y14, rfl, h2, hs2⟩ := hr
              replace h := h2; replace hs := hs.call hs2; clear h2 hs2
              refine S.val hf hs (v := .bool y14) rfl rfl rfl (V.pure rfl) (fun a hf => ?_)
              refine S.val hf hs (v := .bool y14) rfl rfl rfl (V.pure rfl) (fun a hf => ?_)
              refine R.nil ?_
              refine X.then_ ?_
              refine wp_ret ?_
              exact L.ret hf (run_results1 Try.results13 (ResIs.tmp hf rfl)) ⟨y14, rfl, h, hs.nil⟩
            · replace h := h.2 hc
              refine S.skip hf rfl rfl rfl (fun a hf => ?_)
              refine S.val hf hs (v := .bool false) rfl rfl rfl (V.pure rfl) (fun a hf => ?_)
              refine S.val hf hs (v := .bool false) rfl rfl rfl (V.pure rfl) (fun a hf => ?_)
              refine R.nil ?_
              refine X.then_ ?_
              refine wp_ret ?_
              exact L.ret hf (run_results1 Try.results13 (ResIs.tmp hf rfl)) ⟨false, rfl, h, hs.nil⟩
          · replace h := h.2 hc
            refine S.skip hf rfl rfl rfl (fun a hf => ?_)
            refine S.skip hf rfl rfl rfl (fun a hf => ?_)
            refine S.skip hf rfl rfl rfl (fun a hf => ?_)
            refine S.val hf hs (v := .bool false) rfl rfl rfl (V.pure rfl) (fun a hf => ?_)
            refine S.val hf hs (v := .bool false) rfl rfl rfl (V.pure rfl) (fun a hf => ?_)
            refine S.skip hf rfl rfl rfl (fun a hf => ?_)
            refine S.val hf hs (v := .bool false) rfl rfl rfl (V.pure rfl) (fun a hf => ?_)
            refine S.val hf hs (v := .bool false) rfl rfl rfl (V.pure rfl) (fun a hf => ?_)
            refine R.nil ?_
            refine X.then_ ?_
            refine wp_ret ?_
            exact L.ret hf (run_results1 Try.results13 (ResIs.tmp hf rfl)) ⟨false, rfl, h, hs.nil⟩
      · skip
        refine R.list ?_
        refine S.val hf hs (v := .int .i64 y6) rfl rfl rfl (V.pure rfl) (fun a hf => ?_)
        refine S.val hf hs (v := .int .i64 y8) rfl rfl rfl (V.pure rfl) (fun a hf => ?_)
        refine S.val hf hs (v := .bool (y6 != y8)) rfl rfl rfl (V.pure rfl) (fun a hf => ?_)
        refine S.split hf hs (b := y6 != y8) rfl rfl rfl (V.pure rfl) (fun hc a hf => ?_) (fun hc a hf => ?_)
        · replace h := h.1 hc
          refine S.skip hf rfl rfl rfl (fun a hf => ?_)
          refine S.skip hf rfl rfl rfl (fun a hf => ?_)
          refine S.skip hf rfl rfl rfl (fun a hf => ?_)
          refine S.skip hf rfl rfl rfl (fun a hf => ?_)
          refine S.val hf hs (v := .bool true) rfl rfl rfl (V.pure rfl) (fun a hf => ?_)
          refine R.nil ?_
          refine X.then_ ?_
          exact ⟨true, h, ((((hf.nil.cons (hf.get 72 _ rfl)).cons (hf.get 2 _ rfl)).cons (hf.get 1 _ rfl)).cons (hf.get 0 _ rfl)), hs⟩
        · replace h := h.2 hc
          refine S.val hf hs (v := .slice y5A y5.length y5C) rfl rfl rfl (V.pure rfl) (fun a hf => ?_)
          refine S.val hf hs (v := .slice y7A y7.length y7C) rfl rfl rfl (V.pure rfl) (fun a hf => ?_)
          refine S.call hf rfl rfl rfl (call_fn (vs := [.slice y5A y5.length y5C, .slice y7A y7.length y7C]) rfl rfl rfl Try.call37) (R_equal_int y5 y7 _ y5A y5C (hs.ownView 1 rfl) y7A y7C (hs.ownView 0 rfl) _ h) (fun v a w' hf hr => ?_)
          obtain ⟨y15, rfl, h2, hs2⟩ := hr
          replace h := h2; replace hs := hs.call hs2; clear h2 hs2
          refine S.val hf hs (v := .bool (!y15)) rfl rfl rfl (V.pure rfl) (fun a hf => ?_)
          refine S.val hf hs (v := .bool (!y15)) rfl rfl rfl (V.pure rfl) (fun a hf => ?_)
          refine R.nil ?_
          refine X.then_ ?_
          exact ⟨(!y15), h, ((((hf.nil.cons (hf.get 72 _ rfl)).cons (hf.get 2 _ rfl)).cons (hf.get 1 _ rfl)).cons (hf.get 0 _ rfl)), hs⟩
  · skip
    refine R.list ?_
    refine S.val hf hs (v := .int .i64 y2) rfl rfl rfl (V.pure rfl) (fun a hf => ?_)
    refine S.val hf hs (v := .int .i64 y4) rfl rfl rfl (V.pure rfl) (fun a hf => ?_)
    refine S.val hf hs (v := .bool (y2 != y4)) rfl rfl rfl (V.pure rfl) (fun a hf => ?_)
    refine S.split hf hs (b := y2 != y4) rfl rfl rfl (V.pure rfl) (fun hc a hf => ?_) (fun hc a hf => ?_)
    · replace h := h.1 hc
      refine S.skip hf rfl rfl rfl (fun a hf => ?_)
      refine S.skip hf rfl rfl rfl (fun a hf => ?_)
      refine S.skip hf rfl rfl rfl (fun a hf => ?_)
      refine S.skip hf rfl rfl rfl (fun a hf => ?_)
      refine S.val hf hs (v := .bool true) rfl rfl rfl (V.pure rfl) (fun a hf => ?_)
      refine R.nil ?_
      refine X.then_ ?_
      exact ⟨true, h, ((((((hf.nil.cons (hf.get 45 _ rfl)).cons (hf.get 5 _ rfl)).cons (hf.get 4 _ rfl)).cons (hf.get 2 _ rfl)).cons (hf.get 1 _ rfl)).cons (hf.get 0 _ rfl)), hs⟩
    · replace h := h.2 hc
      refine S.val hf hs (v := .slice y1A y1.length y1C) rfl rfl rfl (V.pure rfl) (fun a hf => ?_)
      refine S.val hf hs (v := .slice y3A y3.length y3C) rfl rfl rfl (V.pure rfl) (fun a hf => ?_)
      refine S.call hf rfl rfl rfl (call_fn (vs := [.slice y1A y1.length y1C, .slice y3A y3.length y3C]) rfl rfl rfl Try.call41) (R_equal_str y1 y3 _ y1A y1C (hs.ownView 1 rfl) y3A y3C (hs.ownView 0 rfl) _ h) (fun v a w' hf hr => ?_)
      obtain ⟨y16, rfl, h2, hs2⟩ := hr
      replace h := h2; replace hs := hs.call hs2; clear h2 hs2
      refine S.val hf hs (v := .bool (!y16)) rfl rfl rfl (V.pure rfl) (fun a hf => ?_)
      refine S.val hf hs (v := .bool (!y16)) rfl rfl rfl (V.pure rfl) (fun a hf => ?_)
      refine R.nil ?_
      refine X.then_ ?_
      exact ⟨(!y16), h, ((((((hf.nil.cons (hf.get 45 _ rfl)).cons (hf.get 5 _ rfl)).cons (hf.get 4 _ rfl)).cons (hf.get 2 _ rfl)).cons (hf.get 1 _ rfl)).cons (hf.get 0 _ rfl)), hs⟩

end Go.Proofs.Ytjkkefhfbcgahaa
