/- Chapter 8: the shortest order: the walks. -/
import Derived.Test.YtmopdabkfklefaaDrillO
namespace Go.Proofs.Ytmopdabkfklefaa
open Go Go.RowKit
set_option linter.unusedVariables false

set_option linter.unusedVariables false
def M_drill_Shortest_k4 (xk2 : Point) (xk3 : Point) (n4 : Int) (next3 : Int → Prop) (x5 : Int) (c1 : Bool) : Prop :=
  cnd c1 (next3 (w64 ((far xk2 xk3) + x5))) (next3 n4)
def M_drill_Shortest_L3 (n2 : Int) (xk2 : Point) (l4 : List (List Int)) (k3 : Nat) (xk3 : Point) (n4 : Int) (next3 : Int → Prop) : Prop :=
  must (0 ≤ (k3 : Int)) (cnd ((andI .i64 (shrI .i64 n2 (k3 : Int)) 1) == 1) (must (0 ≤ (k3 : Int)) (idx l4 (andNotI .i64 n2 (shlI .i64 1 (k3 : Int))) fun x4 => idx x4 (k3 : Int) fun x5 => cnd (decide (n4 < 0)) (M_drill_Shortest_k4 xk2 xk3 n4 next3 x5 true) (M_drill_Shortest_k4 xk2 xk3 n4 next3 x5 (decide (w64 ((far xk2 xk3) + x5) < n4))))) (next3 n4))
def M_drill_Shortest_L2 (l : (List Point)) (n2 : Int) (k2 : Nat) (xk2 : Point) (l4 : List (List Int)) (next2 : List (List Int) → Prop) : Prop :=
  cnd (n2 == 0) (next2 l4) (forIn' (fun k x (s : Int) next => M_drill_Shortest_L3 n2 xk2 l4 k x s (fun n4 => next n4)) (fun (s : Int) => (fun (n4 : Int) => idx l4 n2 fun x2 => idx x2 (k2 : Int) fun x3 => next2 (l4.set n2.toNat (x2.set k2 n4))) s) l 0 (-1))
def M_drill_Shortest_k7 (b2 : Point) (k6 : Nat) (xk6 : Point) (n11 : Int) (n12 : Int) (next5 : Int → Int → Prop) (x8 : Int) (c2 : Bool) : Prop :=
  cnd c2 (next5 (k6 : Int) (w64 ((far b2 xk6) + x8))) (next5 n11 n12)
def M_drill_Shortest_L5 (l2 : List (List Int)) (b2 : Point) (n8 : Int) (k6 : Nat) (xk6 : Point) (n11 : Int) (n12 : Int) (next5 : Int → Int → Prop) : Prop :=
  must (0 ≤ (k6 : Int)) (cnd ((andI .i64 (shrI .i64 n8 (k6 : Int)) 1) == 1) (must (0 ≤ (k6 : Int)) (idx l2 (andNotI .i64 n8 (shlI .i64 1 (k6 : Int))) fun x7 => idx x7 (k6 : Int) fun x8 => cnd (decide (n11 < 0)) (M_drill_Shortest_k7 b2 k6 xk6 n11 n12 next5 x8 true) (M_drill_Shortest_k7 b2 k6 xk6 n11 n12 next5 x8 (decide (w64 ((far b2 xk6) + x8) < n12))))) (next5 n11 n12))
def M_drill_Shortest_L4 (l : (List Point)) (Q : (List Int) → Int → Int → Prop) (l2 : List (List Int)) (again4 : List Int → Point → Int → Int → Prop) (l6 : List Int) (b2 : Point) (n7 : Int) (n8 : Int) : Prop :=
  cnd (decide (n8 > 0)) (forIn' (fun k x (s : Int × Int) next => M_drill_Shortest_L5 l2 b2 n8 k x s.1 s.2 (fun n11 n12 => next (n11, n12))) (fun (s : Int × Int) => (fun (n11 : Int) (n12 : Int) => idx l n11 fun x6 => must (0 ≤ n11) (must (room (l6 ++ [n11]).length 8) (again4 (l6 ++ [n11]) x6 (w64 (n7 + (far b2 x6))) (andNotI .i64 n8 (shlI .i64 1 n11))))) s.1 s.2) l 0 ((-1), 0)) (Q l6 n7 0)
def M_drill_Shortest_L1 (l : (List Point)) (from_ : Point) (Q : (List Int) → Int → Int → Prop) (again1 : List (List Int) → Int → Prop) (l2 : List (List Int)) (n2 : Int) : Prop :=
  cnd (decide (n2 < ((List.replicate ((shlI .i64 1 (l.length : Int)).toNat) ([] : (List Int))).length : Int))) (must (0 ≤ (l.length : Int) ∧ (l.length : Int) * 8 ≤ 281474976710656) (idx l2 n2 fun x1 => forIn' (fun k x (s : List (List Int)) next => M_drill_Shortest_L2 l n2 k x s (fun l4 => next l4)) (fun (s : List (List Int)) => (fun (l4 : List (List Int)) => again1 l4 (w64 (n2 + 1))) s) l 0 (l2.set n2.toNat (List.replicate l.length 0)))) (must (0 ≤ (l.length : Int)) (lp (fun again (s : List Int × Point × Int × Int) => M_drill_Shortest_L4 l Q l2 (fun l6 b2 n7 n8 => again (l6, b2, n7, n8)) s.1 s.2.1 s.2.2.1 s.2.2.2) (([] : List Int), from_, 0, w64 ((shlI .i64 1 (l.length : Int)) - 1))))
def M_drill_Shortest (l : (List Point)) (from_ : Point) (Q : (List Int) → Int → Int → Prop) : Prop :=
  M_drill_checkPoints l from_ 10 fun y1 => cnd (y1 != 0) (Q ([] : List Int) 0 y1) (must (0 ≤ (l.length : Int)) (must (0 ≤ shlI .i64 1 (l.length : Int) ∧ shlI .i64 1 (l.length : Int) * 24 ≤ 281474976710656) (lp (fun again (s : List (List Int) × Int) => M_drill_Shortest_L1 l from_ Q (fun l2 n2 => again (l2, n2)) s.1 s.2) ((List.replicate ((shlI .i64 1 (l.length : Int)).toNat) ([] : (List Int))), 0))))
set_option maxHeartbeats 1000000 in
theorem R_drill_Shortest (l : (List Point)) (from_ : Point) (w0 : World) (lA : Option Addr) (lC : Nat) (hv_l : View w0 (old w0 none_) lA lC l) (Q : (List Int) → Int → Int → Prop) (h : M_drill_Shortest l from_ Q) :
    Ret Try.prog 27 #[.slice lA l.length lC, .agg #[.int .i64 from_.X, .int .i64 from_.Y]] w0 fun v w' => ∃ (r0 : (List Int)) (r0A : Option Addr) (r0C : Nat) (r1 : Int) (r2 : Int), v = .tuple #[.slice r0A r0.length r0C, .int .i64 r1, .int .i64 r2] ∧ Q r0 r1 r2 ∧ Sat w0 none_ [hown 3 r0A r0C r0] w' := by
  refine fn_enter Try.func27 rfl Try.ntmps27 rfl (fs := [(0, .slice lA l.length lC), (1, .agg #[.int .i64 from_.X, .int .i64 from_.Y])]) rfl (fun a hf => ?_)
  have hs := Sat.start w0 none_
  unfold M_drill_Shortest at h
  refine wp_seq ?_
  refine R.list ?_
  refine S.box hf hs rfl rfl rfl [.int .i64 from_.X, .int .i64 from_.Y] rfl rfl rfl (fun g1 a w hf hs => ?_)
  refine S.val hf hs (v := .slice none 0 0) rfl rfl rfl (V.pure rfl) (fun a hf => ?_)
  refine S.val hf hs (v := .int .i64 0) rfl rfl rfl (V.pure rfl) (fun a hf => ?_)
  refine S.val hf hs (v := .int .i64 0) rfl rfl rfl (V.pure rfl) (fun a hf => ?_)
  refine R.nil ?_
  refine X.then_ ?_
  refine wp_seq ?_
  refine wp_seq ?_
  refine R.list ?_
  refine S.val hf hs (v := .slice lA l.length lC) rfl rfl rfl (V.pure rfl) (fun a hf => ?_)
  refine S.val hf hs (v := .agg #[.int .i64 from_.X, .int .i64 from_.Y]) rfl rfl rfl (V.loadBox 0 rfl rfl rfl Try.isAgg24 Try.sizeOf24 rfl rfl) (fun a hf => ?_)
  refine S.call hf rfl rfl rfl (call_fn (vs := [.slice lA l.length lC, .agg #[.int .i64 from_.X, .int .i64 from_.Y], .int .i64 10]) rfl rfl rfl Try.call48) (R_drill_checkPoints l from_ 10 _ lA lC ((Ag.args _ _ _).view hv_l hs) _ h) (fun v a w' hf hr => ?_)
  obtain ⟨y1, rfl, h2, hs2⟩ := hr
  replace h := h2; replace hs := hs.call hs2; clear h2 hs2
  refine S.val hf hs (v := .int .i64 y1) rfl rfl rfl (V.pure rfl) (fun a hf => ?_)
  refine R.nil ?_
  refine X.then_ ?_
  refine wp_seq ?_
  refine R.list ?_
  refine S.val hf hs (v := .int .i64 y1) rfl rfl rfl (V.pure rfl) (fun a hf => ?_)
  refine S.val hf hs (v := .bool (y1 != 0)) rfl rfl rfl (V.pure rfl) (fun a hf => ?_)
  refine R.nil ?_
  refine X.then_ ?_
  refine C.cond hf (b := y1 != 0) rfl (fun hc => ?_) (fun hc => ?_)
  · replace h := h.1 hc
    refine wp_seq ?_
    refine R.list ?_
    refine S.val hf hs (v := .int .i64 y1) rfl rfl rfl (V.pure rfl) (fun a hf => ?_)
    refine S.val hf hs (v := .slice none 0 0) rfl rfl rfl (V.pure rfl) (fun a hf => ?_)
    refine S.val hf hs (v := .int .i64 0) rfl rfl rfl (V.pure rfl) (fun a hf => ?_)
    refine S.val hf hs (v := .int .i64 y1) rfl rfl rfl (V.pure rfl) (fun a hf => ?_)
    refine R.nil ?_
    refine X.then_ ?_
    refine wp_ret ?_
    refine X.then_ret ?_
    replace hs := hs.nilOwn (α := Int) 3
    replace hs := hs.take 1
    exact L.ret hf (run_results3 Try.results27 (ResIs.tmp hf rfl) (ResIs.tmp hf rfl) (ResIs.tmp hf rfl)) ⟨([] : List Int), none, 0, 0, y1, rfl, h, hs⟩
  · replace h := h.2 hc
    refine wp_skip ?_
    refine X.then_ ?_
    refine wp_seq ?_
    refine R.list ?_
    refine S.val hf hs (v := .slice lA l.length lC) rfl rfl rfl (V.pure rfl) (fun a hf => ?_)
    refine S.val hf hs (v := .int .i64 (l.length : Int)) rfl rfl rfl (V.len rfl rfl Try.runUnderlying22) (fun a hf => ?_)
    refine S.val hf hs (v := .int .i64 (l.length : Int)) rfl rfl rfl (V.pure rfl) (fun a hf => ?_)
    refine R.nil ?_
    refine X.then_ ?_
    refine wp_seq ?_
    refine R.list ?_
    refine S.val hf hs (v := .int .i64 (l.length : Int)) rfl rfl rfl (V.pure rfl) (fun a hf => ?_)
    obtain ⟨hsh, h⟩ := h
    refine S.val hf hs (v := .int .i64 (shlI .i64 1 (l.length : Int))) rfl rfl rfl (V.shl rfl rfl rfl hsh) (fun a hf => ?_)
    obtain ⟨hmk, h⟩ := h
    refine S.makeRows hf hs rfl rfl rfl ([] : (List Int)) (z := (shlI .i64 1 (l.length : Int))) (N := (shlI .i64 1 (l.length : Int)).toNat) 3 rfl rfl rfl rfl Try.underlying88 info28 hmk rfl (by have := hmk.2; omega) (fun A1 a w hf hs => ?_)
    refine S.val hf hs (v := .slice A1 (List.replicate ((shlI .i64 1 (l.length : Int)).toNat) ([] : (List Int))).length ((shlI .i64 1 (l.length : Int)).toNat)) rfl rfl rfl (V.pure rfl) (fun a hf => ?_)
    refine R.nil ?_
    refine X.then_ ?_
    refine wp_seq ?_
    refine wp_seq ?_
    refine R.list ?_
    refine S.val hf hs (v := .slice A1 (List.replicate ((shlI .i64 1 (l.length : Int)).toNat) ([] : (List Int))).length ((shlI .i64 1 (l.length : Int)).toNat)) rfl rfl rfl (V.pure rfl) (fun a hf => ?_)
    refine S.val hf hs (v := .int .i64 ((List.replicate ((shlI .i64 1 (l.length : Int)).toNat) ([] : (List Int))).length : Int)) rfl rfl rfl (V.len rfl rfl Try.runUnderlying88) (fun a hf => ?_)
    refine S.val hf hs (v := .int .i64 0) rfl rfl rfl (V.pure rfl) (fun a hf => ?_)
    refine R.nil ?_
    refine X.then_ ?_
    refine wp_block ?_
    obtain ⟨kk, h⟩ := h
    refine C.loop (fun kk a w => ∃ (l2 : List (List Int)) (l2A : Option Addr) (l2C : Nat) (l2as : List (Option Addr × Nat)) (n2 : Int), iterF (fun again (s : List (List Int) × Int) => M_drill_Shortest_L1 l from_ Q (fun l2 n2 => again (l2, n2)) s.1 s.2) kk (l2, n2) ∧ FrOk 162 [(0, .slice lA l.length lC), (3, .pointer (some ⟨g1, 0, none⟩)), (8, .int .i64 (l.length : Int)), (9, .slice l2A l2.length l2C), (37, .int .i64 ((List.replicate ((shlI .i64 1 (l.length : Int)).toNat) ([] : (List Int))).length : Int)), (38, .int .i64 n2)] a ∧ Sat w0 none_ [hrows 28 3 l2A l2C l2as l2, hbox g1 24 [.int .i64 from_.X, .int .i64 from_.Y]] w) kk ⟨(List.replicate ((shlI .i64 1 (l.length : Int)).toNat) ([] : (List Int))), A1, ((shlI .i64 1 (l.length : Int)).toNat), (List.replicate ((shlI .i64 1 (l.length : Int)).toNat) ((none : Option Addr), 0)), 0, h, ((((((hf.nil.cons (hf.get 38 _ rfl)).cons (hf.get 37 _ rfl)).cons (hf.get 9 _ rfl)).cons (hf.get 8 _ rfl)).cons (hf.get 3 _ rfl)).cons (hf.get 0 _ rfl)), hs⟩ (fun a w ⟨_, _, _, _, _, h, _, _⟩ => h) ?_
    clear h hf hs
    rintro kk a w ⟨l2, l2A, l2C, l2as, n2, h, hf, hs⟩
    obtain ⟨again1, hagain1⟩ : ∃ X : List (List Int) → Int → Prop, X = (fun l2 n2 => iterF (fun again (s : List (List Int) × Int) => M_drill_Shortest_L1 l from_ Q (fun l2 n2 => again (l2, n2)) s.1 s.2) kk (l2, n2)) := ⟨_, rfl⟩
    replace h : M_drill_Shortest_L1 l from_ Q again1 l2 n2 := by rw [hagain1]; exact h
    unfold M_drill_Shortest_L1 at h
    refine wp_seq ?_
    refine R.list ?_
    refine S.val hf hs (v := .bool (decide (n2 < ((List.replicate ((shlI .i64 1 (l.length : Int)).toNat) ([] : (List Int))).length : Int)))) rfl rfl rfl (V.pure rfl) (fun a hf => ?_)
    refine R.nil ?_
    refine X.then_ ?_
    refine wp_seq ?_
    refine C.cond hf (b := decide (n2 < ((List.replicate ((shlI .i64 1 (l.length : Int)).toNat) ([] : (List Int))).length : Int))) rfl (fun hc => ?_) (fun hc => ?_)
    · replace h := h.1 hc
      refine wp_skip ?_
      refine X.then_ ?_
      refine wp_seq ?_
      refine wp_block ?_
      refine wp_seq ?_
      refine R.list ?_
      refine S.val hf hs (v := .int .i64 n2) rfl rfl rfl (V.pure rfl) (fun a hf => ?_)
      refine S.val hf hs (v := .int .i64 n2) rfl rfl rfl (V.pure rfl) (fun a hf => ?_)
      refine R.nil ?_
      refine X.then_ ?_
      refine wp_seq ?_
      refine R.list ?_
      refine S.val hf hs (v := .slice l2A l2.length l2C) rfl rfl rfl (V.pure rfl) (fun a hf => ?_)
      refine S.val hf hs (v := .int .i64 n2) rfl rfl rfl (V.pure rfl) (fun a hf => ?_)
      refine S.val hf hs (v := .int .i64 (l.length : Int)) rfl rfl rfl (V.pure rfl) (fun a hf => ?_)
      obtain ⟨hmk, h⟩ := h
      refine S.make hf hs rfl rfl rfl (α := Int) 0 (z := (l.length : Int)) (N := l.length) rfl rfl rfl Try.underlying28 info3 hmk rfl (by have := hmk.2; omega) (fun A2 a w hf hs => ?_)
      obtain ⟨h0x1, x1, hx1, h⟩ := h
      refine S.val hf hs (v := elemPtr l2A (n2.toNat * 1)) rfl rfl rfl (V.index rfl rfl rfl Try.runUnderlying88 Try.sizeOf28 (hs.rowsSome 1 rfl hx1) h0x1 (lt_of_get hx1) rfl) (fun a hf => ?_)
      obtain ⟨B1, D1, hrB1⟩ := hs.rowAt 1 rfl hx1
      refine S.putRow (off := 0) 0 hf hs rfl rfl (List.replicate l.length 0) [.slice A2 (List.replicate l.length 0).length l.length] rfl hx1 hrB1 rfl rfl rfl rfl rfl rfl Try.sizeOf28 rfl (by decide) rfl rfl (fun a w hf hs => ?_)
      replace hf := hf.tell 9 (v := .slice l2A (l2.set n2.toNat (List.replicate l.length 0)).length l2C) ((hf.get 9 (.slice l2A l2.length l2C) rfl).trans (congrArg (fun n => Value.slice l2A n l2C) List.length_set.symm))
      replace hf := hf.tell 41 (v := .slice l2A (l2.set n2.toNat (List.replicate l.length 0)).length l2C) ((hf.get 41 (.slice l2A l2.length l2C) rfl).trans (congrArg (fun n => Value.slice l2A n l2C) List.length_set.symm))
      have hx1 : (l2.set n2.toNat (List.replicate l.length 0))[n2.toNat]? = some (List.replicate l.length 0) := List.getElem?_set_self (lt_of_get hx1)
      have hr1 : (l2as.set n2.toNat (A2, l.length))[n2.toNat]? = some (A2, l.length) := List.getElem?_set_self (lt_of_get hrB1)
      refine R.nil ?_
      refine X.then_ ?_
      refine wp_seq ?_
      refine R.list ?_
      refine S.val hf hs (v := .slice lA l.length lC) rfl rfl rfl (V.pure rfl) (fun a hf => ?_)
      refine S.val hf hs (v := .int .i64 (l.length : Int)) rfl rfl rfl (V.len rfl rfl Try.runUnderlying22) (fun a hf => ?_)
      refine S.val hf hs (v := .int .i64 0) rfl rfl rfl (V.pure rfl) (fun a hf => ?_)
      refine R.nil ?_
      refine X.then_ ?_
      refine wp_block ?_
      have hlenk2 := hv_l.len64
      refine C.range (fun (ll : List Point) a w => ∃ (k2 : Nat) (l4 : List (List Int)) (l4A : Option Addr) (l4C : Nat) (l4as : List (Option Addr × Nat)), l.drop k2 = ll ∧ k2 + ll.length = l.length ∧ forIn' (fun k x (s : List (List Int)) next => M_drill_Shortest_L2 l n2 k x s (fun l4 => next l4)) (fun (s : List (List Int)) => (fun (l4 : List (List Int)) => again1 l4 (w64 (n2 + 1))) s) ll k2 l4 ∧ FrOk 162 [(48, .int .i64 (k2 : Int)), (0, .slice lA l.length lC), (3, .pointer (some ⟨g1, 0, none⟩)), (8, .int .i64 (l.length : Int)), (9, .slice l4A l4.length l4C), (10, .int .i64 n2), (37, .int .i64 ((List.replicate ((shlI .i64 1 (l.length : Int)).toNat) ([] : (List Int))).length : Int)), (38, .int .i64 n2), (46, .slice lA l.length lC), (47, .int .i64 (l.length : Int))] a ∧ Sat w0 none_ [hrows 28 3 l4A l4C l4as l4, hbox g1 24 [.int .i64 from_.X, .int .i64 from_.Y]] w) l ⟨0, (l2.set n2.toNat (List.replicate l.length 0)), l2A, l2C, (l2as.set n2.toNat (A2, l.length)), rfl, Nat.zero_add _, h, ((((((((((hf.nil.cons (hf.get 47 _ rfl)).cons (hf.get 46 _ rfl)).cons (hf.get 38 _ rfl)).cons (hf.get 37 _ rfl)).cons (hf.get 10 _ rfl)).cons (hf.get 9 _ rfl)).cons (hf.get 8 _ rfl)).cons (hf.get 3 _ rfl)).cons (hf.get 0 _ rfl)).cons (hf.get 48 _ rfl)), hs⟩ ?_
      clear h hf hs
      rintro llk2 a w ⟨k2, l4, l4A, l4C, l4as, hlk2, hkk2, h, hf, hs⟩
      cases llk2 with
      | nil =>
        have hc := range_done hkk2
        replace h : (fun (l4 : List (List Int)) => again1 l4 (w64 (n2 + 1))) l4 := h
        refine wp_seq ?_
        refine R.list ?_
        refine S.val hf hs (v := .bool false) rfl rfl rfl (V.cmp false rfl rfl rfl rfl hc) (fun a hf => ?_)
        refine R.nil ?_
        refine X.then_ ?_
        refine wp_seq ?_
        refine C.no hf rfl ?_
        refine wp_exit ?_
        refine X.then_exit ?_
        refine X.then_exit ?_
        refine X.blk_exit ?_
        refine X.blk ?_
        refine X.then_ ?_
        refine R.list ?_
        refine S.val hf hs (v := .int .i64 (w64 (n2 + 1))) rfl rfl rfl (V.pure rfl) (fun a hf => ?_)
        refine S.val hf hs (v := .int .i64 (w64 (n2 + 1))) rfl rfl rfl (V.pure rfl) (fun a hf => ?_)
        refine R.nil ?_
        refine X.then_ ?_
        exact ⟨l4, l4A, l4C, l4as, (w64 (n2 + 1)), (by rw [hagain1] at h; exact h), ((((((hf.nil.cons (hf.get 38 _ rfl)).cons (hf.get 37 _ rfl)).cons (hf.get 9 _ rfl)).cons (hf.get 8 _ rfl)).cons (hf.get 3 _ rfl)).cons (hf.get 0 _ rfl)), hs⟩
      | cons xk2 llk2 =>
        have hltk2 := range_lt hkk2; have hc := range_go hkk2; have hxk2 := range_get hlk2
        obtain ⟨next2, hnext2⟩ : ∃ X : List (List Int) → Prop, X = (fun l4 => forIn' (fun k x (s : List (List Int)) next => M_drill_Shortest_L2 l n2 k x s (fun l4 => next l4)) (fun (s : List (List Int)) => (fun (l4 : List (List Int)) => again1 l4 (w64 (n2 + 1))) s) llk2 (k2 + 1) l4) := ⟨_, rfl⟩
        replace h : M_drill_Shortest_L2 l n2 k2 xk2 l4 next2 := by rw [hnext2]; exact h
        unfold M_drill_Shortest_L2 at h
        refine wp_seq ?_
        refine R.list ?_
        refine S.val hf hs (v := .bool true) rfl rfl rfl (V.cmp true rfl rfl rfl rfl hc) (fun a hf => ?_)
        refine R.nil ?_
        refine X.then_ ?_
        refine wp_seq ?_
        refine C.yes hf rfl ?_
        refine wp_skip ?_
        refine X.then_ ?_
        refine wp_seq ?_
        refine wp_block ?_
        refine wp_seq ?_
        refine R.list ?_
        refine S.val hf hs (v := .int .i64 (k2 : Int)) rfl rfl rfl (V.pure rfl) (fun a hf => ?_)
        refine S.val hf hs (v := elemPtr lA (k2 * 2)) rfl rfl rfl (V.index rfl rfl rfl Try.runUnderlying22 Try.sizeOf24 (hv_l.some_ (lt_of_get hxk2)) (Int.natCast_nonneg _) (lt_of_get hxk2) rfl) (fun a hf => ?_)
        refine S.val hf hs (v := .agg #[.int .i64 xk2.X, .int .i64 xk2.Y]) rfl rfl rfl (V.loadEl (off := 0) (Ag.args _ _ _) (hv_l.flat hxk2) rfl rfl rfl Try.isAgg24 Try.sizeOf24 rfl rfl) (fun a hf => ?_)
        refine S.alloc hf hs rfl rfl rfl [.int .i64 0, .int .i64 0] rfl Try.zeroValue24 rfl (fun g2 a w hf hs => ?_)
        refine S.val hf hs (v := .int .i64 (k2 : Int)) rfl rfl rfl (V.pure rfl) (fun a hf => ?_)
        refine S.storeBox 0 hf hs rfl rfl [.int .i64 xk2.X, .int .i64 xk2.Y] [.int .i64 xk2.X, .int .i64 xk2.Y] rfl rfl rfl rfl rfl Try.sizeOf24 rfl rfl rfl rfl (fun a w hf hs => ?_)
        refine R.nil ?_
        refine X.then_ ?_
        refine wp_seq ?_
        refine wp_seq ?_
        refine R.list ?_
        refine S.val hf hs (v := .int .i64 n2) rfl rfl rfl (V.pure rfl) (fun a hf => ?_)
        refine S.val hf hs (v := .bool (n2 == 0)) rfl rfl rfl (V.pure rfl) (fun a hf => ?_)
        refine R.nil ?_
        refine X.then_ ?_
        refine C.cond hf (b := n2 == 0) rfl (fun hc => ?_) (fun hc => ?_)
        · replace h := h.1 hc
          refine wp_exit ?_
          refine X.then_exit ?_
          refine X.blk_exit ?_
          refine X.then_ ?_
          refine R.list ?_
          refine S.val hf hs (v := .int .i64 ((k2 + 1 : Nat) : Int)) rfl rfl rfl (V.incr rfl rfl rfl hltk2 hlenk2) (fun a hf => ?_)
          refine S.val hf hs (v := .int .i64 ((k2 + 1 : Nat) : Int)) rfl rfl rfl (V.pure rfl) (fun a hf => ?_)
          refine R.nil ?_
          refine X.then_ ?_
          exact ⟨xk2, llk2, rfl, k2 + 1, l4, l4A, l4C, l4as, range_drop hlk2, range_len hkk2, (by rw [hnext2] at h; exact h), ((((((((((hf.nil.cons (hf.get 47 _ rfl)).cons (hf.get 46 _ rfl)).cons (hf.get 38 _ rfl)).cons (hf.get 37 _ rfl)).cons (hf.get 10 _ rfl)).cons (hf.get 9 _ rfl)).cons (hf.get 8 _ rfl)).cons (hf.get 3 _ rfl)).cons (hf.get 0 _ rfl)).cons (hf.get 48 _ rfl)), hs.drop⟩
        · replace h := h.2 hc
          refine wp_skip ?_
          refine X.then_ ?_
          refine wp_seq ?_
          refine R.list ?_
          refine S.val hf hs (v := .int .i64 (-1)) rfl rfl rfl (V.pure rfl) (fun a hf => ?_)
          refine R.nil ?_
          refine X.then_ ?_
          refine wp_seq ?_
          refine wp_seq ?_
          refine R.list ?_
          refine S.val hf hs (v := .slice lA l.length lC) rfl rfl rfl (V.pure rfl) (fun a hf => ?_)
          refine S.val hf hs (v := .int .i64 (l.length : Int)) rfl rfl rfl (V.len rfl rfl Try.runUnderlying22) (fun a hf => ?_)
          refine S.val hf hs (v := .int .i64 0) rfl rfl rfl (V.pure rfl) (fun a hf => ?_)
          refine R.nil ?_
          refine X.then_ ?_
          refine wp_block ?_
          have hlenk3 := hv_l.len64
          refine C.range (fun (ll : List Point) a w => ∃ (k3 : Nat) (n4 : Int), l.drop k3 = ll ∧ k3 + ll.length = l.length ∧ forIn' (fun k x (s : Int) next => M_drill_Shortest_L3 n2 xk2 l4 k x s (fun n4 => next n4)) (fun (s : Int) => (fun (n4 : Int) => idx l4 n2 fun x2 => idx x2 (k2 : Int) fun x3 => next2 (l4.set n2.toNat (x2.set k2 n4))) s) ll k3 n4 ∧ FrOk 162 [(57, .int .i64 (k3 : Int)), (0, .slice lA l.length lC), (3, .pointer (some ⟨g1, 0, none⟩)), (8, .int .i64 (l.length : Int)), (9, .slice l4A l4.length l4C), (10, .int .i64 n2), (11, .int .i64 (k2 : Int)), (12, .pointer (some ⟨g2, 0, none⟩)), (13, .int .i64 n4), (37, .int .i64 ((List.replicate ((shlI .i64 1 (l.length : Int)).toNat) ([] : (List Int))).length : Int)), (38, .int .i64 n2), (46, .slice lA l.length lC), (47, .int .i64 (l.length : Int)), (48, .int .i64 (k2 : Int)), (55, .slice lA l.length lC), (56, .int .i64 (l.length : Int))] a ∧ Sat w0 none_ [hbox g2 24 [.int .i64 xk2.X, .int .i64 xk2.Y], hrows 28 3 l4A l4C l4as l4, hbox g1 24 [.int .i64 from_.X, .int .i64 from_.Y]] w) l ⟨0, (-1), rfl, Nat.zero_add _, h, ((((((((((((((((hf.nil.cons (hf.get 56 _ rfl)).cons (hf.get 55 _ rfl)).cons (hf.get 48 _ rfl)).cons (hf.get 47 _ rfl)).cons (hf.get 46 _ rfl)).cons (hf.get 38 _ rfl)).cons (hf.get 37 _ rfl)).cons (hf.get 13 _ rfl)).cons (hf.get 12 _ rfl)).cons (hf.get 11 _ rfl)).cons (hf.get 10 _ rfl)).cons (hf.get 9 _ rfl)).cons (hf.get 8 _ rfl)).cons (hf.get 3 _ rfl)).cons (hf.get 0 _ rfl)).cons (hf.get 57 _ rfl)), hs⟩ ?_
          clear h hf hs
          rintro llk3 a w ⟨k3, n4, hlk3, hkk3, h, hf, hs⟩
          cases llk3 with
          | nil =>
            have hc := range_done hkk3
            replace h : (fun (n4 : Int) => idx l4 n2 fun x2 => idx x2 (k2 : Int) fun x3 => next2 (l4.set n2.toNat (x2.set k2 n4))) n4 := h
            refine wp_seq ?_
            refine R.list ?_
            refine S.val hf hs (v := .bool false) rfl rfl rfl (V.cmp false rfl rfl rfl rfl hc) (fun a hf => ?_)
            refine R.nil ?_
            refine X.then_ ?_
            refine wp_seq ?_
            refine C.no hf rfl ?_
            refine wp_exit ?_
            refine X.then_exit ?_
            refine X.then_exit ?_
            refine X.blk_exit ?_
            refine X.then_ ?_
            refine R.list ?_
            refine S.val hf hs (v := .slice l4A l4.length l4C) rfl rfl rfl (V.pure rfl) (fun a hf => ?_)
            refine S.val hf hs (v := .int .i64 n2) rfl rfl rfl (V.pure rfl) (fun a hf => ?_)
            obtain ⟨h0x2, x2, hx2, h⟩ := h
            refine S.val hf hs (v := elemPtr l4A (n2.toNat * 1)) rfl rfl rfl (V.index rfl rfl rfl Try.runUnderlying88 Try.sizeOf28 (hs.rowsSome 1 rfl hx2) h0x2 (lt_of_get hx2) rfl) (fun a hf => ?_)
            obtain ⟨B2, D2, hrB2⟩ := hs.rowAt 1 rfl hx2
            refine S.val hf hs (v := .slice B2 x2.length D2) rfl rfl rfl (V.loadRows (off := 0) 1 rfl hx2 hrB2 rfl rfl rfl Try.isAgg28 Try.sizeOf28 rfl rfl) (fun a hf => ?_)
            refine S.val hf hs (v := .int .i64 (k2 : Int)) rfl rfl rfl (V.pure rfl) (fun a hf => ?_)
            refine S.val hf hs (v := .int .i64 n4) rfl rfl rfl (V.pure rfl) (fun a hf => ?_)
            obtain ⟨h0x3, x3, hx3, h⟩ := h
            refine S.val hf hs (v := elemPtr B2 (k2 * 1)) rfl rfl rfl (V.index rfl rfl rfl Try.runUnderlying28 Try.sizeOf3 ((hs.rowView 1 rfl hx2 hrB2).some_ (lt_of_get hx3)) (Int.natCast_nonneg _) (lt_of_get hx3) rfl) (fun a hf => ?_)
            refine S.storeRowEl (off := 0) 1 hf hs rfl rfl (x2.set k2 n4) n4 [.int .i64 n4] rfl hx2 hrB2 hx3 rfl (row_same _ _ List.length_set _ _) rfl rfl rfl rfl rfl Try.sizeOf3 rfl (by decide) rfl rfl (fun a w hf hs => ?_)
            replace hf := hf.tell 9 (v := .slice l4A (l4.set n2.toNat (x2.set k2 n4)).length l4C) ((hf.get 9 (.slice l4A l4.length l4C) rfl).trans (congrArg (fun n => Value.slice l4A n l4C) List.length_set.symm))
            replace hf := hf.tell 90 (v := .slice l4A (l4.set n2.toNat (x2.set k2 n4)).length l4C) ((hf.get 90 (.slice l4A l4.length l4C) rfl).trans (congrArg (fun n => Value.slice l4A n l4C) List.length_set.symm))
            have hx2 : (l4.set n2.toNat (x2.set k2 n4))[n2.toNat]? = some (x2.set k2 n4) := List.getElem?_set_self (lt_of_get hx2)
            replace hf := hf.tell 93 (v := .slice B2 (x2.set k2 n4).length D2) ((hf.get 93 (.slice B2 x2.length D2) rfl).trans (congrArg (fun n => Value.slice B2 n D2) List.length_set.symm))
            refine R.nil ?_
            refine X.blk ?_
            refine X.then_ ?_
            refine R.list ?_
            refine S.val hf hs (v := .int .i64 ((k2 + 1 : Nat) : Int)) rfl rfl rfl (V.incr rfl rfl rfl hltk2 hlenk2) (fun a hf => ?_)
            refine S.val hf hs (v := .int .i64 ((k2 + 1 : Nat) : Int)) rfl rfl rfl (V.pure rfl) (fun a hf => ?_)
            refine R.nil ?_
            refine X.then_ ?_
            exact ⟨xk2, llk2, rfl, k2 + 1, (l4.set n2.toNat (x2.set k2 n4)), l4A, l4C, l4as, range_drop hlk2, range_len hkk2, (by rw [hnext2] at h; exact h), ((((((((((hf.nil.cons (hf.get 47 _ rfl)).cons (hf.get 46 _ rfl)).cons (hf.get 38 _ rfl)).cons (hf.get 37 _ rfl)).cons (hf.get 10 _ rfl)).cons (hf.get 9 _ rfl)).cons (hf.get 8 _ rfl)).cons (hf.get 3 _ rfl)).cons (hf.get 0 _ rfl)).cons (hf.get 48 _ rfl)), hs.drop⟩
          | cons xk3 llk3 =>
            have hltk3 := range_lt hkk3; have hc := range_go hkk3; have hxk3 := range_get hlk3
            obtain ⟨next3, hnext3⟩ : ∃ X : Int → Prop, X = (fun n4 => forIn' (fun k x (s : Int) next => M_drill_Shortest_L3 n2 xk2 l4 k x s (fun n4 => next n4)) (fun (s : Int) => (fun (n4 : Int) => idx l4 n2 fun x2 => idx x2 (k2 : Int) fun x3 => next2 (l4.set n2.toNat (x2.set k2 n4))) s) llk3 (k3 + 1) n4) := ⟨_, rfl⟩
            replace h : M_drill_Shortest_L3 n2 xk2 l4 k3 xk3 n4 next3 := by rw [hnext3]; exact h
            unfold M_drill_Shortest_L3 at h
            refine wp_seq ?_
            refine R.list ?_
            refine S.val hf hs (v := .bool true) rfl rfl rfl (V.cmp true rfl rfl rfl rfl hc) (fun a hf => ?_)
            refine R.nil ?_
            refine X.then_ ?_
            refine wp_seq ?_
            refine C.yes hf rfl ?_
            refine wp_skip ?_
            refine X.then_ ?_
            refine wp_seq ?_
            refine wp_block ?_
            refine wp_seq ?_
            refine R.list ?_
            refine S.val hf hs (v := .int .i64 (k3 : Int)) rfl rfl rfl (V.pure rfl) (fun a hf => ?_)
            refine S.val hf hs (v := elemPtr lA (k3 * 2)) rfl rfl rfl (V.index rfl rfl rfl Try.runUnderlying22 Try.sizeOf24 (hv_l.some_ (lt_of_get hxk3)) (Int.natCast_nonneg _) (lt_of_get hxk3) rfl) (fun a hf => ?_)
            refine S.val hf hs (v := .agg #[.int .i64 xk3.X, .int .i64 xk3.Y]) rfl rfl rfl (V.loadEl (off := 0) (Ag.args _ _ _) (hv_l.flat hxk3) rfl rfl rfl Try.isAgg24 Try.sizeOf24 rfl rfl) (fun a hf => ?_)
            refine S.alloc hf hs rfl rfl rfl [.int .i64 0, .int .i64 0] rfl Try.zeroValue24 rfl (fun g3 a w hf hs => ?_)
            refine S.val hf hs (v := .int .i64 (k3 : Int)) rfl rfl rfl (V.pure rfl) (fun a hf => ?_)
            refine S.storeBox 0 hf hs rfl rfl [.int .i64 xk3.X, .int .i64 xk3.Y] [.int .i64 xk3.X, .int .i64 xk3.Y] rfl rfl rfl rfl rfl Try.sizeOf24 rfl rfl rfl rfl (fun a w hf hs => ?_)
            refine R.nil ?_
            refine X.then_ ?_
            refine wp_seq ?_
            refine R.list ?_
            refine S.val hf hs (v := .int .i64 n2) rfl rfl rfl (V.pure rfl) (fun a hf => ?_)
            refine S.val hf hs (v := .int .i64 (k3 : Int)) rfl rfl rfl (V.pure rfl) (fun a hf => ?_)
            obtain ⟨hsh, h⟩ := h
            refine S.val hf hs (v := .int .i64 (shrI .i64 n2 (k3 : Int))) rfl rfl rfl (V.shr rfl rfl rfl hsh) (fun a hf => ?_)
            refine S.val hf hs (v := .int .i64 (andI .i64 (shrI .i64 n2 (k3 : Int)) 1)) rfl rfl rfl (V.bits rfl rfl rfl rfl) (fun a hf => ?_)
            refine S.val hf hs (v := .bool ((andI .i64 (shrI .i64 n2 (k3 : Int)) 1) == 1)) rfl rfl rfl (V.pure rfl) (fun a hf => ?_)
            refine R.nil ?_
            refine X.then_ ?_
            refine C.cond hf (b := (andI .i64 (shrI .i64 n2 (k3 : Int)) 1) == 1) rfl (fun hc => ?_) (fun hc => ?_)
            · replace h := h.1 hc
              refine wp_seq ?_
              refine R.draw mo (by kernel_rfl) hs ?_
              refine D.val hf (v := .agg #[.int .i64 xk2.X, .int .i64 xk2.Y]) rfl rfl rfl (V.loadBox 1 rfl rfl rfl Try.isAgg24 Try.sizeOf24 rfl rfl) (fun a hf => ?_)
              refine D.val hf (v := .agg #[.int .i64 xk3.X, .int .i64 xk3.Y]) rfl rfl rfl (V.loadBox 0 rfl rfl rfl Try.isAgg24 Try.sizeOf24 rfl rfl) (fun a hf => ?_)
              refine D.call hf (v := .int .i64 (far xk2 xk3)) rfl rfl rfl (call_fn (vs := [.agg #[.int .i64 xk2.X, .int .i64 xk2.Y], .agg #[.int .i64 xk3.X, .int .i64 xk3.Y]]) rfl rfl rfl Try.call61) (fun w hs => Ret.quiet hs (C_drill_far xk2 xk3 w )) (fun a hf => ?_)
              refine D.val hf (v := .slice l4A l4.length l4C) rfl rfl rfl (V.pure rfl) (fun a hf => ?_)
              refine D.val hf (v := .int .i64 n2) rfl rfl rfl (V.pure rfl) (fun a hf => ?_)
              refine D.val hf (v := .int .i64 (k3 : Int)) rfl rfl rfl (V.pure rfl) (fun a hf => ?_)
              obtain ⟨hsh, h⟩ := h
              refine D.val hf (v := .int .i64 (shlI .i64 1 (k3 : Int))) rfl rfl rfl (V.shl rfl rfl rfl hsh) (fun a hf => ?_)
              refine D.val hf (v := .int .i64 (andNotI .i64 n2 (shlI .i64 1 (k3 : Int)))) rfl rfl rfl (V.bits rfl rfl rfl rfl) (fun a hf => ?_)
              obtain ⟨h0x4, x4, hx4, h⟩ := h
              refine D.val hf (v := elemPtr l4A ((andNotI .i64 n2 (shlI .i64 1 (k3 : Int))).toNat * 1)) rfl rfl rfl (V.index rfl rfl rfl Try.runUnderlying88 Try.sizeOf28 (hs.rowsSome 2 rfl hx4) h0x4 (lt_of_get hx4) rfl) (fun a hf => ?_)
              obtain ⟨B3, D3, hrB3⟩ := hs.rowAt 2 rfl hx4
              refine D.val hf (v := .slice B3 x4.length D3) rfl rfl rfl (V.loadRows (off := 0) 2 rfl hx4 hrB3 rfl rfl rfl Try.isAgg28 Try.sizeOf28 rfl rfl) (fun a hf => ?_)
              refine D.val hf (v := .int .i64 (k3 : Int)) rfl rfl rfl (V.pure rfl) (fun a hf => ?_)
              obtain ⟨h0x5, x5, hx5, h⟩ := h
              refine D.val hf (v := elemPtr B3 (k3 * 1)) rfl rfl rfl (V.index rfl rfl rfl Try.runUnderlying28 Try.sizeOf3 ((hs.rowView 2 rfl hx4 hrB3).some_ (lt_of_get hx5)) (Int.natCast_nonneg _) (lt_of_get hx5) rfl) (fun a hf => ?_)
              refine D.val hf (v := .int .i64 x5) rfl rfl rfl (V.loadRowEl (off := 0) 2 rfl hx4 hrB3 hx5 rfl rfl rfl Try.isAgg3 Try.sizeOf3 rfl rfl) (fun a hf => ?_)
              refine D.val hf (v := .int .i64 (w64 ((far xk2 xk3) + x5))) rfl rfl rfl (V.pure rfl) (fun a hf => ?_)
              refine D.val hf (v := .int .i64 (w64 ((far xk2 xk3) + x5))) rfl rfl rfl (V.pure rfl) (fun a hf => ?_)
              refine D.done (fun w hs => ?_)
              refine X.then_ ?_
              refine wp_seq ?_
              refine C.cut (J := fun a w => ∃ (c1 : Bool), M_drill_Shortest_k4 xk2 xk3 n4 next3 x5 c1 ∧ FrOk 162 [(0, .slice lA l.length lC), (3, .pointer (some ⟨g1, 0, none⟩)), (8, .int .i64 (l.length : Int)), (9, .slice l4A l4.length l4C), (10, .int .i64 n2), (11, .int .i64 (k2 : Int)), (12, .pointer (some ⟨g2, 0, none⟩)), (13, .int .i64 n4), (16, .int .i64 (w64 ((far xk2 xk3) + x5))), (37, .int .i64 ((List.replicate ((shlI .i64 1 (l.length : Int)).toNat) ([] : (List Int))).length : Int)), (38, .int .i64 n2), (46, .slice lA l.length lC), (47, .int .i64 (l.length : Int)), (48, .int .i64 (k2 : Int)), (55, .slice lA l.length lC), (56, .int .i64 (l.length : Int)), (57, .int .i64 (k3 : Int)), (87, .bool c1)] a ∧ Sat w0 none_ [hbox g3 24 [.int .i64 xk3.X, .int .i64 xk3.Y], hbox g2 24 [.int .i64 xk2.X, .int .i64 xk2.Y], hrows 28 3 l4A l4C l4as l4, hbox g1 24 [.int .i64 from_.X, .int .i64 from_.Y]] w) ?_ ?_
              · rintro a w ⟨c1, h, hf, hs⟩
                unfold M_drill_Shortest_k4 at h
                refine C.cond hf (b := c1) rfl (fun hc => ?_) (fun hc => ?_)
                · replace h := h.1 hc
                  refine R.list ?_
                  refine S.val hf hs (v := .int .i64 (w64 ((far xk2 xk3) + x5))) rfl rfl rfl (V.pure rfl) (fun a hf => ?_)
                  refine S.val hf hs (v := .int .i64 (w64 ((far xk2 xk3) + x5))) rfl rfl rfl (V.pure rfl) (fun a hf => ?_)
                  refine R.nil ?_
                  refine X.blk ?_
                  refine X.then_ ?_
                  refine R.list ?_
                  refine S.val hf hs (v := .int .i64 ((k3 + 1 : Nat) : Int)) rfl rfl rfl (V.incr rfl rfl rfl hltk3 hlenk3) (fun a hf => ?_)
                  refine S.val hf hs (v := .int .i64 ((k3 + 1 : Nat) : Int)) rfl rfl rfl (V.pure rfl) (fun a hf => ?_)
                  refine R.nil ?_
                  refine X.then_ ?_
                  exact ⟨xk3, llk3, rfl, k3 + 1, (w64 ((far xk2 xk3) + x5)), range_drop hlk3, range_len hkk3, (by rw [hnext3] at h; exact h), ((((((((((((((((hf.nil.cons (hf.get 56 _ rfl)).cons (hf.get 55 _ rfl)).cons (hf.get 48 _ rfl)).cons (hf.get 47 _ rfl)).cons (hf.get 46 _ rfl)).cons (hf.get 38 _ rfl)).cons (hf.get 37 _ rfl)).cons (hf.get 13 _ rfl)).cons (hf.get 12 _ rfl)).cons (hf.get 11 _ rfl)).cons (hf.get 10 _ rfl)).cons (hf.get 9 _ rfl)).cons (hf.get 8 _ rfl)).cons (hf.get 3 _ rfl)).cons (hf.get 0 _ rfl)).cons (hf.get 57 _ rfl)), hs.drop⟩
                · replace h := h.2 hc
                  refine wp_skip ?_
                  refine X.blk ?_
                  refine X.then_ ?_
                  refine R.list ?_
                  refine S.val hf hs (v := .int .i64 ((k3 + 1 : Nat) : Int)) rfl rfl rfl (V.incr rfl rfl rfl hltk3 hlenk3) (fun a hf => ?_)
                  refine S.val hf hs (v := .int .i64 ((k3 + 1 : Nat) : Int)) rfl rfl rfl (V.pure rfl) (fun a hf => ?_)
                  refine R.nil ?_
                  refine X.then_ ?_
                  exact ⟨xk3, llk3, rfl, k3 + 1, n4, range_drop hlk3, range_len hkk3, (by rw [hnext3] at h; exact h), ((((((((((((((((hf.nil.cons (hf.get 56 _ rfl)).cons (hf.get 55 _ rfl)).cons (hf.get 48 _ rfl)).cons (hf.get 47 _ rfl)).cons (hf.get 46 _ rfl)).cons (hf.get 38 _ rfl)).cons (hf.get 37 _ rfl)).cons (hf.get 13 _ rfl)).cons (hf.get 12 _ rfl)).cons (hf.get 11 _ rfl)).cons (hf.get 10 _ rfl)).cons (hf.get 9 _ rfl)).cons (hf.get 8 _ rfl)).cons (hf.get 3 _ rfl)).cons (hf.get 0 _ rfl)).cons (hf.get 57 _ rfl)), hs.drop⟩
              · skip
                refine R.list ?_
                refine S.val hf hs (v := .int .i64 n4) rfl rfl rfl (V.pure rfl) (fun a hf => ?_)
                refine S.val hf hs (v := .bool (decide (n4 < 0))) rfl rfl rfl (V.pure rfl) (fun a hf => ?_)
                refine S.split hf hs (b := decide (n4 < 0)) rfl rfl rfl (V.pure rfl) (fun hc a hf => ?_) (fun hc a hf => ?_)
                · replace h := h.1 hc
                  refine S.skip hf rfl rfl rfl (fun a hf => ?_)
                  refine S.skip hf rfl rfl rfl (fun a hf => ?_)
                  refine S.skip hf rfl rfl rfl (fun a hf => ?_)
                  refine S.val hf hs (v := .bool true) rfl rfl rfl (V.pure rfl) (fun a hf => ?_)
                  refine R.nil ?_
                  refine X.then_ ?_
                  exact ⟨true, h, ((((((((((((((((((hf.nil.cons (hf.get 87 _ rfl)).cons (hf.get 57 _ rfl)).cons (hf.get 56 _ rfl)).cons (hf.get 55 _ rfl)).cons (hf.get 48 _ rfl)).cons (hf.get 47 _ rfl)).cons (hf.get 46 _ rfl)).cons (hf.get 38 _ rfl)).cons (hf.get 37 _ rfl)).cons (hf.get 16 _ rfl)).cons (hf.get 13 _ rfl)).cons (hf.get 12 _ rfl)).cons (hf.get 11 _ rfl)).cons (hf.get 10 _ rfl)).cons (hf.get 9 _ rfl)).cons (hf.get 8 _ rfl)).cons (hf.get 3 _ rfl)).cons (hf.get 0 _ rfl)), hs⟩
                · replace h := h.2 hc
                  refine S.val hf hs (v := .int .i64 (w64 ((far xk2 xk3) + x5))) rfl rfl rfl (V.pure rfl) (fun a hf => ?_)
                  refine S.val hf hs (v := .int .i64 n4) rfl rfl rfl (V.pure rfl) (fun a hf => ?_)
                  refine S.val hf hs (v := .bool (decide (w64 ((far xk2 xk3) + x5) < n4))) rfl rfl rfl (V.pure rfl) (fun a hf => ?_)
                  refine S.val hf hs (v := .bool (decide (w64 ((far xk2 xk3) + x5) < n4))) rfl rfl rfl (V.pure rfl) (fun a hf => ?_)
                  refine R.nil ?_
                  refine X.then_ ?_
                  exact ⟨(decide (w64 ((far xk2 xk3) + x5) < n4)), h, ((((((((((((((((((hf.nil.cons (hf.get 87 _ rfl)).cons (hf.get 57 _ rfl)).cons (hf.get 56 _ rfl)).cons (hf.get 55 _ rfl)).cons (hf.get 48 _ rfl)).cons (hf.get 47 _ rfl)).cons (hf.get 46 _ rfl)).cons (hf.get 38 _ rfl)).cons (hf.get 37 _ rfl)).cons (hf.get 16 _ rfl)).cons (hf.get 13 _ rfl)).cons (hf.get 12 _ rfl)).cons (hf.get 11 _ rfl)).cons (hf.get 10 _ rfl)).cons (hf.get 9 _ rfl)).cons (hf.get 8 _ rfl)).cons (hf.get 3 _ rfl)).cons (hf.get 0 _ rfl)), hs⟩
            · replace h := h.2 hc
              refine wp_skip ?_
              refine X.blk ?_
              refine X.then_ ?_
              refine R.list ?_
              refine S.val hf hs (v := .int .i64 ((k3 + 1 : Nat) : Int)) rfl rfl rfl (V.incr rfl rfl rfl hltk3 hlenk3) (fun a hf => ?_)
              refine S.val hf hs (v := .int .i64 ((k3 + 1 : Nat) : Int)) rfl rfl rfl (V.pure rfl) (fun a hf => ?_)
              refine R.nil ?_
              refine X.then_ ?_
              exact ⟨xk3, llk3, rfl, k3 + 1, n4, range_drop hlk3, range_len hkk3, (by rw [hnext3] at h; exact h), ((((((((((((((((hf.nil.cons (hf.get 56 _ rfl)).cons (hf.get 55 _ rfl)).cons (hf.get 48 _ rfl)).cons (hf.get 47 _ rfl)).cons (hf.get 46 _ rfl)).cons (hf.get 38 _ rfl)).cons (hf.get 37 _ rfl)).cons (hf.get 13 _ rfl)).cons (hf.get 12 _ rfl)).cons (hf.get 11 _ rfl)).cons (hf.get 10 _ rfl)).cons (hf.get 9 _ rfl)).cons (hf.get 8 _ rfl)).cons (hf.get 3 _ rfl)).cons (hf.get 0 _ rfl)).cons (hf.get 57 _ rfl)), hs.drop⟩
    · replace h := h.2 hc
      refine wp_exit ?_
      refine X.then_exit ?_
      refine X.then_exit ?_
      refine X.blk_exit ?_
      refine X.then_ ?_
      refine wp_seq ?_
      refine R.list ?_
      refine S.val hf hs (v := .slice none 0 0) rfl rfl rfl (V.pure rfl) (fun a hf => ?_)
      refine R.nil ?_
      refine X.then_ ?_
      refine wp_seq ?_
      refine R.list ?_
      refine S.val hf hs (v := .int .i64 0) rfl rfl rfl (V.pure rfl) (fun a hf => ?_)
      refine R.nil ?_
      refine X.then_ ?_
      refine wp_seq ?_
      refine wp_seq ?_
      refine R.list ?_
      refine S.val hf hs (v := .int .i64 (l.length : Int)) rfl rfl rfl (V.pure rfl) (fun a hf => ?_)
      obtain ⟨hsh, h⟩ := h
      refine S.val hf hs (v := .int .i64 (shlI .i64 1 (l.length : Int))) rfl rfl rfl (V.shl rfl rfl rfl hsh) (fun a hf => ?_)
      refine S.val hf hs (v := .int .i64 (w64 ((shlI .i64 1 (l.length : Int)) - 1))) rfl rfl rfl (V.pure rfl) (fun a hf => ?_)
      refine S.val hf hs (v := .int .i64 (w64 ((shlI .i64 1 (l.length : Int)) - 1))) rfl rfl rfl (V.pure rfl) (fun a hf => ?_)
      refine R.nil ?_
      refine X.then_ ?_
      refine wp_block ?_
      replace hs := hs.nilOwn (α := Int) 3
      obtain ⟨kk, h⟩ := h
      refine C.loop (fun kk a w => ∃ (l6 : List Int) (l6A : Option Addr) (l6C : Nat) (b2 : Point) (n7 : Int) (n8 : Int), iterF (fun again (s : List Int × Point × Int × Int) => M_drill_Shortest_L4 l Q l2 (fun l6 b2 n7 n8 => again (l6, b2, n7, n8)) s.1 s.2.1 s.2.2.1 s.2.2.2) kk (l6, b2, n7, n8) ∧ FrOk 162 [(0, .slice lA l.length lC), (3, .pointer (some ⟨g1, 0, none⟩)), (9, .slice l2A l2.length l2C), (17, .slice l6A l6.length l6C), (18, .int .i64 n7), (19, .int .i64 n8)] a ∧ Sat w0 none_ [hown 3 l6A l6C l6, hrows 28 3 l2A l2C l2as l2, hbox g1 24 [.int .i64 b2.X, .int .i64 b2.Y]] w) kk ⟨([] : List Int), none, 0, from_, 0, (w64 ((shlI .i64 1 (l.length : Int)) - 1)), h, ((((((hf.nil.cons (hf.get 19 _ rfl)).cons (hf.get 18 _ rfl)).cons (hf.get 17 _ rfl)).cons (hf.get 9 _ rfl)).cons (hf.get 3 _ rfl)).cons (hf.get 0 _ rfl)), hs⟩ (fun a w ⟨_, _, _, _, _, _, h, _, _⟩ => h) ?_
      clear h hf hs
      rintro kk a w ⟨l6, l6A, l6C, b2, n7, n8, h, hf, hs⟩
      obtain ⟨again4, hagain4⟩ : ∃ X : List Int → Point → Int → Int → Prop, X = (fun l6 b2 n7 n8 => iterF (fun again (s : List Int × Point × Int × Int) => M_drill_Shortest_L4 l Q l2 (fun l6 b2 n7 n8 => again (l6, b2, n7, n8)) s.1 s.2.1 s.2.2.1 s.2.2.2) kk (l6, b2, n7, n8)) := ⟨_, rfl⟩
      replace h : M_drill_Shortest_L4 l Q l2 again4 l6 b2 n7 n8 := by rw [hagain4]; exact h
      unfold M_drill_Shortest_L4 at h
      refine wp_seq ?_
      refine wp_seq ?_
      refine R.list ?_
      refine S.val hf hs (v := .int .i64 n8) rfl rfl rfl (V.pure rfl) (fun a hf => ?_)
      refine S.val hf hs (v := .bool (decide (n8 > 0))) rfl rfl rfl (V.pure rfl) (fun a hf => ?_)
      refine R.nil ?_
      refine X.then_ ?_
      refine C.cond hf (b := decide (n8 > 0)) rfl (fun hc => ?_) (fun hc => ?_)
      · replace h := h.1 hc
        refine wp_skip ?_
        refine X.then_ ?_
        refine wp_block ?_
        refine wp_seq ?_
        refine R.list ?_
        refine S.val hf hs (v := .int .i64 (-1)) rfl rfl rfl (V.pure rfl) (fun a hf => ?_)
        refine S.val hf hs (v := .int .i64 0) rfl rfl rfl (V.pure rfl) (fun a hf => ?_)
        refine R.nil ?_
        refine X.then_ ?_
        refine wp_seq ?_
        refine wp_seq ?_
        refine R.list ?_
        refine S.val hf hs (v := .slice lA l.length lC) rfl rfl rfl (V.pure rfl) (fun a hf => ?_)
        refine S.val hf hs (v := .int .i64 (l.length : Int)) rfl rfl rfl (V.len rfl rfl Try.runUnderlying22) (fun a hf => ?_)
        refine S.val hf hs (v := .int .i64 0) rfl rfl rfl (V.pure rfl) (fun a hf => ?_)
        refine R.nil ?_
        refine X.then_ ?_
        refine wp_block ?_
        have hlenk6 := hv_l.len64
        refine C.range (fun (ll : List Point) a w => ∃ (k6 : Nat) (n11 : Int) (n12 : Int), l.drop k6 = ll ∧ k6 + ll.length = l.length ∧ forIn' (fun k x (s : Int × Int) next => M_drill_Shortest_L5 l2 b2 n8 k x s.1 s.2 (fun n11 n12 => next (n11, n12))) (fun (s : Int × Int) => (fun (n11 : Int) (n12 : Int) => idx l n11 fun x6 => must (0 ≤ n11) (must (room (l6 ++ [n11]).length 8) (again4 (l6 ++ [n11]) x6 (w64 (n7 + (far b2 x6))) (andNotI .i64 n8 (shlI .i64 1 n11))))) s.1 s.2) ll k6 (n11, n12) ∧ FrOk 162 [(106, .int .i64 (k6 : Int)), (0, .slice lA l.length lC), (3, .pointer (some ⟨g1, 0, none⟩)), (9, .slice l2A l2.length l2C), (17, .slice l6A l6.length l6C), (18, .int .i64 n7), (19, .int .i64 n8), (20, .int .i64 n11), (21, .int .i64 n12), (104, .slice lA l.length lC), (105, .int .i64 (l.length : Int))] a ∧ Sat w0 none_ [hown 3 l6A l6C l6, hrows 28 3 l2A l2C l2as l2, hbox g1 24 [.int .i64 b2.X, .int .i64 b2.Y]] w) l ⟨0, (-1), 0, rfl, Nat.zero_add _, h, (((((((((((hf.nil.cons (hf.get 105 _ rfl)).cons (hf.get 104 _ rfl)).cons (hf.get 21 _ rfl)).cons (hf.get 20 _ rfl)).cons (hf.get 19 _ rfl)).cons (hf.get 18 _ rfl)).cons (hf.get 17 _ rfl)).cons (hf.get 9 _ rfl)).cons (hf.get 3 _ rfl)).cons (hf.get 0 _ rfl)).cons (hf.get 106 _ rfl)), hs⟩ ?_
        clear h hf hs
        rintro llk6 a w ⟨k6, n11, n12, hlk6, hkk6, h, hf, hs⟩
        cases llk6 with
        | nil =>
          have hc := range_done hkk6
          replace h : (fun (n11 : Int) (n12 : Int) => idx l n11 fun x6 => must (0 ≤ n11) (must (room (l6 ++ [n11]).length 8) (again4 (l6 ++ [n11]) x6 (w64 (n7 + (far b2 x6))) (andNotI .i64 n8 (shlI .i64 1 n11))))) n11 n12 := h
          refine wp_seq ?_
          refine R.list ?_
          refine S.val hf hs (v := .bool false) rfl rfl rfl (V.cmp false rfl rfl rfl rfl hc) (fun a hf => ?_)
          refine R.nil ?_
          refine X.then_ ?_
          refine wp_seq ?_
          refine C.no hf rfl ?_
          refine wp_exit ?_
          refine X.then_exit ?_
          refine X.then_exit ?_
          refine X.blk_exit ?_
          refine X.then_ ?_
          refine wp_seq ?_
          refine R.draw mo (by kernel_rfl) hs ?_
          refine D.val hf (v := .int .i64 n7) rfl rfl rfl (V.pure rfl) (fun a hf => ?_)
          refine D.val hf (v := .agg #[.int .i64 b2.X, .int .i64 b2.Y]) rfl rfl rfl (V.loadBox 2 rfl rfl rfl Try.isAgg24 Try.sizeOf24 rfl rfl) (fun a hf => ?_)
          refine D.val hf (v := .slice lA l.length lC) rfl rfl rfl (V.pure rfl) (fun a hf => ?_)
          refine D.val hf (v := .int .i64 n11) rfl rfl rfl (V.pure rfl) (fun a hf => ?_)
          obtain ⟨h0x6, x6, hx6, h⟩ := h
          refine D.val hf (v := elemPtr lA (n11.toNat * 2)) rfl rfl rfl (V.index rfl rfl rfl Try.runUnderlying22 Try.sizeOf24 (hv_l.some_ (lt_of_get hx6)) h0x6 (lt_of_get hx6) rfl) (fun a hf => ?_)
          refine D.val hf (v := .agg #[.int .i64 x6.X, .int .i64 x6.Y]) rfl rfl rfl (V.loadEl (off := 0) (Ag.args _ _ _) (hv_l.flat hx6) rfl rfl rfl Try.isAgg24 Try.sizeOf24 rfl rfl) (fun a hf => ?_)
          refine D.call hf (v := .int .i64 (far b2 x6)) rfl rfl rfl (call_fn (vs := [.agg #[.int .i64 b2.X, .int .i64 b2.Y], .agg #[.int .i64 x6.X, .int .i64 x6.Y]]) rfl rfl rfl Try.call61) (fun w hs => Ret.quiet hs (C_drill_far b2 x6 w )) (fun a hf => ?_)
          refine D.val hf (v := .int .i64 (w64 (n7 + (far b2 x6)))) rfl rfl rfl (V.pure rfl) (fun a hf => ?_)
          refine D.val hf (v := .int .i64 (w64 (n7 + (far b2 x6)))) rfl rfl rfl (V.pure rfl) (fun a hf => ?_)
          refine D.done (fun w hs => ?_)
          refine X.then_ ?_
          refine H.start (S := Sat w0 none_ [hrows 28 3 l2A l2C l2as l2]) mo ?_
          replace hs := hs.drew
          refine H.val hf (hs.mask [false, true, false]) (v := .slice l6A l6.length l6C) (i := 0) rfl rfl rfl rfl (by kernel_rfl) (by kernel_rfl) (by kernel_rfl) (V.pure rfl) (fun a hf => ?_)
          refine H.val hf (hs.mask [false, true, false]) (v := .int .i64 n11) (i := 1) rfl rfl rfl rfl (by kernel_rfl) (by kernel_rfl) (by kernel_rfl) (V.pure rfl) (fun a hf => ?_)
          refine H.val hf (hs.mask [false, true, false]) (v := .slice lA l.length lC) (i := 4) rfl rfl rfl rfl (by kernel_rfl) (by kernel_rfl) (by kernel_rfl) (V.pure rfl) (fun a hf => ?_)
          refine H.val hf (hs.mask [false, true, false]) (v := .int .i64 n11) (i := 5) rfl rfl rfl rfl (by kernel_rfl) (by kernel_rfl) (by kernel_rfl) (V.pure rfl) (fun a hf => ?_)
          refine H.val hf (hs.mask [false, true, false]) (v := elemPtr lA (n11.toNat * 2)) (i := 6) rfl rfl rfl rfl (by kernel_rfl) (by kernel_rfl) (by kernel_rfl) (V.index rfl rfl rfl Try.runUnderlying22 Try.sizeOf24 (hv_l.some_ (lt_of_get hx6)) h0x6 (lt_of_get hx6) rfl) (fun a hf => ?_)
          refine H.val hf (hs.mask [false, true, false]) (v := .agg #[.int .i64 x6.X, .int .i64 x6.Y]) (i := 7) rfl rfl rfl rfl (by kernel_rfl) (by kernel_rfl) (by kernel_rfl) (V.loadEl (off := 0) (Ag.args _ _ _) (hv_l.flat hx6) rfl rfl rfl Try.isAgg24 Try.sizeOf24 rfl rfl) (fun a hf => ?_)
          refine H.val hf (hs.mask [false, true, false]) (v := .int .i64 n8) (i := 8) rfl rfl rfl rfl (by kernel_rfl) (by kernel_rfl) (by kernel_rfl) (V.pure rfl) (fun a hf => ?_)
          refine H.val hf (hs.mask [false, true, false]) (v := .int .i64 n11) (i := 9) rfl rfl rfl rfl (by kernel_rfl) (by kernel_rfl) (by kernel_rfl) (V.pure rfl) (fun a hf => ?_)
          obtain ⟨hsh, h⟩ := h
          refine H.val hf (hs.mask [false, true, false]) (v := .int .i64 (shlI .i64 1 n11)) (i := 10) rfl rfl rfl rfl (by kernel_rfl) (by kernel_rfl) (by kernel_rfl) (V.shl rfl rfl rfl hsh) (fun a hf => ?_)
          refine H.val hf (hs.mask [false, true, false]) (v := .int .i64 (andNotI .i64 n8 (shlI .i64 1 n11))) (i := 11) rfl rfl rfl rfl (by kernel_rfl) (by kernel_rfl) (by kernel_rfl) (V.bits rfl rfl rfl rfl) (fun a hf => ?_)
          refine H.one (i := 2) rfl (by kernel_rfl) ?_
          refine S.build1 hf hs rfl rfl rfl (α := Int) n11 rfl rfl rfl Try.runUnderlying28 Try.sizeOf3 Try.zeroValue3 rfl (by decide) (fun A3 a w hf hs => ?_)
          refine R.nil ?_
          refine X.then_ ?_
          refine ⟨(hs.mask [false, false, true, false]), ?_⟩
          refine H.one (i := 3) rfl (by kernel_rfl) ?_
          obtain ⟨hroom, h⟩ := h
          refine S.appendCells 1 hf hs rfl rfl rfl rfl rfl rfl rfl Try.underlying28 info3 rfl hroom ((hs.ownView 0 rfl).some_ (i := 0) (by simp)) (hs.ownView 0 rfl) (fun A4 C1 a w hf hs => ?_)
          replace hs := hs.drop
          refine R.nil ?_
          refine X.then_ ?_
          refine ⟨(hs.mask [false, true, false]), ?_⟩
          refine H.val hf (hs.mask [false, true, false]) (v := .slice A4 (l6 ++ [n11]).length C1) (i := 12) rfl rfl rfl rfl (by kernel_rfl) (by kernel_rfl) (by kernel_rfl) (V.pure rfl) (fun a hf => ?_)
          refine H.one (i := 13) rfl (by kernel_rfl) ?_
          refine S.storeBox 2 hf hs rfl rfl [.int .i64 x6.X, .int .i64 x6.Y] [.int .i64 x6.X, .int .i64 x6.Y] rfl rfl rfl rfl rfl Try.sizeOf24 rfl rfl rfl rfl (fun a w hf hs => ?_)
          refine R.nil ?_
          refine X.then_ ?_
          refine ⟨(hs.mask [false, true, false]), ?_⟩
          refine H.val hf (hs.mask [false, true, false]) (v := .int .i64 (andNotI .i64 n8 (shlI .i64 1 n11))) (i := 14) rfl rfl rfl rfl (by kernel_rfl) (by kernel_rfl) (by kernel_rfl) (V.pure rfl) (fun a hf => ?_)
          refine H.done (by kernel_rfl) ?_
          refine X.blk ?_
          refine X.then_ ?_
          exact ⟨(l6 ++ [n11]), A4, C1, x6, (w64 (n7 + (far b2 x6))), (andNotI .i64 n8 (shlI .i64 1 n11)), (by rw [hagain4] at h; exact h), ((((((hf.nil.cons (hf.get 19 _ rfl)).cons (hf.get 18 _ rfl)).cons (hf.get 17 _ rfl)).cons (hf.get 9 _ rfl)).cons (hf.get 3 _ rfl)).cons (hf.get 0 _ rfl)), hs⟩
        | cons xk6 llk6 =>
          have hltk6 := range_lt hkk6; have hc := range_go hkk6; have hxk6 := range_get hlk6
          obtain ⟨next5, hnext5⟩ : ∃ X : Int → Int → Prop, X = (fun n11 n12 => forIn' (fun k x (s : Int × Int) next => M_drill_Shortest_L5 l2 b2 n8 k x s.1 s.2 (fun n11 n12 => next (n11, n12))) (fun (s : Int × Int) => (fun (n11 : Int) (n12 : Int) => idx l n11 fun x6 => must (0 ≤ n11) (must (room (l6 ++ [n11]).length 8) (again4 (l6 ++ [n11]) x6 (w64 (n7 + (far b2 x6))) (andNotI .i64 n8 (shlI .i64 1 n11))))) s.1 s.2) llk6 (k6 + 1) (n11, n12)) := ⟨_, rfl⟩
          replace h : M_drill_Shortest_L5 l2 b2 n8 k6 xk6 n11 n12 next5 := by rw [hnext5]; exact h
          unfold M_drill_Shortest_L5 at h
          refine wp_seq ?_
          refine R.list ?_
          refine S.val hf hs (v := .bool true) rfl rfl rfl (V.cmp true rfl rfl rfl rfl hc) (fun a hf => ?_)
          refine R.nil ?_
          refine X.then_ ?_
          refine wp_seq ?_
          refine C.yes hf rfl ?_
          refine wp_skip ?_
          refine X.then_ ?_
          refine wp_seq ?_
          refine wp_block ?_
          refine wp_seq ?_
          refine R.list ?_
          refine S.val hf hs (v := .int .i64 (k6 : Int)) rfl rfl rfl (V.pure rfl) (fun a hf => ?_)
          refine S.val hf hs (v := elemPtr lA (k6 * 2)) rfl rfl rfl (V.index rfl rfl rfl Try.runUnderlying22 Try.sizeOf24 (hv_l.some_ (lt_of_get hxk6)) (Int.natCast_nonneg _) (lt_of_get hxk6) rfl) (fun a hf => ?_)
          refine S.val hf hs (v := .agg #[.int .i64 xk6.X, .int .i64 xk6.Y]) rfl rfl rfl (V.loadEl (off := 0) (Ag.args _ _ _) (hv_l.flat hxk6) rfl rfl rfl Try.isAgg24 Try.sizeOf24 rfl rfl) (fun a hf => ?_)
          refine S.alloc hf hs rfl rfl rfl [.int .i64 0, .int .i64 0] rfl Try.zeroValue24 rfl (fun g4 a w hf hs => ?_)
          refine S.val hf hs (v := .int .i64 (k6 : Int)) rfl rfl rfl (V.pure rfl) (fun a hf => ?_)
          refine S.storeBox 0 hf hs rfl rfl [.int .i64 xk6.X, .int .i64 xk6.Y] [.int .i64 xk6.X, .int .i64 xk6.Y] rfl rfl rfl rfl rfl Try.sizeOf24 rfl rfl rfl rfl (fun a w hf hs => ?_)
          refine R.nil ?_
          refine X.then_ ?_
          refine wp_seq ?_
          refine R.list ?_
          refine S.val hf hs (v := .int .i64 n8) rfl rfl rfl (V.pure rfl) (fun a hf => ?_)
          refine S.val hf hs (v := .int .i64 (k6 : Int)) rfl rfl rfl (V.pure rfl) (fun a hf => ?_)
          obtain ⟨hsh, h⟩ := h
          refine S.val hf hs (v := .int .i64 (shrI .i64 n8 (k6 : Int))) rfl rfl rfl (V.shr rfl rfl rfl hsh) (fun a hf => ?_)
          refine S.val hf hs (v := .int .i64 (andI .i64 (shrI .i64 n8 (k6 : Int)) 1)) rfl rfl rfl (V.bits rfl rfl rfl rfl) (fun a hf => ?_)
          refine S.val hf hs (v := .bool ((andI .i64 (shrI .i64 n8 (k6 : Int)) 1) == 1)) rfl rfl rfl (V.pure rfl) (fun a hf => ?_)
          refine R.nil ?_
          refine X.then_ ?_
          refine C.cond hf (b := (andI .i64 (shrI .i64 n8 (k6 : Int)) 1) == 1) rfl (fun hc => ?_) (fun hc => ?_)
          · replace h := h.1 hc
            refine wp_seq ?_
            refine R.draw mo (by kernel_rfl) hs ?_
            refine D.val hf (v := .agg #[.int .i64 b2.X, .int .i64 b2.Y]) rfl rfl rfl (V.loadBox 3 rfl rfl rfl Try.isAgg24 Try.sizeOf24 rfl rfl) (fun a hf => ?_)
            refine D.val hf (v := .agg #[.int .i64 xk6.X, .int .i64 xk6.Y]) rfl rfl rfl (V.loadBox 0 rfl rfl rfl Try.isAgg24 Try.sizeOf24 rfl rfl) (fun a hf => ?_)
            refine D.call hf (v := .int .i64 (far b2 xk6)) rfl rfl rfl (call_fn (vs := [.agg #[.int .i64 b2.X, .int .i64 b2.Y], .agg #[.int .i64 xk6.X, .int .i64 xk6.Y]]) rfl rfl rfl Try.call61) (fun w hs => Ret.quiet hs (C_drill_far b2 xk6 w )) (fun a hf => ?_)
            refine D.val hf (v := .slice l2A l2.length l2C) rfl rfl rfl (V.pure rfl) (fun a hf => ?_)
            refine D.val hf (v := .int .i64 n8) rfl rfl rfl (V.pure rfl) (fun a hf => ?_)
            refine D.val hf (v := .int .i64 (k6 : Int)) rfl rfl rfl (V.pure rfl) (fun a hf => ?_)
            obtain ⟨hsh, h⟩ := h
            refine D.val hf (v := .int .i64 (shlI .i64 1 (k6 : Int))) rfl rfl rfl (V.shl rfl rfl rfl hsh) (fun a hf => ?_)
            refine D.val hf (v := .int .i64 (andNotI .i64 n8 (shlI .i64 1 (k6 : Int)))) rfl rfl rfl (V.bits rfl rfl rfl rfl) (fun a hf => ?_)
            obtain ⟨h0x7, x7, hx7, h⟩ := h
            refine D.val hf (v := elemPtr l2A ((andNotI .i64 n8 (shlI .i64 1 (k6 : Int))).toNat * 1)) rfl rfl rfl (V.index rfl rfl rfl Try.runUnderlying88 Try.sizeOf28 (hs.rowsSome 2 rfl hx7) h0x7 (lt_of_get hx7) rfl) (fun a hf => ?_)
            obtain ⟨B4, D4, hrB4⟩ := hs.rowAt 2 rfl hx7
            refine D.val hf (v := .slice B4 x7.length D4) rfl rfl rfl (V.loadRows (off := 0) 2 rfl hx7 hrB4 rfl rfl rfl Try.isAgg28 Try.sizeOf28 rfl rfl) (fun a hf => ?_)
            refine D.val hf (v := .int .i64 (k6 : Int)) rfl rfl rfl (V.pure rfl) (fun a hf => ?_)
            obtain ⟨h0x8, x8, hx8, h⟩ := h
            refine D.val hf (v := elemPtr B4 (k6 * 1)) rfl rfl rfl (V.index rfl rfl rfl Try.runUnderlying28 Try.sizeOf3 ((hs.rowView 2 rfl hx7 hrB4).some_ (lt_of_get hx8)) (Int.natCast_nonneg _) (lt_of_get hx8) rfl) (fun a hf => ?_)
            refine D.val hf (v := .int .i64 x8) rfl rfl rfl (V.loadRowEl (off := 0) 2 rfl hx7 hrB4 hx8 rfl rfl rfl Try.isAgg3 Try.sizeOf3 rfl rfl) (fun a hf => ?_)
            refine D.val hf (v := .int .i64 (w64 ((far b2 xk6) + x8))) rfl rfl rfl (V.pure rfl) (fun a hf => ?_)
            refine D.val hf (v := .int .i64 (w64 ((far b2 xk6) + x8))) rfl rfl rfl (V.pure rfl) (fun a hf => ?_)
            refine D.done (fun w hs => ?_)
            refine X.then_ ?_
            refine wp_seq ?_
            refine C.cut (J := fun a w => ∃ (c2 : Bool), M_drill_Shortest_k7 b2 k6 xk6 n11 n12 next5 x8 c2 ∧ FrOk 162 [(0, .slice lA l.length lC), (3, .pointer (some ⟨g1, 0, none⟩)), (9, .slice l2A l2.length l2C), (17, .slice l6A l6.length l6C), (18, .int .i64 n7), (19, .int .i64 n8), (20, .int .i64 n11), (21, .int .i64 n12), (22, .int .i64 (k6 : Int)), (24, .int .i64 (w64 ((far b2 xk6) + x8))), (104, .slice lA l.length lC), (105, .int .i64 (l.length : Int)), (106, .int .i64 (k6 : Int)), (136, .bool c2)] a ∧ Sat w0 none_ [hbox g4 24 [.int .i64 xk6.X, .int .i64 xk6.Y], hown 3 l6A l6C l6, hrows 28 3 l2A l2C l2as l2, hbox g1 24 [.int .i64 b2.X, .int .i64 b2.Y]] w) ?_ ?_
            · rintro a w ⟨c2, h, hf, hs⟩
              unfold M_drill_Shortest_k7 at h
              refine C.cond hf (b := c2) rfl (fun hc => ?_) (fun hc => ?_)
              · replace h := h.1 hc
                refine R.list ?_
                refine S.val hf hs (v := .int .i64 (k6 : Int)) rfl rfl rfl (V.pure rfl) (fun a hf => ?_)
                refine S.val hf hs (v := .int .i64 (w64 ((far b2 xk6) + x8))) rfl rfl rfl (V.pure rfl) (fun a hf => ?_)
                refine S.val hf hs (v := .int .i64 (k6 : Int)) rfl rfl rfl (V.pure rfl) (fun a hf => ?_)
                refine S.val hf hs (v := .int .i64 (w64 ((far b2 xk6) + x8))) rfl rfl rfl (V.pure rfl) (fun a hf => ?_)
                refine R.nil ?_
                refine X.blk ?_
                refine X.then_ ?_
                refine R.list ?_
                refine S.val hf hs (v := .int .i64 ((k6 + 1 : Nat) : Int)) rfl rfl rfl (V.incr rfl rfl rfl hltk6 hlenk6) (fun a hf => ?_)
                refine S.val hf hs (v := .int .i64 ((k6 + 1 : Nat) : Int)) rfl rfl rfl (V.pure rfl) (fun a hf => ?_)
                refine R.nil ?_
                refine X.then_ ?_
                exact ⟨xk6, llk6, rfl, k6 + 1, (k6 : Int), (w64 ((far b2 xk6) + x8)), range_drop hlk6, range_len hkk6, (by rw [hnext5] at h; exact h), (((((((((((hf.nil.cons (hf.get 105 _ rfl)).cons (hf.get 104 _ rfl)).cons (hf.get 21 _ rfl)).cons (hf.get 20 _ rfl)).cons (hf.get 19 _ rfl)).cons (hf.get 18 _ rfl)).cons (hf.get 17 _ rfl)).cons (hf.get 9 _ rfl)).cons (hf.get 3 _ rfl)).cons (hf.get 0 _ rfl)).cons (hf.get 106 _ rfl)), hs.drop⟩
              · replace h := h.2 hc
                refine wp_skip ?_
                refine X.blk ?_
                refine X.then_ ?_
                refine R.list ?_
                refine S.val hf hs (v := .int .i64 ((k6 + 1 : Nat) : Int)) rfl rfl rfl (V.incr rfl rfl rfl hltk6 hlenk6) (fun a hf => ?_)
                refine S.val hf hs (v := .int .i64 ((k6 + 1 : Nat) : Int)) rfl rfl rfl (V.pure rfl) (fun a hf => ?_)
                refine R.nil ?_
                refine X.then_ ?_
                exact ⟨xk6, llk6, rfl, k6 + 1, n11, n12, range_drop hlk6, range_len hkk6, (by rw [hnext5] at h; exact h), (((((((((((hf.nil.cons (hf.get 105 _ rfl)).cons (hf.get 104 _ rfl)).cons (hf.get 21 _ rfl)).cons (hf.get 20 _ rfl)).cons (hf.get 19 _ rfl)).cons (hf.get 18 _ rfl)).cons (hf.get 17 _ rfl)).cons (hf.get 9 _ rfl)).cons (hf.get 3 _ rfl)).cons (hf.get 0 _ rfl)).cons (hf.get 106 _ rfl)), hs.drop⟩
            · skip
              refine R.list ?_
              refine S.val hf hs (v := .int .i64 n11) rfl rfl rfl (V.pure rfl) (fun a hf => ?_)
              refine S.val hf hs (v := .bool (decide (n11 < 0))) rfl rfl rfl (V.pure rfl) (fun a hf => ?_)
              refine S.split hf hs (b := decide (n11 < 0)) rfl rfl rfl (V.pure rfl) (fun hc a hf => ?_) (fun hc a hf => ?_)
              · replace h := h.1 hc
                refine S.skip hf rfl rfl rfl (fun a hf => ?_)
                refine S.skip hf rfl rfl rfl (fun a hf => ?_)
                refine S.skip hf rfl rfl rfl (fun a hf => ?_)
                refine S.val hf hs (v := .bool true) rfl rfl rfl (V.pure rfl) (fun a hf => ?_)
                refine R.nil ?_
                refine X.then_ ?_
                exact ⟨true, h, ((((((((((((((hf.nil.cons (hf.get 136 _ rfl)).cons (hf.get 106 _ rfl)).cons (hf.get 105 _ rfl)).cons (hf.get 104 _ rfl)).cons (hf.get 24 _ rfl)).cons (hf.get 22 _ rfl)).cons (hf.get 21 _ rfl)).cons (hf.get 20 _ rfl)).cons (hf.get 19 _ rfl)).cons (hf.get 18 _ rfl)).cons (hf.get 17 _ rfl)).cons (hf.get 9 _ rfl)).cons (hf.get 3 _ rfl)).cons (hf.get 0 _ rfl)), hs⟩
              · replace h := h.2 hc
                refine S.val hf hs (v := .int .i64 (w64 ((far b2 xk6) + x8))) rfl rfl rfl (V.pure rfl) (fun a hf => ?_)
                refine S.val hf hs (v := .int .i64 n12) rfl rfl rfl (V.pure rfl) (fun a hf => ?_)
                refine S.val hf hs (v := .bool (decide (w64 ((far b2 xk6) + x8) < n12))) rfl rfl rfl (V.pure rfl) (fun a hf => ?_)
                refine S.val hf hs (v := .bool (decide (w64 ((far b2 xk6) + x8) < n12))) rfl rfl rfl (V.pure rfl) (fun a hf => ?_)
                refine R.nil ?_
                refine X.then_ ?_
                exact ⟨(decide (w64 ((far b2 xk6) + x8) < n12)), h, ((((((((((((((hf.nil.cons (hf.get 136 _ rfl)).cons (hf.get 106 _ rfl)).cons (hf.get 105 _ rfl)).cons (hf.get 104 _ rfl)).cons (hf.get 24 _ rfl)).cons (hf.get 22 _ rfl)).cons (hf.get 21 _ rfl)).cons (hf.get 20 _ rfl)).cons (hf.get 19 _ rfl)).cons (hf.get 18 _ rfl)).cons (hf.get 17 _ rfl)).cons (hf.get 9 _ rfl)).cons (hf.get 3 _ rfl)).cons (hf.get 0 _ rfl)), hs⟩
          · replace h := h.2 hc
            refine wp_skip ?_
            refine X.blk ?_
            refine X.then_ ?_
            refine R.list ?_
            refine S.val hf hs (v := .int .i64 ((k6 + 1 : Nat) : Int)) rfl rfl rfl (V.incr rfl rfl rfl hltk6 hlenk6) (fun a hf => ?_)
            refine S.val hf hs (v := .int .i64 ((k6 + 1 : Nat) : Int)) rfl rfl rfl (V.pure rfl) (fun a hf => ?_)
            refine R.nil ?_
            refine X.then_ ?_
            exact ⟨xk6, llk6, rfl, k6 + 1, n11, n12, range_drop hlk6, range_len hkk6, (by rw [hnext5] at h; exact h), (((((((((((hf.nil.cons (hf.get 105 _ rfl)).cons (hf.get 104 _ rfl)).cons (hf.get 21 _ rfl)).cons (hf.get 20 _ rfl)).cons (hf.get 19 _ rfl)).cons (hf.get 18 _ rfl)).cons (hf.get 17 _ rfl)).cons (hf.get 9 _ rfl)).cons (hf.get 3 _ rfl)).cons (hf.get 0 _ rfl)).cons (hf.get 106 _ rfl)), hs.drop⟩
      · replace h := h.2 hc
        refine wp_exit ?_
        refine X.then_exit ?_
        refine X.then_exit ?_
        refine X.blk_exit ?_
        refine X.then_ ?_
        refine wp_seq ?_
        refine R.list ?_
        refine S.val hf hs (v := .slice l6A l6.length l6C) rfl rfl rfl (V.pure rfl) (fun a hf => ?_)
        refine S.val hf hs (v := .int .i64 n7) rfl rfl rfl (V.pure rfl) (fun a hf => ?_)
        refine S.val hf hs (v := .slice l6A l6.length l6C) rfl rfl rfl (V.pure rfl) (fun a hf => ?_)
        refine S.val hf hs (v := .int .i64 n7) rfl rfl rfl (V.pure rfl) (fun a hf => ?_)
        refine S.val hf hs (v := .int .i64 0) rfl rfl rfl (V.pure rfl) (fun a hf => ?_)
        refine R.nil ?_
        refine X.then_ ?_
        refine wp_ret ?_
        replace hs := hs.take 1
        exact L.ret hf (run_results3 Try.results27 (ResIs.tmp hf rfl) (ResIs.tmp hf rfl) (ResIs.tmp hf rfl)) ⟨l6, l6A, l6C, n7, 0, rfl, h, hs⟩

set_option linter.unusedVariables false
def M_ref8_goOn_L1 (s_ : R8Search) (from_ : Point) (sum : Int) (rec_ : R8Search → Point → Int → (R8Search → Prop) → Prop) (k2 : Nat) (xk2 : Point) (l4 : List Bool) (l5 : List Int) (l6 : List Int) (b2 : Int) (next1 : List Bool → List Int → List Int → Int → Prop) : Prop :=
  idx l4 (k2 : Int) fun x1 => cnd x1 (next1 l4 l5 l6 b2) (must (room (l5 ++ [(k2 : Int)]).length 8) (rec_ (⟨s_.l, (l4.set k2 true), (l5 ++ [(k2 : Int)]), l6, b2⟩ : R8Search) xk2 (w64 (sum + (rdist from_ xk2))) fun z1 => must (0 ≤ w64 ((z1.now.length : Int) - 1) ∧ w64 ((z1.now.length : Int) - 1) ≤ (z1.now.length : Int)) (idx z1.used (k2 : Int) fun x2 => next1 (z1.used.set k2 false) (z1.now.take (w64 ((z1.now.length : Int) - 1)).toNat) z1.best z1.most)))
def M_ref8_goOn_k1 (s_ : R8Search) (from_ : Point) (sum : Int) (Q : R8Search → Prop) (rec_ : R8Search → Point → Int → (R8Search → Prop) → Prop) (c1 : Bool) : Prop :=
  cnd c1 (Q s_) (cnd ((s_.now.length : Int) == (s_.l.length : Int)) (M_clone_int s_.now fun y1 => Q (⟨s_.l, s_.used, s_.now, y1, sum⟩ : R8Search)) (forIn' (fun k x (s : List Bool × List Int × List Int × Int) next => M_ref8_goOn_L1 s_ from_ sum rec_ k x s.1 s.2.1 s.2.2.1 s.2.2.2 (fun l4 l5 l6 b2 => next (l4, l5, l6, b2))) (fun (s : List Bool × List Int × List Int × Int) => (fun (l4 : List Bool) (l5 : List Int) (l6 : List Int) (b2 : Int) => Q (⟨s_.l, l4, l5, l6, b2⟩ : R8Search)) s.1 s.2.1 s.2.2.1 s.2.2.2) s_.l 0 (s_.used, s_.now, s_.best, s_.most)))
def M_ref8_goOn_B (rec_ : R8Search → Point → Int → (R8Search → Prop) → Prop) (s_ : R8Search) (from_ : Point) (sum : Int) (Q : R8Search → Prop) : Prop :=
  cnd (decide (s_.most ≥ 0)) (M_ref8_goOn_k1 s_ from_ sum Q rec_ (decide (sum ≥ s_.most))) (M_ref8_goOn_k1 s_ from_ sum Q rec_ false)
def N_ref8_goOn : Nat → R8Search → Point → Int → (R8Search → Prop) → Prop
  | 0 => fun _ _ _ _ => False
  | fuel_ + 1 => fun s_ from_ sum Q => M_ref8_goOn_B (N_ref8_goOn fuel_) s_ from_ sum Q
def M_ref8_goOn (s_ : R8Search) (from_ : Point) (sum : Int) (Q : R8Search → Prop) : Prop := ∃ fuel_, N_ref8_goOn fuel_ s_ from_ sum Q
set_option maxHeartbeats 1000000 in
theorem RN_ref8_goOn (fuel : Nat) : ∀ (s_ : R8Search) (from_ : Point) (sum : Int) (w0 : World) (F0 : Nat → Prop) (s_g : Nat) (s__lA : Option Addr) (s__lC : Nat) (hv_s__l : View w0 (old w0 F0) s__lA s__lC s_.l) (s__usedA : Option Addr) (s__usedC : Nat) (s__nowA : Option Addr) (s__nowC : Nat) (s__bestA : Option Addr) (s__bestC : Nat) (hs0 : Sat w0 F0 [hbox s_g 92 [.slice s__lA s_.l.length s__lC, .slice s__usedA s_.used.length s__usedC, .slice s__nowA s_.now.length s__nowC, .slice s__bestA s_.best.length s__bestC, .int .i64 s_.most], hown 4 s__usedA s__usedC s_.used, hown 3 s__nowA s__nowC s_.now, hown 3 s__bestA s__bestC s_.best] w0) (Q : R8Search → Prop) (h : N_ref8_goOn fuel s_ from_ sum Q),
    Ret Try.prog 62 #[.pointer (some ⟨s_g, 0, none⟩), .agg #[.int .i64 from_.X, .int .i64 from_.Y], .int .i64 sum] w0 fun v w' => ∃ (s_1 : R8Search) (s_1_usedA : Option Addr) (s_1_usedC : Nat) (s_1_nowA : Option Addr) (s_1_nowC : Nat) (s_1_bestA : Option Addr) (s_1_bestC : Nat), v = .tuple #[] ∧ Q s_1 ∧ Sat w0 F0 [hbox s_g 92 [.slice s__lA s_.l.length s__lC, .slice s_1_usedA s_1.used.length s_1_usedC, .slice s_1_nowA s_1.now.length s_1_nowC, .slice s_1_bestA s_1.best.length s_1_bestC, .int .i64 s_1.most], hown 4 s_1_usedA s_1_usedC s_1.used, hown 3 s_1_nowA s_1_nowC s_1.now, hown 3 s_1_bestA s_1_bestC s_1.best] w' := by
  induction fuel with
  | zero => intro s_ from_ sum w0 F0 s_g s__lA s__lC hv_s__l s__usedA s__usedC s__nowA s__nowC s__bestA s__bestC hs0 Q h; exact h.elim
  | succ fuel ih =>
  intro s_ from_ sum w0 F0 s_g s__lA s__lC hv_s__l s__usedA s__usedC s__nowA s__nowC s__bestA s__bestC hs0 Q h
  obtain ⟨rec_, hrec⟩ : ∃ X : R8Search → Point → Int → (R8Search → Prop) → Prop, X = N_ref8_goOn fuel := ⟨_, rfl⟩
  replace h : M_ref8_goOn_B rec_ s_ from_ sum Q := by rw [hrec]; exact h
  rw [← hrec] at ih
  clear hrec
  refine fn_enter Try.func62 rfl Try.ntmps62 rfl (fs := [(0, .pointer (some ⟨s_g, 0, none⟩)), (1, .agg #[.int .i64 from_.X, .int .i64 from_.Y]), (2, .int .i64 sum)]) rfl (fun a hf => ?_)
  have hs := hs0
  unfold M_ref8_goOn_B at h
  refine wp_seq ?_
  refine R.list ?_
  refine S.box hf hs rfl rfl rfl [.int .i64 from_.X, .int .i64 from_.Y] rfl rfl rfl (fun g1 a w hf hs => ?_)
  refine R.nil ?_
  refine X.then_ ?_
  refine wp_seq ?_
  refine wp_seq ?_
  refine C.cut (J := fun a w => ∃ (c1 : Bool), M_ref8_goOn_k1 s_ from_ sum Q rec_ c1 ∧ FrOk 106 [(0, .pointer (some ⟨s_g, 0, none⟩)), (2, .int .i64 sum), (4, .pointer (some ⟨g1, 0, none⟩)), (20, .bool c1)] a ∧ Sat w0 F0 [hbox g1 24 [.int .i64 from_.X, .int .i64 from_.Y], hbox s_g 92 [.slice s__lA s_.l.length s__lC, .slice s__usedA s_.used.length s__usedC, .slice s__nowA s_.now.length s__nowC, .slice s__bestA s_.best.length s__bestC, .int .i64 s_.most], hown 4 s__usedA s__usedC s_.used, hown 3 s__nowA s__nowC s_.now, hown 3 s__bestA s__bestC s_.best] w) ?_ ?_
  · rintro a w ⟨c1, h, hf, hs⟩
    unfold M_ref8_goOn_k1 at h
    refine C.cond hf (b := c1) rfl (fun hc => ?_) (fun hc => ?_)
    · replace h := h.1 hc
      refine wp_ret ?_
      refine X.then_ret ?_
      replace hs := hs.front 4 rfl
      replace hs := hs.front 4 rfl
      replace hs := hs.front 4 rfl
      replace hs := hs.front 4 rfl
      replace hs := hs.take 4
      exact L.ret0 Try.results62 hf ⟨s_, s__usedA, s__usedC, s__nowA, s__nowC, s__bestA, s__bestC, rfl, h, hs⟩
    · replace h := h.2 hc
      refine wp_skip ?_
      refine X.then_ ?_
      refine wp_seq ?_
      refine wp_seq ?_
      refine R.draw mo (by kernel_rfl) hs ?_
      refine D.val hf (v := .pointer (some ⟨s_g, 0, none⟩)) rfl rfl rfl (V.pure rfl) (fun a hf => ?_)
      refine D.val hf (v := .pointer (some ⟨s_g, 0, none⟩)) rfl rfl rfl (V.pure rfl) (fun a hf => ?_)
      refine D.val hf (v := .pointer (some ⟨s_g, 2, none⟩)) rfl rfl rfl (V.fieldBox rfl rfl Try.runUnderlying92 rfl Try.sizeOf28 rfl rfl) (fun a hf => ?_)
      refine D.val hf (v := .slice s__nowA s_.now.length s__nowC) rfl rfl rfl (V.loadBox 1 rfl rfl rfl Try.isAgg28 Try.sizeOf28 rfl rfl) (fun a hf => ?_)
      refine D.val hf (v := .int .i64 (s_.now.length : Int)) rfl rfl rfl (V.len rfl rfl Try.runUnderlying28) (fun a hf => ?_)
      refine D.val hf (v := .pointer (some ⟨s_g, 0, none⟩)) rfl rfl rfl (V.pure rfl) (fun a hf => ?_)
      refine D.val hf (v := .pointer (some ⟨s_g, 0, none⟩)) rfl rfl rfl (V.pure rfl) (fun a hf => ?_)
      refine D.val hf (v := .pointer (some ⟨s_g, 0, none⟩)) rfl rfl rfl (V.fieldBox rfl rfl Try.runUnderlying92 rfl Try.sizeOf22 rfl rfl) (fun a hf => ?_)
      refine D.val hf (v := .slice s__lA s_.l.length s__lC) rfl rfl rfl (V.loadBox 1 rfl rfl rfl Try.isAgg22 Try.sizeOf22 rfl rfl) (fun a hf => ?_)
      refine D.val hf (v := .int .i64 (s_.l.length : Int)) rfl rfl rfl (V.len rfl rfl Try.runUnderlying22) (fun a hf => ?_)
      refine D.val hf (v := .bool ((s_.now.length : Int) == (s_.l.length : Int))) rfl rfl rfl (V.pure rfl) (fun a hf => ?_)
      refine D.done (fun w hs => ?_)
      refine X.then_ ?_
      refine C.cond hf (b := (s_.now.length : Int) == (s_.l.length : Int)) rfl (fun hc => ?_) (fun hc => ?_)
      · replace h := h.1 hc
        refine wp_seq ?_
        refine R.list ?_
        refine S.val hf hs (v := .pointer (some ⟨s_g, 0, none⟩)) rfl rfl rfl (V.pure rfl) (fun a hf => ?_)
        refine S.val hf hs (v := .pointer (some ⟨s_g, 0, none⟩)) rfl rfl rfl (V.pure rfl) (fun a hf => ?_)
        refine S.val hf hs (v := .pointer (some ⟨s_g, 0, none⟩)) rfl rfl rfl (V.pure rfl) (fun a hf => ?_)
        refine S.val hf hs (v := .pointer (some ⟨s_g, 0, none⟩)) rfl rfl rfl (V.pure rfl) (fun a hf => ?_)
        refine S.val hf hs (v := .pointer (some ⟨s_g, 2, none⟩)) rfl rfl rfl (V.fieldBox rfl rfl Try.runUnderlying92 rfl Try.sizeOf28 rfl rfl) (fun a hf => ?_)
        refine S.val hf hs (v := .slice s__nowA s_.now.length s__nowC) rfl rfl rfl (V.loadBox 1 rfl rfl rfl Try.isAgg28 Try.sizeOf28 rfl rfl) (fun a hf => ?_)
        refine S.call hf rfl rfl rfl (call_fn (vs := [.slice s__nowA s_.now.length s__nowC]) rfl rfl rfl Try.call85) (R_clone_int s_.now _ s__nowA s__nowC (hs.ownView 3 rfl) _ h) (fun v a w' hf hr => ?_)
        obtain ⟨y1, y1A, y1C, rfl, h2, hs2⟩ := hr
        replace h := h2; replace hs := hs.call hs2; clear h2 hs2
        refine S.val hf hs (v := .int .i64 sum) rfl rfl rfl (V.pure rfl) (fun a hf => ?_)
        refine S.val hf hs (v := .pointer (some ⟨s_g, 0, none⟩)) rfl rfl rfl (V.pure rfl) (fun a hf => ?_)
        refine S.val hf hs (v := .pointer (some ⟨s_g, 3, none⟩)) rfl rfl rfl (V.fieldBox rfl rfl Try.runUnderlying92 rfl Try.sizeOf28 rfl rfl) (fun a hf => ?_)
        refine S.storeBox 2 hf hs rfl rfl [.slice y1A y1.length y1C] [.slice s__lA s_.l.length s__lC, .slice s__usedA s_.used.length s__usedC, .slice s__nowA s_.now.length s__nowC, .slice y1A y1.length y1C, .int .i64 s_.most] rfl rfl rfl rfl rfl Try.sizeOf28 rfl rfl rfl rfl (fun a w hf hs => ?_)
        refine S.val hf hs (v := .pointer (some ⟨s_g, 0, none⟩)) rfl rfl rfl (V.pure rfl) (fun a hf => ?_)
        refine S.val hf hs (v := .pointer (some ⟨s_g, 4, none⟩)) rfl rfl rfl (V.fieldBox rfl rfl Try.runUnderlying92 rfl Try.sizeOf3 rfl rfl) (fun a hf => ?_)
        refine S.storeBox 2 hf hs rfl rfl [.int .i64 sum] [.slice s__lA s_.l.length s__lC, .slice s__usedA s_.used.length s__usedC, .slice s__nowA s_.now.length s__nowC, .slice y1A y1.length y1C, .int .i64 sum] rfl rfl rfl rfl rfl Try.sizeOf3 rfl rfl rfl rfl (fun a w hf hs => ?_)
        refine R.nil ?_
        refine X.then_ ?_
        refine wp_ret ?_
        refine X.then_ret ?_
        replace hs := hs.front 4 rfl
        replace hs := hs.front 4 rfl
        replace hs := hs.front 4 rfl
        replace hs := hs.take 4
        exact L.ret0 Try.results62 hf ⟨(⟨s_.l, s_.used, s_.now, y1, sum⟩ : R8Search), s__usedA, s__usedC, s__nowA, s__nowC, y1A, y1C, rfl, h, hs⟩
      · replace h := h.2 hc
        refine wp_skip ?_
        refine X.then_ ?_
        refine wp_seq ?_
        refine R.list ?_
        refine S.val hf hs (v := .pointer (some ⟨s_g, 0, none⟩)) rfl rfl rfl (V.pure rfl) (fun a hf => ?_)
        refine S.val hf hs (v := .pointer (some ⟨s_g, 0, none⟩)) rfl rfl rfl (V.pure rfl) (fun a hf => ?_)
        refine S.val hf hs (v := .pointer (some ⟨s_g, 0, none⟩)) rfl rfl rfl (V.fieldBox rfl rfl Try.runUnderlying92 rfl Try.sizeOf22 rfl rfl) (fun a hf => ?_)
        refine S.val hf hs (v := .slice s__lA s_.l.length s__lC) rfl rfl rfl (V.loadBox 1 rfl rfl rfl Try.isAgg22 Try.sizeOf22 rfl rfl) (fun a hf => ?_)
        refine S.val hf hs (v := .int .i64 (s_.l.length : Int)) rfl rfl rfl (V.len rfl rfl Try.runUnderlying22) (fun a hf => ?_)
        refine S.val hf hs (v := .int .i64 0) rfl rfl rfl (V.pure rfl) (fun a hf => ?_)
        refine R.nil ?_
        refine X.then_ ?_
        refine wp_block ?_
        replace hs := hs.front 4 rfl
        replace hs := hs.front 4 rfl
        replace hs := hs.front 4 rfl
        replace hs := hs.front 4 rfl
        have hlenk2 := hv_s__l.len64
        refine C.range (fun (ll : List Point) a w => ∃ (k2 : Nat) (l4 : List Bool) (l4A : Option Addr) (l4C : Nat) (l5 : List Int) (l5A : Option Addr) (l5C : Nat) (l6 : List Int) (l6A : Option Addr) (l6C : Nat) (b2 : Int), s_.l.drop k2 = ll ∧ k2 + ll.length = s_.l.length ∧ forIn' (fun k x (s : List Bool × List Int × List Int × Int) next => M_ref8_goOn_L1 s_ from_ sum rec_ k x s.1 s.2.1 s.2.2.1 s.2.2.2 (fun l4 l5 l6 b2 => next (l4, l5, l6, b2))) (fun (s : List Bool × List Int × List Int × Int) => (fun (l4 : List Bool) (l5 : List Int) (l6 : List Int) (b2 : Int) => Q (⟨s_.l, l4, l5, l6, b2⟩ : R8Search)) s.1 s.2.1 s.2.2.1 s.2.2.2) ll k2 (l4, l5, l6, b2) ∧ FrOk 106 [(49, .int .i64 (k2 : Int)), (0, .pointer (some ⟨s_g, 0, none⟩)), (2, .int .i64 sum), (4, .pointer (some ⟨g1, 0, none⟩)), (47, .slice s__lA s_.l.length s__lC), (48, .int .i64 (s_.l.length : Int))] a ∧ Sat w0 F0 [hbox s_g 92 [.slice s__lA s_.l.length s__lC, .slice l4A l4.length l4C, .slice l5A l5.length l5C, .slice l6A l6.length l6C, .int .i64 b2], hown 4 l4A l4C l4, hown 3 l5A l5C l5, hown 3 l6A l6C l6, hbox g1 24 [.int .i64 from_.X, .int .i64 from_.Y]] w) s_.l ⟨0, s_.used, s__usedA, s__usedC, s_.now, s__nowA, s__nowC, s_.best, s__bestA, s__bestC, s_.most, rfl, Nat.zero_add _, h, ((((((hf.nil.cons (hf.get 48 _ rfl)).cons (hf.get 47 _ rfl)).cons (hf.get 4 _ rfl)).cons (hf.get 2 _ rfl)).cons (hf.get 0 _ rfl)).cons (hf.get 49 _ rfl)), hs⟩ ?_
        clear h hf hs
        rintro llk2 a w ⟨k2, l4, l4A, l4C, l5, l5A, l5C, l6, l6A, l6C, b2, hlk2, hkk2, h, hf, hs⟩
        cases llk2 with
        | nil =>
          have hc := range_done hkk2
          replace h : (fun (l4 : List Bool) (l5 : List Int) (l6 : List Int) (b2 : Int) => Q (⟨s_.l, l4, l5, l6, b2⟩ : R8Search)) l4 l5 l6 b2 := h
          refine wp_seq ?_
          refine R.list ?_
          refine S.val hf hs (v := .bool false) rfl rfl rfl (V.cmp false rfl rfl rfl rfl hc) (fun a hf => ?_)
          refine R.nil ?_
          refine X.then_ ?_
          refine wp_seq ?_
          refine C.no hf rfl ?_
          refine wp_exit ?_
          refine X.then_exit ?_
          refine X.then_exit ?_
          refine X.blk_exit ?_
          replace hs := hs.front 3 rfl
          replace hs := hs.front 3 rfl
          replace hs := hs.front 3 rfl
          replace hs := hs.front 3 rfl
          replace hs := hs.take 4
          exact L.end0 Try.results62 hf ⟨(⟨s_.l, l4, l5, l6, b2⟩ : R8Search), l4A, l4C, l5A, l5C, l6A, l6C, rfl, h, hs⟩
        | cons xk2 llk2 =>
          have hltk2 := range_lt hkk2; have hc := range_go hkk2; have hxk2 := range_get hlk2
          obtain ⟨next1, hnext1⟩ : ∃ X : List Bool → List Int → List Int → Int → Prop, X = (fun l4 l5 l6 b2 => forIn' (fun k x (s : List Bool × List Int × List Int × Int) next => M_ref8_goOn_L1 s_ from_ sum rec_ k x s.1 s.2.1 s.2.2.1 s.2.2.2 (fun l4 l5 l6 b2 => next (l4, l5, l6, b2))) (fun (s : List Bool × List Int × List Int × Int) => (fun (l4 : List Bool) (l5 : List Int) (l6 : List Int) (b2 : Int) => Q (⟨s_.l, l4, l5, l6, b2⟩ : R8Search)) s.1 s.2.1 s.2.2.1 s.2.2.2) llk2 (k2 + 1) (l4, l5, l6, b2)) := ⟨_, rfl⟩
          replace h : M_ref8_goOn_L1 s_ from_ sum rec_ k2 xk2 l4 l5 l6 b2 next1 := by rw [hnext1]; exact h
          unfold M_ref8_goOn_L1 at h
          refine wp_seq ?_
          refine R.list ?_
          refine S.val hf hs (v := .bool true) rfl rfl rfl (V.cmp true rfl rfl rfl rfl hc) (fun a hf => ?_)
          refine R.nil ?_
          refine X.then_ ?_
          refine wp_seq ?_
          refine C.yes hf rfl ?_
          refine wp_skip ?_
          refine X.then_ ?_
          refine wp_seq ?_
          refine wp_block ?_
          refine wp_seq ?_
          refine R.list ?_
          refine S.val hf hs (v := .int .i64 (k2 : Int)) rfl rfl rfl (V.pure rfl) (fun a hf => ?_)
          refine S.val hf hs (v := elemPtr s__lA (k2 * 2)) rfl rfl rfl (V.index rfl rfl rfl Try.runUnderlying22 Try.sizeOf24 (hv_s__l.some_ (lt_of_get hxk2)) (Int.natCast_nonneg _) (lt_of_get hxk2) rfl) (fun a hf => ?_)
          refine S.val hf hs (v := .agg #[.int .i64 xk2.X, .int .i64 xk2.Y]) rfl rfl rfl (V.loadEl (off := 0) (Ag.args _ _ _) (hv_s__l.flat hxk2) rfl rfl rfl Try.isAgg24 Try.sizeOf24 rfl rfl) (fun a hf => ?_)
          refine S.alloc hf hs rfl rfl rfl [.int .i64 0, .int .i64 0] rfl Try.zeroValue24 rfl (fun g2 a w hf hs => ?_)
          refine S.val hf hs (v := .int .i64 (k2 : Int)) rfl rfl rfl (V.pure rfl) (fun a hf => ?_)
          refine S.storeBox 0 hf hs rfl rfl [.int .i64 xk2.X, .int .i64 xk2.Y] [.int .i64 xk2.X, .int .i64 xk2.Y] rfl rfl rfl rfl rfl Try.sizeOf24 rfl rfl rfl rfl (fun a w hf hs => ?_)
          refine R.nil ?_
          refine X.then_ ?_
          refine wp_seq ?_
          refine wp_seq ?_
          refine R.list ?_
          refine S.val hf hs (v := .pointer (some ⟨s_g, 0, none⟩)) rfl rfl rfl (V.pure rfl) (fun a hf => ?_)
          refine S.val hf hs (v := .pointer (some ⟨s_g, 0, none⟩)) rfl rfl rfl (V.pure rfl) (fun a hf => ?_)
          refine S.val hf hs (v := .pointer (some ⟨s_g, 1, none⟩)) rfl rfl rfl (V.fieldBox rfl rfl Try.runUnderlying92 rfl Try.sizeOf90 rfl rfl) (fun a hf => ?_)
          refine S.val hf hs (v := .slice l4A l4.length l4C) rfl rfl rfl (V.loadBox 1 rfl rfl rfl Try.isAgg90 Try.sizeOf90 rfl rfl) (fun a hf => ?_)
          refine S.val hf hs (v := .int .i64 (k2 : Int)) rfl rfl rfl (V.pure rfl) (fun a hf => ?_)
          obtain ⟨h0x1, x1, hx1, h⟩ := h
          refine S.val hf hs (v := elemPtr l4A (k2 * 1)) rfl rfl rfl (V.index rfl rfl rfl Try.runUnderlying90 Try.sizeOf4 (hs.ownSome 2 rfl (lt_of_get hx1)) (Int.natCast_nonneg _) (lt_of_get hx1) rfl) (fun a hf => ?_)
          refine S.val hf hs (v := .bool x1) rfl rfl rfl (V.loadOwn (off := 0) 2 rfl hx1 rfl rfl rfl Try.isAgg4 Try.sizeOf4 rfl rfl) (fun a hf => ?_)
          refine R.nil ?_
          refine X.then_ ?_
          refine C.cond hf (b := x1) rfl (fun hc => ?_) (fun hc => ?_)
          · replace h := h.1 hc
            refine wp_exit ?_
            refine X.then_exit ?_
            refine X.blk_exit ?_
            refine X.then_ ?_
            refine R.list ?_
            refine S.val hf hs (v := .int .i64 ((k2 + 1 : Nat) : Int)) rfl rfl rfl (V.incr rfl rfl rfl hltk2 hlenk2) (fun a hf => ?_)
            refine S.val hf hs (v := .int .i64 ((k2 + 1 : Nat) : Int)) rfl rfl rfl (V.pure rfl) (fun a hf => ?_)
            refine R.nil ?_
            refine X.then_ ?_
            replace hs := hs.front 5 rfl
            replace hs := hs.front 5 rfl
            replace hs := hs.front 5 rfl
            replace hs := hs.front 5 rfl
            replace hs := hs.front 5 rfl
            replace hs := hs.take 5
            exact ⟨xk2, llk2, rfl, k2 + 1, l4, l4A, l4C, l5, l5A, l5C, l6, l6A, l6C, b2, range_drop hlk2, range_len hkk2, (by rw [hnext1] at h; exact h), ((((((hf.nil.cons (hf.get 48 _ rfl)).cons (hf.get 47 _ rfl)).cons (hf.get 4 _ rfl)).cons (hf.get 2 _ rfl)).cons (hf.get 0 _ rfl)).cons (hf.get 49 _ rfl)), hs⟩
          · replace h := h.2 hc
            refine wp_skip ?_
            refine X.then_ ?_
            refine wp_seq ?_
            refine R.list ?_
            refine S.val hf hs (v := .pointer (some ⟨s_g, 0, none⟩)) rfl rfl rfl (V.pure rfl) (fun a hf => ?_)
            refine S.val hf hs (v := .pointer (some ⟨s_g, 0, none⟩)) rfl rfl rfl (V.pure rfl) (fun a hf => ?_)
            refine S.val hf hs (v := .pointer (some ⟨s_g, 1, none⟩)) rfl rfl rfl (V.fieldBox rfl rfl Try.runUnderlying92 rfl Try.sizeOf90 rfl rfl) (fun a hf => ?_)
            refine S.val hf hs (v := .slice l4A l4.length l4C) rfl rfl rfl (V.loadBox 1 rfl rfl rfl Try.isAgg90 Try.sizeOf90 rfl rfl) (fun a hf => ?_)
            refine S.val hf hs (v := .int .i64 (k2 : Int)) rfl rfl rfl (V.pure rfl) (fun a hf => ?_)
            refine S.val hf hs (v := elemPtr l4A (k2 * 1)) rfl rfl rfl (V.index rfl rfl rfl Try.runUnderlying90 Try.sizeOf4 (hs.ownSome 2 rfl (lt_of_get hx1)) (Int.natCast_nonneg _) (lt_of_get hx1) rfl) (fun a hf => ?_)
            refine S.storeOwn (off := 0) 2 hf hs rfl rfl true [.bool true] rfl hx1 rfl rfl rfl rfl rfl Try.sizeOf4 rfl (by decide) rfl rfl (fun a w hf hs => ?_)
            replace hs := hs.rebox 1 (vs' := [.slice s__lA s_.l.length s__lC, .slice l4A (l4.set k2 true).length l4C, .slice l5A l5.length l5C, .slice l6A l6.length l6C, .int .i64 b2]) rfl (congrArg (fun n => [.slice s__lA s_.l.length s__lC, Value.slice l4A n l4C, .slice l5A l5.length l5C, .slice l6A l6.length l6C, .int .i64 b2]) List.length_set.symm)
            replace hf := hf.tell 57 (v := .slice l4A (l4.set k2 true).length l4C) ((hf.get 57 (.slice l4A l4.length l4C) rfl).trans (congrArg (fun n => Value.slice l4A n l4C) List.length_set.symm))
            replace hf := hf.tell 64 (v := .slice l4A (l4.set k2 true).length l4C) ((hf.get 64 (.slice l4A l4.length l4C) rfl).trans (congrArg (fun n => Value.slice l4A n l4C) List.length_set.symm))
            refine R.nil ?_
            refine X.then_ ?_
            refine wp_seq ?_
            refine R.list ?_
            refine S.val hf hs (v := .pointer (some ⟨s_g, 0, none⟩)) rfl rfl rfl (V.pure rfl) (fun a hf => ?_)
            refine S.val hf hs (v := .pointer (some ⟨s_g, 0, none⟩)) rfl rfl rfl (V.pure rfl) (fun a hf => ?_)
            refine S.val hf hs (v := .pointer (some ⟨s_g, 0, none⟩)) rfl rfl rfl (V.pure rfl) (fun a hf => ?_)
            refine S.val hf hs (v := .pointer (some ⟨s_g, 2, none⟩)) rfl rfl rfl (V.fieldBox rfl rfl Try.runUnderlying92 rfl Try.sizeOf28 rfl rfl) (fun a hf => ?_)
            refine S.val hf hs (v := .slice l5A l5.length l5C) rfl rfl rfl (V.loadBox 1 rfl rfl rfl Try.isAgg28 Try.sizeOf28 rfl rfl) (fun a hf => ?_)
            refine S.val hf hs (v := .int .i64 (k2 : Int)) rfl rfl rfl (V.pure rfl) (fun a hf => ?_)
            refine S.build1 hf hs rfl rfl rfl (α := Int) (k2 : Int) rfl rfl rfl Try.runUnderlying28 Try.sizeOf3 Try.zeroValue3 rfl (by decide) (fun A1 a w hf hs => ?_)
            obtain ⟨hroom, h⟩ := h
            refine S.appendCells 4 hf hs rfl rfl rfl rfl rfl rfl rfl Try.underlying28 info3 rfl hroom ((hs.ownView 0 rfl).some_ (i := 0) (by simp)) (hs.ownView 0 rfl) (fun A2 C1 a w hf hs => ?_)
            replace hs := hs.drop
            refine S.val hf hs (v := .pointer (some ⟨s_g, 0, none⟩)) rfl rfl rfl (V.pure rfl) (fun a hf => ?_)
            refine S.val hf hs (v := .pointer (some ⟨s_g, 2, none⟩)) rfl rfl rfl (V.fieldBox rfl rfl Try.runUnderlying92 rfl Try.sizeOf28 rfl rfl) (fun a hf => ?_)
            refine S.storeBox 1 hf hs rfl rfl [.slice A2 (l5 ++ [(k2 : Int)]).length C1] [.slice s__lA s_.l.length s__lC, .slice l4A (l4.set k2 true).length l4C, .slice A2 (l5 ++ [(k2 : Int)]).length C1, .slice l6A l6.length l6C, .int .i64 b2] rfl rfl rfl rfl rfl Try.sizeOf28 rfl rfl rfl rfl (fun a w hf hs => ?_)
            refine R.nil ?_
            refine X.then_ ?_
            refine wp_seq ?_
            refine H.start (S := Sat w0 F0 [hbox g2 24 [.int .i64 xk2.X, .int .i64 xk2.Y], hbox g1 24 [.int .i64 from_.X, .int .i64 from_.Y]]) mo ?_
            replace hs := hs.drew
            refine H.val hf (hs.mask [true, false, false, false, false, true]) (v := .pointer (some ⟨s_g, 0, none⟩)) (i := 0) rfl rfl rfl rfl (by kernel_rfl) (by kernel_rfl) (by kernel_rfl) (V.pure rfl) (fun a hf => ?_)
            refine H.val hf (hs.mask [true, false, false, false, false, true]) (v := .agg #[.int .i64 xk2.X, .int .i64 xk2.Y]) (i := 1) rfl rfl rfl rfl (by kernel_rfl) (by kernel_rfl) (by kernel_rfl) (V.loadBox 0 rfl rfl rfl Try.isAgg24 Try.sizeOf24 rfl rfl) (fun a hf => ?_)
            refine H.val hf (hs.mask [true, false, false, false, false, true]) (v := .int .i64 sum) (i := 2) rfl rfl rfl rfl (by kernel_rfl) (by kernel_rfl) (by kernel_rfl) (V.pure rfl) (fun a hf => ?_)
            refine H.val hf (hs.mask [true, false, false, false, false, true]) (v := .agg #[.int .i64 from_.X, .int .i64 from_.Y]) (i := 3) rfl rfl rfl rfl (by kernel_rfl) (by kernel_rfl) (by kernel_rfl) (V.loadBox 1 rfl rfl rfl Try.isAgg24 Try.sizeOf24 rfl rfl) (fun a hf => ?_)
            refine H.val hf (hs.mask [true, false, false, false, false, true]) (v := .agg #[.int .i64 xk2.X, .int .i64 xk2.Y]) (i := 4) rfl rfl rfl rfl (by kernel_rfl) (by kernel_rfl) (by kernel_rfl) (V.loadBox 0 rfl rfl rfl Try.isAgg24 Try.sizeOf24 rfl rfl) (fun a hf => ?_)
            refine H.one (i := 5) rfl (by kernel_rfl) ?_
            refine S.callv hf rfl rfl rfl (call_fn (vs := [.agg #[.int .i64 from_.X, .int .i64 from_.Y], .agg #[.int .i64 xk2.X, .int .i64 xk2.Y]]) rfl rfl rfl Try.call51) (C_ref8_distance from_ xk2 _ ) (fun a w hf hs' => ?_)
            replace hs := hs.call hs'; clear hs'
            refine R.nil ?_
            refine X.then_ ?_
            refine ⟨(hs.mask [true, false, false, false, false, true]), ?_⟩
            refine H.val hf (hs.mask [true, false, false, false, false, true]) (v := .int .i64 (w64 (sum + (rdist from_ xk2)))) (i := 6) rfl rfl rfl rfl (by kernel_rfl) (by kernel_rfl) (by kernel_rfl) (V.pure rfl) (fun a hf => ?_)
            refine H.one (i := 7) rfl (by kernel_rfl) ?_
            replace hs := hs.front 4 rfl
            replace hs := hs.front 4 rfl
            replace hs := hs.front 4 rfl
            replace hs := hs.front 4 rfl
            obtain ⟨F1, hsF, hback, hold, hrest⟩ := Sat.callOwns [hbox s_g 92 [.slice s__lA s_.l.length s__lC, .slice l4A (l4.set k2 true).length l4C, .slice A2 (l5 ++ [(k2 : Int)]).length C1, .slice l6A l6.length l6C, .int .i64 b2], hown 4 l4A l4C (l4.set k2 true), hown 3 A2 C1 (l5 ++ [(k2 : Int)]), hown 3 l6A l6C l6] (σ := [hbox g2 24 [.int .i64 xk2.X, .int .i64 xk2.Y], hbox g1 24 [.int .i64 from_.X, .int .i64 from_.Y]]) hs
            refine S.call hf rfl rfl rfl (call_fn (vs := [.pointer (some ⟨s_g, 0, none⟩), .agg #[.int .i64 xk2.X, .int .i64 xk2.Y], .int .i64 (w64 (sum + (rdist from_ xk2)))]) rfl rfl rfl Try.call62) (ih (⟨s_.l, (l4.set k2 true), (l5 ++ [(k2 : Int)]), l6, b2⟩ : R8Search) xk2 (w64 (sum + (rdist from_ xk2))) _ _ s_g s__lA s__lC (viewArgsF hs hold hv_s__l) l4A l4C A2 C1 l6A l6C hsF _ h) (fun v a w' hf hr => ?_)
            obtain ⟨z1, z1_usedA, z1_usedC, z1_nowA, z1_nowC, z1_bestA, z1_bestC, rfl, h2, hs2⟩ := hr
            replace h := h2; replace hs := hback _ _ hs2; clear h2 hs2 hback hold hrest hsF
            refine R.nil ?_
            refine X.then_ ?_
            refine ⟨(hs.mask [false, false, false, false, true, true]), ?_⟩
            refine H.done (by kernel_rfl) ?_
            refine X.then_ ?_
            refine wp_seq ?_
            refine M.start 14 (Sat w0 F0 [hbox s_g 92 [.slice s__lA s_.l.length s__lC, .slice z1_usedA z1.used.length z1_usedC, .slice z1_nowA z1.now.length z1_nowC, .slice z1_bestA z1.best.length z1_bestC, .int .i64 z1.most], hown 4 z1_usedA z1_usedC z1.used, hown 3 z1_nowA z1_nowC z1.now, hown 3 z1_bestA z1_bestC z1.best, hbox g2 24 [.int .i64 xk2.X, .int .i64 xk2.Y], hbox g1 24 [.int .i64 from_.X, .int .i64 from_.Y]]) mo ?_
            replace hs := hs.drew
            refine M.val hf hs (v := .pointer (some ⟨s_g, 0, none⟩)) (i := 0) rfl rfl rfl rfl (by kernel_rfl) (by kernel_rfl) (by kernel_rfl) (by kernel_rfl) (by kernel_rfl) rfl (V.pure rfl) (fun a hf => ?_)
            refine M.val hf hs (v := .pointer (some ⟨s_g, 0, none⟩)) (i := 1) rfl rfl rfl rfl (by kernel_rfl) (by kernel_rfl) (by kernel_rfl) (by kernel_rfl) (by kernel_rfl) rfl (V.pure rfl) (fun a hf => ?_)
            refine M.val hf hs (v := .pointer (some ⟨s_g, 0, none⟩)) (i := 2) rfl rfl rfl rfl (by kernel_rfl) (by kernel_rfl) (by kernel_rfl) (by kernel_rfl) (by kernel_rfl) rfl (V.pure rfl) (fun a hf => ?_)
            refine M.val hf hs (v := .pointer (some ⟨s_g, 2, none⟩)) (i := 3) rfl rfl rfl rfl (by kernel_rfl) (by kernel_rfl) (by kernel_rfl) (by kernel_rfl) (by kernel_rfl) rfl (V.fieldBox rfl rfl Try.runUnderlying92 rfl Try.sizeOf28 rfl rfl) (fun a hf => ?_)
            refine M.val hf hs (v := .slice z1_nowA z1.now.length z1_nowC) (i := 4) rfl rfl rfl rfl (by kernel_rfl) (by kernel_rfl) (by kernel_rfl) (by kernel_rfl) (by kernel_rfl) rfl (V.loadBox 0 rfl rfl rfl Try.isAgg28 Try.sizeOf28 rfl rfl) (fun a hf => ?_)
            refine M.val hf hs (v := .pointer (some ⟨s_g, 0, none⟩)) (i := 5) rfl rfl rfl rfl (by kernel_rfl) (by kernel_rfl) (by kernel_rfl) (by kernel_rfl) (by kernel_rfl) rfl (V.pure rfl) (fun a hf => ?_)
            refine M.val hf hs (v := .pointer (some ⟨s_g, 0, none⟩)) (i := 6) rfl rfl rfl rfl (by kernel_rfl) (by kernel_rfl) (by kernel_rfl) (by kernel_rfl) (by kernel_rfl) rfl (V.pure rfl) (fun a hf => ?_)
            refine M.val hf hs (v := .pointer (some ⟨s_g, 2, none⟩)) (i := 7) rfl rfl rfl rfl (by kernel_rfl) (by kernel_rfl) (by kernel_rfl) (by kernel_rfl) (by kernel_rfl) rfl (V.fieldBox rfl rfl Try.runUnderlying92 rfl Try.sizeOf28 rfl rfl) (fun a hf => ?_)
            refine M.val hf hs (v := .slice z1_nowA z1.now.length z1_nowC) (i := 8) rfl rfl rfl rfl (by kernel_rfl) (by kernel_rfl) (by kernel_rfl) (by kernel_rfl) (by kernel_rfl) rfl (V.loadBox 0 rfl rfl rfl Try.isAgg28 Try.sizeOf28 rfl rfl) (fun a hf => ?_)
            refine M.val hf hs (v := .int .i64 (z1.now.length : Int)) (i := 9) rfl rfl rfl rfl (by kernel_rfl) (by kernel_rfl) (by kernel_rfl) (by kernel_rfl) (by kernel_rfl) rfl (V.len rfl rfl Try.runUnderlying28) (fun a hf => ?_)
            refine M.val hf hs (v := .int .i64 (w64 ((z1.now.length : Int) - 1))) (i := 10) rfl rfl rfl rfl (by kernel_rfl) (by kernel_rfl) (by kernel_rfl) (by kernel_rfl) (by kernel_rfl) rfl (V.pure rfl) (fun a hf => ?_)
            obtain ⟨hp1, h⟩ := h
            refine M.val hf hs (v := .slice z1_nowA (z1.now.take (w64 ((z1.now.length : Int) - 1)).toNat).length z1_nowC) (i := 11) rfl rfl rfl rfl (by kernel_rfl) (by kernel_rfl) (by kernel_rfl) (by kernel_rfl) (by kernel_rfl) rfl (V.slicePre (xs := z1.now) rfl rfl rfl rfl Try.runUnderlying28 Try.sizeOf3 rfl hp1 (hs.ownView 2 rfl).cap) (fun a hf => ?_)
            refine M.one (i := 12) rfl (by kernel_rfl) ?_
            refine S.val hf hs (v := .pointer (some ⟨s_g, 0, none⟩)) rfl rfl rfl (V.pure rfl) (fun a hf => ?_)
            refine R.nil ?_
            refine X.then_ ?_
            refine ⟨hs, ?_⟩
            refine M.val hf hs (v := .pointer (some ⟨s_g, 2, none⟩)) (i := 13) rfl rfl rfl rfl (by kernel_rfl) (by kernel_rfl) (by kernel_rfl) (by kernel_rfl) (by kernel_rfl) rfl (V.fieldBox rfl rfl Try.runUnderlying92 rfl Try.sizeOf28 rfl rfl) (fun a hf => ?_)
            refine M.last (i := 14) rfl (by kernel_rfl) (by kernel_rfl) ?_
            refine S.storeBox 0 hf hs rfl rfl [.slice z1_nowA (z1.now.take (w64 ((z1.now.length : Int) - 1)).toNat).length z1_nowC] [.slice s__lA s_.l.length s__lC, .slice z1_usedA z1.used.length z1_usedC, .slice z1_nowA (z1.now.take (w64 ((z1.now.length : Int) - 1)).toNat).length z1_nowC, .slice z1_bestA z1.best.length z1_bestC, .int .i64 z1.most] rfl rfl rfl rfl rfl Try.sizeOf28 rfl rfl rfl rfl (fun a w hf hs => ?_)
            refine R.nil ?_
            refine X.then_ ?_
            refine M.done (by kernel_rfl) ?_
            refine X.then_ ?_
            refine R.list ?_
            refine S.val hf hs (v := .pointer (some ⟨s_g, 0, none⟩)) rfl rfl rfl (V.pure rfl) (fun a hf => ?_)
            refine S.val hf hs (v := .pointer (some ⟨s_g, 0, none⟩)) rfl rfl rfl (V.pure rfl) (fun a hf => ?_)
            refine S.val hf hs (v := .pointer (some ⟨s_g, 1, none⟩)) rfl rfl rfl (V.fieldBox rfl rfl Try.runUnderlying92 rfl Try.sizeOf90 rfl rfl) (fun a hf => ?_)
            refine S.val hf hs (v := .slice z1_usedA z1.used.length z1_usedC) rfl rfl rfl (V.loadBox 0 rfl rfl rfl Try.isAgg90 Try.sizeOf90 rfl rfl) (fun a hf => ?_)
            refine S.val hf hs (v := .int .i64 (k2 : Int)) rfl rfl rfl (V.pure rfl) (fun a hf => ?_)
            obtain ⟨h0x2, x2, hx2, h⟩ := h
            refine S.val hf hs (v := elemPtr z1_usedA (k2 * 1)) rfl rfl rfl (V.index rfl rfl rfl Try.runUnderlying90 Try.sizeOf4 (hs.ownSome 1 rfl (lt_of_get hx2)) (Int.natCast_nonneg _) (lt_of_get hx2) rfl) (fun a hf => ?_)
            refine S.storeOwn (off := 0) 1 hf hs rfl rfl false [.bool false] rfl hx2 rfl rfl rfl rfl rfl Try.sizeOf4 rfl (by decide) rfl rfl (fun a w hf hs => ?_)
            replace hs := hs.rebox 0 (vs' := [.slice s__lA s_.l.length s__lC, .slice z1_usedA (z1.used.set k2 false).length z1_usedC, .slice z1_nowA (z1.now.take (w64 ((z1.now.length : Int) - 1)).toNat).length z1_nowC, .slice z1_bestA z1.best.length z1_bestC, .int .i64 z1.most]) rfl (congrArg (fun n => [.slice s__lA s_.l.length s__lC, Value.slice z1_usedA n z1_usedC, .slice z1_nowA (z1.now.take (w64 ((z1.now.length : Int) - 1)).toNat).length z1_nowC, .slice z1_bestA z1.best.length z1_bestC, .int .i64 z1.most]) List.length_set.symm)
            replace hf := hf.tell 102 (v := .slice z1_usedA (z1.used.set k2 false).length z1_usedC) ((hf.get 102 (.slice z1_usedA z1.used.length z1_usedC) rfl).trans (congrArg (fun n => Value.slice z1_usedA n z1_usedC) List.length_set.symm))
            refine R.nil ?_
            refine X.blk ?_
            refine X.then_ ?_
            refine R.list ?_
            refine S.val hf hs (v := .int .i64 ((k2 + 1 : Nat) : Int)) rfl rfl rfl (V.incr rfl rfl rfl hltk2 hlenk2) (fun a hf => ?_)
            refine S.val hf hs (v := .int .i64 ((k2 + 1 : Nat) : Int)) rfl rfl rfl (V.pure rfl) (fun a hf => ?_)
            refine R.nil ?_
            refine X.then_ ?_
            replace hs := hs.shorten 2 rfl ((w64 ((z1.now.length : Int) - 1)).toNat) (by have := hp1; omega)
            replace hs := hs.front 5 rfl
            replace hs := hs.front 4 rfl
            replace hs := hs.front 4 rfl
            replace hs := hs.front 4 rfl
            replace hs := hs.front 4 rfl
            replace hs := hs.take 5
            exact ⟨xk2, llk2, rfl, k2 + 1, (z1.used.set k2 false), z1_usedA, z1_usedC, (z1.now.take (w64 ((z1.now.length : Int) - 1)).toNat), z1_nowA, z1_nowC, z1.best, z1_bestA, z1_bestC, z1.most, range_drop hlk2, range_len hkk2, (by rw [hnext1] at h; exact h), ((((((hf.nil.cons (hf.get 48 _ rfl)).cons (hf.get 47 _ rfl)).cons (hf.get 4 _ rfl)).cons (hf.get 2 _ rfl)).cons (hf.get 0 _ rfl)).cons (hf.get 49 _ rfl)), hs⟩
  · skip
    refine R.list ?_
    refine S.val hf hs (v := .pointer (some ⟨s_g, 0, none⟩)) rfl rfl rfl (V.pure rfl) (fun a hf => ?_)
    refine S.val hf hs (v := .pointer (some ⟨s_g, 0, none⟩)) rfl rfl rfl (V.pure rfl) (fun a hf => ?_)
    refine S.val hf hs (v := .pointer (some ⟨s_g, 4, none⟩)) rfl rfl rfl (V.fieldBox rfl rfl Try.runUnderlying92 rfl Try.sizeOf3 rfl rfl) (fun a hf => ?_)
    refine S.val hf hs (v := .int .i64 s_.most) rfl rfl rfl (V.loadBox 1 rfl rfl rfl Try.isAgg3 Try.sizeOf3 rfl rfl) (fun a hf => ?_)
    refine S.val hf hs (v := .bool (decide (s_.most ≥ 0))) rfl rfl rfl (V.pure rfl) (fun a hf => ?_)
    refine S.split hf hs (b := decide (s_.most ≥ 0)) rfl rfl rfl (V.pure rfl) (fun hc a hf => ?_) (fun hc a hf => ?_)
    · replace h := h.1 hc
      refine S.val hf hs (v := .int .i64 sum) rfl rfl rfl (V.pure rfl) (fun a hf => ?_)
      refine S.val hf hs (v := .pointer (some ⟨s_g, 0, none⟩)) rfl rfl rfl (V.pure rfl) (fun a hf => ?_)
      refine S.val hf hs (v := .pointer (some ⟨s_g, 0, none⟩)) rfl rfl rfl (V.pure rfl) (fun a hf => ?_)
      refine S.val hf hs (v := .pointer (some ⟨s_g, 4, none⟩)) rfl rfl rfl (V.fieldBox rfl rfl Try.runUnderlying92 rfl Try.sizeOf3 rfl rfl) (fun a hf => ?_)
      refine S.val hf hs (v := .int .i64 s_.most) rfl rfl rfl (V.loadBox 1 rfl rfl rfl Try.isAgg3 Try.sizeOf3 rfl rfl) (fun a hf => ?_)
      refine S.val hf hs (v := .bool (decide (sum ≥ s_.most))) rfl rfl rfl (V.pure rfl) (fun a hf => ?_)
      refine S.val hf hs (v := .bool (decide (sum ≥ s_.most))) rfl rfl rfl (V.pure rfl) (fun a hf => ?_)
      refine R.nil ?_
      refine X.then_ ?_
      exact ⟨(decide (sum ≥ s_.most)), h, ((((hf.nil.cons (hf.get 20 _ rfl)).cons (hf.get 4 _ rfl)).cons (hf.get 2 _ rfl)).cons (hf.get 0 _ rfl)), hs⟩
    · replace h := h.2 hc
      refine S.skip hf rfl rfl rfl (fun a hf => ?_)
      refine S.skip hf rfl rfl rfl (fun a hf => ?_)
      refine S.skip hf rfl rfl rfl (fun a hf => ?_)
      refine S.skip hf rfl rfl rfl (fun a hf => ?_)
      refine S.skip hf rfl rfl rfl (fun a hf => ?_)
      refine S.skip hf rfl rfl rfl (fun a hf => ?_)
      refine S.val hf hs (v := .bool false) rfl rfl rfl (V.pure rfl) (fun a hf => ?_)
      refine R.nil ?_
      refine X.then_ ?_
      exact ⟨false, h, ((((hf.nil.cons (hf.get 20 _ rfl)).cons (hf.get 4 _ rfl)).cons (hf.get 2 _ rfl)).cons (hf.get 0 _ rfl)), hs⟩
theorem R_ref8_goOn (s_ : R8Search) (from_ : Point) (sum : Int) (w0 : World) (F0 : Nat → Prop) (s_g : Nat) (s__lA : Option Addr) (s__lC : Nat) (hv_s__l : View w0 (old w0 F0) s__lA s__lC s_.l) (s__usedA : Option Addr) (s__usedC : Nat) (s__nowA : Option Addr) (s__nowC : Nat) (s__bestA : Option Addr) (s__bestC : Nat) (hs0 : Sat w0 F0 [hbox s_g 92 [.slice s__lA s_.l.length s__lC, .slice s__usedA s_.used.length s__usedC, .slice s__nowA s_.now.length s__nowC, .slice s__bestA s_.best.length s__bestC, .int .i64 s_.most], hown 4 s__usedA s__usedC s_.used, hown 3 s__nowA s__nowC s_.now, hown 3 s__bestA s__bestC s_.best] w0) (Q : R8Search → Prop) (h : M_ref8_goOn s_ from_ sum Q) :
    Ret Try.prog 62 #[.pointer (some ⟨s_g, 0, none⟩), .agg #[.int .i64 from_.X, .int .i64 from_.Y], .int .i64 sum] w0 fun v w' => ∃ (s_1 : R8Search) (s_1_usedA : Option Addr) (s_1_usedC : Nat) (s_1_nowA : Option Addr) (s_1_nowC : Nat) (s_1_bestA : Option Addr) (s_1_bestC : Nat), v = .tuple #[] ∧ Q s_1 ∧ Sat w0 F0 [hbox s_g 92 [.slice s__lA s_.l.length s__lC, .slice s_1_usedA s_1.used.length s_1_usedC, .slice s_1_nowA s_1.now.length s_1_nowC, .slice s_1_bestA s_1.best.length s_1_bestC, .int .i64 s_1.most], hown 4 s_1_usedA s_1_usedC s_1.used, hown 3 s_1_nowA s_1_nowC s_1.now, hown 3 s_1_bestA s_1_bestC s_1.best] w' := by
  obtain ⟨fuel, h⟩ := h
  exact RN_ref8_goOn fuel s_ from_ sum w0 F0 s_g s__lA s__lC hv_s__l s__usedA s__usedC s__nowA s__nowC s__bestA s__bestC hs0 Q h

set_option linter.unusedVariables false
def M_ref8_Shortest (l : (List Point)) (from_ : Point) (Q : (List Int) → Int → Int → Prop) : Prop :=
  M_ref8_askPoints l from_ 10 fun y1 => cnd (y1 != 0) (Q ([] : List Int) 0 y1) (must (0 ≤ (l.length : Int) ∧ (l.length : Int) * 1 ≤ 281474976710656) (M_ref8_goOn (⟨l, (List.replicate l.length false), ([] : List Int), ([] : List Int), (-1)⟩ : R8Search) from_ 0 fun z1 => Q z1.best z1.most 0))
set_option maxHeartbeats 1000000 in
theorem R_ref8_Shortest (l : (List Point)) (from_ : Point) (w0 : World) (lA : Option Addr) (lC : Nat) (hv_l : View w0 (old w0 none_) lA lC l) (Q : (List Int) → Int → Int → Prop) (h : M_ref8_Shortest l from_ Q) :
    Ret Try.prog 28 #[.slice lA l.length lC, .agg #[.int .i64 from_.X, .int .i64 from_.Y]] w0 fun v w' => ∃ (r0 : (List Int)) (r0A : Option Addr) (r0C : Nat) (r1 : Int) (r2 : Int), v = .tuple #[.slice r0A r0.length r0C, .int .i64 r1, .int .i64 r2] ∧ Q r0 r1 r2 ∧ Sat w0 none_ [hown 3 r0A r0C r0] w' := by
  refine fn_enter Try.func28 rfl Try.ntmps28 rfl (fs := [(0, .slice lA l.length lC), (1, .agg #[.int .i64 from_.X, .int .i64 from_.Y])]) rfl (fun a hf => ?_)
  have hs := Sat.start w0 none_
  unfold M_ref8_Shortest at h
  refine wp_seq ?_
  refine R.list ?_
  refine S.box hf hs rfl rfl rfl [.int .i64 from_.X, .int .i64 from_.Y] rfl rfl rfl (fun g1 a w hf hs => ?_)
  refine S.val hf hs (v := .slice none 0 0) rfl rfl rfl (V.pure rfl) (fun a hf => ?_)
  refine S.val hf hs (v := .int .i64 0) rfl rfl rfl (V.pure rfl) (fun a hf => ?_)
  refine S.val hf hs (v := .int .i64 0) rfl rfl rfl (V.pure rfl) (fun a hf => ?_)
  refine R.nil ?_
  refine X.then_ ?_
  refine wp_seq ?_
  refine wp_seq ?_
  refine R.list ?_
  refine S.val hf hs (v := .slice lA l.length lC) rfl rfl rfl (V.pure rfl) (fun a hf => ?_)
  refine S.val hf hs (v := .agg #[.int .i64 from_.X, .int .i64 from_.Y]) rfl rfl rfl (V.loadBox 0 rfl rfl rfl Try.isAgg24 Try.sizeOf24 rfl rfl) (fun a hf => ?_)
  refine S.call hf rfl rfl rfl (call_fn (vs := [.slice lA l.length lC, .agg #[.int .i64 from_.X, .int .i64 from_.Y], .int .i64 10]) rfl rfl rfl Try.call50) (R_ref8_askPoints l from_ 10 _ lA lC ((Ag.args _ _ _).view hv_l hs) _ h) (fun v a w' hf hr => ?_)
  obtain ⟨y1, rfl, h2, hs2⟩ := hr
  replace h := h2; replace hs := hs.call hs2; clear h2 hs2
  refine S.val hf hs (v := .int .i64 y1) rfl rfl rfl (V.pure rfl) (fun a hf => ?_)
  refine R.nil ?_
  refine X.then_ ?_
  refine wp_seq ?_
  refine R.list ?_
  refine S.val hf hs (v := .int .i64 y1) rfl rfl rfl (V.pure rfl) (fun a hf => ?_)
  refine S.val hf hs (v := .bool (y1 != 0)) rfl rfl rfl (V.pure rfl) (fun a hf => ?_)
  refine R.nil ?_
  refine X.then_ ?_
  refine C.cond hf (b := y1 != 0) rfl (fun hc => ?_) (fun hc => ?_)
  · replace h := h.1 hc
    refine wp_seq ?_
    refine R.list ?_
    refine S.val hf hs (v := .int .i64 y1) rfl rfl rfl (V.pure rfl) (fun a hf => ?_)
    refine S.val hf hs (v := .slice none 0 0) rfl rfl rfl (V.pure rfl) (fun a hf => ?_)
    refine S.val hf hs (v := .int .i64 0) rfl rfl rfl (V.pure rfl) (fun a hf => ?_)
    refine S.val hf hs (v := .int .i64 y1) rfl rfl rfl (V.pure rfl) (fun a hf => ?_)
    refine R.nil ?_
    refine X.then_ ?_
    refine wp_ret ?_
    refine X.then_ret ?_
    replace hs := hs.nilOwn (α := Int) 3
    replace hs := hs.take 1
    exact L.ret hf (run_results3 Try.results28 (ResIs.tmp hf rfl) (ResIs.tmp hf rfl) (ResIs.tmp hf rfl)) ⟨([] : List Int), none, 0, 0, y1, rfl, h, hs⟩
  · replace h := h.2 hc
    refine wp_skip ?_
    refine X.then_ ?_
    refine wp_seq ?_
    refine R.list ?_
    refine S.val hf hs (v := .slice lA l.length lC) rfl rfl rfl (V.pure rfl) (fun a hf => ?_)
    refine S.val hf hs (v := .slice lA l.length lC) rfl rfl rfl (V.pure rfl) (fun a hf => ?_)
    refine S.val hf hs (v := .int .i64 (l.length : Int)) rfl rfl rfl (V.len rfl rfl Try.runUnderlying22) (fun a hf => ?_)
    obtain ⟨hmk, h⟩ := h
    refine S.make hf hs rfl rfl rfl (α := Bool) false (z := (l.length : Int)) (N := l.length) rfl rfl rfl Try.underlying90 info4 hmk rfl (by have := hmk.2; omega) (fun A1 a w hf hs => ?_)
    refine S.val hf hs (v := .agg #[.slice lA l.length lC, .slice A1 (List.replicate l.length false).length l.length, .slice none 0 0, .slice none 0 0, .int .i64 (-1)]) rfl rfl rfl (V.build (places := #[(0, 1), (1, 1), (2, 1), (3, 1), (4, 1)]) rfl Try.zeroValue92 Try.runUnderlying92 (by intro w; simp [Try.sizeOf22, Try.sizeOf28, Try.sizeOf3, Try.sizeOf90]) rfl rfl) (fun a hf => ?_)
    refine S.box hf hs rfl rfl rfl [.slice lA l.length lC, .slice A1 (List.replicate l.length false).length l.length, .slice none 0 0, .slice none 0 0, .int .i64 (-1)] rfl rfl rfl (fun g2 a w hf hs => ?_)
    refine S.val hf hs (v := .pointer (some ⟨g2, 0, none⟩)) rfl rfl rfl (V.pure rfl) (fun a hf => ?_)
    refine R.nil ?_
    refine X.then_ ?_
    refine wp_seq ?_
    refine R.list ?_
    refine S.val hf hs (v := .pointer (some ⟨g2, 0, none⟩)) rfl rfl rfl (V.pure rfl) (fun a hf => ?_)
    refine S.val hf hs (v := .agg #[.int .i64 from_.X, .int .i64 from_.Y]) rfl rfl rfl (V.loadBox 2 rfl rfl rfl Try.isAgg24 Try.sizeOf24 rfl rfl) (fun a hf => ?_)
    replace hs := hs.nilOwn (α := Int) 3
    replace hs := hs.nilOwn (α := Int) 3
    replace hs := hs.front 1 rfl
    replace hs := hs.front 1 rfl
    replace hs := hs.front 3 rfl
    replace hs := hs.front 3 rfl
    obtain ⟨F1, hsF, hback, hold, hrest⟩ := Sat.callOwns [hbox g2 92 [.slice lA l.length lC, .slice A1 (List.replicate l.length false).length l.length, .slice none ([] : List Int).length 0, .slice none ([] : List Int).length 0, .int .i64 (-1)], hown 4 A1 l.length (List.replicate l.length false), hown 3 none 0 ([] : List Int), hown 3 none 0 ([] : List Int)] (σ := [hbox g1 24 [.int .i64 from_.X, .int .i64 from_.Y]]) hs
    refine S.call hf rfl rfl rfl (call_fn (vs := [.pointer (some ⟨g2, 0, none⟩), .agg #[.int .i64 from_.X, .int .i64 from_.Y], .int .i64 0]) rfl rfl rfl Try.call62) (R_ref8_goOn (⟨l, (List.replicate l.length false), ([] : List Int), ([] : List Int), (-1)⟩ : R8Search) from_ 0 _ _ g2 lA lC (viewArgsF hs hold hv_l) A1 l.length none 0 none 0 hsF _ h) (fun v a w' hf hr => ?_)
    obtain ⟨z1, z1_usedA, z1_usedC, z1_nowA, z1_nowC, z1_bestA, z1_bestC, rfl, h2, hs2⟩ := hr
    replace h := h2; replace hs := hback _ _ hs2; clear h2 hs2 hback hold hrest hsF
    refine R.nil ?_
    refine X.then_ ?_
    refine wp_seq ?_
    refine R.draw mo (by kernel_rfl) hs ?_
    refine D.val hf (v := .pointer (some ⟨g2, 0, none⟩)) rfl rfl rfl (V.pure rfl) (fun a hf => ?_)
    refine D.val hf (v := .pointer (some ⟨g2, 0, none⟩)) rfl rfl rfl (V.pure rfl) (fun a hf => ?_)
    refine D.val hf (v := .pointer (some ⟨g2, 3, none⟩)) rfl rfl rfl (V.fieldBox rfl rfl Try.runUnderlying92 rfl Try.sizeOf28 rfl rfl) (fun a hf => ?_)
    refine D.val hf (v := .slice z1_bestA z1.best.length z1_bestC) rfl rfl rfl (V.loadBox 0 rfl rfl rfl Try.isAgg28 Try.sizeOf28 rfl rfl) (fun a hf => ?_)
    refine D.val hf (v := .pointer (some ⟨g2, 0, none⟩)) rfl rfl rfl (V.pure rfl) (fun a hf => ?_)
    refine D.val hf (v := .pointer (some ⟨g2, 0, none⟩)) rfl rfl rfl (V.pure rfl) (fun a hf => ?_)
    refine D.val hf (v := .pointer (some ⟨g2, 4, none⟩)) rfl rfl rfl (V.fieldBox rfl rfl Try.runUnderlying92 rfl Try.sizeOf3 rfl rfl) (fun a hf => ?_)
    refine D.val hf (v := .int .i64 z1.most) rfl rfl rfl (V.loadBox 0 rfl rfl rfl Try.isAgg3 Try.sizeOf3 rfl rfl) (fun a hf => ?_)
    refine D.val hf (v := .slice z1_bestA z1.best.length z1_bestC) rfl rfl rfl (V.pure rfl) (fun a hf => ?_)
    refine D.val hf (v := .int .i64 z1.most) rfl rfl rfl (V.pure rfl) (fun a hf => ?_)
    refine D.val hf (v := .int .i64 0) rfl rfl rfl (V.pure rfl) (fun a hf => ?_)
    refine D.done (fun w hs => ?_)
    refine X.then_ ?_
    refine wp_ret ?_
    replace hs := hs.front 3 rfl
    replace hs := hs.take 1
    exact L.ret hf (run_results3 Try.results28 (ResIs.tmp hf rfl) (ResIs.tmp hf rfl) (ResIs.tmp hf rfl)) ⟨z1.best, z1_bestA, z1_bestC, z1.most, 0, rfl, h, hs⟩

set_option linter.unusedVariables false
def M_ref8_IsOrder_k2 (Q : Bool → Prop) (xk1 : Int) (l2 : List Bool) (next1 : List Bool → Prop) (c1 : Bool) : Prop :=
  cnd c1 (Q false) (idx l2 xk1 fun x1 => next1 (l2.set xk1.toNat true))
def M_ref8_IsOrder_L1 (n : Int) (Q : Bool → Prop) (k1 : Nat) (xk1 : Int) (l2 : List Bool) (next1 : List Bool → Prop) : Prop :=
  cnd (!(within xk1 0 (w64 (n - 1)))) (M_ref8_IsOrder_k2 Q xk1 l2 next1 true) (idx l2 xk1 fun x2 => M_ref8_IsOrder_k2 Q xk1 l2 next1 x2)
def M_ref8_IsOrder (order : (List Int)) (n : Int) (Q : Bool → Prop) : Prop :=
  must (0 ≤ n ∧ n * 1 ≤ 281474976710656) (forIn' (fun k x (s : List Bool) next => M_ref8_IsOrder_L1 n Q k x s (fun l2 => next l2)) (fun (s : List Bool) => (fun (l2 : List Bool) => Q ((order.length : Int) == n)) s) order 0 (List.replicate n.toNat false))
set_option maxHeartbeats 1000000 in
theorem R_ref8_IsOrder (order : (List Int)) (n : Int) (w0 : World) (orderA : Option Addr) (orderC : Nat) (hv_order : View w0 (old w0 none_) orderA orderC order) (Q : Bool → Prop) (h : M_ref8_IsOrder order n Q) :
    Ret Try.prog 65 #[.slice orderA order.length orderC, .int .i64 n] w0 fun v w' => ∃ (r0 : Bool), v = .bool r0 ∧ Q r0 ∧ Sat w0 none_ [] w' := by
  refine fn_enter Try.func65 rfl Try.ntmps65 rfl (fs := [(0, .slice orderA order.length orderC), (1, .int .i64 n)]) rfl (fun a hf => ?_)
  have hs := Sat.start w0 none_
  unfold M_ref8_IsOrder at h
  refine wp_seq ?_
  refine R.list ?_
  refine S.val hf hs (v := .bool false) rfl rfl rfl (V.pure rfl) (fun a hf => ?_)
  refine R.nil ?_
  refine X.then_ ?_
  refine wp_seq ?_
  refine R.list ?_
  refine S.val hf hs (v := .int .i64 n) rfl rfl rfl (V.pure rfl) (fun a hf => ?_)
  obtain ⟨hmk, h⟩ := h
  refine S.make hf hs rfl rfl rfl (α := Bool) false (z := n) (N := n.toNat) rfl rfl rfl Try.underlying90 info4 hmk rfl (by have := hmk.2; omega) (fun A1 a w hf hs => ?_)
  refine S.val hf hs (v := .slice A1 (List.replicate n.toNat false).length n.toNat) rfl rfl rfl (V.pure rfl) (fun a hf => ?_)
  refine R.nil ?_
  refine X.then_ ?_
  refine wp_seq ?_
  refine wp_seq ?_
  refine R.list ?_
  refine S.val hf hs (v := .slice orderA order.length orderC) rfl rfl rfl (V.pure rfl) (fun a hf => ?_)
  refine S.val hf hs (v := .int .i64 (order.length : Int)) rfl rfl rfl (V.len rfl rfl Try.runUnderlying28) (fun a hf => ?_)
  refine S.val hf hs (v := .int .i64 0) rfl rfl rfl (V.pure rfl) (fun a hf => ?_)
  refine R.nil ?_
  refine X.then_ ?_
  refine wp_block ?_
  have hlenk1 := hv_order.len64
  refine C.range (fun (ll : List Int) a w => ∃ (k1 : Nat) (l2 : List Bool) (l2A : Option Addr) (l2C : Nat), order.drop k1 = ll ∧ k1 + ll.length = order.length ∧ forIn' (fun k x (s : List Bool) next => M_ref8_IsOrder_L1 n Q k x s (fun l2 => next l2)) (fun (s : List Bool) => (fun (l2 : List Bool) => Q ((order.length : Int) == n)) s) ll k1 l2 ∧ FrOk 35 [(12, .int .i64 (k1 : Int)), (0, .slice orderA order.length orderC), (1, .int .i64 n), (5, .slice l2A l2.length l2C), (10, .slice orderA order.length orderC), (11, .int .i64 (order.length : Int))] a ∧ Sat w0 none_ [hown 4 l2A l2C l2] w) order ⟨0, (List.replicate n.toNat false), A1, n.toNat, rfl, Nat.zero_add _, h, ((((((hf.nil.cons (hf.get 11 _ rfl)).cons (hf.get 10 _ rfl)).cons (hf.get 5 _ rfl)).cons (hf.get 1 _ rfl)).cons (hf.get 0 _ rfl)).cons (hf.get 12 _ rfl)), hs⟩ ?_
  clear h hf hs
  rintro llk1 a w ⟨k1, l2, l2A, l2C, hlk1, hkk1, h, hf, hs⟩
  cases llk1 with
  | nil =>
    have hc := range_done hkk1
    replace h : (fun (l2 : List Bool) => Q ((order.length : Int) == n)) l2 := h
    refine wp_seq ?_
    refine R.list ?_
    refine S.val hf hs (v := .bool false) rfl rfl rfl (V.cmp false rfl rfl rfl rfl hc) (fun a hf => ?_)
    refine R.nil ?_
    refine X.then_ ?_
    refine wp_seq ?_
    refine C.no hf rfl ?_
    refine wp_exit ?_
    refine X.then_exit ?_
    refine X.then_exit ?_
    refine X.blk_exit ?_
    refine X.then_ ?_
    refine wp_seq ?_
    refine R.list ?_
    refine S.val hf hs (v := .slice orderA order.length orderC) rfl rfl rfl (V.pure rfl) (fun a hf => ?_)
    refine S.val hf hs (v := .int .i64 (order.length : Int)) rfl rfl rfl (V.len rfl rfl Try.runUnderlying28) (fun a hf => ?_)
    refine S.val hf hs (v := .int .i64 n) rfl rfl rfl (V.pure rfl) (fun a hf => ?_)
    refine S.val hf hs (v := .bool ((order.length : Int) == n)) rfl rfl rfl (V.pure rfl) (fun a hf => ?_)
    refine S.val hf hs (v := .bool ((order.length : Int) == n)) rfl rfl rfl (V.pure rfl) (fun a hf => ?_)
    refine R.nil ?_
    refine X.then_ ?_
    refine wp_ret ?_
    exact L.ret hf (run_results1 Try.results65 (ResIs.tmp hf rfl)) ⟨((order.length : Int) == n), rfl, h, hs.nil⟩
  | cons xk1 llk1 =>
    have hltk1 := range_lt hkk1; have hc := range_go hkk1; have hxk1 := range_get hlk1
    obtain ⟨next1, hnext1⟩ : ∃ X : List Bool → Prop, X = (fun l2 => forIn' (fun k x (s : List Bool) next => M_ref8_IsOrder_L1 n Q k x s (fun l2 => next l2)) (fun (s : List Bool) => (fun (l2 : List Bool) => Q ((order.length : Int) == n)) s) llk1 (k1 + 1) l2) := ⟨_, rfl⟩
    replace h : M_ref8_IsOrder_L1 n Q k1 xk1 l2 next1 := by rw [hnext1]; exact h
    unfold M_ref8_IsOrder_L1 at h
    refine wp_seq ?_
    refine R.list ?_
    refine S.val hf hs (v := .bool true) rfl rfl rfl (V.cmp true rfl rfl rfl rfl hc) (fun a hf => ?_)
    refine R.nil ?_
    refine X.then_ ?_
    refine wp_seq ?_
    refine C.yes hf rfl ?_
    refine wp_skip ?_
    refine X.then_ ?_
    refine wp_seq ?_
    refine wp_block ?_
    refine wp_seq ?_
    refine R.list ?_
    refine S.val hf hs (v := elemPtr orderA (k1 * 1)) rfl rfl rfl (V.index rfl rfl rfl Try.runUnderlying28 Try.sizeOf3 (hv_order.some_ (lt_of_get hxk1)) (Int.natCast_nonneg _) (lt_of_get hxk1) rfl) (fun a hf => ?_)
    refine S.val hf hs (v := .int .i64 xk1) rfl rfl rfl (V.loadEl (off := 0) (Ag.args _ _ _) (hv_order.flat hxk1) rfl rfl rfl Try.isAgg3 Try.sizeOf3 rfl rfl) (fun a hf => ?_)
    refine S.val hf hs (v := .int .i64 xk1) rfl rfl rfl (V.pure rfl) (fun a hf => ?_)
    refine R.nil ?_
    refine X.then_ ?_
    refine wp_seq ?_
    refine wp_seq ?_
    refine C.cut (J := fun a w => ∃ (c1 : Bool), M_ref8_IsOrder_k2 Q xk1 l2 next1 c1 ∧ FrOk 35 [(0, .slice orderA order.length orderC), (1, .int .i64 n), (5, .slice l2A l2.length l2C), (7, .int .i64 xk1), (10, .slice orderA order.length orderC), (11, .int .i64 (order.length : Int)), (12, .int .i64 (k1 : Int)), (26, .bool c1)] a ∧ Sat w0 none_ [hown 4 l2A l2C l2] w) ?_ ?_
    · rintro a w ⟨c1, h, hf, hs⟩
      unfold M_ref8_IsOrder_k2 at h
      refine C.cond hf (b := c1) rfl (fun hc => ?_) (fun hc => ?_)
      · replace h := h.1 hc
        refine wp_seq ?_
        refine R.list ?_
        refine S.val hf hs (v := .bool false) rfl rfl rfl (V.pure rfl) (fun a hf => ?_)
        refine R.nil ?_
        refine X.then_ ?_
        refine wp_ret ?_
        refine X.then_ret ?_
        refine X.blk_ret ?_
        refine X.then_ret ?_
        refine X.then_ret ?_
        refine X.blk_ret ?_
        refine X.then_ret ?_
        exact L.ret hf (run_results1 Try.results65 (ResIs.tmp hf rfl)) ⟨false, rfl, h, hs.nil⟩
      · replace h := h.2 hc
        refine wp_skip ?_
        refine X.then_ ?_
        refine R.list ?_
        refine S.val hf hs (v := .slice l2A l2.length l2C) rfl rfl rfl (V.pure rfl) (fun a hf => ?_)
        refine S.val hf hs (v := .int .i64 xk1) rfl rfl rfl (V.pure rfl) (fun a hf => ?_)
        obtain ⟨h0x1, x1, hx1, h⟩ := h
        refine S.val hf hs (v := elemPtr l2A (xk1.toNat * 1)) rfl rfl rfl (V.index rfl rfl rfl Try.runUnderlying90 Try.sizeOf4 (hs.ownSome 0 rfl (lt_of_get hx1)) h0x1 (lt_of_get hx1) rfl) (fun a hf => ?_)
        refine S.storeOwn (off := 0) 0 hf hs rfl rfl true [.bool true] rfl hx1 rfl rfl rfl rfl rfl Try.sizeOf4 rfl (by decide) rfl rfl (fun a w hf hs => ?_)
        replace hf := hf.tell 5 (v := .slice l2A (l2.set xk1.toNat true).length l2C) ((hf.get 5 (.slice l2A l2.length l2C) rfl).trans (congrArg (fun n => Value.slice l2A n l2C) List.length_set.symm))
        replace hf := hf.tell 27 (v := .slice l2A (l2.set xk1.toNat true).length l2C) ((hf.get 27 (.slice l2A l2.length l2C) rfl).trans (congrArg (fun n => Value.slice l2A n l2C) List.length_set.symm))
        refine R.nil ?_
        refine X.blk ?_
        refine X.then_ ?_
        refine R.list ?_
        refine S.val hf hs (v := .int .i64 ((k1 + 1 : Nat) : Int)) rfl rfl rfl (V.incr rfl rfl rfl hltk1 hlenk1) (fun a hf => ?_)
        refine S.val hf hs (v := .int .i64 ((k1 + 1 : Nat) : Int)) rfl rfl rfl (V.pure rfl) (fun a hf => ?_)
        refine R.nil ?_
        refine X.then_ ?_
        exact ⟨xk1, llk1, rfl, k1 + 1, (l2.set xk1.toNat true), l2A, l2C, range_drop hlk1, range_len hkk1, (by rw [hnext1] at h; exact h), ((((((hf.nil.cons (hf.get 11 _ rfl)).cons (hf.get 10 _ rfl)).cons (hf.get 5 _ rfl)).cons (hf.get 1 _ rfl)).cons (hf.get 0 _ rfl)).cons (hf.get 12 _ rfl)), hs⟩
    · skip
      refine R.list ?_
      refine S.val hf hs (v := .int .i64 xk1) rfl rfl rfl (V.pure rfl) (fun a hf => ?_)
      refine S.val hf hs (v := .int .i64 n) rfl rfl rfl (V.pure rfl) (fun a hf => ?_)
      refine S.val hf hs (v := .int .i64 (w64 (n - 1))) rfl rfl rfl (V.pure rfl) (fun a hf => ?_)
      refine S.callv hf rfl rfl rfl (call_fn (vs := [.int .i64 xk1, .int .i64 0, .int .i64 (w64 (n - 1))]) rfl rfl rfl Try.call59) (C_ref8_within xk1 0 (w64 (n - 1)) _ ) (fun a w hf hs' => ?_)
      replace hs := hs.call hs'; clear hs'
      refine S.val hf hs (v := .bool (!(within xk1 0 (w64 (n - 1))))) rfl rfl rfl (V.pure rfl) (fun a hf => ?_)
      refine S.split hf hs (b := !(within xk1 0 (w64 (n - 1)))) rfl rfl rfl (V.pure rfl) (fun hc a hf => ?_) (fun hc a hf => ?_)
      · replace h := h.1 hc
        refine S.skip hf rfl rfl rfl (fun a hf => ?_)
        refine S.skip hf rfl rfl rfl (fun a hf => ?_)
        refine S.skip hf rfl rfl rfl (fun a hf => ?_)
        refine S.skip hf rfl rfl rfl (fun a hf => ?_)
        refine S.val hf hs (v := .bool true) rfl rfl rfl (V.pure rfl) (fun a hf => ?_)
        refine R.nil ?_
        refine X.then_ ?_
        exact ⟨true, h, ((((((((hf.nil.cons (hf.get 26 _ rfl)).cons (hf.get 12 _ rfl)).cons (hf.get 11 _ rfl)).cons (hf.get 10 _ rfl)).cons (hf.get 7 _ rfl)).cons (hf.get 5 _ rfl)).cons (hf.get 1 _ rfl)).cons (hf.get 0 _ rfl)), hs⟩
      · replace h := h.2 hc
        refine S.val hf hs (v := .slice l2A l2.length l2C) rfl rfl rfl (V.pure rfl) (fun a hf => ?_)
        refine S.val hf hs (v := .int .i64 xk1) rfl rfl rfl (V.pure rfl) (fun a hf => ?_)
        obtain ⟨h0x2, x2, hx2, h⟩ := h
        refine S.val hf hs (v := elemPtr l2A (xk1.toNat * 1)) rfl rfl rfl (V.index rfl rfl rfl Try.runUnderlying90 Try.sizeOf4 (hs.ownSome 0 rfl (lt_of_get hx2)) h0x2 (lt_of_get hx2) rfl) (fun a hf => ?_)
        refine S.val hf hs (v := .bool x2) rfl rfl rfl (V.loadOwn (off := 0) 0 rfl hx2 rfl rfl rfl Try.isAgg4 Try.sizeOf4 rfl rfl) (fun a hf => ?_)
        refine S.val hf hs (v := .bool x2) rfl rfl rfl (V.pure rfl) (fun a hf => ?_)
        refine R.nil ?_
        refine X.then_ ?_
        exact ⟨x2, h, ((((((((hf.nil.cons (hf.get 26 _ rfl)).cons (hf.get 12 _ rfl)).cons (hf.get 11 _ rfl)).cons (hf.get 10 _ rfl)).cons (hf.get 7 _ rfl)).cons (hf.get 5 _ rfl)).cons (hf.get 1 _ rfl)).cons (hf.get 0 _ rfl)), hs⟩

set_option linter.unusedVariables false
def M_ref8_Length (l : (List Point)) (from_ : Point) (order : (List Int)) (Q : Int → Prop) : Prop :=
  M_ref8_IsOrder order (l.length : Int) fun y1 => cnd (!y1) (Q (-1)) (M_ref8_length l from_ order fun y2 => Q y2)
set_option maxHeartbeats 1000000 in
theorem R_ref8_Length (l : (List Point)) (from_ : Point) (order : (List Int)) (w0 : World) (lA : Option Addr) (lC : Nat) (hv_l : View w0 (old w0 none_) lA lC l) (orderA : Option Addr) (orderC : Nat) (hv_order : View w0 (old w0 none_) orderA orderC order) (Q : Int → Prop) (h : M_ref8_Length l from_ order Q) :
    Ret Try.prog 31 #[.slice lA l.length lC, .agg #[.int .i64 from_.X, .int .i64 from_.Y], .slice orderA order.length orderC] w0 fun v w' => ∃ (r0 : Int), v = .int .i64 r0 ∧ Q r0 ∧ Sat w0 none_ [] w' := by
  refine fn_enter Try.func31 rfl Try.ntmps31 rfl (fs := [(0, .slice lA l.length lC), (1, .agg #[.int .i64 from_.X, .int .i64 from_.Y]), (2, .slice orderA order.length orderC)]) rfl (fun a hf => ?_)
  have hs := Sat.start w0 none_
  unfold M_ref8_Length at h
  refine wp_seq ?_
  refine R.list ?_
  refine S.box hf hs rfl rfl rfl [.int .i64 from_.X, .int .i64 from_.Y] rfl rfl rfl (fun g1 a w hf hs => ?_)
  refine S.val hf hs (v := .int .i64 0) rfl rfl rfl (V.pure rfl) (fun a hf => ?_)
  refine R.nil ?_
  refine X.then_ ?_
  refine wp_seq ?_
  refine wp_seq ?_
  refine R.list ?_
  refine S.val hf hs (v := .slice orderA order.length orderC) rfl rfl rfl (V.pure rfl) (fun a hf => ?_)
  refine S.val hf hs (v := .slice lA l.length lC) rfl rfl rfl (V.pure rfl) (fun a hf => ?_)
  refine S.val hf hs (v := .int .i64 (l.length : Int)) rfl rfl rfl (V.len rfl rfl Try.runUnderlying22) (fun a hf => ?_)
  refine S.call hf rfl rfl rfl (call_fn (vs := [.slice orderA order.length orderC, .int .i64 (l.length : Int)]) rfl rfl rfl Try.call65) (R_ref8_IsOrder order (l.length : Int) _ orderA orderC ((Ag.args _ _ _).view hv_order hs) _ h) (fun v a w' hf hr => ?_)
  obtain ⟨y1, rfl, h2, hs2⟩ := hr
  replace h := h2; replace hs := hs.call hs2; clear h2 hs2
  refine S.val hf hs (v := .bool (!y1)) rfl rfl rfl (V.pure rfl) (fun a hf => ?_)
  refine R.nil ?_
  refine X.then_ ?_
  refine C.cond hf (b := !y1) rfl (fun hc => ?_) (fun hc => ?_)
  · replace h := h.1 hc
    refine wp_seq ?_
    refine R.list ?_
    refine S.val hf hs (v := .int .i64 (-1)) rfl rfl rfl (V.pure rfl) (fun a hf => ?_)
    refine R.nil ?_
    refine X.then_ ?_
    refine wp_ret ?_
    refine X.then_ret ?_
    exact L.ret hf (run_results1 Try.results31 (ResIs.tmp hf rfl)) ⟨(-1), rfl, h, hs.nil⟩
  · replace h := h.2 hc
    refine wp_skip ?_
    refine X.then_ ?_
    refine wp_seq ?_
    refine R.list ?_
    refine S.val hf hs (v := .slice lA l.length lC) rfl rfl rfl (V.pure rfl) (fun a hf => ?_)
    refine S.val hf hs (v := .agg #[.int .i64 from_.X, .int .i64 from_.Y]) rfl rfl rfl (V.loadBox 0 rfl rfl rfl Try.isAgg24 Try.sizeOf24 rfl rfl) (fun a hf => ?_)
    refine S.val hf hs (v := .slice orderA order.length orderC) rfl rfl rfl (V.pure rfl) (fun a hf => ?_)
    refine S.call hf rfl rfl rfl (call_fn (vs := [.slice lA l.length lC, .agg #[.int .i64 from_.X, .int .i64 from_.Y], .slice orderA order.length orderC]) rfl rfl rfl Try.call66) (R_ref8_length l from_ order _ lA lC ((Ag.args _ _ _).view hv_l hs) orderA orderC ((Ag.args _ _ _).view hv_order hs) _ h) (fun v a w' hf hr => ?_)
    obtain ⟨y2, rfl, h2, hs2⟩ := hr
    replace h := h2; replace hs := hs.call hs2; clear h2 hs2
    refine S.val hf hs (v := .int .i64 y2) rfl rfl rfl (V.pure rfl) (fun a hf => ?_)
    refine R.nil ?_
    refine X.then_ ?_
    refine wp_ret ?_
    exact L.ret hf (run_results1 Try.results31 (ResIs.tmp hf rfl)) ⟨y2, rfl, h, hs.nil⟩

set_option linter.unusedVariables false
def M_law_Shortest (l : (List Point)) (from_ : Point) (Q : Bool → Prop) : Prop :=
  M_drill_Shortest l from_ fun y1 y2 y3 => M_ref8_Shortest l from_ fun y4 y5 y6 => cnd (y3 == y6) (cnd (y2 == y5) (M_equal_int y1 y4 fun y7 => cnd y7 (M_awake  fun y8 => Q y8) (Q false)) (Q false)) (Q false)
set_option maxHeartbeats 1000000 in
theorem R_law_Shortest (l : (List Point)) (from_ : Point) (w0 : World) (lA : Option Addr) (lC : Nat) (hv_l : View w0 (old w0 none_) lA lC l) (Q : Bool → Prop) (h : M_law_Shortest l from_ Q) :
    Ret Try.prog 6 #[.slice lA l.length lC, .agg #[.int .i64 from_.X, .int .i64 from_.Y]] w0 fun v w' => ∃ (r0 : Bool), v = .bool r0 ∧ Q r0 ∧ Sat w0 none_ [] w' := by
  refine fn_enter Try.func6 rfl Try.ntmps6 rfl (fs := [(0, .slice lA l.length lC), (1, .agg #[.int .i64 from_.X, .int .i64 from_.Y])]) rfl (fun a hf => ?_)
  have hs := Sat.start w0 none_
  unfold M_law_Shortest at h
  refine wp_seq ?_
  refine R.list ?_
  refine S.box hf hs rfl rfl rfl [.int .i64 from_.X, .int .i64 from_.Y] rfl rfl rfl (fun g1 a w hf hs => ?_)
  refine S.val hf hs (v := .bool false) rfl rfl rfl (V.pure rfl) (fun a hf => ?_)
  refine R.nil ?_
  refine X.then_ ?_
  refine wp_seq ?_
  refine R.list ?_
  refine S.val hf hs (v := .slice lA l.length lC) rfl rfl rfl (V.pure rfl) (fun a hf => ?_)
  refine S.val hf hs (v := .agg #[.int .i64 from_.X, .int .i64 from_.Y]) rfl rfl rfl (V.loadBox 0 rfl rfl rfl Try.isAgg24 Try.sizeOf24 rfl rfl) (fun a hf => ?_)
  refine S.call hf rfl rfl rfl (call_fn (vs := [.slice lA l.length lC, .agg #[.int .i64 from_.X, .int .i64 from_.Y]]) rfl rfl rfl Try.call27) (R_drill_Shortest l from_ _ lA lC ((Ag.args _ _ _).view hv_l hs) _ h) (fun v a w' hf hr => ?_)
  obtain ⟨y1, y1A, y1C, y2, y3, rfl, h2, hs2⟩ := hr
  replace h := h2; replace hs := hs.call hs2; clear h2 hs2
  refine S.val hf hs (v := .tuple #[.slice y1A y1.length y1C, .int .i64 y2, .int .i64 y3]) rfl rfl rfl (V.pure rfl) (fun a hf => ?_)
  refine S.val hf hs (v := .slice y1A y1.length y1C) rfl rfl rfl (V.pure rfl) (fun a hf => ?_)
  refine S.val hf hs (v := .int .i64 y2) rfl rfl rfl (V.pure rfl) (fun a hf => ?_)
  refine S.val hf hs (v := .int .i64 y3) rfl rfl rfl (V.pure rfl) (fun a hf => ?_)
  refine S.val hf hs (v := .slice y1A y1.length y1C) rfl rfl rfl (V.pure rfl) (fun a hf => ?_)
  refine S.val hf hs (v := .int .i64 y2) rfl rfl rfl (V.pure rfl) (fun a hf => ?_)
  refine S.val hf hs (v := .int .i64 y3) rfl rfl rfl (V.pure rfl) (fun a hf => ?_)
  refine R.nil ?_
  refine X.then_ ?_
  refine wp_seq ?_
  refine R.list ?_
  refine S.val hf hs (v := .slice lA l.length lC) rfl rfl rfl (V.pure rfl) (fun a hf => ?_)
  refine S.val hf hs (v := .agg #[.int .i64 from_.X, .int .i64 from_.Y]) rfl rfl rfl (V.loadBox 1 rfl rfl rfl Try.isAgg24 Try.sizeOf24 rfl rfl) (fun a hf => ?_)
  refine S.call hf rfl rfl rfl (call_fn (vs := [.slice lA l.length lC, .agg #[.int .i64 from_.X, .int .i64 from_.Y]]) rfl rfl rfl Try.call28) (R_ref8_Shortest l from_ _ lA lC ((Ag.args _ _ _).view hv_l hs) _ h) (fun v a w' hf hr => ?_)
  obtain ⟨y4, y4A, y4C, y5, y6, rfl, h2, hs2⟩ := hr
  replace h := h2; replace hs := hs.call hs2; clear h2 hs2
  refine S.val hf hs (v := .tuple #[.slice y4A y4.length y4C, .int .i64 y5, .int .i64 y6]) rfl rfl rfl (V.pure rfl) (fun a hf => ?_)
  refine S.val hf hs (v := .slice y4A y4.length y4C) rfl rfl rfl (V.pure rfl) (fun a hf => ?_)
  refine S.val hf hs (v := .int .i64 y5) rfl rfl rfl (V.pure rfl) (fun a hf => ?_)
  refine S.val hf hs (v := .int .i64 y6) rfl rfl rfl (V.pure rfl) (fun a hf => ?_)
  refine S.val hf hs (v := .slice y4A y4.length y4C) rfl rfl rfl (V.pure rfl) (fun a hf => ?_)
  refine S.val hf hs (v := .int .i64 y5) rfl rfl rfl (V.pure rfl) (fun a hf => ?_)
  refine S.val hf hs (v := .int .i64 y6) rfl rfl rfl (V.pure rfl) (fun a hf => ?_)
  refine R.nil ?_
  refine X.then_ ?_
  refine wp_seq ?_
  refine R.list ?_
  refine S.val hf hs (v := .int .i64 y3) rfl rfl rfl (V.pure rfl) (fun a hf => ?_)
  refine S.val hf hs (v := .int .i64 y6) rfl rfl rfl (V.pure rfl) (fun a hf => ?_)
  refine S.val hf hs (v := .bool (y3 == y6)) rfl rfl rfl (V.pure rfl) (fun a hf => ?_)
  refine S.split hf hs (b := y3 == y6) rfl rfl rfl (V.pure rfl) (fun hc a hf => ?_) (fun hc a hf => ?_)
  · replace h := h.1 hc
    refine S.val hf hs (v := .int .i64 y2) rfl rfl rfl (V.pure rfl) (fun a hf => ?_)
    refine S.val hf hs (v := .int .i64 y5) rfl rfl rfl (V.pure rfl) (fun a hf => ?_)
    refine S.val hf hs (v := .bool (y2 == y5)) rfl rfl rfl (V.pure rfl) (fun a hf => ?_)
    refine S.val hf hs (v := .bool (y2 == y5)) rfl rfl rfl (V.pure rfl) (fun a hf => ?_)
    refine S.split hf hs (b := y2 == y5) rfl rfl rfl (V.pure rfl) (fun hc a hf => ?_) (fun hc a hf => ?_)
    · replace h := h.1 hc
      refine S.val hf hs (v := .slice y1A y1.length y1C) rfl rfl rfl (V.pure rfl) (fun a hf => ?_)
      refine S.val hf hs (v := .slice y4A y4.length y4C) rfl rfl rfl (V.pure rfl) (fun a hf => ?_)
      refine S.call hf rfl rfl rfl (call_fn (vs := [.slice y1A y1.length y1C, .slice y4A y4.length y4C]) rfl rfl rfl Try.call19) (R_equal_int y1 y4 _ y1A y1C (hs.ownView 1 rfl) y4A y4C (hs.ownView 0 rfl) _ h) (fun v a w' hf hr => ?_)
      obtain ⟨y7, rfl, h2, hs2⟩ := hr
      replace h := h2; replace hs := hs.call hs2; clear h2 hs2
      refine S.val hf hs (v := .bool y7) rfl rfl rfl (V.pure rfl) (fun a hf => ?_)
      refine S.split hf hs (b := y7) rfl rfl rfl (V.pure rfl) (fun hc a hf => ?_) (fun hc a hf => ?_)
      · replace h := h.1 hc
        refine S.call hf rfl rfl rfl (call_fn (vs := []) rfl rfl rfl Try.call20) (R_awake  _  _ h) (fun v a w' hf hr => ?_)
        obtain ⟨y8, rfl, h2, hs2⟩ := hr
        replace h := h2; replace hs := hs.call hs2; clear h2 hs2
        refine S.val hf hs (v := .bool y8) rfl rfl rfl (V.pure rfl) (fun a hf => ?_)
        refine S.val hf hs (v := .bool y8) rfl rfl rfl (V.pure rfl) (fun a hf => ?_)
        refine R.nil ?_
        refine X.then_ ?_
        refine wp_ret ?_
        exact L.ret hf (run_results1 Try.results6 (ResIs.tmp hf rfl)) ⟨y8, rfl, h, hs.nil⟩
      · replace h := h.2 hc
        refine S.skip hf rfl rfl rfl (fun a hf => ?_)
        refine S.val hf hs (v := .bool false) rfl rfl rfl (V.pure rfl) (fun a hf => ?_)
        refine S.val hf hs (v := .bool false) rfl rfl rfl (V.pure rfl) (fun a hf => ?_)
        refine R.nil ?_
        refine X.then_ ?_
        refine wp_ret ?_
        exact L.ret hf (run_results1 Try.results6 (ResIs.tmp hf rfl)) ⟨false, rfl, h, hs.nil⟩
    · replace h := h.2 hc
      refine S.skip hf rfl rfl rfl (fun a hf => ?_)
      refine S.skip hf rfl rfl rfl (fun a hf => ?_)
      refine S.skip hf rfl rfl rfl (fun a hf => ?_)
      refine S.val hf hs (v := .bool false) rfl rfl rfl (V.pure rfl) (fun a hf => ?_)
      refine S.val hf hs (v := .bool false) rfl rfl rfl (V.pure rfl) (fun a hf => ?_)
      refine S.skip hf rfl rfl rfl (fun a hf => ?_)
      refine S.val hf hs (v := .bool false) rfl rfl rfl (V.pure rfl) (fun a hf => ?_)
      refine S.val hf hs (v := .bool false) rfl rfl rfl (V.pure rfl) (fun a hf => ?_)
      refine R.nil ?_
      refine X.then_ ?_
      refine wp_ret ?_
      exact L.ret hf (run_results1 Try.results6 (ResIs.tmp hf rfl)) ⟨false, rfl, h, hs.nil⟩
  · replace h := h.2 hc
    refine S.skip hf rfl rfl rfl (fun a hf => ?_)
    refine S.skip hf rfl rfl rfl (fun a hf => ?_)
    refine S.skip hf rfl rfl rfl (fun a hf => ?_)
    refine S.val hf hs (v := .bool false) rfl rfl rfl (V.pure rfl) (fun a hf => ?_)
    refine S.val hf hs (v := .bool false) rfl rfl rfl (V.pure rfl) (fun a hf => ?_)
    refine S.skip hf rfl rfl rfl (fun a hf => ?_)
    refine S.skip hf rfl rfl rfl (fun a hf => ?_)
    refine S.skip hf rfl rfl rfl (fun a hf => ?_)
    refine S.val hf hs (v := .bool false) rfl rfl rfl (V.pure rfl) (fun a hf => ?_)
    refine S.val hf hs (v := .bool false) rfl rfl rfl (V.pure rfl) (fun a hf => ?_)
    refine S.skip hf rfl rfl rfl (fun a hf => ?_)
    refine S.val hf hs (v := .bool false) rfl rfl rfl (V.pure rfl) (fun a hf => ?_)
    refine S.val hf hs (v := .bool false) rfl rfl rfl (V.pure rfl) (fun a hf => ?_)
    refine R.nil ?_
    refine X.then_ ?_
    refine wp_ret ?_
    exact L.ret hf (run_results1 Try.results6 (ResIs.tmp hf rfl)) ⟨false, rfl, h, hs.nil⟩

set_option linter.unusedVariables false
def M_law_Orders_k2 (l : (List Point)) (from_ : Point) (Q : Bool → Prop) (y7 : Int) (c2 : Bool) : Prop :=
  cnd c2 (Q false) (M_drill_Shortest l from_ fun y8 y9 y10 => cnd (y10 != 0) (cnd (y10 == 2) (Q ((y8.length : Int) == 0)) (Q false)) (M_ref8_Length l from_ y8 fun y11 => cnd (y11 == y9) (Q (decide (y9 ≤ y7))) (Q false)))
def M_law_Orders_k1 (l : (List Point)) (from_ : Point) (Q : Bool → Prop) (y1 : (List Int)) (y2 : Int) (y3 : (List Int)) (y4 : Int) (c1 : Bool) : Prop :=
  cnd c1 (cnd (y2 == y4) (cnd ((y1.length : Int) == 0) (cnd ((y3.length : Int) == 0) (M_awake  fun y5 => Q y5) (Q false)) (Q false)) (Q false)) (M_ref8_Length l from_ y1 fun y6 => M_ref8_Length l from_ y3 fun y7 => cnd (decide (y6 < 0)) (M_law_Orders_k2 l from_ Q y7 true) (cnd (decide (y7 < 0)) (M_law_Orders_k2 l from_ Q y7 true) (cnd (decide (y7 > y6)) (M_law_Orders_k2 l from_ Q y7 true) (M_awake  fun y12 => M_law_Orders_k2 l from_ Q y7 (!y12)))))
def M_law_Orders (l : (List Point)) (from_ : Point) (Q : Bool → Prop) : Prop :=
  M_drill_Greedy l from_ fun y1 y2 => M_drill_Better l from_ fun y3 y4 => cnd (y2 != 0) (M_law_Orders_k1 l from_ Q y1 y2 y3 y4 true) (M_law_Orders_k1 l from_ Q y1 y2 y3 y4 (y4 != 0))
set_option maxHeartbeats 1000000 in
theorem R_law_Orders (l : (List Point)) (from_ : Point) (w0 : World) (lA : Option Addr) (lC : Nat) (hv_l : View w0 (old w0 none_) lA lC l) (Q : Bool → Prop) (h : M_law_Orders l from_ Q) :
    Ret Try.prog 8 #[.slice lA l.length lC, .agg #[.int .i64 from_.X, .int .i64 from_.Y]] w0 fun v w' => ∃ (r0 : Bool), v = .bool r0 ∧ Q r0 ∧ Sat w0 none_ [] w' := by
  refine fn_enter Try.func8 rfl Try.ntmps8 rfl (fs := [(0, .slice lA l.length lC), (1, .agg #[.int .i64 from_.X, .int .i64 from_.Y])]) rfl (fun a hf => ?_)
  have hs := Sat.start w0 none_
  unfold M_law_Orders at h
  refine wp_seq ?_
  refine R.list ?_
  refine S.box hf hs rfl rfl rfl [.int .i64 from_.X, .int .i64 from_.Y] rfl rfl rfl (fun g1 a w hf hs => ?_)
  refine S.val hf hs (v := .bool false) rfl rfl rfl (V.pure rfl) (fun a hf => ?_)
  refine R.nil ?_
  refine X.then_ ?_
  refine wp_seq ?_
  refine R.list ?_
  refine S.val hf hs (v := .slice lA l.length lC) rfl rfl rfl (V.pure rfl) (fun a hf => ?_)
  refine S.val hf hs (v := .agg #[.int .i64 from_.X, .int .i64 from_.Y]) rfl rfl rfl (V.loadBox 0 rfl rfl rfl Try.isAgg24 Try.sizeOf24 rfl rfl) (fun a hf => ?_)
  refine S.call hf rfl rfl rfl (call_fn (vs := [.slice lA l.length lC, .agg #[.int .i64 from_.X, .int .i64 from_.Y]]) rfl rfl rfl Try.call17) (R_drill_Greedy l from_ _ lA lC ((Ag.args _ _ _).view hv_l hs) _ h) (fun v a w' hf hr => ?_)
  obtain ⟨y1, y1A, y1C, y2, rfl, h2, hs2⟩ := hr
  replace h := h2; replace hs := hs.call hs2; clear h2 hs2
  refine S.val hf hs (v := .tuple #[.slice y1A y1.length y1C, .int .i64 y2]) rfl rfl rfl (V.pure rfl) (fun a hf => ?_)
  refine S.val hf hs (v := .slice y1A y1.length y1C) rfl rfl rfl (V.pure rfl) (fun a hf => ?_)
  refine S.val hf hs (v := .int .i64 y2) rfl rfl rfl (V.pure rfl) (fun a hf => ?_)
  refine S.val hf hs (v := .slice y1A y1.length y1C) rfl rfl rfl (V.pure rfl) (fun a hf => ?_)
  refine S.val hf hs (v := .int .i64 y2) rfl rfl rfl (V.pure rfl) (fun a hf => ?_)
  refine R.nil ?_
  refine X.then_ ?_
  refine wp_seq ?_
  refine R.list ?_
  refine S.val hf hs (v := .slice lA l.length lC) rfl rfl rfl (V.pure rfl) (fun a hf => ?_)
  refine S.val hf hs (v := .agg #[.int .i64 from_.X, .int .i64 from_.Y]) rfl rfl rfl (V.loadBox 1 rfl rfl rfl Try.isAgg24 Try.sizeOf24 rfl rfl) (fun a hf => ?_)
  refine S.call hf rfl rfl rfl (call_fn (vs := [.slice lA l.length lC, .agg #[.int .i64 from_.X, .int .i64 from_.Y]]) rfl rfl rfl Try.call29) (R_drill_Better l from_ _ lA lC ((Ag.args _ _ _).view hv_l hs) _ h) (fun v a w' hf hr => ?_)
  obtain ⟨y3, y3A, y3C, y4, rfl, h2, hs2⟩ := hr
  replace h := h2; replace hs := hs.call hs2; clear h2 hs2
  refine S.val hf hs (v := .tuple #[.slice y3A y3.length y3C, .int .i64 y4]) rfl rfl rfl (V.pure rfl) (fun a hf => ?_)
  refine S.val hf hs (v := .slice y3A y3.length y3C) rfl rfl rfl (V.pure rfl) (fun a hf => ?_)
  refine S.val hf hs (v := .int .i64 y4) rfl rfl rfl (V.pure rfl) (fun a hf => ?_)
  refine S.val hf hs (v := .slice y3A y3.length y3C) rfl rfl rfl (V.pure rfl) (fun a hf => ?_)
  refine S.val hf hs (v := .int .i64 y4) rfl rfl rfl (V.pure rfl) (fun a hf => ?_)
  refine R.nil ?_
  refine X.then_ ?_
  refine wp_seq ?_
  refine wp_seq ?_
  refine C.cut (J := fun a w => ∃ (c1 : Bool), M_law_Orders_k1 l from_ Q y1 y2 y3 y4 c1 ∧ FrOk 97 [(0, .slice lA l.length lC), (3, .pointer (some ⟨g1, 0, none⟩)), (5, .slice y1A y1.length y1C), (6, .int .i64 y2), (7, .slice y3A y3.length y3C), (8, .int .i64 y4), (30, .bool c1)] a ∧ Sat w0 none_ [hown 3 y3A y3C y3, hown 3 y1A y1C y1, hbox g1 24 [.int .i64 from_.X, .int .i64 from_.Y]] w) ?_ ?_
  · rintro a w ⟨c1, h, hf, hs⟩
    unfold M_law_Orders_k1 at h
    refine C.cond hf (b := c1) rfl (fun hc => ?_) (fun hc => ?_)
    · replace h := h.1 hc
      refine wp_seq ?_
      refine R.list ?_
      refine S.val hf hs (v := .int .i64 y2) rfl rfl rfl (V.pure rfl) (fun a hf => ?_)
      refine S.val hf hs (v := .int .i64 y4) rfl rfl rfl (V.pure rfl) (fun a hf => ?_)
      refine S.val hf hs (v := .bool (y2 == y4)) rfl rfl rfl (V.pure rfl) (fun a hf => ?_)
      refine S.split hf hs (b := y2 == y4) rfl rfl rfl (V.pure rfl) (fun hc a hf => ?_) (fun hc a hf => ?_)
      · replace h := h.1 hc
        refine S.val hf hs (v := .slice y1A y1.length y1C) rfl rfl rfl (V.pure rfl) (fun a hf => ?_)
        refine S.val hf hs (v := .int .i64 (y1.length : Int)) rfl rfl rfl (V.len rfl rfl Try.runUnderlying28) (fun a hf => ?_)
        refine S.val hf hs (v := .bool ((y1.length : Int) == 0)) rfl rfl rfl (V.pure rfl) (fun a hf => ?_)
        refine S.val hf hs (v := .bool ((y1.length : Int) == 0)) rfl rfl rfl (V.pure rfl) (fun a hf => ?_)
        refine S.split hf hs (b := (y1.length : Int) == 0) rfl rfl rfl (V.pure rfl) (fun hc a hf => ?_) (fun hc a hf => ?_)
        · replace h := h.1 hc
          refine S.val hf hs (v := .slice y3A y3.length y3C) rfl rfl rfl (V.pure rfl) (fun a hf => ?_)
          refine S.val hf hs (v := .int .i64 (y3.length : Int)) rfl rfl rfl (V.len rfl rfl Try.runUnderlying28) (fun a hf => ?_)
          refine S.val hf hs (v := .bool ((y3.length : Int) == 0)) rfl rfl rfl (V.pure rfl) (fun a hf => ?_)
          refine S.val hf hs (v := .bool ((y3.length : Int) == 0)) rfl rfl rfl (V.pure rfl) (fun a hf => ?_)
          refine S.split hf hs (b := (y3.length : Int) == 0) rfl rfl rfl (V.pure rfl) (fun hc a hf => ?_) (fun hc a hf => ?_)
          · replace h := h.1 hc
            refine S.call hf rfl rfl rfl (call_fn (vs := []) rfl rfl rfl Try.call20) (R_awake  _  _ h) (fun v a w' hf hr => ?_)
            obtain ⟨y5, rfl, h2, hs2⟩ := hr
            replace h := h2; replace hs := hs.call hs2; clear h2 hs2
            refine S.val hf hs (v := .bool y5) rfl rfl rfl (V.pure rfl) (fun a hf => ?_)
            refine S.val hf hs (v := .bool y5) rfl rfl rfl (V.pure rfl) (fun a hf => ?_)
            refine R.nil ?_
            refine X.then_ ?_
            refine wp_ret ?_
            refine X.then_ret ?_
            exact L.ret hf (run_results1 Try.results8 (ResIs.tmp hf rfl)) ⟨y5, rfl, h, hs.nil⟩
          · replace h := h.2 hc
            refine S.skip hf rfl rfl rfl (fun a hf => ?_)
            refine S.val hf hs (v := .bool false) rfl rfl rfl (V.pure rfl) (fun a hf => ?_)
            refine S.val hf hs (v := .bool false) rfl rfl rfl (V.pure rfl) (fun a hf => ?_)
            refine R.nil ?_
            refine X.then_ ?_
            refine wp_ret ?_
            refine X.then_ret ?_
            exact L.ret hf (run_results1 Try.results8 (ResIs.tmp hf rfl)) ⟨false, rfl, h, hs.nil⟩
        · replace h := h.2 hc
          refine S.skip hf rfl rfl rfl (fun a hf => ?_)
          refine S.skip hf rfl rfl rfl (fun a hf => ?_)
          refine S.skip hf rfl rfl rfl (fun a hf => ?_)
          refine S.val hf hs (v := .bool false) rfl rfl rfl (V.pure rfl) (fun a hf => ?_)
          refine S.val hf hs (v := .bool false) rfl rfl rfl (V.pure rfl) (fun a hf => ?_)
          refine S.skip hf rfl rfl rfl (fun a hf => ?_)
          refine S.val hf hs (v := .bool false) rfl rfl rfl (V.pure rfl) (fun a hf => ?_)
          refine S.val hf hs (v := .bool false) rfl rfl rfl (V.pure rfl) (fun a hf => ?_)
          refine R.nil ?_
          refine X.then_ ?_
          refine wp_ret ?_
          refine X.then_ret ?_
          exact L.ret hf (run_results1 Try.results8 (ResIs.tmp hf rfl)) ⟨false, rfl, h, hs.nil⟩
      · replace h := h.2 hc
        refine S.skip hf rfl rfl rfl (fun a hf => ?_)
        refine S.skip hf rfl rfl rfl (fun a hf => ?_)
        refine S.skip hf rfl rfl rfl (fun a hf => ?_)
        refine S.val hf hs (v := .bool false) rfl rfl rfl (V.pure rfl) (fun a hf => ?_)
        refine S.val hf hs (v := .bool false) rfl rfl rfl (V.pure rfl) (fun a hf => ?_)
        refine S.skip hf rfl rfl rfl (fun a hf => ?_)
        refine S.skip hf rfl rfl rfl (fun a hf => ?_)
        refine S.skip hf rfl rfl rfl (fun a hf => ?_)
        refine S.val hf hs (v := .bool false) rfl rfl rfl (V.pure rfl) (fun a hf => ?_)
        refine S.val hf hs (v := .bool false) rfl rfl rfl (V.pure rfl) (fun a hf => ?_)
        refine S.skip hf rfl rfl rfl (fun a hf => ?_)
        refine S.val hf hs (v := .bool false) rfl rfl rfl (V.pure rfl) (fun a hf => ?_)
        refine S.val hf hs (v := .bool false) rfl rfl rfl (V.pure rfl) (fun a hf => ?_)
        refine R.nil ?_
        refine X.then_ ?_
        refine wp_ret ?_
        refine X.then_ret ?_
        exact L.ret hf (run_results1 Try.results8 (ResIs.tmp hf rfl)) ⟨false, rfl, h, hs.nil⟩
    · replace h := h.2 hc
      refine wp_skip ?_
      refine X.then_ ?_
      refine wp_seq ?_
      refine H.start (S := Sat w0 none_ [hown 3 y3A y3C y3, hown 3 y1A y1C y1, hbox g1 24 [.int .i64 from_.X, .int .i64 from_.Y]]) mo ?_
      replace hs := hs.drew
      refine H.val hf hs (v := .slice lA l.length lC) (i := 0) rfl rfl rfl rfl (by kernel_rfl) (by kernel_rfl) (by kernel_rfl) (V.pure rfl) (fun a hf => ?_)
      refine H.val hf hs (v := .agg #[.int .i64 from_.X, .int .i64 from_.Y]) (i := 1) rfl rfl rfl rfl (by kernel_rfl) (by kernel_rfl) (by kernel_rfl) (V.loadBox 2 rfl rfl rfl Try.isAgg24 Try.sizeOf24 rfl rfl) (fun a hf => ?_)
      refine H.val hf hs (v := .slice y1A y1.length y1C) (i := 2) rfl rfl rfl rfl (by kernel_rfl) (by kernel_rfl) (by kernel_rfl) (V.pure rfl) (fun a hf => ?_)
      refine H.val hf hs (v := .slice lA l.length lC) (i := 4) rfl rfl rfl rfl (by kernel_rfl) (by kernel_rfl) (by kernel_rfl) (V.pure rfl) (fun a hf => ?_)
      refine H.val hf hs (v := .agg #[.int .i64 from_.X, .int .i64 from_.Y]) (i := 5) rfl rfl rfl rfl (by kernel_rfl) (by kernel_rfl) (by kernel_rfl) (V.loadBox 2 rfl rfl rfl Try.isAgg24 Try.sizeOf24 rfl rfl) (fun a hf => ?_)
      refine H.val hf hs (v := .slice y3A y3.length y3C) (i := 6) rfl rfl rfl rfl (by kernel_rfl) (by kernel_rfl) (by kernel_rfl) (V.pure rfl) (fun a hf => ?_)
      refine H.one (i := 3) rfl (by kernel_rfl) ?_
      refine S.call hf rfl rfl rfl (call_fn (vs := [.slice lA l.length lC, .agg #[.int .i64 from_.X, .int .i64 from_.Y], .slice y1A y1.length y1C]) rfl rfl rfl Try.call31) (R_ref8_Length l from_ y1 _ lA lC ((Ag.args _ _ _).view hv_l hs) y1A y1C (hs.ownView 1 rfl) _ h) (fun v a w' hf hr => ?_)
      obtain ⟨y6, rfl, h2, hs2⟩ := hr
      replace h := h2; replace hs := hs.call hs2; clear h2 hs2
      refine R.nil ?_
      refine X.then_ ?_
      refine ⟨hs, ?_⟩
      refine H.one (i := 7) rfl (by kernel_rfl) ?_
      refine S.call hf rfl rfl rfl (call_fn (vs := [.slice lA l.length lC, .agg #[.int .i64 from_.X, .int .i64 from_.Y], .slice y3A y3.length y3C]) rfl rfl rfl Try.call31) (R_ref8_Length l from_ y3 _ lA lC ((Ag.args _ _ _).view hv_l hs) y3A y3C (hs.ownView 0 rfl) _ h) (fun v a w' hf hr => ?_)
      obtain ⟨y7, rfl, h2, hs2⟩ := hr
      replace h := h2; replace hs := hs.call hs2; clear h2 hs2
      refine R.nil ?_
      refine X.then_ ?_
      refine ⟨hs, ?_⟩
      refine H.val hf hs (v := .int .i64 y6) (i := 8) rfl rfl rfl rfl (by kernel_rfl) (by kernel_rfl) (by kernel_rfl) (V.pure rfl) (fun a hf => ?_)
      refine H.val hf hs (v := .int .i64 y7) (i := 9) rfl rfl rfl rfl (by kernel_rfl) (by kernel_rfl) (by kernel_rfl) (V.pure rfl) (fun a hf => ?_)
      refine H.done (by kernel_rfl) ?_
      refine X.then_ ?_
      refine wp_seq ?_
      refine wp_seq ?_
      refine C.cut (J := fun a w => ∃ (c2 : Bool), M_law_Orders_k2 l from_ Q y7 c2 ∧ FrOk 97 [(0, .slice lA l.length lC), (3, .pointer (some ⟨g1, 0, none⟩)), (10, .int .i64 y7), (69, .bool c2)] a ∧ Sat w0 none_ [hown 3 y3A y3C y3, hown 3 y1A y1C y1, hbox g1 24 [.int .i64 from_.X, .int .i64 from_.Y]] w) ?_ ?_
      · rintro a w ⟨c2, h, hf, hs⟩
        unfold M_law_Orders_k2 at h
        refine C.cond hf (b := c2) rfl (fun hc => ?_) (fun hc => ?_)
        · replace h := h.1 hc
          refine wp_seq ?_
          refine R.list ?_
          refine S.val hf hs (v := .bool false) rfl rfl rfl (V.pure rfl) (fun a hf => ?_)
          refine R.nil ?_
          refine X.then_ ?_
          refine wp_ret ?_
          refine X.then_ret ?_
          exact L.ret hf (run_results1 Try.results8 (ResIs.tmp hf rfl)) ⟨false, rfl, h, hs.nil⟩
        · replace h := h.2 hc
          refine wp_skip ?_
          refine X.then_ ?_
          refine wp_seq ?_
          refine R.list ?_
          refine S.val hf hs (v := .slice lA l.length lC) rfl rfl rfl (V.pure rfl) (fun a hf => ?_)
          refine S.val hf hs (v := .agg #[.int .i64 from_.X, .int .i64 from_.Y]) rfl rfl rfl (V.loadBox 2 rfl rfl rfl Try.isAgg24 Try.sizeOf24 rfl rfl) (fun a hf => ?_)
          refine S.call hf rfl rfl rfl (call_fn (vs := [.slice lA l.length lC, .agg #[.int .i64 from_.X, .int .i64 from_.Y]]) rfl rfl rfl Try.call27) (R_drill_Shortest l from_ _ lA lC ((Ag.args _ _ _).view hv_l hs) _ h) (fun v a w' hf hr => ?_)
          obtain ⟨y8, y8A, y8C, y9, y10, rfl, h2, hs2⟩ := hr
          replace h := h2; replace hs := hs.call hs2; clear h2 hs2
          refine S.val hf hs (v := .tuple #[.slice y8A y8.length y8C, .int .i64 y9, .int .i64 y10]) rfl rfl rfl (V.pure rfl) (fun a hf => ?_)
          refine S.val hf hs (v := .slice y8A y8.length y8C) rfl rfl rfl (V.pure rfl) (fun a hf => ?_)
          refine S.val hf hs (v := .int .i64 y9) rfl rfl rfl (V.pure rfl) (fun a hf => ?_)
          refine S.val hf hs (v := .int .i64 y10) rfl rfl rfl (V.pure rfl) (fun a hf => ?_)
          refine S.val hf hs (v := .slice y8A y8.length y8C) rfl rfl rfl (V.pure rfl) (fun a hf => ?_)
          refine S.val hf hs (v := .int .i64 y9) rfl rfl rfl (V.pure rfl) (fun a hf => ?_)
          refine S.val hf hs (v := .int .i64 y10) rfl rfl rfl (V.pure rfl) (fun a hf => ?_)
          refine R.nil ?_
          refine X.then_ ?_
          refine wp_seq ?_
          refine wp_seq ?_
          refine R.list ?_
          refine S.val hf hs (v := .int .i64 y10) rfl rfl rfl (V.pure rfl) (fun a hf => ?_)
          refine S.val hf hs (v := .bool (y10 != 0)) rfl rfl rfl (V.pure rfl) (fun a hf => ?_)
          refine R.nil ?_
          refine X.then_ ?_
          refine C.cond hf (b := y10 != 0) rfl (fun hc => ?_) (fun hc => ?_)
          · replace h := h.1 hc
            refine wp_seq ?_
            refine R.list ?_
            refine S.val hf hs (v := .int .i64 y10) rfl rfl rfl (V.pure rfl) (fun a hf => ?_)
            refine S.val hf hs (v := .bool (y10 == 2)) rfl rfl rfl (V.pure rfl) (fun a hf => ?_)
            refine S.split hf hs (b := y10 == 2) rfl rfl rfl (V.pure rfl) (fun hc a hf => ?_) (fun hc a hf => ?_)
            · replace h := h.1 hc
              refine S.val hf hs (v := .slice y8A y8.length y8C) rfl rfl rfl (V.pure rfl) (fun a hf => ?_)
              refine S.val hf hs (v := .int .i64 (y8.length : Int)) rfl rfl rfl (V.len rfl rfl Try.runUnderlying28) (fun a hf => ?_)
              refine S.val hf hs (v := .bool ((y8.length : Int) == 0)) rfl rfl rfl (V.pure rfl) (fun a hf => ?_)
              refine S.val hf hs (v := .bool ((y8.length : Int) == 0)) rfl rfl rfl (V.pure rfl) (fun a hf => ?_)
              refine S.val hf hs (v := .bool ((y8.length : Int) == 0)) rfl rfl rfl (V.pure rfl) (fun a hf => ?_)
              refine R.nil ?_
              refine X.then_ ?_
              refine wp_ret ?_
              refine X.then_ret ?_
              exact L.ret hf (run_results1 Try.results8 (ResIs.tmp hf rfl)) ⟨((y8.length : Int) == 0), rfl, h, hs.nil⟩
            · replace h := h.2 hc
              refine S.skip hf rfl rfl rfl (fun a hf => ?_)
              refine S.skip hf rfl rfl rfl (fun a hf => ?_)
              refine S.skip hf rfl rfl rfl (fun a hf => ?_)
              refine S.val hf hs (v := .bool false) rfl rfl rfl (V.pure rfl) (fun a hf => ?_)
              refine S.val hf hs (v := .bool false) rfl rfl rfl (V.pure rfl) (fun a hf => ?_)
              refine R.nil ?_
              refine X.then_ ?_
              refine wp_ret ?_
              refine X.then_ret ?_
              exact L.ret hf (run_results1 Try.results8 (ResIs.tmp hf rfl)) ⟨false, rfl, h, hs.nil⟩
          · replace h := h.2 hc
            refine wp_skip ?_
            refine X.then_ ?_
            refine wp_seq ?_
            refine R.list ?_
            refine S.val hf hs (v := .slice lA l.length lC) rfl rfl rfl (V.pure rfl) (fun a hf => ?_)
            refine S.val hf hs (v := .agg #[.int .i64 from_.X, .int .i64 from_.Y]) rfl rfl rfl (V.loadBox 3 rfl rfl rfl Try.isAgg24 Try.sizeOf24 rfl rfl) (fun a hf => ?_)
            refine S.val hf hs (v := .slice y8A y8.length y8C) rfl rfl rfl (V.pure rfl) (fun a hf => ?_)
            refine S.call hf rfl rfl rfl (call_fn (vs := [.slice lA l.length lC, .agg #[.int .i64 from_.X, .int .i64 from_.Y], .slice y8A y8.length y8C]) rfl rfl rfl Try.call31) (R_ref8_Length l from_ y8 _ lA lC ((Ag.args _ _ _).view hv_l hs) y8A y8C (hs.ownView 0 rfl) _ h) (fun v a w' hf hr => ?_)
            obtain ⟨y11, rfl, h2, hs2⟩ := hr
            replace h := h2; replace hs := hs.call hs2; clear h2 hs2
            refine S.val hf hs (v := .int .i64 y9) rfl rfl rfl (V.pure rfl) (fun a hf => ?_)
            refine S.val hf hs (v := .bool (y11 == y9)) rfl rfl rfl (V.pure rfl) (fun a hf => ?_)
            refine S.split hf hs (b := y11 == y9) rfl rfl rfl (V.pure rfl) (fun hc a hf => ?_) (fun hc a hf => ?_)
            · replace h := h.1 hc
              refine S.val hf hs (v := .int .i64 y9) rfl rfl rfl (V.pure rfl) (fun a hf => ?_)
              refine S.val hf hs (v := .int .i64 y7) rfl rfl rfl (V.pure rfl) (fun a hf => ?_)
              refine S.val hf hs (v := .bool (decide (y9 ≤ y7))) rfl rfl rfl (V.pure rfl) (fun a hf => ?_)
              refine S.val hf hs (v := .bool (decide (y9 ≤ y7))) rfl rfl rfl (V.pure rfl) (fun a hf => ?_)
              refine S.val hf hs (v := .bool (decide (y9 ≤ y7))) rfl rfl rfl (V.pure rfl) (fun a hf => ?_)
              refine R.nil ?_
              refine X.then_ ?_
              refine wp_ret ?_
              exact L.ret hf (run_results1 Try.results8 (ResIs.tmp hf rfl)) ⟨(decide (y9 ≤ y7)), rfl, h, hs.nil⟩
            · replace h := h.2 hc
              refine S.skip hf rfl rfl rfl (fun a hf => ?_)
              refine S.skip hf rfl rfl rfl (fun a hf => ?_)
              refine S.skip hf rfl rfl rfl (fun a hf => ?_)
              refine S.val hf hs (v := .bool false) rfl rfl rfl (V.pure rfl) (fun a hf => ?_)
              refine S.val hf hs (v := .bool false) rfl rfl rfl (V.pure rfl) (fun a hf => ?_)
              refine R.nil ?_
              refine X.then_ ?_
              refine wp_ret ?_
              exact L.ret hf (run_results1 Try.results8 (ResIs.tmp hf rfl)) ⟨false, rfl, h, hs.nil⟩
      · skip
        refine R.list ?_
        refine S.val hf hs (v := .int .i64 y6) rfl rfl rfl (V.pure rfl) (fun a hf => ?_)
        refine S.val hf hs (v := .bool (decide (y6 < 0))) rfl rfl rfl (V.pure rfl) (fun a hf => ?_)
        refine S.split hf hs (b := decide (y6 < 0)) rfl rfl rfl (V.pure rfl) (fun hc a hf => ?_) (fun hc a hf => ?_)
        · replace h := h.1 hc
          refine S.skip hf rfl rfl rfl (fun a hf => ?_)
          refine S.skip hf rfl rfl rfl (fun a hf => ?_)
          refine S.val hf hs (v := .bool true) rfl rfl rfl (V.pure rfl) (fun a hf => ?_)
          refine S.val hf hs (v := .bool true) rfl rfl rfl (V.pure rfl) (fun a hf => ?_)
          refine S.skip hf rfl rfl rfl (fun a hf => ?_)
          refine S.skip hf rfl rfl rfl (fun a hf => ?_)
          refine S.skip hf rfl rfl rfl (fun a hf => ?_)
          refine S.val hf hs (v := .bool true) rfl rfl rfl (V.pure rfl) (fun a hf => ?_)
          refine S.val hf hs (v := .bool true) rfl rfl rfl (V.pure rfl) (fun a hf => ?_)
          refine S.skip hf rfl rfl rfl (fun a hf => ?_)
          refine S.skip hf rfl rfl rfl (fun a hf => ?_)
          refine S.val hf hs (v := .bool true) rfl rfl rfl (V.pure rfl) (fun a hf => ?_)
          refine R.nil ?_
          refine X.then_ ?_
          exact ⟨true, h, ((((hf.nil.cons (hf.get 69 _ rfl)).cons (hf.get 10 _ rfl)).cons (hf.get 3 _ rfl)).cons (hf.get 0 _ rfl)), hs⟩
        · replace h := h.2 hc
          refine S.val hf hs (v := .int .i64 y7) rfl rfl rfl (V.pure rfl) (fun a hf => ?_)
          refine S.val hf hs (v := .bool (decide (y7 < 0))) rfl rfl rfl (V.pure rfl) (fun a hf => ?_)
          refine S.val hf hs (v := .bool (decide (y7 < 0))) rfl rfl rfl (V.pure rfl) (fun a hf => ?_)
          refine S.split hf hs (b := decide (y7 < 0)) rfl rfl rfl (V.pure rfl) (fun hc a hf => ?_) (fun hc a hf => ?_)
          · replace h := h.1 hc
            refine S.skip hf rfl rfl rfl (fun a hf => ?_)
            refine S.skip hf rfl rfl rfl (fun a hf => ?_)
            refine S.skip hf rfl rfl rfl (fun a hf => ?_)
            refine S.val hf hs (v := .bool true) rfl rfl rfl (V.pure rfl) (fun a hf => ?_)
            refine S.val hf hs (v := .bool true) rfl rfl rfl (V.pure rfl) (fun a hf => ?_)
            refine S.skip hf rfl rfl rfl (fun a hf => ?_)
            refine S.skip hf rfl rfl rfl (fun a hf => ?_)
            refine S.val hf hs (v := .bool true) rfl rfl rfl (V.pure rfl) (fun a hf => ?_)
            refine R.nil ?_
            refine X.then_ ?_
            exact ⟨true, h, ((((hf.nil.cons (hf.get 69 _ rfl)).cons (hf.get 10 _ rfl)).cons (hf.get 3 _ rfl)).cons (hf.get 0 _ rfl)), hs⟩
          · replace h := h.2 hc
            refine S.val hf hs (v := .int .i64 y7) rfl rfl rfl (V.pure rfl) (fun a hf => ?_)
            refine S.val hf hs (v := .int .i64 y6) rfl rfl rfl (V.pure rfl) (fun a hf => ?_)
            refine S.val hf hs (v := .bool (decide (y7 > y6))) rfl rfl rfl (V.pure rfl) (fun a hf => ?_)
            refine S.val hf hs (v := .bool (decide (y7 > y6))) rfl rfl rfl (V.pure rfl) (fun a hf => ?_)
            refine S.split hf hs (b := decide (y7 > y6)) rfl rfl rfl (V.pure rfl) (fun hc a hf => ?_) (fun hc a hf => ?_)
            · replace h := h.1 hc
              refine S.skip hf rfl rfl rfl (fun a hf => ?_)
              refine S.skip hf rfl rfl rfl (fun a hf => ?_)
              refine S.val hf hs (v := .bool true) rfl rfl rfl (V.pure rfl) (fun a hf => ?_)
              refine R.nil ?_
              refine X.then_ ?_
              exact ⟨true, h, ((((hf.nil.cons (hf.get 69 _ rfl)).cons (hf.get 10 _ rfl)).cons (hf.get 3 _ rfl)).cons (hf.get 0 _ rfl)), hs⟩
            · replace h := h.2 hc
              refine S.call hf rfl rfl rfl (call_fn (vs := []) rfl rfl rfl Try.call20) (R_awake  _  _ h) (fun v a w' hf hr => ?_)
              obtain ⟨y12, rfl, h2, hs2⟩ := hr
              replace h := h2; replace hs := hs.call hs2; clear h2 hs2
              refine S.val hf hs (v := .bool (!y12)) rfl rfl rfl (V.pure rfl) (fun a hf => ?_)
              refine S.val hf hs (v := .bool (!y12)) rfl rfl rfl (V.pure rfl) (fun a hf => ?_)
              refine R.nil ?_
              refine X.then_ ?_
              exact ⟨(!y12), h, ((((hf.nil.cons (hf.get 69 _ rfl)).cons (hf.get 10 _ rfl)).cons (hf.get 3 _ rfl)).cons (hf.get 0 _ rfl)), hs⟩
  · skip
    refine R.list ?_
    refine S.val hf hs (v := .int .i64 y2) rfl rfl rfl (V.pure rfl) (fun a hf => ?_)
    refine S.val hf hs (v := .bool (y2 != 0)) rfl rfl rfl (V.pure rfl) (fun a hf => ?_)
    refine S.split hf hs (b := y2 != 0) rfl rfl rfl (V.pure rfl) (fun hc a hf => ?_) (fun hc a hf => ?_)
    · replace h := h.1 hc
      refine S.skip hf rfl rfl rfl (fun a hf => ?_)
      refine S.skip hf rfl rfl rfl (fun a hf => ?_)
      refine S.val hf hs (v := .bool true) rfl rfl rfl (V.pure rfl) (fun a hf => ?_)
      refine R.nil ?_
      refine X.then_ ?_
      exact ⟨true, h, (((((((hf.nil.cons (hf.get 30 _ rfl)).cons (hf.get 8 _ rfl)).cons (hf.get 7 _ rfl)).cons (hf.get 6 _ rfl)).cons (hf.get 5 _ rfl)).cons (hf.get 3 _ rfl)).cons (hf.get 0 _ rfl)), hs⟩
    · replace h := h.2 hc
      refine S.val hf hs (v := .int .i64 y4) rfl rfl rfl (V.pure rfl) (fun a hf => ?_)
      refine S.val hf hs (v := .bool (y4 != 0)) rfl rfl rfl (V.pure rfl) (fun a hf => ?_)
      refine S.val hf hs (v := .bool (y4 != 0)) rfl rfl rfl (V.pure rfl) (fun a hf => ?_)
      refine R.nil ?_
      refine X.then_ ?_
      exact ⟨(y4 != 0), h, (((((((hf.nil.cons (hf.get 30 _ rfl)).cons (hf.get 8 _ rfl)).cons (hf.get 7 _ rfl)).cons (hf.get 6 _ rfl)).cons (hf.get 5 _ rfl)).cons (hf.get 3 _ rfl)).cons (hf.get 0 _ rfl)), hs⟩

end Go.Proofs.Ytmopdabkfklefaa
