/- Chapter 7: reached cells: the walks. -/
import Derived.Test.YtihjaehkdgdenaaRtC
namespace Go.Proofs.Ytihjaehkdgdenaa
open Go Go.RowKit
set_option linter.unusedVariables false
set_option linter.unusedSimpArgs false

set_option linter.unusedVariables false
def M_keys_least_k2 (xk1 : Int) (n2 : Int) (next1 : Int → Prop) (c1 : Bool) : Prop :=
  cnd c1 (next1 xk1) (next1 n2)
def M_keys_least_L1  (k1 : Nat) (xk1 : Int) (n2 : Int) (next1 : Int → Prop) : Prop :=
  cnd (decide (xk1 ≥ 0)) (cnd (decide (n2 < 0)) (M_keys_least_k2 xk1 n2 next1 true) (M_keys_least_k2 xk1 n2 next1 (decide (xk1 < n2)))) (M_keys_least_k2 xk1 n2 next1 false)
def M_keys_least (keys : (List Int)) (n : Int) (Q : Int → Prop) : Prop :=
  must (0 ≤ w64 (3 * n) ∧ w64 (3 * n) ≤ w64 ((w64 (3 * n)) + 3) ∧ w64 ((w64 (3 * n)) + 3) ≤ (keys.length : Int)) (forIn' (fun k x (s : Int) next => M_keys_least_L1 k x s (fun n2 => next n2)) (fun (s : Int) => (fun (n2 : Int) => Q n2) s) (seg keys (w64 (3 * n)) (w64 ((w64 (3 * n)) + 3))) 0 (-1))
set_option maxHeartbeats 1000000 in
theorem R_keys_least (keys : (List Int)) (n : Int) (w0 : World) (keysA : Option Addr) (keysC : Nat) (hv_keys : View w0 (old w0 none_) keysA keysC keys) (Q : Int → Prop) (h : M_keys_least keys n Q) :
    Ret Try.prog 42 #[.slice keysA keys.length keysC, iv n] w0 fun v w' => ∃ (r0 : Int), v = iv r0 ∧ Q r0 ∧ Sat w0 none_ [] w' := by
  refine fn_enter Try.func42 rfl Try.ntmps42 rfl (fs := [(0, .slice keysA keys.length keysC), (1, iv n)]) rfl (fun a hf => ?_)
  have hs := Sat.start w0 none_
  unfold M_keys_least at h
  refine wp_seq ?_
  refine R.list ?_
  refine S.p hf hs (iv 0) rfl rfl fun a hf => ?_
  refine R.nil ?_
  refine X.then_ ?_
  refine wp_seq ?_
  refine R.list ?_
  refine S.p hf hs (iv (-1)) rfl rfl fun a hf => ?_
  refine R.nil ?_
  refine X.then_ ?_
  refine wp_seq ?_
  refine wp_seq ?_
  refine R.list ?_
  refine S.p hf hs (.slice keysA keys.length keysC) rfl rfl fun a hf => ?_
  refine S.p hf hs (iv n) rfl rfl fun a hf => ?_
  refine S.p hf hs (iv (w64 (3 * n))) rfl rfl fun a hf => ?_
  refine S.p hf hs (iv n) rfl rfl fun a hf => ?_
  refine S.p hf hs (iv (w64 (3 * n))) rfl rfl fun a hf => ?_
  refine S.p hf hs (iv (w64 ((w64 (3 * n)) + 3))) rfl rfl fun a hf => ?_
  obtain ⟨hp1, h⟩ := h
  refine S.v hf hs (.slice (segA keysA keysC (w64 (3 * n) : Int).toNat 1) (seg keys (w64 (3 * n)) (w64 ((w64 (3 * n)) + 3))).length (keysC - (w64 (3 * n) : Int).toNat)) rfl (V.slice rfl rfl rfl rfl Try.runUnderlying55 Try.sizeOf3 rfl rfl hp1 hv_keys.cap (seg_length (by have := hp1.2.2; omega))) fun a hf => ?_
  refine S.v hf hs (iv ((seg keys (w64 (3 * n)) (w64 ((w64 (3 * n)) + 3))).length : Int)) rfl (V.len rfl rfl Try.runUnderlying55) fun a hf => ?_
  refine S.p hf hs (iv 0) rfl rfl fun a hf => ?_
  refine R.nil ?_
  refine X.then_ ?_
  refine wp_block ?_
  have hlenk1 := (View.sub hv_keys hp1).len64
  refine C.range (fun (ll : List Int) a w => ∃ (k1 : Nat) (n2 : Int), (seg keys (w64 (3 * n)) (w64 ((w64 (3 * n)) + 3))).drop k1 = ll ∧ k1 + ll.length = (seg keys (w64 (3 * n)) (w64 ((w64 (3 * n)) + 3))).length ∧ forIn' (fun k x (s : Int) next => M_keys_least_L1 k x s (fun n2 => next n2)) (fun (s : Int) => (fun (n2 : Int) => Q n2) s) ll k1 n2 ∧ FrOk 34 [(16, iv (k1 : Int)), (5, iv n2), (14, .slice (segA keysA keysC (w64 (3 * n) : Int).toNat 1) (seg keys (w64 (3 * n)) (w64 ((w64 (3 * n)) + 3))).length (keysC - (w64 (3 * n) : Int).toNat)), (15, iv ((seg keys (w64 (3 * n)) (w64 ((w64 (3 * n)) + 3))).length : Int))] a ∧ Sat w0 none_ [] w) (seg keys (w64 (3 * n)) (w64 ((w64 (3 * n)) + 3))) ⟨0, (-1), rfl, Nat.zero_add _, h, ((((hf.nil.cons (hf.get 15 _ rfl)).cons (hf.get 14 _ rfl)).cons (hf.get 5 _ rfl)).cons (hf.get 16 _ rfl)), hs⟩ ?_
  clear h hf hs
  rintro llk1 a w ⟨k1, n2, hlk1, hkk1, h, hf, hs⟩
  cases llk1 with
  | nil =>
    have hc := range_done hkk1
    replace h : (fun (n2 : Int) => Q n2) n2 := h
    refine wp_seq ?_
    refine R.list ?_
    refine S.v hf hs (.bool false) rfl (V.cmp false rfl rfl rfl rfl hc) fun a hf => ?_
    refine R.nil ?_
    refine X.then_ ?_
    refine wp_seq ?_
    refine C.no hf rfl ?_
    refine wp_exit ?_
    refine X.then_exit ?_
    refine X.then_exit ?_
    refine X.blk_exit ?_
    refine X.then_ ?_
    refine wp_seq ?_
    refine R.list ?_
    refine S.p hf hs (iv n2) rfl rfl fun a hf => ?_
    refine S.p hf hs (iv n2) rfl rfl fun a hf => ?_
    refine R.nil ?_
    refine X.then_ ?_
    refine wp_ret ?_
    exact L.ret hf (run_results1 Try.results42 (ResIs.tmp hf rfl)) ⟨n2, rfl, h, hs.nil⟩
  | cons xk1 llk1 =>
    have hltk1 := range_lt hkk1; have hc := range_go hkk1; have hxk1 := range_get hlk1
    obtain ⟨next1, hnext1⟩ : ∃ X : Int → Prop, X = (fun n2 => forIn' (fun k x (s : Int) next => M_keys_least_L1 k x s (fun n2 => next n2)) (fun (s : Int) => (fun (n2 : Int) => Q n2) s) llk1 (k1 + 1) n2) := ⟨_, rfl⟩
    replace h : M_keys_least_L1 k1 xk1 n2 next1 := by rw [hnext1]; exact h
    unfold M_keys_least_L1 at h
    refine wp_seq ?_
    refine R.list ?_
    refine S.v hf hs (.bool true) rfl (V.cmp true rfl rfl rfl rfl hc) fun a hf => ?_
    refine R.nil ?_
    refine X.then_ ?_
    refine wp_seq ?_
    refine C.yes hf rfl ?_
    refine wp_skip ?_
    refine X.then_ ?_
    refine wp_seq ?_
    refine wp_block ?_
    refine wp_seq ?_
    refine R.list ?_
    refine S.v hf hs (elemPtr (segA keysA keysC (w64 (3 * n) : Int).toNat 1) (k1 * 1)) rfl (V.index rfl rfl rfl Try.runUnderlying55 Try.sizeOf3 ((View.sub hv_keys hp1).some_ (lt_of_get hxk1)) (Int.natCast_nonneg _) (lt_of_get hxk1) rfl) fun a hf => ?_
    refine S.v hf hs (iv xk1) rfl (V.loadEl (off := 0) (Ag.args _ _ _) ((View.sub hv_keys hp1).flat hxk1) rfl rfl rfl Try.isAgg3 Try.sizeOf3 rfl rfl) fun a hf => ?_
    refine S.p hf hs (iv xk1) rfl rfl fun a hf => ?_
    refine R.nil ?_
    refine X.then_ ?_
    refine wp_seq ?_
    refine C.cut (J := fun a w => ∃ (c1 : Bool), M_keys_least_k2 xk1 n2 next1 c1 ∧ FrOk 34 [(5, iv n2), (7, iv xk1), (14, .slice (segA keysA keysC (w64 (3 * n) : Int).toNat 1) (seg keys (w64 (3 * n)) (w64 ((w64 (3 * n)) + 3))).length (keysC - (w64 (3 * n) : Int).toNat)), (15, iv ((seg keys (w64 (3 * n)) (w64 ((w64 (3 * n)) + 3))).length : Int)), (16, iv (k1 : Int)), (30, .bool c1)] a ∧ Sat w0 none_ [] w) ?_ ?_
    · rintro a w ⟨c1, h, hf, hs⟩
      unfold M_keys_least_k2 at h
      refine C.cond hf (b := c1) rfl (fun hc => ?_) (fun hc => ?_)
      · replace h := h.1 hc
        refine R.list ?_
        refine S.p hf hs (iv xk1) rfl rfl fun a hf => ?_
        refine S.p hf hs (iv xk1) rfl rfl fun a hf => ?_
        refine R.nil ?_
        refine X.blk ?_
        refine X.then_ ?_
        refine R.list ?_
        refine S.v hf hs (iv ((k1 + 1 : Nat) : Int)) rfl (V.incr rfl rfl rfl hltk1 hlenk1) fun a hf => ?_
        refine S.p hf hs (iv ((k1 + 1 : Nat) : Int)) rfl rfl fun a hf => ?_
        refine R.nil ?_
        refine X.then_ ?_
        exact ⟨xk1, llk1, rfl, k1 + 1, xk1, range_drop hlk1, range_len hkk1, (by rw [hnext1] at h; exact h), ((((hf.nil.cons (hf.get 15 _ rfl)).cons (hf.get 14 _ rfl)).cons (hf.get 5 _ rfl)).cons (hf.get 16 _ rfl)), hs⟩
      · replace h := h.2 hc
        refine wp_skip ?_
        refine X.blk ?_
        refine X.then_ ?_
        refine R.list ?_
        refine S.v hf hs (iv ((k1 + 1 : Nat) : Int)) rfl (V.incr rfl rfl rfl hltk1 hlenk1) fun a hf => ?_
        refine S.p hf hs (iv ((k1 + 1 : Nat) : Int)) rfl rfl fun a hf => ?_
        refine R.nil ?_
        refine X.then_ ?_
        exact ⟨xk1, llk1, rfl, k1 + 1, n2, range_drop hlk1, range_len hkk1, (by rw [hnext1] at h; exact h), ((((hf.nil.cons (hf.get 15 _ rfl)).cons (hf.get 14 _ rfl)).cons (hf.get 5 _ rfl)).cons (hf.get 16 _ rfl)), hs⟩
    · skip
      refine R.list ?_
      refine S.p hf hs (iv xk1) rfl rfl fun a hf => ?_
      refine S.p hf hs (.bool (decide (xk1 ≥ 0))) rfl rfl fun a hf => ?_
      refine S.split hf hs (b := decide (xk1 ≥ 0)) rfl rfl rfl (V.pure rfl) (fun hc a hf => ?_) (fun hc a hf => ?_)
      · replace h := h.1 hc
        refine S.p hf hs (iv n2) rfl rfl fun a hf => ?_
        refine S.p hf hs (.bool (decide (n2 < 0))) rfl rfl fun a hf => ?_
        refine S.split hf hs (b := decide (n2 < 0)) rfl rfl rfl (V.pure rfl) (fun hc a hf => ?_) (fun hc a hf => ?_)
        · replace h := h.1 hc
          refine S.k hf rfl fun a hf => ?_
          refine S.k hf rfl fun a hf => ?_
          refine S.k hf rfl fun a hf => ?_
          refine S.p hf hs (.bool true) rfl rfl fun a hf => ?_
          refine S.p hf hs (.bool true) rfl rfl fun a hf => ?_
          refine R.nil ?_
          refine X.then_ ?_
          exact ⟨true, h, ((((((hf.nil.cons (hf.get 30 _ rfl)).cons (hf.get 16 _ rfl)).cons (hf.get 15 _ rfl)).cons (hf.get 14 _ rfl)).cons (hf.get 7 _ rfl)).cons (hf.get 5 _ rfl)), hs⟩
        · replace h := h.2 hc
          refine S.p hf hs (iv xk1) rfl rfl fun a hf => ?_
          refine S.p hf hs (iv n2) rfl rfl fun a hf => ?_
          refine S.p hf hs (.bool (decide (xk1 < n2))) rfl rfl fun a hf => ?_
          refine S.p hf hs (.bool (decide (xk1 < n2))) rfl rfl fun a hf => ?_
          refine S.p hf hs (.bool (decide (xk1 < n2))) rfl rfl fun a hf => ?_
          refine R.nil ?_
          refine X.then_ ?_
          exact ⟨(decide (xk1 < n2)), h, ((((((hf.nil.cons (hf.get 30 _ rfl)).cons (hf.get 16 _ rfl)).cons (hf.get 15 _ rfl)).cons (hf.get 14 _ rfl)).cons (hf.get 7 _ rfl)).cons (hf.get 5 _ rfl)), hs⟩
      · replace h := h.2 hc
        refine S.k hf rfl fun a hf => ?_
        refine S.k hf rfl fun a hf => ?_
        refine S.k hf rfl fun a hf => ?_
        refine S.k hf rfl fun a hf => ?_
        refine S.k hf rfl fun a hf => ?_
        refine S.k hf rfl fun a hf => ?_
        refine S.k hf rfl fun a hf => ?_
        refine S.p hf hs (.bool false) rfl rfl fun a hf => ?_
        refine R.nil ?_
        refine X.then_ ?_
        exact ⟨false, h, ((((((hf.nil.cons (hf.get 30 _ rfl)).cons (hf.get 16 _ rfl)).cons (hf.get 15 _ rfl)).cons (hf.get 14 _ rfl)).cons (hf.get 7 _ rfl)).cons (hf.get 5 _ rfl)), hs⟩

set_option linter.unusedVariables false
def M_route_Reach_k2 (n2 : Int) (next1 : Int → Prop) (c1 : Bool) : Prop :=
  cnd c1 (next1 (w64 (n2 + 1))) (next1 n2)
def M_route_Reach_L1 (most : Int) (y4 : (List Int)) (k1 : Nat) (xk1 : Bool) (n2 : Int) (next1 : Int → Prop) : Prop :=
  M_keys_least y4 (k1 : Int) fun y5 => cnd (decide (y5 ≥ 0)) (M_route_Reach_k2 n2 next1 (decide (w64 (y5.tdiv 1048576) ≤ most))) (M_route_Reach_k2 n2 next1 false)
def M_route_Reach (g : Grid) (c : Costs) (from_ : Cell) (most : Int) (Q : Int → Int → Prop) : Prop :=
  M_find g c [from_] fun y1o y2 => optq y1o (cnd (y2 != 0) (Q 0 y2) (cnd (!(within most 0 100000000)) (Q 0 1) (False))) (fun y1 => cnd (y2 != 0) (Q 0 y2) (cnd (!(within most 0 100000000)) (Q 0 1) (M_route_number g from_ fun y3 => M_finder_from (⟨g, c, y1⟩ : RouteFinder) [y3] fun y4 => forIn' (fun k x (s : Int) next => M_route_Reach_L1 most y4 k x s (fun n2 => next n2)) (fun (s : Int) => (fun (n2 : Int) => Q n2 0) s) y1 0 0)))
set_option maxHeartbeats 1000000 in
theorem R_route_Reach (g : Grid) (c : Costs) (from_ : Cell) (most : Int) (w0 : World) (g_BlockedA : Option Addr) (g_BlockedC : Nat) (hv_g_Blocked : View w0 (old w0 none_) g_BlockedA g_BlockedC g.Blocked) (Q : Int → Int → Prop) (h : M_route_Reach g c from_ most Q) :
    Ret Try.prog 15 #[.agg #[iv g.W, iv g.H, iv g.Layers, .slice g_BlockedA g.Blocked.length g_BlockedC], .agg #[iv c.Step, iv c.Via, iv c.Turn, iv c.Against], .agg #[iv from_.X, iv from_.Y, iv from_.Layer], iv most] w0 fun v w' => ∃ (r0 : Int) (r1 : Int), v = .tuple #[iv r0, iv r1] ∧ Q r0 r1 ∧ Sat w0 none_ [] w' := by
  refine fn_enter Try.func15 rfl Try.ntmps15 rfl (fs := [(0, .agg #[iv g.W, iv g.H, iv g.Layers, .slice g_BlockedA g.Blocked.length g_BlockedC]), (1, .agg #[iv c.Step, iv c.Via, iv c.Turn, iv c.Against]), (2, .agg #[iv from_.X, iv from_.Y, iv from_.Layer]), (3, iv most)]) rfl (fun a hf => ?_)
  have hs := Sat.start w0 none_
  unfold M_route_Reach at h
  refine wp_seq ?_
  refine R.list ?_
  refine S.box hf hs rfl rfl rfl [iv g.W, iv g.H, iv g.Layers, .slice g_BlockedA g.Blocked.length g_BlockedC] rfl rfl rfl (fun g1 a w hf hs => ?_)
  refine S.box hf hs rfl rfl rfl [iv c.Step, iv c.Via, iv c.Turn, iv c.Against] rfl rfl rfl (fun g2 a w hf hs => ?_)
  refine S.box hf hs rfl rfl rfl [iv from_.X, iv from_.Y, iv from_.Layer] rfl rfl rfl (fun g3 a w hf hs => ?_)
  refine S.p hf hs (iv 0) rfl rfl fun a hf => ?_
  refine S.p hf hs (iv 0) rfl rfl fun a hf => ?_
  refine R.nil ?_
  refine X.then_ ?_
  refine wp_seq ?_
  refine R.list ?_
  refine S.v hf hs (.agg #[iv g.W, iv g.H, iv g.Layers, .slice g_BlockedA g.Blocked.length g_BlockedC]) rfl (V.loadBox 2 rfl rfl rfl Try.isAgg24 Try.sizeOf24 rfl rfl) fun a hf => ?_
  refine S.v hf hs (.agg #[iv c.Step, iv c.Via, iv c.Turn, iv c.Against]) rfl (V.loadBox 1 rfl rfl rfl Try.isAgg26 Try.sizeOf26 rfl rfl) fun a hf => ?_
  refine S.v hf hs (.agg #[iv from_.X, iv from_.Y, iv from_.Layer]) rfl (V.loadBox 0 rfl rfl rfl Try.isAgg28 Try.sizeOf28 rfl rfl) fun a hf => ?_
  refine S.build1 hf hs rfl rfl rfl (α := Cell) from_ rfl rfl rfl Try.runUnderlying22 Try.sizeOf28 Try.zeroValue28 rfl (by decide) (fun A1 a w hf hs => ?_)
  refine S.call hf rfl rfl rfl (call_fn (vs := [.agg #[iv g.W, iv g.H, iv g.Layers, .slice g_BlockedA g.Blocked.length g_BlockedC], .agg #[iv c.Step, iv c.Via, iv c.Turn, iv c.Against], .slice A1 [from_].length 1]) rfl rfl rfl Try.call34) (R_find g c [from_] _ g_BlockedA g_BlockedC ((Ag.args _ _ _).view hv_g_Blocked hs) A1 1 (hs.ownView 0 rfl) _ h) (fun v a w' hf hr => ?_)
  rcases hr with ⟨y2, rfl, h2, hs2⟩ | ⟨y1, y1g, y1A0, y1C0, y2, rfl, h2, hs2⟩
  · replace h := h2.1 rfl; replace hs := hs.call hs2; clear h2 hs2
    refine S.p hf hs (.tuple #[.pointer none, iv y2]) rfl rfl fun a hf => ?_
    refine S.p hf hs (.pointer none) rfl rfl fun a hf => ?_
    refine S.p hf hs (iv y2) rfl rfl fun a hf => ?_
    refine S.p hf hs (.pointer none) rfl rfl fun a hf => ?_
    refine S.p hf hs (iv y2) rfl rfl fun a hf => ?_
    refine R.nil ?_
    refine X.then_ ?_
    refine wp_seq ?_
    refine wp_seq ?_
    refine R.list ?_
    refine S.p hf hs (iv y2) rfl rfl fun a hf => ?_
    refine S.p hf hs (.bool (y2 != 0)) rfl rfl fun a hf => ?_
    refine R.nil ?_
    refine X.then_ ?_
    refine C.cond hf (b := y2 != 0) rfl (fun hc => ?_) (fun hc => ?_)
    · replace h := h.1 hc
      refine wp_seq ?_
      refine R.list ?_
      refine S.p hf hs (iv y2) rfl rfl fun a hf => ?_
      refine S.p hf hs (iv 0) rfl rfl fun a hf => ?_
      refine S.p hf hs (iv y2) rfl rfl fun a hf => ?_
      refine R.nil ?_
      refine X.then_ ?_
      refine wp_ret ?_
      refine X.then_ret ?_
      exact L.ret hf (run_results2 Try.results15 (ResIs.tmp hf rfl) (ResIs.tmp hf rfl)) ⟨0, y2, rfl, h, hs.nil⟩
    · replace h := h.2 hc
      refine wp_skip ?_
      refine X.then_ ?_
      refine wp_seq ?_
      refine wp_seq ?_
      refine R.list ?_
      refine S.p hf hs (iv most) rfl rfl fun a hf => ?_
      refine S.callv hf rfl rfl rfl (call_fn (vs := [iv most, iv 0, iv 100000000]) rfl rfl rfl Try.call40) (C_route_within most 0 100000000 _ ) (fun a w hf hs' => ?_)
      replace hs := hs.call hs'; clear hs'
      refine S.p hf hs (.bool (!(within most 0 100000000))) rfl rfl fun a hf => ?_
      refine R.nil ?_
      refine X.then_ ?_
      refine C.cond hf (b := !(within most 0 100000000)) rfl (fun hc => ?_) (fun hc => ?_)
      · replace h := h.1 hc
        refine wp_seq ?_
        refine R.list ?_
        refine S.p hf hs (iv 0) rfl rfl fun a hf => ?_
        refine S.p hf hs (iv 1) rfl rfl fun a hf => ?_
        refine R.nil ?_
        refine X.then_ ?_
        refine wp_ret ?_
        refine X.then_ret ?_
        exact L.ret hf (run_results2 Try.results15 (ResIs.tmp hf rfl) (ResIs.tmp hf rfl)) ⟨0, 1, rfl, h, hs.nil⟩
      · replace h := h.2 hc
        exact h.elim
  · replace h := h2.2 _ rfl; replace hs := hs.call hs2; clear h2 hs2
    refine S.p hf hs (.tuple #[(pn y1g 0), iv y2]) rfl rfl fun a hf => ?_
    refine S.p hf hs ((pn y1g 0)) rfl rfl fun a hf => ?_
    refine S.p hf hs (iv y2) rfl rfl fun a hf => ?_
    refine S.p hf hs ((pn y1g 0)) rfl rfl fun a hf => ?_
    refine S.p hf hs (iv y2) rfl rfl fun a hf => ?_
    refine R.nil ?_
    refine X.then_ ?_
    refine wp_seq ?_
    refine wp_seq ?_
    refine R.list ?_
    refine S.p hf hs (iv y2) rfl rfl fun a hf => ?_
    refine S.p hf hs (.bool (y2 != 0)) rfl rfl fun a hf => ?_
    refine R.nil ?_
    refine X.then_ ?_
    refine C.cond hf (b := y2 != 0) rfl (fun hc => ?_) (fun hc => ?_)
    · replace h := h.1 hc
      refine wp_seq ?_
      refine R.list ?_
      refine S.p hf hs (iv y2) rfl rfl fun a hf => ?_
      refine S.p hf hs (iv 0) rfl rfl fun a hf => ?_
      refine S.p hf hs (iv y2) rfl rfl fun a hf => ?_
      refine R.nil ?_
      refine X.then_ ?_
      refine wp_ret ?_
      refine X.then_ret ?_
      exact L.ret hf (run_results2 Try.results15 (ResIs.tmp hf rfl) (ResIs.tmp hf rfl)) ⟨0, y2, rfl, h, hs.nil⟩
    · replace h := h.2 hc
      refine wp_skip ?_
      refine X.then_ ?_
      refine wp_seq ?_
      refine wp_seq ?_
      refine R.list ?_
      refine S.p hf hs (iv most) rfl rfl fun a hf => ?_
      refine S.callv hf rfl rfl rfl (call_fn (vs := [iv most, iv 0, iv 100000000]) rfl rfl rfl Try.call40) (C_route_within most 0 100000000 _ ) (fun a w hf hs' => ?_)
      replace hs := hs.call hs'; clear hs'
      refine S.p hf hs (.bool (!(within most 0 100000000))) rfl rfl fun a hf => ?_
      refine R.nil ?_
      refine X.then_ ?_
      refine C.cond hf (b := !(within most 0 100000000)) rfl (fun hc => ?_) (fun hc => ?_)
      · replace h := h.1 hc
        refine wp_seq ?_
        refine R.list ?_
        refine S.p hf hs (iv 0) rfl rfl fun a hf => ?_
        refine S.p hf hs (iv 1) rfl rfl fun a hf => ?_
        refine R.nil ?_
        refine X.then_ ?_
        refine wp_ret ?_
        refine X.then_ret ?_
        exact L.ret hf (run_results2 Try.results15 (ResIs.tmp hf rfl) (ResIs.tmp hf rfl)) ⟨0, 1, rfl, h, hs.nil⟩
      · replace h := h.2 hc
        refine wp_skip ?_
        refine X.then_ ?_
        refine wp_seq ?_
        refine R.list ?_
        refine S.p hf hs ((pn y1g 0)) rfl rfl fun a hf => ?_
        refine S.v hf hs (.agg #[iv g.W, iv g.H, iv g.Layers, .slice g_BlockedA g.Blocked.length g_BlockedC]) rfl (V.loadBox 5 rfl rfl rfl Try.isAgg24 Try.sizeOf24 rfl rfl) fun a hf => ?_
        refine S.v hf hs (.agg #[iv from_.X, iv from_.Y, iv from_.Layer]) rfl (V.loadBox 3 rfl rfl rfl Try.isAgg28 Try.sizeOf28 rfl rfl) fun a hf => ?_
        refine S.call hf rfl rfl rfl (call_fn (vs := [.agg #[iv g.W, iv g.H, iv g.Layers, .slice g_BlockedA g.Blocked.length g_BlockedC], .agg #[iv from_.X, iv from_.Y, iv from_.Layer]]) rfl rfl rfl Try.call36) (R_route_number g from_ _ g_BlockedA g_BlockedC ((Ag.args _ _ _).view hv_g_Blocked hs) _ h) (fun v a w' hf hr => ?_)
        obtain ⟨y3, rfl, h2, hs2⟩ := hr
        replace h := h2; replace hs := hs.call hs2; clear h2 hs2
        refine S.build1 hf hs rfl rfl rfl (α := Int) y3 rfl rfl rfl Try.runUnderlying55 Try.sizeOf3 Try.zeroValue3 rfl (by decide) (fun A2 a w hf hs => ?_)
        refine S.call hf rfl rfl rfl (call_fn (vs := [(pn y1g 0), .slice A2 [y3].length 1]) rfl rfl rfl Try.call41) (R_finder_from (⟨g, c, y1⟩ : RouteFinder) [y3] _ g_BlockedA g_BlockedC ((Ag.args _ _ _).view hv_g_Blocked hs) y1A0 y1C0 (hs.ownView 2 rfl) y1g (hs.boxAt 1 rfl) A2 1 (hs.ownView 0 rfl) _ h) (fun v a w' hf hr => ?_)
        obtain ⟨y4, y4A, y4C, rfl, h2, hs2⟩ := hr
        replace h := h2; replace hs := hs.call hs2; clear h2 hs2
        refine S.p hf hs (.slice y4A y4.length y4C) rfl rfl fun a hf => ?_
        refine R.nil ?_
        refine X.then_ ?_
        refine wp_seq ?_
        refine R.list ?_
        refine S.p hf hs (iv 0) rfl rfl fun a hf => ?_
        refine R.nil ?_
        refine X.then_ ?_
        refine wp_seq ?_
        refine wp_seq ?_
        refine R.list ?_
        refine S.p hf hs ((pn y1g 0)) rfl rfl fun a hf => ?_
        refine S.p hf hs ((pn y1g 0)) rfl rfl fun a hf => ?_
        refine S.v hf hs ((pn y1g 8)) rfl (V.fieldBox rfl rfl Try.runUnderlying68 rfl Try.sizeOf66 rfl rfl) fun a hf => ?_
        refine S.v hf hs (.slice y1A0 y1.length y1C0) rfl (V.loadBox 2 rfl rfl rfl Try.isAgg66 Try.sizeOf66 rfl rfl) fun a hf => ?_
        refine S.v hf hs (iv (y1.length : Int)) rfl (V.len rfl rfl Try.runUnderlying66) fun a hf => ?_
        refine S.p hf hs (iv 0) rfl rfl fun a hf => ?_
        refine R.nil ?_
        refine X.then_ ?_
        refine wp_block ?_
        have hlenk1 := (hs.ownView 3 rfl).len64
        refine C.range (fun (ll : List Bool) a w => ∃ (k1 : Nat) (n2 : Int), y1.drop k1 = ll ∧ k1 + ll.length = y1.length ∧ forIn' (fun k x (s : Int) next => M_route_Reach_L1 most y4 k x s (fun n2 => next n2)) (fun (s : Int) => (fun (n2 : Int) => Q n2 0) s) ll k1 n2 ∧ FrOk 59 [(41, iv (k1 : Int)), (3, iv most), (12, .slice y4A y4.length y4C), (13, iv n2), (40, iv (y1.length : Int))] a ∧ Sat w0 none_ [hown 3 y4A y4C y4, hown 3 A2 1 [y3], hbox y1g 68 [iv g.W, iv g.H, iv g.Layers, .slice g_BlockedA g.Blocked.length g_BlockedC, iv c.Step, iv c.Via, iv c.Turn, iv c.Against, .slice y1A0 y1.length y1C0], hown 4 y1A0 y1C0 y1, hown 28 A1 1 [from_], hbox g3 28 [iv from_.X, iv from_.Y, iv from_.Layer], hbox g2 26 [iv c.Step, iv c.Via, iv c.Turn, iv c.Against], hbox g1 24 [iv g.W, iv g.H, iv g.Layers, .slice g_BlockedA g.Blocked.length g_BlockedC]] w) y1 ⟨0, 0, rfl, Nat.zero_add _, h, (((((hf.nil.cons (hf.get 40 _ rfl)).cons (hf.get 13 _ rfl)).cons (hf.get 12 _ rfl)).cons (hf.get 3 _ rfl)).cons (hf.get 41 _ rfl)), hs⟩ ?_
        clear h hf hs
        rintro llk1 a w ⟨k1, n2, hlk1, hkk1, h, hf, hs⟩
        cases llk1 with
        | nil =>
          have hc := range_done hkk1
          replace h : (fun (n2 : Int) => Q n2 0) n2 := h
          refine wp_seq ?_
          refine R.list ?_
          refine S.v hf hs (.bool false) rfl (V.cmp false rfl rfl rfl rfl hc) fun a hf => ?_
          refine R.nil ?_
          refine X.then_ ?_
          refine wp_seq ?_
          refine C.no hf rfl ?_
          refine wp_exit ?_
          refine X.then_exit ?_
          refine X.then_exit ?_
          refine X.blk_exit ?_
          refine X.then_ ?_
          refine wp_seq ?_
          refine R.list ?_
          refine S.p hf hs (iv n2) rfl rfl fun a hf => ?_
          refine S.p hf hs (iv n2) rfl rfl fun a hf => ?_
          refine S.p hf hs (iv 0) rfl rfl fun a hf => ?_
          refine R.nil ?_
          refine X.then_ ?_
          refine wp_ret ?_
          exact L.ret hf (run_results2 Try.results15 (ResIs.tmp hf rfl) (ResIs.tmp hf rfl)) ⟨n2, 0, rfl, h, hs.nil⟩
        | cons xk1 llk1 =>
          have hltk1 := range_lt hkk1; have hc := range_go hkk1; have hxk1 := range_get hlk1
          obtain ⟨next1, hnext1⟩ : ∃ X : Int → Prop, X = (fun n2 => forIn' (fun k x (s : Int) next => M_route_Reach_L1 most y4 k x s (fun n2 => next n2)) (fun (s : Int) => (fun (n2 : Int) => Q n2 0) s) llk1 (k1 + 1) n2) := ⟨_, rfl⟩
          replace h : M_route_Reach_L1 most y4 k1 xk1 n2 next1 := by rw [hnext1]; exact h
          unfold M_route_Reach_L1 at h
          refine wp_seq ?_
          refine R.list ?_
          refine S.v hf hs (.bool true) rfl (V.cmp true rfl rfl rfl rfl hc) fun a hf => ?_
          refine R.nil ?_
          refine X.then_ ?_
          refine wp_seq ?_
          refine C.yes hf rfl ?_
          refine wp_skip ?_
          refine X.then_ ?_
          refine wp_seq ?_
          refine wp_block ?_
          refine wp_seq ?_
          refine R.list ?_
          refine S.p hf hs (iv (k1 : Int)) rfl rfl fun a hf => ?_
          refine S.p hf hs (iv (k1 : Int)) rfl rfl fun a hf => ?_
          refine R.nil ?_
          refine X.then_ ?_
          refine wp_seq ?_
          refine R.list ?_
          refine S.p hf hs (.slice y4A y4.length y4C) rfl rfl fun a hf => ?_
          refine S.p hf hs (iv (k1 : Int)) rfl rfl fun a hf => ?_
          refine S.call hf rfl rfl rfl (call_fn (vs := [.slice y4A y4.length y4C, iv (k1 : Int)]) rfl rfl rfl Try.call42) (R_keys_least y4 (k1 : Int) _ y4A y4C (hs.ownView 0 rfl) _ h) (fun v a w' hf hr => ?_)
          obtain ⟨y5, rfl, h2, hs2⟩ := hr
          replace h := h2; replace hs := hs.call hs2; clear h2 hs2
          refine S.p hf hs (iv y5) rfl rfl fun a hf => ?_
          refine R.nil ?_
          refine X.then_ ?_
          refine wp_seq ?_
          refine C.cut (J := fun a w => ∃ (c1 : Bool), M_route_Reach_k2 n2 next1 c1 ∧ FrOk 59 [(3, iv most), (12, .slice y4A y4.length y4C), (13, iv n2), (40, iv (y1.length : Int)), (41, iv (k1 : Int)), (54, .bool c1)] a ∧ Sat w0 none_ [hown 3 y4A y4C y4, hown 3 A2 1 [y3], hbox y1g 68 [iv g.W, iv g.H, iv g.Layers, .slice g_BlockedA g.Blocked.length g_BlockedC, iv c.Step, iv c.Via, iv c.Turn, iv c.Against, .slice y1A0 y1.length y1C0], hown 4 y1A0 y1C0 y1, hown 28 A1 1 [from_], hbox g3 28 [iv from_.X, iv from_.Y, iv from_.Layer], hbox g2 26 [iv c.Step, iv c.Via, iv c.Turn, iv c.Against], hbox g1 24 [iv g.W, iv g.H, iv g.Layers, .slice g_BlockedA g.Blocked.length g_BlockedC]] w) ?_ ?_
          · rintro a w ⟨c1, h, hf, hs⟩
            unfold M_route_Reach_k2 at h
            refine C.cond hf (b := c1) rfl (fun hc => ?_) (fun hc => ?_)
            · replace h := h.1 hc
              refine R.list ?_
              refine S.p hf hs (iv n2) rfl rfl fun a hf => ?_
              refine S.p hf hs (iv (w64 (n2 + 1))) rfl rfl fun a hf => ?_
              refine S.p hf hs (iv (w64 (n2 + 1))) rfl rfl fun a hf => ?_
              refine R.nil ?_
              refine X.blk ?_
              refine X.then_ ?_
              refine R.list ?_
              refine S.v hf hs (iv ((k1 + 1 : Nat) : Int)) rfl (V.incr rfl rfl rfl hltk1 hlenk1) fun a hf => ?_
              refine S.p hf hs (iv ((k1 + 1 : Nat) : Int)) rfl rfl fun a hf => ?_
              refine R.nil ?_
              refine X.then_ ?_
              exact ⟨xk1, llk1, rfl, k1 + 1, (w64 (n2 + 1)), range_drop hlk1, range_len hkk1, (by rw [hnext1] at h; exact h), (((((hf.nil.cons (hf.get 40 _ rfl)).cons (hf.get 13 _ rfl)).cons (hf.get 12 _ rfl)).cons (hf.get 3 _ rfl)).cons (hf.get 41 _ rfl)), hs⟩
            · replace h := h.2 hc
              refine wp_skip ?_
              refine X.blk ?_
              refine X.then_ ?_
              refine R.list ?_
              refine S.v hf hs (iv ((k1 + 1 : Nat) : Int)) rfl (V.incr rfl rfl rfl hltk1 hlenk1) fun a hf => ?_
              refine S.p hf hs (iv ((k1 + 1 : Nat) : Int)) rfl rfl fun a hf => ?_
              refine R.nil ?_
              refine X.then_ ?_
              exact ⟨xk1, llk1, rfl, k1 + 1, n2, range_drop hlk1, range_len hkk1, (by rw [hnext1] at h; exact h), (((((hf.nil.cons (hf.get 40 _ rfl)).cons (hf.get 13 _ rfl)).cons (hf.get 12 _ rfl)).cons (hf.get 3 _ rfl)).cons (hf.get 41 _ rfl)), hs⟩
          · skip
            refine R.list ?_
            refine S.p hf hs (iv y5) rfl rfl fun a hf => ?_
            refine S.p hf hs (.bool (decide (y5 ≥ 0))) rfl rfl fun a hf => ?_
            refine S.split hf hs (b := decide (y5 ≥ 0)) rfl rfl rfl (V.pure rfl) (fun hc a hf => ?_) (fun hc a hf => ?_)
            · replace h := h.1 hc
              refine S.p hf hs (iv y5) rfl rfl fun a hf => ?_
              refine S.v hf hs (iv (w64 (y5.tdiv 1048576))) rfl (V.quo rfl rfl rfl (by decide)) fun a hf => ?_
              refine S.p hf hs (iv most) rfl rfl fun a hf => ?_
              refine S.p hf hs (.bool (decide (w64 (y5.tdiv 1048576) ≤ most))) rfl rfl fun a hf => ?_
              refine S.p hf hs (.bool (decide (w64 (y5.tdiv 1048576) ≤ most))) rfl rfl fun a hf => ?_
              refine R.nil ?_
              refine X.then_ ?_
              exact ⟨(decide (w64 (y5.tdiv 1048576) ≤ most)), h, ((((((hf.nil.cons (hf.get 54 _ rfl)).cons (hf.get 41 _ rfl)).cons (hf.get 40 _ rfl)).cons (hf.get 13 _ rfl)).cons (hf.get 12 _ rfl)).cons (hf.get 3 _ rfl)), hs⟩
            · replace h := h.2 hc
              refine S.k hf rfl fun a hf => ?_
              refine S.k hf rfl fun a hf => ?_
              refine S.k hf rfl fun a hf => ?_
              refine S.k hf rfl fun a hf => ?_
              refine S.p hf hs (.bool false) rfl rfl fun a hf => ?_
              refine R.nil ?_
              refine X.then_ ?_
              exact ⟨false, h, ((((((hf.nil.cons (hf.get 54 _ rfl)).cons (hf.get 41 _ rfl)).cons (hf.get 40 _ rfl)).cons (hf.get 13 _ rfl)).cons (hf.get 12 _ rfl)).cons (hf.get 3 _ rfl)), hs⟩

end Go.Proofs.Ytihjaehkdgdenaa
