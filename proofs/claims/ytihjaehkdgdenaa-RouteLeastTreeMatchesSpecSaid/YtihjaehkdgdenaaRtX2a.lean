/- Chapter 7: the reference's pins, and costs that spread: the walks. -/
import Derived.Test.YtihjaehkdgdenaaRtN
namespace Go.Proofs.Ytihjaehkdgdenaa
open Go Go.RowKit
set_option linter.unusedVariables false

set_option linter.unusedVariables false
def M_ref7_checkPins_L1 (g : Grid) (pins : (List Cell)) (Q : Int → Prop) (k1 : Nat) (xk1 : Cell)  (next1 : Prop) : Prop :=
  M_ref7_isCell g xk1 fun y1 => cnd (!y1) (Q 1) (M_contains_cell g.Blocked xk1 fun y2 => cnd y2 (Q 14) (must (0 ≤ (0 : Int) ∧ (0 : Int) ≤ (k1 : Int) ∧ (k1 : Int) ≤ (pins.length : Int)) (M_contains_cell (seg pins (0 : Int) (k1 : Int)) xk1 fun y3 => cnd y3 (Q 7) (next1))))
def M_ref7_checkPins (g : Grid) (pins : (List Cell)) (most : Int) (Q : Int → Prop) : Prop :=
  cnd ((pins.length : Int) == 0) (Q 9) (cnd (decide ((pins.length : Int) > most)) (Q 2) (forIn' (fun k x (s : Unit) next => M_ref7_checkPins_L1 g pins Q k x (next ())) (fun (s : Unit) => Q 0) pins 0 ()))
set_option maxHeartbeats 1000000 in
theorem R_ref7_checkPins (g : Grid) (pins : (List Cell)) (most : Int) (w0 : World) (g_BlockedA : Option Addr) (g_BlockedC : Nat) (hv_g_Blocked : View w0 (old w0 none_) g_BlockedA g_BlockedC g.Blocked) (pinsA : Option Addr) (pinsC : Nat) (hv_pins : View w0 (old w0 none_) pinsA pinsC pins) (Q : Int → Prop) (h : M_ref7_checkPins g pins most Q) :
    Ret Try.prog 59 #[.agg #[iv g.W, iv g.H, iv g.Layers, .slice g_BlockedA g.Blocked.length g_BlockedC], .slice pinsA pins.length pinsC, iv most] w0 fun v w' => ∃ (r0 : Int), v = iv r0 ∧ Q r0 ∧ Sat w0 none_ [] w' := by
  refine fn_enter Try.func59 rfl Try.ntmps59 rfl (fs := [(0, .agg #[iv g.W, iv g.H, iv g.Layers, .slice g_BlockedA g.Blocked.length g_BlockedC]), (1, .slice pinsA pins.length pinsC), (2, iv most)]) rfl (fun a hf => ?_)
  have hs := Sat.start w0 none_
  unfold M_ref7_checkPins at h
  refine wp_seq ?_
  refine R.list ?_
  refine S.box hf hs rfl rfl rfl [iv g.W, iv g.H, iv g.Layers, .slice g_BlockedA g.Blocked.length g_BlockedC] rfl rfl rfl (fun g1 a w hf hs => ?_)
  refine S.p hf hs (iv 0) rfl rfl fun a hf => ?_
  refine R.nil ?_
  refine X.then_ ?_
  refine wp_seq ?_
  refine wp_seq ?_
  refine R.list ?_
  refine S.p hf hs (.slice pinsA pins.length pinsC) rfl rfl fun a hf => ?_
  refine S.v hf hs (iv (pins.length : Int)) rfl (V.len rfl rfl Try.runUnderlying22) fun a hf => ?_
  refine S.p hf hs (.bool ((pins.length : Int) == 0)) rfl rfl fun a hf => ?_
  refine R.nil ?_
  refine X.then_ ?_
  refine C.cond hf (b := (pins.length : Int) == 0) rfl (fun hc => ?_) (fun hc => ?_)
  · replace h := h.1 hc
    refine wp_seq ?_
    refine R.list ?_
    refine S.p hf hs (iv 9) rfl rfl fun a hf => ?_
    refine R.nil ?_
    refine X.then_ ?_
    refine wp_ret ?_
    refine X.then_ret ?_
    exact L.ret hf (run_results1 Try.results59 (ResIs.tmp hf rfl)) ⟨9, rfl, h, hs.nil⟩
  · replace h := h.2 hc
    refine wp_skip ?_
    refine X.then_ ?_
    refine wp_seq ?_
    refine wp_seq ?_
    refine R.list ?_
    refine S.p hf hs (.slice pinsA pins.length pinsC) rfl rfl fun a hf => ?_
    refine S.v hf hs (iv (pins.length : Int)) rfl (V.len rfl rfl Try.runUnderlying22) fun a hf => ?_
    refine S.p hf hs (iv most) rfl rfl fun a hf => ?_
    refine S.p hf hs (.bool (decide ((pins.length : Int) > most))) rfl rfl fun a hf => ?_
    refine R.nil ?_
    refine X.then_ ?_
    refine C.cond hf (b := decide ((pins.length : Int) > most)) rfl (fun hc => ?_) (fun hc => ?_)
    · replace h := h.1 hc
      refine wp_seq ?_
      refine R.list ?_
      refine S.p hf hs (iv 2) rfl rfl fun a hf => ?_
      refine R.nil ?_
      refine X.then_ ?_
      refine wp_ret ?_
      refine X.then_ret ?_
      exact L.ret hf (run_results1 Try.results59 (ResIs.tmp hf rfl)) ⟨2, rfl, h, hs.nil⟩
    · replace h := h.2 hc
      refine wp_skip ?_
      refine X.then_ ?_
      refine wp_seq ?_
      refine wp_seq ?_
      refine R.list ?_
      refine S.p hf hs (.slice pinsA pins.length pinsC) rfl rfl fun a hf => ?_
      refine S.v hf hs (iv (pins.length : Int)) rfl (V.len rfl rfl Try.runUnderlying22) fun a hf => ?_
      refine S.p hf hs (iv 0) rfl rfl fun a hf => ?_
      refine R.nil ?_
      refine X.then_ ?_
      refine wp_block ?_
      have hlenk1 := hv_pins.len64
      refine C.range (fun (ll : List Cell) a w => ∃ (k1 : Nat) , pins.drop k1 = ll ∧ k1 + ll.length = pins.length ∧ forIn' (fun k x (s : Unit) next => M_ref7_checkPins_L1 g pins Q k x (next ())) (fun (s : Unit) => Q 0) ll k1 () ∧ FrOk 40 [(18, iv (k1 : Int)), (1, .slice pinsA pins.length pinsC), (3, (pn g1 0)), (16, .slice pinsA pins.length pinsC), (17, iv (pins.length : Int))] a ∧ Sat w0 none_ [hbox g1 24 [iv g.W, iv g.H, iv g.Layers, .slice g_BlockedA g.Blocked.length g_BlockedC]] w) pins ⟨0, rfl, Nat.zero_add _, h, (((((hf.nil.cons (hf.get 17 _ rfl)).cons (hf.get 16 _ rfl)).cons (hf.get 3 _ rfl)).cons (hf.get 1 _ rfl)).cons (hf.get 18 _ rfl)), hs⟩ ?_
      clear h hf hs
      rintro llk1 a w ⟨k1, hlk1, hkk1, h, hf, hs⟩
      cases llk1 with
      | nil =>
        have hc := range_done hkk1
        replace h : Q 0 := h
        refine wp_seq ?_
        refine R.list ?_
        refine S.v hf hs (.bool false) rfl (V.cmp false rfl rfl rfl rfl hc) fun a hf => ?_
        refine R.nil ?_
        refine X.then_ ?_
        refine wp_seq ?_
        refine C.no hf rfl ?_
        refine wp_exit ?_
        refine X.then_exit ?_
        refine X.then_exit ?_
        refine X.blk_exit ?_
        refine X.then_ ?_
        refine wp_seq ?_
        refine R.list ?_
        refine S.p hf hs (iv 0) rfl rfl fun a hf => ?_
        refine R.nil ?_
        refine X.then_ ?_
        refine wp_ret ?_
        exact L.ret hf (run_results1 Try.results59 (ResIs.tmp hf rfl)) ⟨0, rfl, h, hs.nil⟩
      | cons xk1 llk1 =>
        have hltk1 := range_lt hkk1; have hc := range_go hkk1; have hxk1 := range_get hlk1
        obtain ⟨next1, hnext1⟩ : ∃ X : Prop, X = (forIn' (fun k x (s : Unit) next => M_ref7_checkPins_L1 g pins Q k x (next ())) (fun (s : Unit) => Q 0) llk1 (k1 + 1) ()) := ⟨_, rfl⟩
        replace h : M_ref7_checkPins_L1 g pins Q k1 xk1  next1 := by rw [hnext1]; exact h
        unfold M_ref7_checkPins_L1 at h
        refine wp_seq ?_
        refine R.list ?_
        refine S.v hf hs (.bool true) rfl (V.cmp true rfl rfl rfl rfl hc) fun a hf => ?_
        refine R.nil ?_
        refine X.then_ ?_
        refine wp_seq ?_
        refine C.yes hf rfl ?_
        refine wp_skip ?_
        refine X.then_ ?_
        refine wp_seq ?_
        refine wp_block ?_
        refine wp_seq ?_
        refine R.list ?_
        refine S.p hf hs (iv (k1 : Int)) rfl rfl fun a hf => ?_
        refine S.v hf hs (elemPtr pinsA (k1 * 3)) rfl (V.index rfl rfl rfl Try.runUnderlying22 Try.sizeOf28 (hv_pins.some_ (lt_of_get hxk1)) (Int.natCast_nonneg _) (lt_of_get hxk1) rfl) fun a hf => ?_
        refine S.v hf hs (.agg #[iv xk1.X, iv xk1.Y, iv xk1.Layer]) rfl (V.loadEl (off := 0) (Ag.args _ _ _) (hv_pins.flat hxk1) rfl rfl rfl Try.isAgg28 Try.sizeOf28 rfl rfl) fun a hf => ?_
        refine S.alloc hf hs rfl rfl rfl [iv 0, iv 0, iv 0] rfl Try.zeroValue28 rfl (fun g2 a w hf hs => ?_)
        refine S.p hf hs (iv (k1 : Int)) rfl rfl fun a hf => ?_
        refine S.storeBox 0 hf hs rfl rfl [iv xk1.X, iv xk1.Y, iv xk1.Layer] [iv xk1.X, iv xk1.Y, iv xk1.Layer] rfl rfl rfl rfl rfl Try.sizeOf28 rfl rfl rfl rfl (fun a w hf hs => ?_)
        refine R.nil ?_
        refine X.then_ ?_
        refine wp_block ?_
        refine wp_seq ?_
        refine R.list ?_
        refine S.v hf hs (.agg #[iv g.W, iv g.H, iv g.Layers, .slice g_BlockedA g.Blocked.length g_BlockedC]) rfl (V.loadBox 1 rfl rfl rfl Try.isAgg24 Try.sizeOf24 rfl rfl) fun a hf => ?_
        refine S.v hf hs (.agg #[iv xk1.X, iv xk1.Y, iv xk1.Layer]) rfl (V.loadBox 0 rfl rfl rfl Try.isAgg28 Try.sizeOf28 rfl rfl) fun a hf => ?_
        refine S.call hf rfl rfl rfl (call_fn (vs := [.agg #[iv g.W, iv g.H, iv g.Layers, .slice g_BlockedA g.Blocked.length g_BlockedC], .agg #[iv xk1.X, iv xk1.Y, iv xk1.Layer]]) rfl rfl rfl Try.call55) (R_ref7_isCell g xk1 _ g_BlockedA g_BlockedC ((Ag.args _ _ _).view hv_g_Blocked hs) _ h) (fun v a w' hf hr => ?_)
        obtain ⟨y1, rfl, h2, hs2⟩ := hr
        replace h := h2; replace hs := hs.call hs2; clear h2 hs2
        refine S.p hf hs (.bool (!y1)) rfl rfl fun a hf => ?_
        refine S.p hf hs (.bool (!y1)) rfl rfl fun a hf => ?_
        refine R.nil ?_
        refine X.then_ ?_
        refine C.cond hf (b := !y1) rfl (fun hc => ?_) (fun hc => ?_)
        · replace h := h.1 hc
          refine wp_seq ?_
          refine R.list ?_
          refine S.p hf hs (iv 1) rfl rfl fun a hf => ?_
          refine R.nil ?_
          refine X.then_ ?_
          refine wp_ret ?_
          refine X.blk_ret ?_
          refine X.blk_ret ?_
          refine X.then_ret ?_
          refine X.then_ret ?_
          refine X.blk_ret ?_
          refine X.then_ret ?_
          exact L.ret hf (run_results1 Try.results59 (ResIs.tmp hf rfl)) ⟨1, rfl, h, hs.nil⟩
        · replace h := h.2 hc
          refine wp_seq ?_
          refine R.list ?_
          refine S.v hf hs ((pn g1 3)) rfl (V.fieldBox rfl rfl Try.runUnderlying24 rfl Try.sizeOf22 rfl rfl) fun a hf => ?_
          refine S.v hf hs (.slice g_BlockedA g.Blocked.length g_BlockedC) rfl (V.loadBox 1 rfl rfl rfl Try.isAgg22 Try.sizeOf22 rfl rfl) fun a hf => ?_
          refine S.v hf hs (.agg #[iv xk1.X, iv xk1.Y, iv xk1.Layer]) rfl (V.loadBox 0 rfl rfl rfl Try.isAgg28 Try.sizeOf28 rfl rfl) fun a hf => ?_
          refine S.call hf rfl rfl rfl (call_fn (vs := [.slice g_BlockedA g.Blocked.length g_BlockedC, .agg #[iv xk1.X, iv xk1.Y, iv xk1.Layer]]) rfl rfl rfl Try.call71) (R_contains_cell g.Blocked xk1 _ g_BlockedA g_BlockedC ((Ag.args _ _ _).view hv_g_Blocked hs) _ h) (fun v a w' hf hr => ?_)
          obtain ⟨y2, rfl, h2, hs2⟩ := hr
          replace h := h2; replace hs := hs.call hs2; clear h2 hs2
          refine S.p hf hs (.bool y2) rfl rfl fun a hf => ?_
          refine R.nil ?_
          refine X.then_ ?_
          refine C.cond hf (b := y2) rfl (fun hc => ?_) (fun hc => ?_)
          · replace h := h.1 hc
            refine wp_seq ?_
            refine R.list ?_
            refine S.p hf hs (iv 14) rfl rfl fun a hf => ?_
            refine R.nil ?_
            refine X.then_ ?_
            refine wp_ret ?_
            refine X.blk_ret ?_
            refine X.blk_ret ?_
            refine X.then_ret ?_
            refine X.then_ret ?_
            refine X.blk_ret ?_
            refine X.then_ret ?_
            exact L.ret hf (run_results1 Try.results59 (ResIs.tmp hf rfl)) ⟨14, rfl, h, hs.nil⟩
          · replace h := h.2 hc
            refine wp_seq ?_
            refine H.start (S := Sat w0 none_ [hbox g2 28 [iv xk1.X, iv xk1.Y, iv xk1.Layer], hbox g1 24 [iv g.W, iv g.H, iv g.Layers, .slice g_BlockedA g.Blocked.length g_BlockedC]]) mo ?_
            replace hs := hs.drew
            refine H.v hf hs (.slice pinsA pins.length pinsC) 0 rfl rfl (by kernel_rfl) (V.pure rfl) fun a hf => ?_
            refine H.v hf hs (iv (k1 : Int)) 1 rfl rfl (by kernel_rfl) (V.pure rfl) fun a hf => ?_
            obtain ⟨hp1, h⟩ := h
            refine H.v hf hs (.slice (segA pinsA pinsC ((0 : Int) : Int).toNat 3) (seg pins (0 : Int) (k1 : Int)).length (pinsC - ((0 : Int) : Int).toNat)) 2 rfl rfl (by kernel_rfl) (V.slice rfl rfl rfl rfl Try.runUnderlying22 Try.sizeOf28 rfl rfl hp1 hv_pins.cap (seg_length (by have := hp1.2.2; omega))) fun a hf => ?_
            refine H.v hf hs (.agg #[iv xk1.X, iv xk1.Y, iv xk1.Layer]) 3 rfl rfl (by kernel_rfl) (V.loadBox 0 rfl rfl rfl Try.isAgg28 Try.sizeOf28 rfl rfl) fun a hf => ?_
            refine H.one (i := 4) rfl (by kernel_rfl) ?_
            refine S.call hf rfl rfl rfl (call_fn (vs := [.slice (segA pinsA pinsC ((0 : Int) : Int).toNat 3) (seg pins (0 : Int) (k1 : Int)).length (pinsC - ((0 : Int) : Int).toNat), .agg #[iv xk1.X, iv xk1.Y, iv xk1.Layer]]) rfl rfl rfl Try.call71) (R_contains_cell (seg pins (0 : Int) (k1 : Int)) xk1 _ (segA pinsA pinsC ((0 : Int) : Int).toNat 3) (pinsC - ((0 : Int) : Int).toNat) ((Ag.args _ _ _).view (View.sub hv_pins hp1) hs) _ h) (fun v a w' hf hr => ?_)
            obtain ⟨y3, rfl, h2, hs2⟩ := hr
            replace h := h2; replace hs := hs.call hs2; clear h2 hs2
            refine R.nil ?_
            refine X.then_ ?_
            refine ⟨hs, ?_⟩
            refine H.v hf hs (.bool y3) 5 rfl rfl (by kernel_rfl) (V.pure rfl) fun a hf => ?_
            refine H.done (by kernel_rfl) ?_
            refine X.then_ ?_
            refine C.cond hf (b := y3) rfl (fun hc => ?_) (fun hc => ?_)
            · replace h := h.1 hc
              refine wp_seq ?_
              refine R.list ?_
              refine S.p hf hs (iv 7) rfl rfl fun a hf => ?_
              refine R.nil ?_
              refine X.then_ ?_
              refine wp_ret ?_
              refine X.blk_ret ?_
              refine X.blk_ret ?_
              refine X.then_ret ?_
              refine X.then_ret ?_
              refine X.blk_ret ?_
              refine X.then_ret ?_
              exact L.ret hf (run_results1 Try.results59 (ResIs.tmp hf rfl)) ⟨7, rfl, h, hs.nil⟩
            · replace h := h.2 hc
              refine wp_skip ?_
              refine X.blk ?_
              refine X.blk ?_
              refine X.then_ ?_
              refine R.list ?_
              refine S.v hf hs (iv ((k1 + 1 : Nat) : Int)) rfl (V.incr rfl rfl rfl hltk1 hlenk1) fun a hf => ?_
              refine S.p hf hs (iv ((k1 + 1 : Nat) : Int)) rfl rfl fun a hf => ?_
              refine R.nil ?_
              refine X.then_ ?_
              exact ⟨xk1, llk1, rfl, k1 + 1, range_drop hlk1, range_len hkk1, (by rw [hnext1] at h; exact h), (((((hf.nil.cons (hf.get 17 _ rfl)).cons (hf.get 16 _ rfl)).cons (hf.get 3 _ rfl)).cons (hf.get 1 _ rfl)).cons (hf.get 18 _ rfl)), hs.drop⟩

set_option linter.unusedVariables false
def M_field_grow_k5 (l6 : List Int) (c6 : Bool) (next3 : List Int → Bool → Prop) (n3 : Int) (y3 : Int) (c7 : Bool) : Prop :=
  cnd c7 (idx l6 y3 fun x2 => next3 (l6.set y3.toNat n3) true) (next3 l6 c6)
def M_field_grow_k4 (f : R7Field) (xk3 : Cell) (l6 : List Int) (c6 : Bool) (next3 : List Int → Bool → Prop) (n3 : Int) : Prop :=
  M_field_at f xk3 fun y3 => idx l6 y3 fun x3 => cnd (decide (x3 < 0)) (M_field_grow_k5 l6 c6 next3 n3 y3 true) (M_field_grow_k5 l6 c6 next3 n3 y3 (decide (n3 < x3)))
def M_field_grow_L3 (f : R7Field) (x1 : Int) (y1 : Cell) (k3 : Nat) (xk3 : Cell) (l6 : List Int) (c6 : Bool) (next3 : List Int → Bool → Prop) : Prop :=
  M_ref7_along y1 xk3 fun y4 => cnd (y4 == 3) (M_field_grow_k4 f xk3 l6 c6 next3 (w64 (x1 + f.c.Via))) (M_field_grow_k4 f xk3 l6 c6 next3 (w64 (x1 + f.c.Step)))
def M_field_grow_L2 (f : R7Field) (l2 : List Int) (again1 : List Int → Bool → Prop) (again2 : List Int → Bool → Int → Prop) (l4 : List Int) (c4 : Bool) (n2 : Int) : Prop :=
  cnd (decide (n2 < (l2.length : Int))) (idx l4 n2 fun x1 => cnd (decide (x1 < 0)) (again2 l4 c4 (w64 (n2 + 1))) (M_field_cell f n2 fun y1 => M_field_neighbours f y1 fun y2 => forIn' (fun k x (s : List Int × Bool) next => M_field_grow_L3 f x1 y1 k x s.1 s.2 (fun l6 c6 => next (l6, c6))) (fun (s : List Int × Bool) => (fun (l6 : List Int) (c6 : Bool) => again2 l6 c6 (w64 (n2 + 1))) s.1 s.2) y2 0 (l4, c4))) (again1 l4 c4)
def M_field_grow_L1 (f : R7Field) (Q : (List Int) → Prop) (again1 : List Int → Bool → Prop) (l2 : List Int) (c2 : Bool) : Prop :=
  cnd c2 (lp (fun again (s : List Int × Bool × Int) => M_field_grow_L2 f l2 again1 (fun l4 c4 n2 => again (l4, c4, n2)) s.1 s.2.1 s.2.2) (l2, false, 0)) (Q l2)
def M_field_grow (f : R7Field) (l : (List Int)) (Q : (List Int) → Prop) : Prop :=
  lp (fun again (s : List Int × Bool) => M_field_grow_L1 f Q (fun l2 c2 => again (l2, c2)) s.1 s.2) (l, true)
set_option maxHeartbeats 1000000 in
theorem R_field_grow (f : R7Field) (l : (List Int)) (w0 : World) (F0 : Nat → Prop) (f_g_BlockedA : Option Addr) (f_g_BlockedC : Nat) (hv_f_g_Blocked : View w0 (old w0 F0) f_g_BlockedA f_g_BlockedC f.g.Blocked) (f_blockedA : Option Addr) (f_blockedC : Nat) (hv_f_blocked : View w0 (old w0 F0) f_blockedA f_blockedC f.blocked) (f_bestA : Option Addr) (f_bestC : Nat) (hv_f_best : View w0 (old w0 F0) f_bestA f_bestC f.best) (fg : Nat) (hb_f : ElemAt w0 (old w0 F0) (some ⟨fg, 0, none⟩) 0 [iv f.g.W, iv f.g.H, iv f.g.Layers, .slice f_g_BlockedA f.g.Blocked.length f_g_BlockedC, iv f.c.Step, iv f.c.Via, iv f.c.Turn, iv f.c.Against, .slice f_blockedA f.blocked.length f_blockedC, .slice f_bestA f.best.length f_bestC]) (lA : Option Addr) (lC : Nat) (hs0 : Sat w0 F0 [hown 3 lA lC l] w0) (Q : (List Int) → Prop) (h : M_field_grow f l Q) :
    Ret Try.prog 62 #[(pn fg 0), .slice lA l.length lC] w0 fun v w' => ∃ (l1 : List Int) (hl_l1 : l1.length = l.length), v = .tuple #[] ∧ Q l1 ∧ Sat w0 F0 [hown 3 lA lC l1] w' := by
  refine fn_enter Try.func62 rfl Try.ntmps62 rfl (fs := [(0, (pn fg 0)), (1, .slice lA l.length lC)]) rfl (fun a hf => ?_)
  have hs := hs0
  unfold M_field_grow at h
  refine wp_seq ?_
  refine R.list ?_
  refine S.p hf hs (.bool true) rfl rfl fun a hf => ?_
  refine R.nil ?_
  refine X.then_ ?_
  refine wp_block ?_
  obtain ⟨kk, h⟩ := h
  refine C.loop (fun kk a w => ∃ (l2 : List Int) (hl_l2 : l2.length = l.length) (c2 : Bool), iterF (fun again (s : List Int × Bool) => M_field_grow_L1 f Q (fun l2 c2 => again (l2, c2)) s.1 s.2) kk (l2, c2) ∧ FrOk 73 [(0, (pn fg 0)), (1, .slice lA l2.length lC), (4, .bool c2)] a ∧ Sat w0 F0 [hown 3 lA lC l2] w) kk ⟨l, rfl, true, h, (((hf.nil.cons (hf.get 4 _ rfl)).cons (hf.get 1 _ rfl)).cons (hf.get 0 _ rfl)), hs⟩ (fun a w ⟨_, _, _, h, _, _⟩ => h) ?_
  clear h hf hs
  rintro kk a w ⟨l2, hl_l2, c2, h, hf, hs⟩
  obtain ⟨again1, hagain1⟩ : ∃ X : List Int → Bool → Prop, X = (fun l2 c2 => iterF (fun again (s : List Int × Bool) => M_field_grow_L1 f Q (fun l2 c2 => again (l2, c2)) s.1 s.2) kk (l2, c2)) := ⟨_, rfl⟩
  replace h : M_field_grow_L1 f Q again1 l2 c2 := by rw [hagain1]; exact h
  unfold M_field_grow_L1 at h
  refine wp_seq ?_
  refine wp_seq ?_
  refine R.list ?_
  refine S.p hf hs (.bool c2) rfl rfl fun a hf => ?_
  refine R.nil ?_
  refine X.then_ ?_
  refine C.cond hf (b := c2) rfl (fun hc => ?_) (fun hc => ?_)
  · replace h := h.1 hc
    refine wp_skip ?_
    refine X.then_ ?_
    refine wp_block ?_
    refine wp_seq ?_
    refine R.list ?_
    refine S.p hf hs (.bool false) rfl rfl fun a hf => ?_
    refine R.nil ?_
    refine X.then_ ?_
    refine wp_seq ?_
    refine R.list ?_
    refine S.p hf hs (.slice lA l2.length lC) rfl rfl fun a hf => ?_
    refine S.v hf hs (iv (l2.length : Int)) rfl (V.len rfl rfl Try.runUnderlying55) fun a hf => ?_
    refine S.p hf hs (iv 0) rfl rfl fun a hf => ?_
    refine R.nil ?_
    refine X.then_ ?_
    refine wp_block ?_
    obtain ⟨kk, h⟩ := h
    refine C.loop (fun kk a w => ∃ (l4 : List Int) (hl_l4 : l4.length = l.length) (c4 : Bool) (n2 : Int), iterF (fun again (s : List Int × Bool × Int) => M_field_grow_L2 f l2 again1 (fun l4 c4 n2 => again (l4, c4, n2)) s.1 s.2.1 s.2.2) kk (l4, c4, n2) ∧ FrOk 73 [(0, (pn fg 0)), (1, .slice lA l4.length lC), (4, .bool c4), (13, .slice lA l4.length lC), (14, iv (l2.length : Int)), (15, iv n2)] a ∧ Sat w0 F0 [hown 3 lA lC l4] w) kk ⟨l2, hl_l2, false, 0, h, ((((((hf.nil.cons (hf.get 15 _ rfl)).cons (hf.get 14 _ rfl)).cons (hf.get 13 _ rfl)).cons (hf.get 4 _ rfl)).cons (hf.get 1 _ rfl)).cons (hf.get 0 _ rfl)), hs⟩ (fun a w ⟨_, _, _, _, h, _, _⟩ => h) ?_
    clear h hf hs
    rintro kk a w ⟨l4, hl_l4, c4, n2, h, hf, hs⟩
    obtain ⟨again2, hagain2⟩ : ∃ X : List Int → Bool → Int → Prop, X = (fun l4 c4 n2 => iterF (fun again (s : List Int × Bool × Int) => M_field_grow_L2 f l2 again1 (fun l4 c4 n2 => again (l4, c4, n2)) s.1 s.2.1 s.2.2) kk (l4, c4, n2)) := ⟨_, rfl⟩
    replace h : M_field_grow_L2 f l2 again1 again2 l4 c4 n2 := by rw [hagain2]; exact h
    unfold M_field_grow_L2 at h
    refine wp_seq ?_
    refine R.list ?_
    refine S.p hf hs (.bool (decide (n2 < (l2.length : Int)))) rfl rfl fun a hf => ?_
    refine R.nil ?_
    refine X.then_ ?_
    refine wp_seq ?_
    refine C.cond hf (b := decide (n2 < (l2.length : Int))) rfl (fun hc => ?_) (fun hc => ?_)
    · replace h := h.1 hc
      refine wp_skip ?_
      refine X.then_ ?_
      refine wp_seq ?_
      refine wp_block ?_
      refine wp_seq ?_
      refine R.list ?_
      refine S.p hf hs (iv n2) rfl rfl fun a hf => ?_
      obtain ⟨h0x1, x1, hx1, h⟩ := h
      refine S.v hf hs (elemPtr lA (n2.toNat * 1)) rfl (V.index rfl rfl rfl Try.runUnderlying55 Try.sizeOf3 (hs.ownSome 0 rfl (lt_of_get hx1)) h0x1 (lt_of_get hx1) rfl) fun a hf => ?_
      refine S.v hf hs (iv x1) rfl (V.loadOwn (off := 0) 0 rfl hx1 rfl rfl rfl Try.isAgg3 Try.sizeOf3 rfl rfl) fun a hf => ?_
      refine S.p hf hs (iv n2) rfl rfl fun a hf => ?_
      refine S.p hf hs (iv x1) rfl rfl fun a hf => ?_
      refine R.nil ?_
      refine X.then_ ?_
      refine wp_seq ?_
      refine wp_seq ?_
      refine R.list ?_
      refine S.p hf hs (iv x1) rfl rfl fun a hf => ?_
      refine S.p hf hs (.bool (decide (x1 < 0))) rfl rfl fun a hf => ?_
      refine R.nil ?_
      refine X.then_ ?_
      refine C.cond hf (b := decide (x1 < 0)) rfl (fun hc => ?_) (fun hc => ?_)
      · replace h := h.1 hc
        refine wp_exit ?_
        refine X.then_exit ?_
        refine X.blk_exit ?_
        refine X.then_ ?_
        refine R.list ?_
        refine S.p hf hs (iv (w64 (n2 + 1))) rfl rfl fun a hf => ?_
        refine S.p hf hs (iv (w64 (n2 + 1))) rfl rfl fun a hf => ?_
        refine R.nil ?_
        refine X.then_ ?_
        exact ⟨l4, hl_l4, c4, (w64 (n2 + 1)), (by rw [hagain2] at h; exact h), ((((((hf.nil.cons (hf.get 15 _ rfl)).cons (hf.get 14 _ rfl)).cons (hf.get 13 _ rfl)).cons (hf.get 4 _ rfl)).cons (hf.get 1 _ rfl)).cons (hf.get 0 _ rfl)), hs⟩
      · replace h := h.2 hc
        refine wp_skip ?_
        refine X.then_ ?_
        refine wp_seq ?_
        refine R.list ?_
        refine S.p hf hs ((pn fg 0)) rfl rfl fun a hf => ?_
        refine S.p hf hs (iv n2) rfl rfl fun a hf => ?_
        refine S.call hf rfl rfl rfl (call_fn (vs := [(pn fg 0), iv n2]) rfl rfl rfl Try.call60) (R_field_cell f n2 _ f_g_BlockedA f_g_BlockedC ((Ag.args _ _ _).view hv_f_g_Blocked hs) f_blockedA f_blockedC ((Ag.args _ _ _).view hv_f_blocked hs) f_bestA f_bestC ((Ag.args _ _ _).view hv_f_best hs) fg ((Ag.args _ _ _).elem hb_f hs) _ h) (fun v a w' hf hr => ?_)
        obtain ⟨y1, rfl, h2, hs2⟩ := hr
        replace h := h2; replace hs := hs.call hs2; clear h2 hs2
        refine S.alloc hf hs rfl rfl rfl [iv 0, iv 0, iv 0] rfl Try.zeroValue28 rfl (fun g1 a w hf hs => ?_)
        refine S.storeBox 0 hf hs rfl rfl [iv y1.X, iv y1.Y, iv y1.Layer] [iv y1.X, iv y1.Y, iv y1.Layer] rfl rfl rfl rfl rfl Try.sizeOf28 rfl rfl rfl rfl (fun a w hf hs => ?_)
        refine R.nil ?_
        refine X.then_ ?_
        refine wp_seq ?_
        refine R.list ?_
        refine S.p hf hs ((pn fg 0)) rfl rfl fun a hf => ?_
        refine S.v hf hs (.agg #[iv y1.X, iv y1.Y, iv y1.Layer]) rfl (V.loadBox 0 rfl rfl rfl Try.isAgg28 Try.sizeOf28 rfl rfl) fun a hf => ?_
        refine S.call hf rfl rfl rfl (call_fn (vs := [(pn fg 0), .agg #[iv y1.X, iv y1.Y, iv y1.Layer]]) rfl rfl rfl Try.call78) (R_field_neighbours f y1 _ f_g_BlockedA f_g_BlockedC ((Ag.args _ _ _).view hv_f_g_Blocked hs) f_blockedA f_blockedC ((Ag.args _ _ _).view hv_f_blocked hs) f_bestA f_bestC ((Ag.args _ _ _).view hv_f_best hs) fg ((Ag.args _ _ _).elem hb_f hs) _ h) (fun v a w' hf hr => ?_)
        obtain ⟨y2, y2A, y2C, rfl, h2, hs2⟩ := hr
        replace h := h2; replace hs := hs.call hs2; clear h2 hs2
        refine S.v hf hs (iv (y2.length : Int)) rfl (V.len rfl rfl Try.runUnderlying22) fun a hf => ?_
        refine S.p hf hs (iv 0) rfl rfl fun a hf => ?_
        refine R.nil ?_
        refine X.then_ ?_
        refine wp_block ?_
        have hlenk3 := (hs.ownView 0 rfl).len64
        refine C.range (fun (ll : List Cell) a w => ∃ (k3 : Nat) (l6 : List Int) (hl_l6 : l6.length = l.length) (c6 : Bool), y2.drop k3 = ll ∧ k3 + ll.length = y2.length ∧ forIn' (fun k x (s : List Int × Bool) next => M_field_grow_L3 f x1 y1 k x s.1 s.2 (fun l6 c6 => next (l6, c6))) (fun (s : List Int × Bool) => (fun (l6 : List Int) (c6 : Bool) => again2 l6 c6 (w64 (n2 + 1))) s.1 s.2) ll k3 (l6, c6) ∧ FrOk 73 [(29, iv (k3 : Int)), (0, (pn fg 0)), (1, .slice lA l6.length lC), (4, .bool c6), (6, iv x1), (7, (pn g1 0)), (13, .slice lA l6.length lC), (14, iv (l2.length : Int)), (15, iv n2), (27, .slice y2A y2.length y2C), (28, iv (y2.length : Int))] a ∧ Sat w0 F0 [hown 28 y2A y2C y2, hbox g1 28 [iv y1.X, iv y1.Y, iv y1.Layer], hown 3 lA lC l6] w) y2 ⟨0, l4, hl_l4, c4, rfl, Nat.zero_add _, h, (((((((((((hf.nil.cons (hf.get 28 _ rfl)).cons (hf.get 27 _ rfl)).cons (hf.get 15 _ rfl)).cons (hf.get 14 _ rfl)).cons (hf.get 13 _ rfl)).cons (hf.get 7 _ rfl)).cons (hf.get 6 _ rfl)).cons (hf.get 4 _ rfl)).cons (hf.get 1 _ rfl)).cons (hf.get 0 _ rfl)).cons (hf.get 29 _ rfl)), hs⟩ ?_
        clear h hf hs
        rintro llk3 a w ⟨k3, l6, hl_l6, c6, hlk3, hkk3, h, hf, hs⟩
        cases llk3 with
        | nil =>
          have hc := range_done hkk3
          replace h : (fun (l6 : List Int) (c6 : Bool) => again2 l6 c6 (w64 (n2 + 1))) l6 c6 := h
          refine wp_seq ?_
          refine R.list ?_
          refine S.v hf hs (.bool false) rfl (V.cmp false rfl rfl rfl rfl hc) fun a hf => ?_
          refine R.nil ?_
          refine X.then_ ?_
          refine wp_seq ?_
          refine C.no hf rfl ?_
          refine wp_exit ?_
          refine X.then_exit ?_
          refine X.then_exit ?_
          refine X.blk_exit ?_
          refine X.blk ?_
          refine X.then_ ?_
          refine R.list ?_
          refine S.p hf hs (iv (w64 (n2 + 1))) rfl rfl fun a hf => ?_
          refine S.p hf hs (iv (w64 (n2 + 1))) rfl rfl fun a hf => ?_
          refine R.nil ?_
          refine X.then_ ?_
          exact ⟨l6, hl_l6, c6, (w64 (n2 + 1)), (by rw [hagain2] at h; exact h), ((((((hf.nil.cons (hf.get 15 _ rfl)).cons (hf.get 14 _ rfl)).cons (hf.get 13 _ rfl)).cons (hf.get 4 _ rfl)).cons (hf.get 1 _ rfl)).cons (hf.get 0 _ rfl)), hs.drop.drop⟩
        | cons xk3 llk3 =>
          have hltk3 := range_lt hkk3; have hc := range_go hkk3; have hxk3 := range_get hlk3
          obtain ⟨next3, hnext3⟩ : ∃ X : List Int → Bool → Prop, X = (fun l6 c6 => forIn' (fun k x (s : List Int × Bool) next => M_field_grow_L3 f x1 y1 k x s.1 s.2 (fun l6 c6 => next (l6, c6))) (fun (s : List Int × Bool) => (fun (l6 : List Int) (c6 : Bool) => again2 l6 c6 (w64 (n2 + 1))) s.1 s.2) llk3 (k3 + 1) (l6, c6)) := ⟨_, rfl⟩
          replace h : M_field_grow_L3 f x1 y1 k3 xk3 l6 c6 next3 := by rw [hnext3]; exact h
          unfold M_field_grow_L3 at h
          refine wp_seq ?_
          refine R.list ?_
          refine S.v hf hs (.bool true) rfl (V.cmp true rfl rfl rfl rfl hc) fun a hf => ?_
          refine R.nil ?_
          refine X.then_ ?_
          refine wp_seq ?_
          refine C.yes hf rfl ?_
          refine wp_skip ?_
          refine X.then_ ?_
          refine wp_seq ?_
          refine wp_block ?_
          refine wp_seq ?_
          refine R.list ?_
          refine S.v hf hs (elemPtr y2A (k3 * 3)) rfl (V.index rfl rfl rfl Try.runUnderlying22 Try.sizeOf28 (hs.ownSome 0 rfl (lt_of_get hxk3)) (Int.natCast_nonneg _) (lt_of_get hxk3) rfl) fun a hf => ?_
          refine S.v hf hs (.agg #[iv xk3.X, iv xk3.Y, iv xk3.Layer]) rfl (V.loadOwn (off := 0) 0 rfl hxk3 rfl rfl rfl Try.isAgg28 Try.sizeOf28 rfl rfl) fun a hf => ?_
          refine S.alloc hf hs rfl rfl rfl [iv 0, iv 0, iv 0] rfl Try.zeroValue28 rfl (fun g2 a w hf hs => ?_)
          refine S.storeBox 0 hf hs rfl rfl [iv xk3.X, iv xk3.Y, iv xk3.Layer] [iv xk3.X, iv xk3.Y, iv xk3.Layer] rfl rfl rfl rfl rfl Try.sizeOf28 rfl rfl rfl rfl (fun a w hf hs => ?_)
          refine R.nil ?_
          refine X.then_ ?_
          refine wp_seq ?_
          refine R.list ?_
          refine S.p hf hs (iv x1) rfl rfl fun a hf => ?_
          refine S.p hf hs ((pn fg 0)) rfl rfl fun a hf => ?_
          refine S.p hf hs ((pn fg 0)) rfl rfl fun a hf => ?_
          refine S.v hf hs ((pn fg 4)) rfl (V.fieldBox rfl rfl Try.runUnderlying72 rfl Try.sizeOf26 rfl rfl) fun a hf => ?_
          refine S.v hf hs ((pn fg 4)) rfl (V.fieldBox rfl rfl Try.runUnderlying26 rfl Try.sizeOf3 rfl rfl) fun a hf => ?_
          refine S.v hf hs (iv f.c.Step) rfl (V.loadAt0 (off := 4) (Ag.args _ _ _) hb_f rfl rfl Try.isAgg3 Try.sizeOf3 rfl rfl) fun a hf => ?_
          refine S.p hf hs (iv (w64 (x1 + f.c.Step))) rfl rfl fun a hf => ?_
          refine S.p hf hs (iv (w64 (x1 + f.c.Step))) rfl rfl fun a hf => ?_
          refine R.nil ?_
          refine X.then_ ?_
          refine wp_seq ?_
          refine C.cut (J := fun a w => ∃ (n3 : Int), M_field_grow_k4 f xk3 l6 c6 next3 n3 ∧ FrOk 73 [(0, (pn fg 0)), (1, .slice lA l6.length lC), (4, .bool c6), (6, iv x1), (7, (pn g1 0)), (9, (pn g2 0)), (10, iv n3), (13, .slice lA l6.length lC), (14, iv (l2.length : Int)), (15, iv n2), (27, .slice y2A y2.length y2C), (28, iv (y2.length : Int)), (29, iv (k3 : Int))] a ∧ Sat w0 F0 [hbox g2 28 [iv xk3.X, iv xk3.Y, iv xk3.Layer], hown 28 y2A y2C y2, hbox g1 28 [iv y1.X, iv y1.Y, iv y1.Layer], hown 3 lA lC l6] w) ?_ ?_
          · rintro a w ⟨n3, h, hf, hs⟩
            unfold M_field_grow_k4 at h
            refine wp_seq ?_
            refine R.list ?_
            refine S.p hf hs ((pn fg 0)) rfl rfl fun a hf => ?_
            refine S.v hf hs (.agg #[iv xk3.X, iv xk3.Y, iv xk3.Layer]) rfl (V.loadBox 0 rfl rfl rfl Try.isAgg28 Try.sizeOf28 rfl rfl) fun a hf => ?_
            refine S.call hf rfl rfl rfl (call_fn (vs := [(pn fg 0), .agg #[iv xk3.X, iv xk3.Y, iv xk3.Layer]]) rfl rfl rfl Try.call63) (R_field_at f xk3 _ f_g_BlockedA f_g_BlockedC ((Ag.args _ _ _).view hv_f_g_Blocked hs) f_blockedA f_blockedC ((Ag.args _ _ _).view hv_f_blocked hs) f_bestA f_bestC ((Ag.args _ _ _).view hv_f_best hs) fg ((Ag.args _ _ _).elem hb_f hs) _ h) (fun v a w' hf hr => ?_)
            obtain ⟨y3, rfl, h2, hs2⟩ := hr
            replace h := h2; replace hs := hs.call hs2; clear h2 hs2
            refine S.p hf hs (iv y3) rfl rfl fun a hf => ?_
            refine R.nil ?_
            refine X.then_ ?_
            refine wp_seq ?_
            refine C.cut (J := fun a w => ∃ (c7 : Bool), M_field_grow_k5 l6 c6 next3 n3 y3 c7 ∧ FrOk 73 [(0, (pn fg 0)), (1, .slice lA l6.length lC), (4, .bool c6), (6, iv x1), (7, (pn g1 0)), (10, iv n3), (11, iv y3), (13, .slice lA l6.length lC), (14, iv (l2.length : Int)), (15, iv n2), (27, .slice y2A y2.length y2C), (28, iv (y2.length : Int)), (29, iv (k3 : Int)), (66, .bool c7)] a ∧ Sat w0 F0 [hbox g2 28 [iv xk3.X, iv xk3.Y, iv xk3.Layer], hown 28 y2A y2C y2, hbox g1 28 [iv y1.X, iv y1.Y, iv y1.Layer], hown 3 lA lC l6] w) ?_ ?_
            · rintro a w ⟨c7, h, hf, hs⟩
              unfold M_field_grow_k5 at h
              refine C.cond hf (b := c7) rfl (fun hc => ?_) (fun hc => ?_)
              · replace h := h.1 hc
                refine R.list ?_
                refine S.p hf hs (.slice lA l6.length lC) rfl rfl fun a hf => ?_
                refine S.p hf hs (iv y3) rfl rfl fun a hf => ?_
                refine S.p hf hs (iv n3) rfl rfl fun a hf => ?_
                obtain ⟨h0x2, x2, hx2, h⟩ := h
                refine S.v hf hs (elemPtr lA (y3.toNat * 1)) rfl (V.index rfl rfl rfl Try.runUnderlying55 Try.sizeOf3 (hs.ownSome 3 rfl (lt_of_get hx2)) h0x2 (lt_of_get hx2) rfl) fun a hf => ?_
                refine S.storeOwn (off := 0) 3 hf hs rfl rfl n3 [iv n3] rfl hx2 rfl rfl rfl rfl rfl Try.sizeOf3 rfl (by decide) rfl rfl (fun a w hf hs => ?_)
                replace hf := hf.tell 1 (v := .slice lA (l6.set y3.toNat n3).length lC) ((hf.get 1 (.slice lA l6.length lC) rfl).trans (congrArg (fun n => Value.slice lA n lC) List.length_set.symm))
                replace hf := hf.tell 13 (v := .slice lA (l6.set y3.toNat n3).length lC) ((hf.get 13 (.slice lA l6.length lC) rfl).trans (congrArg (fun n => Value.slice lA n lC) List.length_set.symm))
                replace hf := hf.tell 67 (v := .slice lA (l6.set y3.toNat n3).length lC) ((hf.get 67 (.slice lA l6.length lC) rfl).trans (congrArg (fun n => Value.slice lA n lC) List.length_set.symm))
                refine S.p hf hs (.bool true) rfl rfl fun a hf => ?_
                refine R.nil ?_
                refine X.blk ?_
                refine X.then_ ?_
                refine R.list ?_
                refine S.v hf hs (iv ((k3 + 1 : Nat) : Int)) rfl (V.incr rfl rfl rfl hltk3 hlenk3) fun a hf => ?_
                refine S.p hf hs (iv ((k3 + 1 : Nat) : Int)) rfl rfl fun a hf => ?_
                refine R.nil ?_
                refine X.then_ ?_
                exact ⟨xk3, llk3, rfl, k3 + 1, (l6.set y3.toNat n3), (List.length_set.trans hl_l6), true, range_drop hlk3, range_len hkk3, (by rw [hnext3] at h; exact h), (((((((((((hf.nil.cons (hf.get 28 _ rfl)).cons (hf.get 27 _ rfl)).cons (hf.get 15 _ rfl)).cons (hf.get 14 _ rfl)).cons (hf.get 13 _ rfl)).cons (hf.get 7 _ rfl)).cons (hf.get 6 _ rfl)).cons (hf.get 4 _ rfl)).cons (hf.get 1 _ rfl)).cons (hf.get 0 _ rfl)).cons (hf.get 29 _ rfl)), hs.drop⟩
              · replace h := h.2 hc
                refine wp_skip ?_
                refine X.blk ?_
                refine X.then_ ?_
                refine R.list ?_
                refine S.v hf hs (iv ((k3 + 1 : Nat) : Int)) rfl (V.incr rfl rfl rfl hltk3 hlenk3) fun a hf => ?_
                refine S.p hf hs (iv ((k3 + 1 : Nat) : Int)) rfl rfl fun a hf => ?_
                refine R.nil ?_
                refine X.then_ ?_
                exact ⟨xk3, llk3, rfl, k3 + 1, l6, hl_l6, c6, range_drop hlk3, range_len hkk3, (by rw [hnext3] at h; exact h), (((((((((((hf.nil.cons (hf.get 28 _ rfl)).cons (hf.get 27 _ rfl)).cons (hf.get 15 _ rfl)).cons (hf.get 14 _ rfl)).cons (hf.get 13 _ rfl)).cons (hf.get 7 _ rfl)).cons (hf.get 6 _ rfl)).cons (hf.get 4 _ rfl)).cons (hf.get 1 _ rfl)).cons (hf.get 0 _ rfl)).cons (hf.get 29 _ rfl)), hs.drop⟩
            · skip
              refine R.list ?_
              refine S.p hf hs (.slice lA l6.length lC) rfl rfl fun a hf => ?_
              refine S.p hf hs (iv y3) rfl rfl fun a hf => ?_
              obtain ⟨h0x3, x3, hx3, h⟩ := h
              refine S.v hf hs (elemPtr lA (y3.toNat * 1)) rfl (V.index rfl rfl rfl Try.runUnderlying55 Try.sizeOf3 (hs.ownSome 3 rfl (lt_of_get hx3)) h0x3 (lt_of_get hx3) rfl) fun a hf => ?_
              refine S.v hf hs (iv x3) rfl (V.loadOwn (off := 0) 3 rfl hx3 rfl rfl rfl Try.isAgg3 Try.sizeOf3 rfl rfl) fun a hf => ?_
              refine S.p hf hs (.bool (decide (x3 < 0))) rfl rfl fun a hf => ?_
              refine S.split hf hs (b := decide (x3 < 0)) rfl rfl rfl (V.pure rfl) (fun hc a hf => ?_) (fun hc a hf => ?_)
              · replace h := h.1 hc
                refine S.k hf rfl fun a hf => ?_
                refine S.k hf rfl fun a hf => ?_
                refine S.k hf rfl fun a hf => ?_
                refine S.k hf rfl fun a hf => ?_
                refine S.k hf rfl fun a hf => ?_
                refine S.k hf rfl fun a hf => ?_
                refine S.p hf hs (.bool true) rfl rfl fun a hf => ?_
                refine R.nil ?_
                refine X.then_ ?_
                exact ⟨true, h, ((((((((((((((hf.nil.cons (hf.get 66 _ rfl)).cons (hf.get 29 _ rfl)).cons (hf.get 28 _ rfl)).cons (hf.get 27 _ rfl)).cons (hf.get 15 _ rfl)).cons (hf.get 14 _ rfl)).cons (hf.get 13 _ rfl)).cons (hf.get 11 _ rfl)).cons (hf.get 10 _ rfl)).cons (hf.get 7 _ rfl)).cons (hf.get 6 _ rfl)).cons (hf.get 4 _ rfl)).cons (hf.get 1 _ rfl)).cons (hf.get 0 _ rfl)), hs⟩
              · replace h := h.2 hc
                refine S.p hf hs (iv n3) rfl rfl fun a hf => ?_
                refine S.p hf hs (.slice lA l6.length lC) rfl rfl fun a hf => ?_
                refine S.p hf hs (iv y3) rfl rfl fun a hf => ?_
                refine S.v hf hs (elemPtr lA (y3.toNat * 1)) rfl (V.index rfl rfl rfl Try.runUnderlying55 Try.sizeOf3 (hs.ownSome 3 rfl (lt_of_get hx3)) h0x3 (lt_of_get hx3) rfl) fun a hf => ?_
                refine S.v hf hs (iv x3) rfl (V.loadOwn (off := 0) 3 rfl hx3 rfl rfl rfl Try.isAgg3 Try.sizeOf3 rfl rfl) fun a hf => ?_
                refine S.p hf hs (.bool (decide (n3 < x3))) rfl rfl fun a hf => ?_
                refine S.p hf hs (.bool (decide (n3 < x3))) rfl rfl fun a hf => ?_
                refine R.nil ?_
                refine X.then_ ?_
                exact ⟨(decide (n3 < x3)), h, ((((((((((((((hf.nil.cons (hf.get 66 _ rfl)).cons (hf.get 29 _ rfl)).cons (hf.get 28 _ rfl)).cons (hf.get 27 _ rfl)).cons (hf.get 15 _ rfl)).cons (hf.get 14 _ rfl)).cons (hf.get 13 _ rfl)).cons (hf.get 11 _ rfl)).cons (hf.get 10 _ rfl)).cons (hf.get 7 _ rfl)).cons (hf.get 6 _ rfl)).cons (hf.get 4 _ rfl)).cons (hf.get 1 _ rfl)).cons (hf.get 0 _ rfl)), hs⟩
          · skip
            refine wp_seq ?_
            refine R.list ?_
            refine S.v hf hs (.agg #[iv y1.X, iv y1.Y, iv y1.Layer]) rfl (V.loadBox 2 rfl rfl rfl Try.isAgg28 Try.sizeOf28 rfl rfl) fun a hf => ?_
            refine S.v hf hs (.agg #[iv xk3.X, iv xk3.Y, iv xk3.Layer]) rfl (V.loadBox 0 rfl rfl rfl Try.isAgg28 Try.sizeOf28 rfl rfl) fun a hf => ?_
            refine S.call hf rfl rfl rfl (call_fn (vs := [.agg #[iv y1.X, iv y1.Y, iv y1.Layer], .agg #[iv xk3.X, iv xk3.Y, iv xk3.Layer]]) rfl rfl rfl Try.call79) (R_ref7_along y1 xk3 _  _ h) (fun v a w' hf hr => ?_)
            obtain ⟨y4, rfl, h2, hs2⟩ := hr
            replace h := h2; replace hs := hs.call hs2; clear h2 hs2
            refine S.p hf hs (.bool (y4 == 3)) rfl rfl fun a hf => ?_
            refine R.nil ?_
            refine X.then_ ?_
            refine C.cond hf (b := y4 == 3) rfl (fun hc => ?_) (fun hc => ?_)
            · replace h := h.1 hc
              refine R.list ?_
              refine S.p hf hs (iv x1) rfl rfl fun a hf => ?_
              refine S.p hf hs ((pn fg 0)) rfl rfl fun a hf => ?_
              refine S.p hf hs ((pn fg 0)) rfl rfl fun a hf => ?_
              refine S.v hf hs ((pn fg 4)) rfl (V.fieldBox rfl rfl Try.runUnderlying72 rfl Try.sizeOf26 rfl rfl) fun a hf => ?_
              refine S.v hf hs ((pn fg 5)) rfl (V.fieldBox rfl rfl Try.runUnderlying26 rfl Try.sizeOf3 rfl rfl) fun a hf => ?_
              refine S.v hf hs (iv f.c.Via) rfl (V.loadAt0 (off := 5) (Ag.args _ _ _) hb_f rfl rfl Try.isAgg3 Try.sizeOf3 rfl rfl) fun a hf => ?_
              refine S.p hf hs (iv (w64 (x1 + f.c.Via))) rfl rfl fun a hf => ?_
              refine S.p hf hs (iv (w64 (x1 + f.c.Via))) rfl rfl fun a hf => ?_
              refine R.nil ?_
              refine X.then_ ?_
              exact ⟨(w64 (x1 + f.c.Via)), h, (((((((((((((hf.nil.cons (hf.get 29 _ rfl)).cons (hf.get 28 _ rfl)).cons (hf.get 27 _ rfl)).cons (hf.get 15 _ rfl)).cons (hf.get 14 _ rfl)).cons (hf.get 13 _ rfl)).cons (hf.get 10 _ rfl)).cons (hf.get 9 _ rfl)).cons (hf.get 7 _ rfl)).cons (hf.get 6 _ rfl)).cons (hf.get 4 _ rfl)).cons (hf.get 1 _ rfl)).cons (hf.get 0 _ rfl)), hs⟩
            · replace h := h.2 hc
              refine wp_skip ?_
              refine X.then_ ?_
              exact ⟨(w64 (x1 + f.c.Step)), h, (((((((((((((hf.nil.cons (hf.get 29 _ rfl)).cons (hf.get 28 _ rfl)).cons (hf.get 27 _ rfl)).cons (hf.get 15 _ rfl)).cons (hf.get 14 _ rfl)).cons (hf.get 13 _ rfl)).cons (hf.get 10 _ rfl)).cons (hf.get 9 _ rfl)).cons (hf.get 7 _ rfl)).cons (hf.get 6 _ rfl)).cons (hf.get 4 _ rfl)).cons (hf.get 1 _ rfl)).cons (hf.get 0 _ rfl)), hs⟩
    · replace h := h.2 hc
      refine wp_exit ?_
      refine X.then_exit ?_
      refine X.then_exit ?_
      refine X.blk_exit ?_
      refine X.blk ?_
      refine X.then_ ?_
      exact ⟨l4, hl_l4, c4, (by rw [hagain1] at h; exact h), (((hf.nil.cons (hf.get 4 _ rfl)).cons (hf.get 1 _ rfl)).cons (hf.get 0 _ rfl)), hs⟩
  · replace h := h.2 hc
    refine wp_exit ?_
    refine X.then_exit ?_
    refine X.then_exit ?_
    refine X.blk_exit ?_
    replace hs := hs.take 1
    exact L.end0 Try.results62 hf ⟨l2, hl_l2, rfl, h, hs⟩

set_option linter.unusedVariables false
def M_ref7_bitOf_L1 (Q : Int → Prop) (again1 : Int → Int → Prop) (n3 : Int) (n4 : Int) : Prop :=
  cnd (decide (n3 > 1)) (again1 (w64 (n3.tdiv 2)) (w64 (n4 + 1))) (Q n4)
def M_ref7_bitOf (m : Int) (Q : Int → Prop) : Prop :=
  lp (fun again (s : Int × Int) => M_ref7_bitOf_L1 Q (fun n3 n4 => again (n3, n4)) s.1 s.2) (m, 0)
set_option maxHeartbeats 1000000 in
theorem R_ref7_bitOf (m : Int) (w0 : World)  (Q : Int → Prop) (h : M_ref7_bitOf m Q) :
    Ret Try.prog 61 #[iv m] w0 fun v w' => ∃ (r0 : Int), v = iv r0 ∧ Q r0 ∧ Sat w0 none_ [] w' := by
  refine fn_enter Try.func61 rfl Try.ntmps61 rfl (fs := [(0, iv m)]) rfl (fun a hf => ?_)
  have hs := Sat.start w0 none_
  unfold M_ref7_bitOf at h
  refine wp_seq ?_
  refine R.list ?_
  refine S.p hf hs (iv 0) rfl rfl fun a hf => ?_
  refine R.nil ?_
  refine X.then_ ?_
  refine wp_seq ?_
  refine R.list ?_
  refine S.p hf hs (iv 0) rfl rfl fun a hf => ?_
  refine R.nil ?_
  refine X.then_ ?_
  refine wp_seq ?_
  refine wp_block ?_
  obtain ⟨kk, h⟩ := h
  refine C.loop (fun kk a w => ∃ (n3 : Int) (n4 : Int), iterF (fun again (s : Int × Int) => M_ref7_bitOf_L1 Q (fun n3 n4 => again (n3, n4)) s.1 s.2) kk (n3, n4) ∧ FrOk 11 [(0, iv n3), (3, iv n4)] a ∧ Sat w0 none_ [] w) kk ⟨m, 0, h, ((hf.nil.cons (hf.get 3 _ rfl)).cons (hf.get 0 _ rfl)), hs⟩ (fun a w ⟨_, _, h, _, _⟩ => h) ?_
  clear h hf hs
  rintro kk a w ⟨n3, n4, h, hf, hs⟩
  obtain ⟨again1, hagain1⟩ : ∃ X : Int → Int → Prop, X = (fun n3 n4 => iterF (fun again (s : Int × Int) => M_ref7_bitOf_L1 Q (fun n3 n4 => again (n3, n4)) s.1 s.2) kk (n3, n4)) := ⟨_, rfl⟩
  replace h : M_ref7_bitOf_L1 Q again1 n3 n4 := by rw [hagain1]; exact h
  unfold M_ref7_bitOf_L1 at h
  refine wp_seq ?_
  refine wp_seq ?_
  refine R.list ?_
  refine S.p hf hs (iv n3) rfl rfl fun a hf => ?_
  refine S.p hf hs (.bool (decide (n3 > 1))) rfl rfl fun a hf => ?_
  refine R.nil ?_
  refine X.then_ ?_
  refine C.cond hf (b := decide (n3 > 1)) rfl (fun hc => ?_) (fun hc => ?_)
  · replace h := h.1 hc
    refine wp_skip ?_
    refine X.then_ ?_
    refine wp_block ?_
    refine R.list ?_
    refine S.p hf hs (iv n3) rfl rfl fun a hf => ?_
    refine S.v hf hs (iv (w64 (n3.tdiv 2))) rfl (V.quo rfl rfl rfl (by decide)) fun a hf => ?_
    refine S.p hf hs (iv n4) rfl rfl fun a hf => ?_
    refine S.p hf hs (iv (w64 (n4 + 1))) rfl rfl fun a hf => ?_
    refine S.p hf hs (iv (w64 (n3.tdiv 2))) rfl rfl fun a hf => ?_
    refine S.p hf hs (iv (w64 (n4 + 1))) rfl rfl fun a hf => ?_
    refine R.nil ?_
    refine X.blk ?_
    refine X.then_ ?_
    exact ⟨(w64 (n3.tdiv 2)), (w64 (n4 + 1)), (by rw [hagain1] at h; exact h), ((hf.nil.cons (hf.get 3 _ rfl)).cons (hf.get 0 _ rfl)), hs⟩
  · replace h := h.2 hc
    refine wp_exit ?_
    refine X.then_exit ?_
    refine X.then_exit ?_
    refine X.blk_exit ?_
    refine X.then_ ?_
    refine wp_seq ?_
    refine R.list ?_
    refine S.p hf hs (iv n4) rfl rfl fun a hf => ?_
    refine S.p hf hs (iv n4) rfl rfl fun a hf => ?_
    refine R.nil ?_
    refine X.then_ ?_
    refine wp_ret ?_
    exact L.ret hf (run_results1 Try.results61 (ResIs.tmp hf rfl)) ⟨n4, rfl, h, hs.nil⟩


end Go.Proofs.Ytihjaehkdgdenaa
