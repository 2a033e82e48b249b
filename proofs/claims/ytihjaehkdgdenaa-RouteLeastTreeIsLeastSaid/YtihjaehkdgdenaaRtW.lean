/- Chapter 7: pins, and costs that spread: plain laws. -/
import Derived.Test.YtihjaehkdgdenaaRtH
import Derived.Test.YtihjaehkdgdenaaRelax
import Derived.Test.YtihjaehkdgdenaaRtC
import Derived.Test.YtihjaehkdgdenaaRtG
namespace Go.Proofs.Ytihjaehkdgdenaa
open Go Go.RowKit
set_option linter.unusedVariables false
set_option linter.unusedSimpArgs false

set_option linter.unusedVariables false
def M_route_checkPins_L1 (g : Grid) (no : (List Bool)) (pins : (List Cell)) (Q : Int → Prop) (k1 : Nat) (xk1 : Cell)  (next1 : Prop) : Prop :=
  M_route_isCell g xk1 fun y1 => cnd (!y1) (Q 1) (M_route_number g xk1 fun y2 => idx no y2 fun x1 => cnd x1 (Q 14) (must (0 ≤ (0 : Int) ∧ (0 : Int) ≤ (k1 : Int) ∧ (k1 : Int) ≤ (pins.length : Int)) (M_contains_cell (seg pins (0 : Int) (k1 : Int)) xk1 fun y3 => cnd y3 (Q 7) (next1))))
def M_route_checkPins (g : Grid) (no : (List Bool)) (pins : (List Cell)) (most : Int) (Q : Int → Prop) : Prop :=
  cnd ((pins.length : Int) == 0) (Q 9) (cnd (decide ((pins.length : Int) > most)) (Q 2) (forIn' (fun k x (s : Unit) next => M_route_checkPins_L1 g no pins Q k x (next ())) (fun (s : Unit) => Q 0) pins 0 ()))
set_option maxHeartbeats 1000000 in
theorem R_route_checkPins (g : Grid) (no : (List Bool)) (pins : (List Cell)) (most : Int) (w0 : World) (g_BlockedA : Option Addr) (g_BlockedC : Nat) (hv_g_Blocked : View w0 (old w0 none_) g_BlockedA g_BlockedC g.Blocked) (noA : Option Addr) (noC : Nat) (hv_no : View w0 (old w0 none_) noA noC no) (pinsA : Option Addr) (pinsC : Nat) (hv_pins : View w0 (old w0 none_) pinsA pinsC pins) (Q : Int → Prop) (h : M_route_checkPins g no pins most Q) :
    Ret Try.prog 57 #[.agg #[iv g.W, iv g.H, iv g.Layers, .slice g_BlockedA g.Blocked.length g_BlockedC], .slice noA no.length noC, .slice pinsA pins.length pinsC, iv most] w0 fun v w' => ∃ (r0 : Int), v = iv r0 ∧ Q r0 ∧ Sat w0 none_ [] w' := by
  refine fn_enter Try.func57 rfl Try.ntmps57 rfl (fs := [(0, .agg #[iv g.W, iv g.H, iv g.Layers, .slice g_BlockedA g.Blocked.length g_BlockedC]), (1, .slice noA no.length noC), (2, .slice pinsA pins.length pinsC), (3, iv most)]) rfl (fun a hf => ?_)
  have hs := Sat.start w0 none_
  unfold M_route_checkPins at h
  refine wp_seq ?_
  refine R.list ?_
  refine S.box hf hs rfl rfl rfl [iv g.W, iv g.H, iv g.Layers, .slice g_BlockedA g.Blocked.length g_BlockedC] rfl rfl rfl (fun g1 a w hf hs => ?_)
  refine S.p hf hs (iv 0) rfl rfl fun a hf => ?_
  refine R.nil ?_
  refine X.then_ ?_
  refine wp_seq ?_
  refine wp_seq ?_
  refine R.list ?_
  refine S.p hf hs (.slice pinsA pins.length pinsC) rfl rfl fun a hf => ?_
  refine S.v hf hs (iv (pins.length : Int)) rfl (V.len rfl rfl Try.runUnderlying22) fun a hf => ?_
  refine S.p hf hs (.bool ((pins.length : Int) == 0)) rfl rfl fun a hf => ?_
  refine R.nil ?_
  refine X.then_ ?_
  refine C.cond hf (b := (pins.length : Int) == 0) rfl (fun hc => ?_) (fun hc => ?_)
  · replace h := h.1 hc
    refine wp_seq ?_
    refine R.list ?_
    refine S.p hf hs (iv 9) rfl rfl fun a hf => ?_
    refine R.nil ?_
    refine X.then_ ?_
    refine wp_ret ?_
    refine X.then_ret ?_
    exact L.ret hf (run_results1 Try.results57 (ResIs.tmp hf rfl)) ⟨9, rfl, h, hs.nil⟩
  · replace h := h.2 hc
    refine wp_skip ?_
    refine X.then_ ?_
    refine wp_seq ?_
    refine wp_seq ?_
    refine R.list ?_
    refine S.p hf hs (.slice pinsA pins.length pinsC) rfl rfl fun a hf => ?_
    refine S.v hf hs (iv (pins.length : Int)) rfl (V.len rfl rfl Try.runUnderlying22) fun a hf => ?_
    refine S.p hf hs (iv most) rfl rfl fun a hf => ?_
    refine S.p hf hs (.bool (decide ((pins.length : Int) > most))) rfl rfl fun a hf => ?_
    refine R.nil ?_
    refine X.then_ ?_
    refine C.cond hf (b := decide ((pins.length : Int) > most)) rfl (fun hc => ?_) (fun hc => ?_)
    · replace h := h.1 hc
      refine wp_seq ?_
      refine R.list ?_
      refine S.p hf hs (iv 2) rfl rfl fun a hf => ?_
      refine R.nil ?_
      refine X.then_ ?_
      refine wp_ret ?_
      refine X.then_ret ?_
      exact L.ret hf (run_results1 Try.results57 (ResIs.tmp hf rfl)) ⟨2, rfl, h, hs.nil⟩
    · replace h := h.2 hc
      refine wp_skip ?_
      refine X.then_ ?_
      refine wp_seq ?_
      refine wp_seq ?_
      refine R.list ?_
      refine S.p hf hs (.slice pinsA pins.length pinsC) rfl rfl fun a hf => ?_
      refine S.v hf hs (iv (pins.length : Int)) rfl (V.len rfl rfl Try.runUnderlying22) fun a hf => ?_
      refine S.p hf hs (iv 0) rfl rfl fun a hf => ?_
      refine R.nil ?_
      refine X.then_ ?_
      refine wp_block ?_
      have hlenk1 := hv_pins.len64
      refine C.range (fun (ll : List Cell) a w => ∃ (k1 : Nat) , pins.drop k1 = ll ∧ k1 + ll.length = pins.length ∧ forIn' (fun k x (s : Unit) next => M_route_checkPins_L1 g no pins Q k x (next ())) (fun (s : Unit) => Q 0) ll k1 () ∧ FrOk 44 [(20, iv (k1 : Int)), (1, .slice noA no.length noC), (2, .slice pinsA pins.length pinsC), (4, (pn g1 0)), (18, .slice pinsA pins.length pinsC), (19, iv (pins.length : Int))] a ∧ Sat w0 none_ [hbox g1 24 [iv g.W, iv g.H, iv g.Layers, .slice g_BlockedA g.Blocked.length g_BlockedC]] w) pins ⟨0, rfl, Nat.zero_add _, h, ((((((hf.nil.cons (hf.get 19 _ rfl)).cons (hf.get 18 _ rfl)).cons (hf.get 4 _ rfl)).cons (hf.get 2 _ rfl)).cons (hf.get 1 _ rfl)).cons (hf.get 20 _ rfl)), hs⟩ ?_
      clear h hf hs
      rintro llk1 a w ⟨k1, hlk1, hkk1, h, hf, hs⟩
      cases llk1 with
      | nil =>
        have hc := range_done hkk1
        replace h : Q 0 := h
        refine wp_seq ?_
        refine R.list ?_
        refine S.v hf hs (.bool false) rfl (V.cmp false rfl rfl rfl rfl hc) fun a hf => ?_
        refine R.nil ?_
        refine X.then_ ?_
        refine wp_seq ?_
        refine C.no hf rfl ?_
        refine wp_exit ?_
        refine X.then_exit ?_
        refine X.then_exit ?_
        refine X.blk_exit ?_
        refine X.then_ ?_
        refine wp_seq ?_
        refine R.list ?_
        refine S.p hf hs (iv 0) rfl rfl fun a hf => ?_
        refine R.nil ?_
        refine X.then_ ?_
        refine wp_ret ?_
        exact L.ret hf (run_results1 Try.results57 (ResIs.tmp hf rfl)) ⟨0, rfl, h, hs.nil⟩
      | cons xk1 llk1 =>
        have hltk1 := range_lt hkk1; have hc := range_go hkk1; have hxk1 := range_get hlk1
        obtain ⟨next1, hnext1⟩ : ∃ X : Prop, X = (forIn' (fun k x (s : Unit) next => M_route_checkPins_L1 g no pins Q k x (next ())) (fun (s : Unit) => Q 0) llk1 (k1 + 1) ()) := ⟨_, rfl⟩
        replace h : M_route_checkPins_L1 g no pins Q k1 xk1  next1 := by rw [hnext1]; exact h
        unfold M_route_checkPins_L1 at h
        refine wp_seq ?_
        refine R.list ?_
        refine S.v hf hs (.bool true) rfl (V.cmp true rfl rfl rfl rfl hc) fun a hf => ?_
        refine R.nil ?_
        refine X.then_ ?_
        refine wp_seq ?_
        refine C.yes hf rfl ?_
        refine wp_skip ?_
        refine X.then_ ?_
        refine wp_seq ?_
        refine wp_block ?_
        refine wp_seq ?_
        refine R.list ?_
        refine S.p hf hs (iv (k1 : Int)) rfl rfl fun a hf => ?_
        refine S.v hf hs (elemPtr pinsA (k1 * 3)) rfl (V.index rfl rfl rfl Try.runUnderlying22 Try.sizeOf28 (hv_pins.some_ (lt_of_get hxk1)) (Int.natCast_nonneg _) (lt_of_get hxk1) rfl) fun a hf => ?_
        refine S.v hf hs (.agg #[iv xk1.X, iv xk1.Y, iv xk1.Layer]) rfl (V.loadEl (off := 0) (Ag.args _ _ _) (hv_pins.flat hxk1) rfl rfl rfl Try.isAgg28 Try.sizeOf28 rfl rfl) fun a hf => ?_
        refine S.alloc hf hs rfl rfl rfl [iv 0, iv 0, iv 0] rfl Try.zeroValue28 rfl (fun g2 a w hf hs => ?_)
        refine S.p hf hs (iv (k1 : Int)) rfl rfl fun a hf => ?_
        refine S.storeBox 0 hf hs rfl rfl [iv xk1.X, iv xk1.Y, iv xk1.Layer] [iv xk1.X, iv xk1.Y, iv xk1.Layer] rfl rfl rfl rfl rfl Try.sizeOf28 rfl rfl rfl rfl (fun a w hf hs => ?_)
        refine R.nil ?_
        refine X.then_ ?_
        refine wp_block ?_
        refine wp_seq ?_
        refine R.list ?_
        refine S.v hf hs (.agg #[iv g.W, iv g.H, iv g.Layers, .slice g_BlockedA g.Blocked.length g_BlockedC]) rfl (V.loadBox 1 rfl rfl rfl Try.isAgg24 Try.sizeOf24 rfl rfl) fun a hf => ?_
        refine S.v hf hs (.agg #[iv xk1.X, iv xk1.Y, iv xk1.Layer]) rfl (V.loadBox 0 rfl rfl rfl Try.isAgg28 Try.sizeOf28 rfl rfl) fun a hf => ?_
        refine S.call hf rfl rfl rfl (call_fn (vs := [.agg #[iv g.W, iv g.H, iv g.Layers, .slice g_BlockedA g.Blocked.length g_BlockedC], .agg #[iv xk1.X, iv xk1.Y, iv xk1.Layer]]) rfl rfl rfl Try.call54) (R_route_isCell g xk1 _ g_BlockedA g_BlockedC ((Ag.args _ _ _).view hv_g_Blocked hs) _ h) (fun v a w' hf hr => ?_)
        obtain ⟨y1, rfl, h2, hs2⟩ := hr
        replace h := h2; replace hs := hs.call hs2; clear h2 hs2
        refine S.p hf hs (.bool (!y1)) rfl rfl fun a hf => ?_
        refine S.p hf hs (.bool (!y1)) rfl rfl fun a hf => ?_
        refine R.nil ?_
        refine X.then_ ?_
        refine C.cond hf (b := !y1) rfl (fun hc => ?_) (fun hc => ?_)
        · replace h := h.1 hc
          refine wp_seq ?_
          refine R.list ?_
          refine S.p hf hs (iv 1) rfl rfl fun a hf => ?_
          refine R.nil ?_
          refine X.then_ ?_
          refine wp_ret ?_
          refine X.blk_ret ?_
          refine X.blk_ret ?_
          refine X.then_ret ?_
          refine X.then_ret ?_
          refine X.blk_ret ?_
          refine X.then_ret ?_
          exact L.ret hf (run_results1 Try.results57 (ResIs.tmp hf rfl)) ⟨1, rfl, h, hs.nil⟩
        · replace h := h.2 hc
          refine wp_seq ?_
          refine R.list ?_
          refine S.p hf hs (.slice noA no.length noC) rfl rfl fun a hf => ?_
          refine S.v hf hs (.agg #[iv g.W, iv g.H, iv g.Layers, .slice g_BlockedA g.Blocked.length g_BlockedC]) rfl (V.loadBox 1 rfl rfl rfl Try.isAgg24 Try.sizeOf24 rfl rfl) fun a hf => ?_
          refine S.v hf hs (.agg #[iv xk1.X, iv xk1.Y, iv xk1.Layer]) rfl (V.loadBox 0 rfl rfl rfl Try.isAgg28 Try.sizeOf28 rfl rfl) fun a hf => ?_
          refine S.call hf rfl rfl rfl (call_fn (vs := [.agg #[iv g.W, iv g.H, iv g.Layers, .slice g_BlockedA g.Blocked.length g_BlockedC], .agg #[iv xk1.X, iv xk1.Y, iv xk1.Layer]]) rfl rfl rfl Try.call36) (R_route_number g xk1 _ g_BlockedA g_BlockedC ((Ag.args _ _ _).view hv_g_Blocked hs) _ h) (fun v a w' hf hr => ?_)
          obtain ⟨y2, rfl, h2, hs2⟩ := hr
          replace h := h2; replace hs := hs.call hs2; clear h2 hs2
          obtain ⟨h0x1, x1, hx1, h⟩ := h
          refine S.v hf hs (elemPtr noA (y2.toNat * 1)) rfl (V.index rfl rfl rfl Try.runUnderlying66 Try.sizeOf4 (hv_no.some_ (lt_of_get hx1)) h0x1 (lt_of_get hx1) rfl) fun a hf => ?_
          refine S.v hf hs (.bool x1) rfl (V.loadEl (off := 0) (Ag.args _ _ _) (hv_no.flat hx1) rfl rfl rfl Try.isAgg4 Try.sizeOf4 rfl rfl) fun a hf => ?_
          refine S.p hf hs (.bool x1) rfl rfl fun a hf => ?_
          refine R.nil ?_
          refine X.then_ ?_
          refine C.cond hf (b := x1) rfl (fun hc => ?_) (fun hc => ?_)
          · replace h := h.1 hc
            refine wp_seq ?_
            refine R.list ?_
            refine S.p hf hs (iv 14) rfl rfl fun a hf => ?_
            refine R.nil ?_
            refine X.then_ ?_
            refine wp_ret ?_
            refine X.blk_ret ?_
            refine X.blk_ret ?_
            refine X.then_ret ?_
            refine X.then_ret ?_
            refine X.blk_ret ?_
            refine X.then_ret ?_
            exact L.ret hf (run_results1 Try.results57 (ResIs.tmp hf rfl)) ⟨14, rfl, h, hs.nil⟩
          · replace h := h.2 hc
            refine wp_seq ?_
            refine H.start (S := Sat w0 none_ [hbox g2 28 [iv xk1.X, iv xk1.Y, iv xk1.Layer], hbox g1 24 [iv g.W, iv g.H, iv g.Layers, .slice g_BlockedA g.Blocked.length g_BlockedC]]) mo ?_
            replace hs := hs.drew
            refine H.v hf hs (.slice pinsA pins.length pinsC) 0 rfl rfl (by kernel_rfl) (V.pure rfl) fun a hf => ?_
            refine H.v hf hs (iv (k1 : Int)) 1 rfl rfl (by kernel_rfl) (V.pure rfl) fun a hf => ?_
            obtain ⟨hp1, h⟩ := h
            refine H.v hf hs (.slice (segA pinsA pinsC ((0 : Int) : Int).toNat 3) (seg pins (0 : Int) (k1 : Int)).length (pinsC - ((0 : Int) : Int).toNat)) 2 rfl rfl (by kernel_rfl) (V.slice rfl rfl rfl rfl Try.runUnderlying22 Try.sizeOf28 rfl rfl hp1 hv_pins.cap (seg_length (by have := hp1.2.2; omega))) fun a hf => ?_
            refine H.v hf hs (.agg #[iv xk1.X, iv xk1.Y, iv xk1.Layer]) 3 rfl rfl (by kernel_rfl) (V.loadBox 0 rfl rfl rfl Try.isAgg28 Try.sizeOf28 rfl rfl) fun a hf => ?_
            refine H.one (i := 4) rfl (by kernel_rfl) ?_
            refine S.call hf rfl rfl rfl (call_fn (vs := [.slice (segA pinsA pinsC ((0 : Int) : Int).toNat 3) (seg pins (0 : Int) (k1 : Int)).length (pinsC - ((0 : Int) : Int).toNat), .agg #[iv xk1.X, iv xk1.Y, iv xk1.Layer]]) rfl rfl rfl Try.call71) (R_contains_cell (seg pins (0 : Int) (k1 : Int)) xk1 _ (segA pinsA pinsC ((0 : Int) : Int).toNat 3) (pinsC - ((0 : Int) : Int).toNat) ((Ag.args _ _ _).view (View.sub hv_pins hp1) hs) _ h) (fun v a w' hf hr => ?_)
            obtain ⟨y3, rfl, h2, hs2⟩ := hr
            replace h := h2; replace hs := hs.call hs2; clear h2 hs2
            refine R.nil ?_
            refine X.then_ ?_
            refine ⟨hs, ?_⟩
            refine H.v hf hs (.bool y3) 5 rfl rfl (by kernel_rfl) (V.pure rfl) fun a hf => ?_
            refine H.done (by kernel_rfl) ?_
            refine X.then_ ?_
            refine C.cond hf (b := y3) rfl (fun hc => ?_) (fun hc => ?_)
            · replace h := h.1 hc
              refine wp_seq ?_
              refine R.list ?_
              refine S.p hf hs (iv 7) rfl rfl fun a hf => ?_
              refine R.nil ?_
              refine X.then_ ?_
              refine wp_ret ?_
              refine X.blk_ret ?_
              refine X.blk_ret ?_
              refine X.then_ret ?_
              refine X.then_ret ?_
              refine X.blk_ret ?_
              refine X.then_ret ?_
              exact L.ret hf (run_results1 Try.results57 (ResIs.tmp hf rfl)) ⟨7, rfl, h, hs.nil⟩
            · replace h := h.2 hc
              refine wp_skip ?_
              refine X.blk ?_
              refine X.blk ?_
              refine X.then_ ?_
              refine R.list ?_
              refine S.v hf hs (iv ((k1 + 1 : Nat) : Int)) rfl (V.incr rfl rfl rfl hltk1 hlenk1) fun a hf => ?_
              refine S.p hf hs (iv ((k1 + 1 : Nat) : Int)) rfl rfl fun a hf => ?_
              refine R.nil ?_
              refine X.then_ ?_
              exact ⟨xk1, llk1, rfl, k1 + 1, range_drop hlk1, range_len hkk1, (by rw [hnext1] at h; exact h), ((((((hf.nil.cons (hf.get 19 _ rfl)).cons (hf.get 18 _ rfl)).cons (hf.get 4 _ rfl)).cons (hf.get 2 _ rfl)).cons (hf.get 1 _ rfl)).cons (hf.get 20 _ rfl)), hs.drop⟩


set_option linter.unusedVariables false
def M_spread1_k2 (m : Int) (cost : (List Int)) (more : Bool) (Q : (List Int) → Bool → Prop) (n1 : Int) (c1 : Bool) : Prop :=
  cnd c1 (idx cost m fun x1 => Q (cost.set m.toNat n1) true) (Q cost more)
def M_spread1_k1 (m : Int) (cost : (List Int)) (more : Bool) (Q : (List Int) → Bool → Prop) (n1 : Int) : Prop :=
  idx cost m fun x2 => cnd (decide (x2 < 0)) (M_spread1_k2 m cost more Q n1 true) (M_spread1_k2 m cost more Q n1 (decide (n1 < x2)))
def M_spread1 (m : Int) (along : Int) (x_ : Int) (f : RouteFinder) (cost : (List Int)) (more : Bool) (Q : (List Int) → Bool → Prop) : Prop :=
  cnd (along == 3) (M_spread1_k1 m cost more Q (w64 (x_ + f.c.Via))) (M_spread1_k1 m cost more Q (w64 (x_ + f.c.Step)))
set_option maxHeartbeats 1000000 in
theorem R_spread1 (m : Int) (along : Int) (x_ : Int) (f : RouteFinder) (cost : (List Int)) (more : Bool) (w0 : World) (F0 : Nat → Prop) (x_g : Nat) (hb_x_ : ElemAt w0 (old w0 F0) (some ⟨x_g, 0, none⟩) 0 [iv x_]) (f_g_BlockedA : Option Addr) (f_g_BlockedC : Nat) (hv_f_g_Blocked : View w0 (old w0 F0) f_g_BlockedA f_g_BlockedC f.g.Blocked) (f_noA : Option Addr) (f_noC : Nat) (hv_f_no : View w0 (old w0 F0) f_noA f_noC f.no) (fg : Nat) (hb_f : ElemAt w0 (old w0 F0) (some ⟨fg, 0, none⟩) 0 [iv f.g.W, iv f.g.H, iv f.g.Layers, .slice f_g_BlockedA f.g.Blocked.length f_g_BlockedC, iv f.c.Step, iv f.c.Via, iv f.c.Turn, iv f.c.Against, .slice f_noA f.no.length f_noC]) (fq : Nat) (hq_f : ElemAt w0 (old w0 F0) (some ⟨fq, 0, none⟩) 0 [(pn fg 0)]) (costA : Option Addr) (costC : Nat) (costg : Nat) (hb_cost : ElemAt w0 (old w0 F0) (some ⟨costg, 0, none⟩) 0 [.slice costA cost.length costC]) (moreg : Nat) (hs0 : Sat w0 F0 [hown 3 costA costC cost, hbox moreg 4 [.bool more]] w0) (Q : (List Int) → Bool → Prop) (h : M_spread1 m along x_ f cost more Q) :
    Ret Try.prog 84 #[iv m, iv along, (pn x_g 0), (pn fq 0), (pn costg 0), (pn moreg 0)] w0 fun v w' => ∃ (cost1 : List Int) (hl_cost1 : cost1.length = cost.length) (more1 : Bool), v = .tuple #[] ∧ Q cost1 more1 ∧ Sat w0 F0 [hown 3 costA costC cost1, hbox moreg 4 [.bool more1]] w' := by
  refine fn_enter Try.func84 rfl Try.ntmps84 rfl (fs := [(0, iv m), (1, iv along), (2, (pn x_g 0)), (3, (pn fq 0)), (4, (pn costg 0)), (5, (pn moreg 0))]) rfl (fun a hf => ?_)
  have hs := hs0
  unfold M_spread1 at h
  refine wp_seq ?_
  refine R.draw mo (by kernel_rfl) hs ?_
  refine D.v hf (iv x_) rfl (V.loadAt0 (off := 0) (Ag.args _ _ _) hb_x_ rfl rfl Try.isAgg3 Try.sizeOf3 rfl rfl) fun a hf => ?_
  refine D.v hf ((pn fg 0)) rfl (V.loadAt0 (off := 0) (Ag.args _ _ _) hq_f rfl rfl Try.isAgg52 Try.sizeOf52 rfl rfl) fun a hf => ?_
  refine D.p hf ((pn fg 0)) rfl rfl fun a hf => ?_
  refine D.v hf ((pn fg 4)) rfl (V.fieldBox rfl rfl Try.runUnderlying68 rfl Try.sizeOf26 rfl rfl) fun a hf => ?_
  refine D.v hf ((pn fg 4)) rfl (V.fieldBox rfl rfl Try.runUnderlying26 rfl Try.sizeOf3 rfl rfl) fun a hf => ?_
  refine D.v hf (iv f.c.Step) rfl (V.loadAt0 (off := 4) (Ag.args _ _ _) hb_f rfl rfl Try.isAgg3 Try.sizeOf3 rfl rfl) fun a hf => ?_
  refine D.p hf (iv (w64 (x_ + f.c.Step))) rfl rfl fun a hf => ?_
  refine D.p hf (iv (w64 (x_ + f.c.Step))) rfl rfl fun a hf => ?_
  refine D.done (fun w hs => ?_)
  refine X.then_ ?_
  refine wp_seq ?_
  refine C.cut (J := fun a w => ∃ (n1 : Int), M_spread1_k1 m cost more Q n1 ∧ FrOk 42 [(0, iv m), (4, (pn costg 0)), (5, (pn moreg 0)), (8, iv n1)] a ∧ Sat w0 F0 [hown 3 costA costC cost, hbox moreg 4 [.bool more]] w) ?_ ?_
  · rintro a w ⟨n1, h, hf, hs⟩
    unfold M_spread1_k1 at h
    refine wp_seq ?_
    refine C.cut (J := fun a w => ∃ (c1 : Bool), M_spread1_k2 m cost more Q n1 c1 ∧ FrOk 42 [(0, iv m), (4, (pn costg 0)), (5, (pn moreg 0)), (8, iv n1), (37, .bool c1)] a ∧ Sat w0 F0 [hown 3 costA costC cost, hbox moreg 4 [.bool more]] w) ?_ ?_
    · rintro a w ⟨c1, h, hf, hs⟩
      unfold M_spread1_k2 at h
      refine C.cond hf (b := c1) rfl (fun hc => ?_) (fun hc => ?_)
      · replace h := h.1 hc
        refine R.list ?_
        refine S.v hf hs (.slice costA cost.length costC) rfl (V.loadAt0 (off := 0) (Ag.args _ _ _) hb_cost rfl rfl Try.isAgg55 Try.sizeOf55 rfl rfl) fun a hf => ?_
        refine S.p hf hs (iv m) rfl rfl fun a hf => ?_
        refine S.p hf hs (iv n1) rfl rfl fun a hf => ?_
        obtain ⟨h0x1, x1, hx1, h⟩ := h
        refine S.v hf hs (elemPtr costA (m.toNat * 1)) rfl (V.index rfl rfl rfl Try.runUnderlying55 Try.sizeOf3 (hs.ownSome 0 rfl (lt_of_get hx1)) h0x1 (lt_of_get hx1) rfl) fun a hf => ?_
        refine S.storeOwn (off := 0) 0 hf hs rfl rfl n1 [iv n1] rfl hx1 rfl rfl rfl rfl rfl Try.sizeOf3 rfl (by decide) rfl rfl (fun a w hf hs => ?_)
        replace hf := hf.tell 38 (v := .slice costA (cost.set m.toNat n1).length costC) ((hf.get 38 (.slice costA cost.length costC) rfl).trans (congrArg (fun n => Value.slice costA n costC) List.length_set.symm))
        refine S.storeBox 1 hf hs rfl rfl [.bool true] [.bool true] rfl rfl rfl rfl rfl Try.sizeOf4 rfl rfl rfl rfl (fun a w hf hs => ?_)
        refine R.nil ?_
        replace hs := hs.front 1 rfl
        replace hs := hs.front 1 rfl
        replace hs := hs.take 2
        exact L.end0 Try.results84 hf ⟨(cost.set m.toNat n1), (List.length_set.trans rfl), true, rfl, h, hs⟩
      · replace h := h.2 hc
        refine wp_skip ?_
        replace hs := hs.front 1 rfl
        replace hs := hs.front 1 rfl
        replace hs := hs.take 2
        exact L.end0 Try.results84 hf ⟨cost, rfl, more, rfl, h, hs⟩
    · skip
      refine R.list ?_
      refine S.v hf hs (.slice costA cost.length costC) rfl (V.loadAt0 (off := 0) (Ag.args _ _ _) hb_cost rfl rfl Try.isAgg55 Try.sizeOf55 rfl rfl) fun a hf => ?_
      refine S.p hf hs (iv m) rfl rfl fun a hf => ?_
      obtain ⟨h0x2, x2, hx2, h⟩ := h
      refine S.v hf hs (elemPtr costA (m.toNat * 1)) rfl (V.index rfl rfl rfl Try.runUnderlying55 Try.sizeOf3 (hs.ownSome 0 rfl (lt_of_get hx2)) h0x2 (lt_of_get hx2) rfl) fun a hf => ?_
      refine S.v hf hs (iv x2) rfl (V.loadOwn (off := 0) 0 rfl hx2 rfl rfl rfl Try.isAgg3 Try.sizeOf3 rfl rfl) fun a hf => ?_
      refine S.p hf hs (.bool (decide (x2 < 0))) rfl rfl fun a hf => ?_
      refine S.split hf hs (b := decide (x2 < 0)) rfl rfl rfl (V.pure rfl) (fun hc a hf => ?_) (fun hc a hf => ?_)
      · replace h := h.1 hc
        refine S.k hf rfl fun a hf => ?_
        refine S.k hf rfl fun a hf => ?_
        refine S.k hf rfl fun a hf => ?_
        refine S.k hf rfl fun a hf => ?_
        refine S.k hf rfl fun a hf => ?_
        refine S.k hf rfl fun a hf => ?_
        refine S.p hf hs (.bool true) rfl rfl fun a hf => ?_
        refine R.nil ?_
        refine X.then_ ?_
        exact ⟨true, h, (((((hf.nil.cons (hf.get 37 _ rfl)).cons (hf.get 8 _ rfl)).cons (hf.get 5 _ rfl)).cons (hf.get 4 _ rfl)).cons (hf.get 0 _ rfl)), hs⟩
      · replace h := h.2 hc
        refine S.p hf hs (iv n1) rfl rfl fun a hf => ?_
        refine S.v hf hs (.slice costA cost.length costC) rfl (V.loadAt0 (off := 0) (Ag.args _ _ _) hb_cost rfl rfl Try.isAgg55 Try.sizeOf55 rfl rfl) fun a hf => ?_
        refine S.p hf hs (iv m) rfl rfl fun a hf => ?_
        refine S.v hf hs (elemPtr costA (m.toNat * 1)) rfl (V.index rfl rfl rfl Try.runUnderlying55 Try.sizeOf3 (hs.ownSome 0 rfl (lt_of_get hx2)) h0x2 (lt_of_get hx2) rfl) fun a hf => ?_
        refine S.v hf hs (iv x2) rfl (V.loadOwn (off := 0) 0 rfl hx2 rfl rfl rfl Try.isAgg3 Try.sizeOf3 rfl rfl) fun a hf => ?_
        refine S.p hf hs (.bool (decide (n1 < x2))) rfl rfl fun a hf => ?_
        refine S.p hf hs (.bool (decide (n1 < x2))) rfl rfl fun a hf => ?_
        refine R.nil ?_
        refine X.then_ ?_
        exact ⟨(decide (n1 < x2)), h, (((((hf.nil.cons (hf.get 37 _ rfl)).cons (hf.get 8 _ rfl)).cons (hf.get 5 _ rfl)).cons (hf.get 4 _ rfl)).cons (hf.get 0 _ rfl)), hs⟩
  · skip
    refine wp_seq ?_
    refine R.list ?_
    refine S.p hf hs (iv along) rfl rfl fun a hf => ?_
    refine S.p hf hs (.bool (along == 3)) rfl rfl fun a hf => ?_
    refine R.nil ?_
    refine X.then_ ?_
    refine C.cond hf (b := along == 3) rfl (fun hc => ?_) (fun hc => ?_)
    · replace h := h.1 hc
      refine R.draw mo (by kernel_rfl) hs ?_
      refine D.v hf (iv x_) rfl (V.loadAt0 (off := 0) (Ag.args _ _ _) hb_x_ rfl rfl Try.isAgg3 Try.sizeOf3 rfl rfl) fun a hf => ?_
      refine D.v hf ((pn fg 0)) rfl (V.loadAt0 (off := 0) (Ag.args _ _ _) hq_f rfl rfl Try.isAgg52 Try.sizeOf52 rfl rfl) fun a hf => ?_
      refine D.p hf ((pn fg 0)) rfl rfl fun a hf => ?_
      refine D.v hf ((pn fg 4)) rfl (V.fieldBox rfl rfl Try.runUnderlying68 rfl Try.sizeOf26 rfl rfl) fun a hf => ?_
      refine D.v hf ((pn fg 5)) rfl (V.fieldBox rfl rfl Try.runUnderlying26 rfl Try.sizeOf3 rfl rfl) fun a hf => ?_
      refine D.v hf (iv f.c.Via) rfl (V.loadAt0 (off := 5) (Ag.args _ _ _) hb_f rfl rfl Try.isAgg3 Try.sizeOf3 rfl rfl) fun a hf => ?_
      refine D.p hf (iv (w64 (x_ + f.c.Via))) rfl rfl fun a hf => ?_
      refine D.p hf (iv (w64 (x_ + f.c.Via))) rfl rfl fun a hf => ?_
      refine D.done (fun w hs => ?_)
      refine X.then_ ?_
      exact ⟨(w64 (x_ + f.c.Via)), h, ((((hf.nil.cons (hf.get 8 _ rfl)).cons (hf.get 5 _ rfl)).cons (hf.get 4 _ rfl)).cons (hf.get 0 _ rfl)), hs⟩
    · replace h := h.2 hc
      refine wp_skip ?_
      refine X.then_ ?_
      exact ⟨(w64 (x_ + f.c.Step)), h, ((((hf.nil.cons (hf.get 8 _ rfl)).cons (hf.get 5 _ rfl)).cons (hf.get 4 _ rfl)).cons (hf.get 0 _ rfl)), hs⟩

set_option linter.unusedVariables false
def M_near_spread_k2 (n : Int) (x_ : Int) (f2 : RouteFinder) (l2 : List Int) (b2 : Bool) (n2 : Int) (again1 : List Int → Bool → Int → Prop) (x1 : NearRow) (c1 : Bool) : Prop :=
  cnd c1 (M_spread1 (w64 (n + x1.by_)) x1.along x_ f2 l2 b2 fun z1 z2 => again1 z1 z2 (w64 (n2 + 1))) (again1 l2 b2 (w64 (n2 + 1)))
def M_near_spread_L1 (f : RouteFinder) (n : Int) (x_ : Int) (f2 : RouteFinder) (Q : (List Int) → Bool → Prop) (y1 : Cell) (again1 : List Int → Bool → Int → Prop) (l2 : List Int) (b2 : Bool) (n2 : Int) : Prop :=
  cnd (decide (n2 < 6)) (idx ([(⟨w64 ((w64 (-f.g.W)) * f.g.H), 3, decide (y1.Layer > 0)⟩ : NearRow), (⟨w64 (-f.g.W), 2, decide (y1.Y > 0)⟩ : NearRow), (⟨(-1), 1, decide (y1.X > 0)⟩ : NearRow), (⟨1, 1, decide (y1.X < w64 (f.g.W - 1))⟩ : NearRow), (⟨f.g.W, 2, decide (y1.Y < w64 (f.g.H - 1))⟩ : NearRow), (⟨w64 (f.g.W * f.g.H), 3, decide (y1.Layer < w64 (f.g.Layers - 1))⟩ : NearRow)] : List NearRow) n2 fun x1 => cnd x1.is (idx f.no (w64 (n + x1.by_)) fun x2 => M_near_spread_k2 n x_ f2 l2 b2 n2 again1 x1 (!x2)) (M_near_spread_k2 n x_ f2 l2 b2 n2 again1 x1 false)) (Q l2 b2)
def M_near_spread (f : RouteFinder) (n : Int) (x_ : Int) (f2 : RouteFinder) (cost : (List Int)) (more : Bool) (Q : (List Int) → Bool → Prop) : Prop :=
  M_route_cell f.g n fun y1 => lp (fun again (s : List Int × Bool × Int) => M_near_spread_L1 f n x_ f2 Q y1 (fun l2 b2 n2 => again (l2, b2, n2)) s.1 s.2.1 s.2.2) (cost, more, 0)
set_option maxHeartbeats 1000000 in
theorem R_near_spread (f : RouteFinder) (n : Int) (x_ : Int) (f2 : RouteFinder) (cost : (List Int)) (more : Bool) (w0 : World) (F0 : Nat → Prop) (f_g_BlockedA : Option Addr) (f_g_BlockedC : Nat) (hv_f_g_Blocked : View w0 (old w0 F0) f_g_BlockedA f_g_BlockedC f.g.Blocked) (f_noA : Option Addr) (f_noC : Nat) (hv_f_no : View w0 (old w0 F0) f_noA f_noC f.no) (fg : Nat) (hb_f : ElemAt w0 (old w0 F0) (some ⟨fg, 0, none⟩) 0 [iv f.g.W, iv f.g.H, iv f.g.Layers, .slice f_g_BlockedA f.g.Blocked.length f_g_BlockedC, iv f.c.Step, iv f.c.Via, iv f.c.Turn, iv f.c.Against, .slice f_noA f.no.length f_noC]) (x_g : Nat) (hb_x_ : ElemAt w0 (old w0 F0) (some ⟨x_g, 0, none⟩) 0 [iv x_]) (f2_g_BlockedA : Option Addr) (f2_g_BlockedC : Nat) (hv_f2_g_Blocked : View w0 (old w0 F0) f2_g_BlockedA f2_g_BlockedC f2.g.Blocked) (f2_noA : Option Addr) (f2_noC : Nat) (hv_f2_no : View w0 (old w0 F0) f2_noA f2_noC f2.no) (f2g : Nat) (hb_f2 : ElemAt w0 (old w0 F0) (some ⟨f2g, 0, none⟩) 0 [iv f2.g.W, iv f2.g.H, iv f2.g.Layers, .slice f2_g_BlockedA f2.g.Blocked.length f2_g_BlockedC, iv f2.c.Step, iv f2.c.Via, iv f2.c.Turn, iv f2.c.Against, .slice f2_noA f2.no.length f2_noC]) (f2q : Nat) (hq_f2 : ElemAt w0 (old w0 F0) (some ⟨f2q, 0, none⟩) 0 [(pn f2g 0)]) (costA : Option Addr) (costC : Nat) (costg : Nat) (hb_cost : ElemAt w0 (old w0 F0) (some ⟨costg, 0, none⟩) 0 [.slice costA cost.length costC]) (moreg : Nat) (hs0 : Sat w0 F0 [hown 3 costA costC cost, hbox moreg 4 [.bool more]] w0) (Q : (List Int) → Bool → Prop) (h : M_near_spread f n x_ f2 cost more Q) :
    Ret Try.prog 83 #[(pn fg 0), iv n, .func (.func 84) #[] #[(pn x_g 0), (pn f2q 0), (pn costg 0), (pn moreg 0)]] w0 fun v w' => ∃ (cost1 : List Int) (hl_cost1 : cost1.length = cost.length) (more1 : Bool), v = .tuple #[] ∧ Q cost1 more1 ∧ Sat w0 F0 [hown 3 costA costC cost1, hbox moreg 4 [.bool more1]] w' := by
  refine fn_enter Try.func83 rfl Try.ntmps83 rfl (fs := [(0, (pn fg 0)), (1, iv n), (2, .func (.func 84) #[] #[(pn x_g 0), (pn f2q 0), (pn costg 0), (pn moreg 0)])]) rfl (fun a hf => ?_)
  have hs := hs0
  unfold M_near_spread at h
  refine wp_seq ?_
  refine R.list ?_
  refine S.p hf hs ((pn fg 0)) rfl rfl fun a hf => ?_
  refine S.p hf hs ((pn fg 0)) rfl rfl fun a hf => ?_
  refine S.v hf hs ((pn fg 0)) rfl (V.fieldBox rfl rfl Try.runUnderlying68 rfl Try.sizeOf24 rfl rfl) fun a hf => ?_
  refine S.v hf hs (.agg #[iv f.g.W, iv f.g.H, iv f.g.Layers, .slice f_g_BlockedA f.g.Blocked.length f_g_BlockedC]) rfl (V.loadAt0 (off := 0) (Ag.args _ _ _) hb_f rfl rfl Try.isAgg24 Try.sizeOf24 rfl rfl) fun a hf => ?_
  refine S.p hf hs (iv n) rfl rfl fun a hf => ?_
  refine S.call hf rfl rfl rfl (call_fn (vs := [.agg #[iv f.g.W, iv f.g.H, iv f.g.Layers, .slice f_g_BlockedA f.g.Blocked.length f_g_BlockedC], iv n]) rfl rfl rfl Try.call75) (R_route_cell f.g n _ f_g_BlockedA f_g_BlockedC ((Ag.args _ _ _).view hv_f_g_Blocked hs) _ h) (fun v a w' hf hr => ?_)
  obtain ⟨y1, rfl, h2, hs2⟩ := hr
  replace h := h2; replace hs := hs.call hs2; clear h2 hs2
  refine S.alloc hf hs rfl rfl rfl [iv 0, iv 0, iv 0] rfl Try.zeroValue28 rfl (fun g1 a w hf hs => ?_)
  refine S.storeBox 0 hf hs rfl rfl [iv y1.X, iv y1.Y, iv y1.Layer] [iv y1.X, iv y1.Y, iv y1.Layer] rfl rfl rfl rfl rfl Try.sizeOf28 rfl rfl rfl rfl (fun a w hf hs => ?_)
  refine R.nil ?_
  refine X.then_ ?_
  refine wp_seq ?_
  refine R.draw mo (by kernel_rfl) hs ?_
  refine D.p hf ((pn fg 0)) rfl rfl fun a hf => ?_
  refine D.p hf ((pn fg 0)) rfl rfl fun a hf => ?_
  refine D.v hf ((pn fg 0)) rfl (V.fieldBox rfl rfl Try.runUnderlying68 rfl Try.sizeOf24 rfl rfl) fun a hf => ?_
  refine D.v hf ((pn fg 0)) rfl (V.fieldBox rfl rfl Try.runUnderlying24 rfl Try.sizeOf3 rfl rfl) fun a hf => ?_
  refine D.v hf (iv f.g.W) rfl (V.loadAt0 (off := 0) (Ag.args _ _ _) hb_f rfl rfl Try.isAgg3 Try.sizeOf3 rfl rfl) fun a hf => ?_
  refine D.p hf (iv (w64 (-f.g.W))) rfl rfl fun a hf => ?_
  refine D.p hf ((pn fg 0)) rfl rfl fun a hf => ?_
  refine D.p hf ((pn fg 0)) rfl rfl fun a hf => ?_
  refine D.v hf ((pn fg 0)) rfl (V.fieldBox rfl rfl Try.runUnderlying68 rfl Try.sizeOf24 rfl rfl) fun a hf => ?_
  refine D.v hf ((pn fg 1)) rfl (V.fieldBox rfl rfl Try.runUnderlying24 rfl Try.sizeOf3 rfl rfl) fun a hf => ?_
  refine D.v hf (iv f.g.H) rfl (V.loadAt0 (off := 1) (Ag.args _ _ _) hb_f rfl rfl Try.isAgg3 Try.sizeOf3 rfl rfl) fun a hf => ?_
  refine D.p hf (iv (w64 ((w64 (-f.g.W)) * f.g.H))) rfl rfl fun a hf => ?_
  refine D.v hf ((pn g1 2)) rfl (V.fieldBox rfl rfl Try.runUnderlying28 rfl Try.sizeOf3 rfl rfl) fun a hf => ?_
  refine D.v hf (iv y1.Layer) rfl (V.loadBox 0 rfl rfl rfl Try.isAgg3 Try.sizeOf3 rfl rfl) fun a hf => ?_
  refine D.p hf (.bool (decide (y1.Layer > 0))) rfl rfl fun a hf => ?_
  refine D.v hf (.agg #[iv (w64 ((w64 (-f.g.W)) * f.g.H)), iv 3, .bool (decide (y1.Layer > 0))]) rfl (V.build (places := #[(0, 1), (1, 1), (2, 1)]) rfl Try.zeroValue130 Try.runUnderlying130 (by intro w; simp [Try.sizeOf3, Try.sizeOf4]) rfl rfl) fun a hf => ?_
  refine D.p hf ((pn fg 0)) rfl rfl fun a hf => ?_
  refine D.p hf ((pn fg 0)) rfl rfl fun a hf => ?_
  refine D.v hf ((pn fg 0)) rfl (V.fieldBox rfl rfl Try.runUnderlying68 rfl Try.sizeOf24 rfl rfl) fun a hf => ?_
  refine D.v hf ((pn fg 0)) rfl (V.fieldBox rfl rfl Try.runUnderlying24 rfl Try.sizeOf3 rfl rfl) fun a hf => ?_
  refine D.v hf (iv f.g.W) rfl (V.loadAt0 (off := 0) (Ag.args _ _ _) hb_f rfl rfl Try.isAgg3 Try.sizeOf3 rfl rfl) fun a hf => ?_
  refine D.p hf (iv (w64 (-f.g.W))) rfl rfl fun a hf => ?_
  refine D.v hf ((pn g1 1)) rfl (V.fieldBox rfl rfl Try.runUnderlying28 rfl Try.sizeOf3 rfl rfl) fun a hf => ?_
  refine D.v hf (iv y1.Y) rfl (V.loadBox 0 rfl rfl rfl Try.isAgg3 Try.sizeOf3 rfl rfl) fun a hf => ?_
  refine D.p hf (.bool (decide (y1.Y > 0))) rfl rfl fun a hf => ?_
  refine D.v hf (.agg #[iv (w64 (-f.g.W)), iv 2, .bool (decide (y1.Y > 0))]) rfl (V.build (places := #[(0, 1), (1, 1), (2, 1)]) rfl Try.zeroValue130 Try.runUnderlying130 (by intro w; simp [Try.sizeOf3, Try.sizeOf4]) rfl rfl) fun a hf => ?_
  refine D.v hf ((pn g1 0)) rfl (V.fieldBox rfl rfl Try.runUnderlying28 rfl Try.sizeOf3 rfl rfl) fun a hf => ?_
  refine D.v hf (iv y1.X) rfl (V.loadBox 0 rfl rfl rfl Try.isAgg3 Try.sizeOf3 rfl rfl) fun a hf => ?_
  refine D.p hf (.bool (decide (y1.X > 0))) rfl rfl fun a hf => ?_
  refine D.v hf (.agg #[iv (-1), iv 1, .bool (decide (y1.X > 0))]) rfl (V.build (places := #[(0, 1), (1, 1), (2, 1)]) rfl Try.zeroValue130 Try.runUnderlying130 (by intro w; simp [Try.sizeOf3, Try.sizeOf4]) rfl rfl) fun a hf => ?_
  refine D.v hf ((pn g1 0)) rfl (V.fieldBox rfl rfl Try.runUnderlying28 rfl Try.sizeOf3 rfl rfl) fun a hf => ?_
  refine D.v hf (iv y1.X) rfl (V.loadBox 0 rfl rfl rfl Try.isAgg3 Try.sizeOf3 rfl rfl) fun a hf => ?_
  refine D.p hf ((pn fg 0)) rfl rfl fun a hf => ?_
  refine D.p hf ((pn fg 0)) rfl rfl fun a hf => ?_
  refine D.v hf ((pn fg 0)) rfl (V.fieldBox rfl rfl Try.runUnderlying68 rfl Try.sizeOf24 rfl rfl) fun a hf => ?_
  refine D.v hf ((pn fg 0)) rfl (V.fieldBox rfl rfl Try.runUnderlying24 rfl Try.sizeOf3 rfl rfl) fun a hf => ?_
  refine D.v hf (iv f.g.W) rfl (V.loadAt0 (off := 0) (Ag.args _ _ _) hb_f rfl rfl Try.isAgg3 Try.sizeOf3 rfl rfl) fun a hf => ?_
  refine D.p hf (iv (w64 (f.g.W - 1))) rfl rfl fun a hf => ?_
  refine D.p hf (.bool (decide (y1.X < w64 (f.g.W - 1)))) rfl rfl fun a hf => ?_
  refine D.v hf (.agg #[iv 1, iv 1, .bool (decide (y1.X < w64 (f.g.W - 1)))]) rfl (V.build (places := #[(0, 1), (1, 1), (2, 1)]) rfl Try.zeroValue130 Try.runUnderlying130 (by intro w; simp [Try.sizeOf3, Try.sizeOf4]) rfl rfl) fun a hf => ?_
  refine D.p hf ((pn fg 0)) rfl rfl fun a hf => ?_
  refine D.p hf ((pn fg 0)) rfl rfl fun a hf => ?_
  refine D.v hf ((pn fg 0)) rfl (V.fieldBox rfl rfl Try.runUnderlying68 rfl Try.sizeOf24 rfl rfl) fun a hf => ?_
  refine D.v hf ((pn fg 0)) rfl (V.fieldBox rfl rfl Try.runUnderlying24 rfl Try.sizeOf3 rfl rfl) fun a hf => ?_
  refine D.v hf (iv f.g.W) rfl (V.loadAt0 (off := 0) (Ag.args _ _ _) hb_f rfl rfl Try.isAgg3 Try.sizeOf3 rfl rfl) fun a hf => ?_
  refine D.v hf ((pn g1 1)) rfl (V.fieldBox rfl rfl Try.runUnderlying28 rfl Try.sizeOf3 rfl rfl) fun a hf => ?_
  refine D.v hf (iv y1.Y) rfl (V.loadBox 0 rfl rfl rfl Try.isAgg3 Try.sizeOf3 rfl rfl) fun a hf => ?_
  refine D.p hf ((pn fg 0)) rfl rfl fun a hf => ?_
  refine D.p hf ((pn fg 0)) rfl rfl fun a hf => ?_
  refine D.v hf ((pn fg 0)) rfl (V.fieldBox rfl rfl Try.runUnderlying68 rfl Try.sizeOf24 rfl rfl) fun a hf => ?_
  refine D.v hf ((pn fg 1)) rfl (V.fieldBox rfl rfl Try.runUnderlying24 rfl Try.sizeOf3 rfl rfl) fun a hf => ?_
  refine D.v hf (iv f.g.H) rfl (V.loadAt0 (off := 1) (Ag.args _ _ _) hb_f rfl rfl Try.isAgg3 Try.sizeOf3 rfl rfl) fun a hf => ?_
  refine D.p hf (iv (w64 (f.g.H - 1))) rfl rfl fun a hf => ?_
  refine D.p hf (.bool (decide (y1.Y < w64 (f.g.H - 1)))) rfl rfl fun a hf => ?_
  refine D.v hf (.agg #[iv f.g.W, iv 2, .bool (decide (y1.Y < w64 (f.g.H - 1)))]) rfl (V.build (places := #[(0, 1), (1, 1), (2, 1)]) rfl Try.zeroValue130 Try.runUnderlying130 (by intro w; simp [Try.sizeOf3, Try.sizeOf4]) rfl rfl) fun a hf => ?_
  refine D.p hf ((pn fg 0)) rfl rfl fun a hf => ?_
  refine D.p hf ((pn fg 0)) rfl rfl fun a hf => ?_
  refine D.v hf ((pn fg 0)) rfl (V.fieldBox rfl rfl Try.runUnderlying68 rfl Try.sizeOf24 rfl rfl) fun a hf => ?_
  refine D.v hf ((pn fg 0)) rfl (V.fieldBox rfl rfl Try.runUnderlying24 rfl Try.sizeOf3 rfl rfl) fun a hf => ?_
  refine D.v hf (iv f.g.W) rfl (V.loadAt0 (off := 0) (Ag.args _ _ _) hb_f rfl rfl Try.isAgg3 Try.sizeOf3 rfl rfl) fun a hf => ?_
  refine D.p hf ((pn fg 0)) rfl rfl fun a hf => ?_
  refine D.p hf ((pn fg 0)) rfl rfl fun a hf => ?_
  refine D.v hf ((pn fg 0)) rfl (V.fieldBox rfl rfl Try.runUnderlying68 rfl Try.sizeOf24 rfl rfl) fun a hf => ?_
  refine D.v hf ((pn fg 1)) rfl (V.fieldBox rfl rfl Try.runUnderlying24 rfl Try.sizeOf3 rfl rfl) fun a hf => ?_
  refine D.v hf (iv f.g.H) rfl (V.loadAt0 (off := 1) (Ag.args _ _ _) hb_f rfl rfl Try.isAgg3 Try.sizeOf3 rfl rfl) fun a hf => ?_
  refine D.p hf (iv (w64 (f.g.W * f.g.H))) rfl rfl fun a hf => ?_
  refine D.v hf ((pn g1 2)) rfl (V.fieldBox rfl rfl Try.runUnderlying28 rfl Try.sizeOf3 rfl rfl) fun a hf => ?_
  refine D.v hf (iv y1.Layer) rfl (V.loadBox 0 rfl rfl rfl Try.isAgg3 Try.sizeOf3 rfl rfl) fun a hf => ?_
  refine D.p hf ((pn fg 0)) rfl rfl fun a hf => ?_
  refine D.p hf ((pn fg 0)) rfl rfl fun a hf => ?_
  refine D.v hf ((pn fg 0)) rfl (V.fieldBox rfl rfl Try.runUnderlying68 rfl Try.sizeOf24 rfl rfl) fun a hf => ?_
  refine D.v hf ((pn fg 2)) rfl (V.fieldBox rfl rfl Try.runUnderlying24 rfl Try.sizeOf3 rfl rfl) fun a hf => ?_
  refine D.v hf (iv f.g.Layers) rfl (V.loadAt0 (off := 2) (Ag.args _ _ _) hb_f rfl rfl Try.isAgg3 Try.sizeOf3 rfl rfl) fun a hf => ?_
  refine D.p hf (iv (w64 (f.g.Layers - 1))) rfl rfl fun a hf => ?_
  refine D.p hf (.bool (decide (y1.Layer < w64 (f.g.Layers - 1)))) rfl rfl fun a hf => ?_
  refine D.v hf (.agg #[iv (w64 (f.g.W * f.g.H)), iv 3, .bool (decide (y1.Layer < w64 (f.g.Layers - 1)))]) rfl (V.build (places := #[(0, 1), (1, 1), (2, 1)]) rfl Try.zeroValue130 Try.runUnderlying130 (by intro w; simp [Try.sizeOf3, Try.sizeOf4]) rfl rfl) fun a hf => ?_
  refine D.v hf (.agg #[iv (w64 ((w64 (-f.g.W)) * f.g.H)), iv 3, .bool (decide (y1.Layer > 0)), iv (w64 (-f.g.W)), iv 2, .bool (decide (y1.Y > 0)), iv (-1), iv 1, .bool (decide (y1.X > 0)), iv 1, iv 1, .bool (decide (y1.X < w64 (f.g.W - 1))), iv f.g.W, iv 2, .bool (decide (y1.Y < w64 (f.g.H - 1))), iv (w64 (f.g.W * f.g.H)), iv 3, .bool (decide (y1.Layer < w64 (f.g.Layers - 1)))]) rfl (V.buildArr rfl Try.zeroValue131 Try.runUnderlying131 Try.sizeOf130 rfl (by kernel_rfl)) fun a hf => ?_
  refine D.p hf (iv 0) rfl rfl fun a hf => ?_
  refine D.done (fun w hs => ?_)
  refine X.then_ ?_
  refine wp_block ?_
  replace hs := hs.front 1 rfl
  replace hs := hs.front 2 rfl
  replace hs := hs.take 2
  obtain ⟨kk, h⟩ := h
  refine C.loop (fun kk a w => ∃ (l2 : List Int) (hl_l2 : l2.length = cost.length) (b2 : Bool) (n2 : Int), iterF (fun again (s : List Int × Bool × Int) => M_near_spread_L1 f n x_ f2 Q y1 (fun l2 b2 n2 => again (l2, b2, n2)) s.1 s.2.1 s.2.2) kk (l2, b2, n2) ∧ FrOk 119 [(0, (pn fg 0)), (1, iv n), (2, .func (.func 84) #[] #[(pn x_g 0), (pn f2q 0), (pn costg 0), (pn moreg 0)]), (91, .agg #[iv (w64 ((w64 (-f.g.W)) * f.g.H)), iv 3, .bool (decide (y1.Layer > 0)), iv (w64 (-f.g.W)), iv 2, .bool (decide (y1.Y > 0)), iv (-1), iv 1, .bool (decide (y1.X > 0)), iv 1, iv 1, .bool (decide (y1.X < w64 (f.g.W - 1))), iv f.g.W, iv 2, .bool (decide (y1.Y < w64 (f.g.H - 1))), iv (w64 (f.g.W * f.g.H)), iv 3, .bool (decide (y1.Layer < w64 (f.g.Layers - 1)))]), (92, iv n2)] a ∧ Sat w0 F0 [hbox moreg 4 [.bool b2], hown 3 costA costC l2] w) kk ⟨cost, rfl, more, 0, h, (((((hf.nil.cons (hf.get 92 _ rfl)).cons (hf.get 91 _ rfl)).cons (hf.get 2 _ rfl)).cons (hf.get 1 _ rfl)).cons (hf.get 0 _ rfl)), hs⟩ (fun a w ⟨_, _, _, _, h, _, _⟩ => h) ?_
  clear h hf hs
  rintro kk a w ⟨l2, hl_l2, b2, n2, h, hf, hs⟩
  obtain ⟨again1, hagain1⟩ : ∃ X : List Int → Bool → Int → Prop, X = (fun l2 b2 n2 => iterF (fun again (s : List Int × Bool × Int) => M_near_spread_L1 f n x_ f2 Q y1 (fun l2 b2 n2 => again (l2, b2, n2)) s.1 s.2.1 s.2.2) kk (l2, b2, n2)) := ⟨_, rfl⟩
  replace h : M_near_spread_L1 f n x_ f2 Q y1 again1 l2 b2 n2 := by rw [hagain1]; exact h
  unfold M_near_spread_L1 at h
  refine wp_seq ?_
  refine R.list ?_
  refine S.p hf hs (.bool (decide (n2 < 6))) rfl rfl fun a hf => ?_
  refine R.nil ?_
  refine X.then_ ?_
  refine wp_seq ?_
  refine C.cond hf (b := decide (n2 < 6)) rfl (fun hc => ?_) (fun hc => ?_)
  · replace h := h.1 hc
    refine wp_skip ?_
    refine X.then_ ?_
    refine wp_seq ?_
    refine wp_block ?_
    refine wp_seq ?_
    refine R.list ?_
    obtain ⟨h0x1, x1, hx1, h⟩ := h
    refine S.v hf hs (.agg #[iv x1.by_, iv x1.along, .bool x1.is]) rfl (V.indexAgg rfl rfl rfl Try.runUnderlying131 Try.sizeOf130 (tab_lt h0x1 hx1 rfl) (tab_part hx1 (by kernel_rfl) Try.isAgg130 Try.sizeOf130 rfl rfl)) fun a hf => ?_
    refine S.alloc hf hs rfl rfl rfl [iv 0, iv 0, .bool false] rfl Try.zeroValue130 rfl (fun g2 a w hf hs => ?_)
    refine S.storeBox 0 hf hs rfl rfl [iv x1.by_, iv x1.along, .bool x1.is] [iv x1.by_, iv x1.along, .bool x1.is] rfl rfl rfl rfl rfl Try.sizeOf130 rfl rfl rfl rfl (fun a w hf hs => ?_)
    refine R.nil ?_
    refine X.then_ ?_
    refine wp_seq ?_
    refine C.cut (J := fun a w => ∃ (c1 : Bool), M_near_spread_k2 n x_ f2 l2 b2 n2 again1 x1 c1 ∧ FrOk 119 [(0, (pn fg 0)), (1, iv n), (2, .func (.func 84) #[] #[(pn x_g 0), (pn f2q 0), (pn costg 0), (pn moreg 0)]), (8, (pn g2 0)), (91, .agg #[iv (w64 ((w64 (-f.g.W)) * f.g.H)), iv 3, .bool (decide (y1.Layer > 0)), iv (w64 (-f.g.W)), iv 2, .bool (decide (y1.Y > 0)), iv (-1), iv 1, .bool (decide (y1.X > 0)), iv 1, iv 1, .bool (decide (y1.X < w64 (f.g.W - 1))), iv f.g.W, iv 2, .bool (decide (y1.Y < w64 (f.g.H - 1))), iv (w64 (f.g.W * f.g.H)), iv 3, .bool (decide (y1.Layer < w64 (f.g.Layers - 1)))]), (92, iv n2), (109, .bool c1)] a ∧ Sat w0 F0 [hbox g2 130 [iv x1.by_, iv x1.along, .bool x1.is], hbox moreg 4 [.bool b2], hown 3 costA costC l2] w) ?_ ?_
    · rintro a w ⟨c1, h, hf, hs⟩
      unfold M_near_spread_k2 at h
      refine C.cond hf (b := c1) rfl (fun hc => ?_) (fun hc => ?_)
      · replace h := h.1 hc
        refine R.list ?_
        refine S.p hf hs (.func (.func 84) #[] #[(pn x_g 0), (pn f2q 0), (pn costg 0), (pn moreg 0)]) rfl rfl fun a hf => ?_
        refine S.p hf hs (iv n) rfl rfl fun a hf => ?_
        refine S.v hf hs ((pn g2 0)) rfl (V.fieldBox rfl rfl Try.runUnderlying130 rfl Try.sizeOf3 rfl rfl) fun a hf => ?_
        refine S.v hf hs (iv x1.by_) rfl (V.loadBox 0 rfl rfl rfl Try.isAgg3 Try.sizeOf3 rfl rfl) fun a hf => ?_
        refine S.p hf hs (iv (w64 (n + x1.by_))) rfl rfl fun a hf => ?_
        refine S.v hf hs ((pn g2 1)) rfl (V.fieldBox rfl rfl Try.runUnderlying130 rfl Try.sizeOf3 rfl rfl) fun a hf => ?_
        refine S.v hf hs (iv x1.along) rfl (V.loadBox 0 rfl rfl rfl Try.isAgg3 Try.sizeOf3 rfl rfl) fun a hf => ?_
        replace hs := hs.front 1 rfl
        replace hs := hs.front 2 rfl
        obtain ⟨F1, hsF, hback, hold, hrest⟩ := Sat.callOwns [hown 3 costA costC l2, hbox moreg 4 [.bool b2]] (σ := [hbox g2 130 [iv x1.by_, iv x1.along, .bool x1.is]]) hs
        refine S.call hf rfl rfl rfl (call_run (args := #[iv (w64 (n + x1.by_)), iv x1.along, (pn x_g 0), (pn f2q 0), (pn costg 0), (pn moreg 0)]) rfl rfl rfl Try.call84 (by simp)) (R_spread1 (w64 (n + x1.by_)) x1.along x_ f2 l2 b2 _ _ x_g (elemArgsF hs hold hb_x_) f2_g_BlockedA f2_g_BlockedC (viewArgsF hs hold hv_f2_g_Blocked) f2_noA f2_noC (viewArgsF hs hold hv_f2_no) f2g (elemArgsF hs hold hb_f2) f2q (elemArgsF hs hold hq_f2) costA costC costg (elemArgsF hs hold (show ElemAt w0 (old w0 F0) (some ⟨costg, 0, none⟩) 0 [.slice costA l2.length costC] from by rw [hl_l2]; exact hb_cost)) moreg hsF _ h) (fun v a w' hf hr => ?_)
        obtain ⟨z1, hl_z1, z2, rfl, h2, hs2⟩ := hr
        replace h := h2; replace hs := hback _ _ hs2; clear h2 hs2 hback hold hrest hsF
        refine R.nil ?_
        refine X.blk ?_
        refine X.then_ ?_
        refine R.list ?_
        refine S.p hf hs (iv (w64 (n2 + 1))) rfl rfl fun a hf => ?_
        refine S.p hf hs (iv (w64 (n2 + 1))) rfl rfl fun a hf => ?_
        refine R.nil ?_
        refine X.then_ ?_
        replace hs := hs.front 1 rfl
        replace hs := hs.take 2
        exact ⟨z1, (hl_z1.trans hl_l2), z2, (w64 (n2 + 1)), (by rw [hagain1] at h; exact h), (((((hf.nil.cons (hf.get 92 _ rfl)).cons (hf.get 91 _ rfl)).cons (hf.get 2 _ rfl)).cons (hf.get 1 _ rfl)).cons (hf.get 0 _ rfl)), hs⟩
      · replace h := h.2 hc
        refine wp_skip ?_
        refine X.blk ?_
        refine X.then_ ?_
        refine R.list ?_
        refine S.p hf hs (iv (w64 (n2 + 1))) rfl rfl fun a hf => ?_
        refine S.p hf hs (iv (w64 (n2 + 1))) rfl rfl fun a hf => ?_
        refine R.nil ?_
        refine X.then_ ?_
        replace hs := hs.front 2 rfl
        replace hs := hs.front 2 rfl
        replace hs := hs.take 2
        exact ⟨l2, hl_l2, b2, (w64 (n2 + 1)), (by rw [hagain1] at h; exact h), (((((hf.nil.cons (hf.get 92 _ rfl)).cons (hf.get 91 _ rfl)).cons (hf.get 2 _ rfl)).cons (hf.get 1 _ rfl)).cons (hf.get 0 _ rfl)), hs⟩
    · skip
      refine R.draw mo (by kernel_rfl) hs ?_
      refine D.v hf ((pn g2 2)) rfl (V.fieldBox rfl rfl Try.runUnderlying130 rfl Try.sizeOf4 rfl rfl) fun a hf => ?_
      refine D.v hf (.bool x1.is) rfl (V.loadBox 0 rfl rfl rfl Try.isAgg4 Try.sizeOf4 rfl rfl) fun a hf => ?_
      refine D.split hf (b := x1.is) rfl rfl rfl (V.pure rfl) (fun hc a hf => ?_) (fun hc a hf => ?_)
      · replace h := h.1 hc
        refine D.p hf ((pn fg 0)) rfl rfl fun a hf => ?_
        refine D.p hf ((pn fg 0)) rfl rfl fun a hf => ?_
        refine D.v hf ((pn fg 8)) rfl (V.fieldBox rfl rfl Try.runUnderlying68 rfl Try.sizeOf66 rfl rfl) fun a hf => ?_
        refine D.v hf (.slice f_noA f.no.length f_noC) rfl (V.loadAt0 (off := 8) (Ag.args _ _ _) hb_f rfl rfl Try.isAgg66 Try.sizeOf66 rfl rfl) fun a hf => ?_
        refine D.p hf (iv n) rfl rfl fun a hf => ?_
        refine D.v hf ((pn g2 0)) rfl (V.fieldBox rfl rfl Try.runUnderlying130 rfl Try.sizeOf3 rfl rfl) fun a hf => ?_
        refine D.v hf (iv x1.by_) rfl (V.loadBox 0 rfl rfl rfl Try.isAgg3 Try.sizeOf3 rfl rfl) fun a hf => ?_
        refine D.p hf (iv (w64 (n + x1.by_))) rfl rfl fun a hf => ?_
        obtain ⟨h0x2, x2, hx2, h⟩ := h
        refine D.v hf (elemPtr f_noA ((w64 (n + x1.by_)).toNat * 1)) rfl (V.index rfl rfl rfl Try.runUnderlying66 Try.sizeOf4 (hv_f_no.some_ (lt_of_get hx2)) h0x2 (lt_of_get hx2) rfl) fun a hf => ?_
        refine D.v hf (.bool x2) rfl (V.loadEl (off := 0) (Ag.args _ _ _) (hv_f_no.flat hx2) rfl rfl rfl Try.isAgg4 Try.sizeOf4 rfl rfl) fun a hf => ?_
        refine D.p hf (.bool (!x2)) rfl rfl fun a hf => ?_
        refine D.p hf (.bool (!x2)) rfl rfl fun a hf => ?_
        refine D.done (fun w hs => ?_)
        refine X.then_ ?_
        exact ⟨(!x2), h, (((((((hf.nil.cons (hf.get 109 _ rfl)).cons (hf.get 92 _ rfl)).cons (hf.get 91 _ rfl)).cons (hf.get 8 _ rfl)).cons (hf.get 2 _ rfl)).cons (hf.get 1 _ rfl)).cons (hf.get 0 _ rfl)), hs⟩
      · replace h := h.2 hc
        refine D.k hf rfl fun a hf => ?_
        refine D.k hf rfl fun a hf => ?_
        refine D.k hf rfl fun a hf => ?_
        refine D.k hf rfl fun a hf => ?_
        refine D.k hf rfl fun a hf => ?_
        refine D.k hf rfl fun a hf => ?_
        refine D.k hf rfl fun a hf => ?_
        refine D.k hf rfl fun a hf => ?_
        refine D.k hf rfl fun a hf => ?_
        refine D.k hf rfl fun a hf => ?_
        refine D.k hf rfl fun a hf => ?_
        refine D.p hf (.bool false) rfl rfl fun a hf => ?_
        refine D.done (fun w hs => ?_)
        refine X.then_ ?_
        exact ⟨false, h, (((((((hf.nil.cons (hf.get 109 _ rfl)).cons (hf.get 92 _ rfl)).cons (hf.get 91 _ rfl)).cons (hf.get 8 _ rfl)).cons (hf.get 2 _ rfl)).cons (hf.get 1 _ rfl)).cons (hf.get 0 _ rfl)), hs⟩
  · replace h := h.2 hc
    refine wp_exit ?_
    refine X.then_exit ?_
    refine X.then_exit ?_
    refine X.blk_exit ?_
    replace hs := hs.front 1 rfl
    replace hs := hs.take 2
    exact L.end0 Try.results83 hf ⟨l2, hl_l2, b2, rfl, h, hs⟩

set_option linter.unusedVariables false
def M_finder_spread_L2 (f : RouteFinder) (l2 : List Int) (again1 : List Int → Bool → Prop) (again2 : List Int → Bool → Int → Prop) (l4 : List Int) (b4 : Bool) (n2 : Int) : Prop :=
  cnd (decide (n2 < (l2.length : Int))) (idx l4 n2 fun x1 => cnd (decide (x1 < 0)) (again2 l4 b4 (w64 (n2 + 1))) (M_near_spread f n2 x1 f l4 b4 fun z1 z2 => again2 z1 z2 (w64 (n2 + 1)))) (again1 l4 b4)
def M_finder_spread_L1 (f : RouteFinder) (Q : (List Int) → Prop) (again1 : List Int → Bool → Prop) (l2 : List Int) (b2 : Bool) : Prop :=
  cnd b2 (lp (fun again (s : List Int × Bool × Int) => M_finder_spread_L2 f l2 again1 (fun l4 b4 n2 => again (l4, b4, n2)) s.1 s.2.1 s.2.2) (l2, false, 0)) (Q l2)
def M_finder_spread (f : RouteFinder) (cost : (List Int)) (Q : (List Int) → Prop) : Prop :=
  lp (fun again (s : List Int × Bool) => M_finder_spread_L1 f Q (fun l2 b2 => again (l2, b2)) s.1 s.2) (cost, true)
set_option maxHeartbeats 1000000 in
theorem R_finder_spread (f : RouteFinder) (cost : (List Int)) (w0 : World) (F0 : Nat → Prop) (f_g_BlockedA : Option Addr) (f_g_BlockedC : Nat) (hv_f_g_Blocked : View w0 (old w0 F0) f_g_BlockedA f_g_BlockedC f.g.Blocked) (f_noA : Option Addr) (f_noC : Nat) (hv_f_no : View w0 (old w0 F0) f_noA f_noC f.no) (fg : Nat) (hb_f : ElemAt w0 (old w0 F0) (some ⟨fg, 0, none⟩) 0 [iv f.g.W, iv f.g.H, iv f.g.Layers, .slice f_g_BlockedA f.g.Blocked.length f_g_BlockedC, iv f.c.Step, iv f.c.Via, iv f.c.Turn, iv f.c.Against, .slice f_noA f.no.length f_noC]) (costA : Option Addr) (costC : Nat) (hs0 : Sat w0 F0 [hown 3 costA costC cost] w0) (Q : (List Int) → Prop) (h : M_finder_spread f cost Q) :
    Ret Try.prog 58 #[(pn fg 0), .slice costA cost.length costC] w0 fun v w' => ∃ (cost1 : List Int) (hl_cost1 : cost1.length = cost.length), v = .tuple #[] ∧ Q cost1 ∧ Sat w0 F0 [hown 3 costA costC cost1] w' := by
  refine fn_enter Try.func58 rfl Try.ntmps58 rfl (fs := [(0, (pn fg 0)), (1, .slice costA cost.length costC)]) rfl (fun a hf => ?_)
  have hs := hs0
  unfold M_finder_spread at h
  refine wp_seq ?_
  refine R.list ?_
  refine S.box hf hs rfl rfl rfl [(pn fg 0)] rfl rfl rfl (fun g1 a w hf hs => ?_)
  refine S.box hf hs rfl rfl rfl [.slice costA cost.length costC] rfl rfl rfl (fun g2 a w hf hs => ?_)
  refine R.nil ?_
  refine X.then_ ?_
  refine wp_seq ?_
  refine R.list ?_
  refine S.alloc hf hs rfl rfl rfl [.bool false] rfl Try.zeroValue4 rfl (fun g3 a w hf hs => ?_)
  refine S.storeBox 0 hf hs rfl rfl [.bool true] [.bool true] rfl rfl rfl rfl rfl Try.sizeOf4 rfl rfl rfl rfl (fun a w hf hs => ?_)
  refine R.nil ?_
  refine X.then_ ?_
  refine wp_block ?_
  replace hs := hs.front 3 rfl
  replace hs := hs.front 2 rfl
  replace hs := hs.front 3 rfl
  obtain ⟨kk, h⟩ := h
  refine C.loop (fun kk a w => ∃ (l2 : List Int) (hl_l2 : l2.length = cost.length) (gj2 : Nat) (b2 : Bool), iterF (fun again (s : List Int × Bool) => M_finder_spread_L1 f Q (fun l2 b2 => again (l2, b2)) s.1 s.2) kk (l2, b2) ∧ FrOk 23 [(2, (pn g1 0)), (3, (pn g2 0)), (4, (pn gj2 0))] a ∧ Sat w0 F0 [hbox g1 52 [(pn fg 0)], hbox g2 55 [.slice costA l2.length costC], hown 3 costA costC l2, hbox gj2 4 [.bool b2]] w) kk ⟨cost, rfl, g3, true, h, (((hf.nil.cons (hf.get 4 _ rfl)).cons (hf.get 3 _ rfl)).cons (hf.get 2 _ rfl)), hs⟩ (fun a w ⟨_, _, _, _, h, _, _⟩ => h) ?_
  clear h hf hs
  rintro kk a w ⟨l2, hl_l2, gj2, b2, h, hf, hs⟩
  obtain ⟨again1, hagain1⟩ : ∃ X : List Int → Bool → Prop, X = (fun l2 b2 => iterF (fun again (s : List Int × Bool) => M_finder_spread_L1 f Q (fun l2 b2 => again (l2, b2)) s.1 s.2) kk (l2, b2)) := ⟨_, rfl⟩
  replace h : M_finder_spread_L1 f Q again1 l2 b2 := by rw [hagain1]; exact h
  unfold M_finder_spread_L1 at h
  refine wp_seq ?_
  refine wp_seq ?_
  refine R.list ?_
  refine S.v hf hs (.bool b2) rfl (V.loadBox 3 rfl rfl rfl Try.isAgg4 Try.sizeOf4 rfl rfl) fun a hf => ?_
  refine R.nil ?_
  refine X.then_ ?_
  refine C.cond hf (b := b2) rfl (fun hc => ?_) (fun hc => ?_)
  · replace h := h.1 hc
    refine wp_skip ?_
    refine X.then_ ?_
    refine wp_seq ?_
    refine wp_block ?_
    refine wp_seq ?_
    refine R.list ?_
    refine S.storeBox 3 hf hs rfl rfl [.bool false] [.bool false] rfl rfl rfl rfl rfl Try.sizeOf4 rfl rfl rfl rfl (fun a w hf hs => ?_)
    refine R.nil ?_
    refine X.then_ ?_
    refine wp_seq ?_
    refine R.list ?_
    refine S.v hf hs (.slice costA l2.length costC) rfl (V.loadBox 1 rfl rfl rfl Try.isAgg55 Try.sizeOf55 rfl rfl) fun a hf => ?_
    refine S.v hf hs (iv (l2.length : Int)) rfl (V.len rfl rfl Try.runUnderlying55) fun a hf => ?_
    refine S.p hf hs (iv 0) rfl rfl fun a hf => ?_
    refine R.nil ?_
    refine X.then_ ?_
    refine wp_block ?_
    obtain ⟨kk, h⟩ := h
    refine C.loop (fun kk a w => ∃ (l4 : List Int) (hl_l4 : l4.length = cost.length) (b4 : Bool) (n2 : Int), iterF (fun again (s : List Int × Bool × Int) => M_finder_spread_L2 f l2 again1 (fun l4 b4 n2 => again (l4, b4, n2)) s.1 s.2.1 s.2.2) kk (l4, b4, n2) ∧ FrOk 23 [(2, (pn g1 0)), (3, (pn g2 0)), (4, (pn gj2 0)), (8, .slice costA l4.length costC), (9, iv (l2.length : Int)), (10, iv n2)] a ∧ Sat w0 F0 [hbox g1 52 [(pn fg 0)], hbox g2 55 [.slice costA l4.length costC], hown 3 costA costC l4, hbox gj2 4 [.bool b4]] w) kk ⟨l2, hl_l2, false, 0, h, ((((((hf.nil.cons (hf.get 10 _ rfl)).cons (hf.get 9 _ rfl)).cons (hf.get 8 _ rfl)).cons (hf.get 4 _ rfl)).cons (hf.get 3 _ rfl)).cons (hf.get 2 _ rfl)), hs⟩ (fun a w ⟨_, _, _, _, h, _, _⟩ => h) ?_
    clear h hf hs
    rintro kk a w ⟨l4, hl_l4, b4, n2, h, hf, hs⟩
    obtain ⟨again2, hagain2⟩ : ∃ X : List Int → Bool → Int → Prop, X = (fun l4 b4 n2 => iterF (fun again (s : List Int × Bool × Int) => M_finder_spread_L2 f l2 again1 (fun l4 b4 n2 => again (l4, b4, n2)) s.1 s.2.1 s.2.2) kk (l4, b4, n2)) := ⟨_, rfl⟩
    replace h : M_finder_spread_L2 f l2 again1 again2 l4 b4 n2 := by rw [hagain2]; exact h
    unfold M_finder_spread_L2 at h
    refine wp_seq ?_
    refine R.list ?_
    refine S.p hf hs (.bool (decide (n2 < (l2.length : Int)))) rfl rfl fun a hf => ?_
    refine R.nil ?_
    refine X.then_ ?_
    refine wp_seq ?_
    refine C.cond hf (b := decide (n2 < (l2.length : Int))) rfl (fun hc => ?_) (fun hc => ?_)
    · replace h := h.1 hc
      refine wp_skip ?_
      refine X.then_ ?_
      refine wp_seq ?_
      refine wp_block ?_
      refine wp_seq ?_
      refine R.list ?_
      refine S.p hf hs (iv n2) rfl rfl fun a hf => ?_
      obtain ⟨h0x1, x1, hx1, h⟩ := h
      refine S.v hf hs (elemPtr costA (n2.toNat * 1)) rfl (V.index rfl rfl rfl Try.runUnderlying55 Try.sizeOf3 (hs.ownSome 2 rfl (lt_of_get hx1)) h0x1 (lt_of_get hx1) rfl) fun a hf => ?_
      refine S.v hf hs (iv x1) rfl (V.loadOwn (off := 0) 2 rfl hx1 rfl rfl rfl Try.isAgg3 Try.sizeOf3 rfl rfl) fun a hf => ?_
      refine S.alloc hf hs rfl rfl rfl [iv 0] rfl Try.zeroValue3 rfl (fun g4 a w hf hs => ?_)
      refine S.p hf hs (iv n2) rfl rfl fun a hf => ?_
      refine S.storeBox 0 hf hs rfl rfl [iv x1] [iv x1] rfl rfl rfl rfl rfl Try.sizeOf3 rfl rfl rfl rfl (fun a w hf hs => ?_)
      refine R.nil ?_
      refine X.then_ ?_
      refine wp_seq ?_
      refine wp_seq ?_
      refine R.list ?_
      refine S.v hf hs (iv x1) rfl (V.loadBox 0 rfl rfl rfl Try.isAgg3 Try.sizeOf3 rfl rfl) fun a hf => ?_
      refine S.p hf hs (.bool (decide (x1 < 0))) rfl rfl fun a hf => ?_
      refine R.nil ?_
      refine X.then_ ?_
      refine C.cond hf (b := decide (x1 < 0)) rfl (fun hc => ?_) (fun hc => ?_)
      · replace h := h.1 hc
        refine wp_exit ?_
        refine X.then_exit ?_
        refine X.blk_exit ?_
        refine X.then_ ?_
        refine R.list ?_
        refine S.p hf hs (iv (w64 (n2 + 1))) rfl rfl fun a hf => ?_
        refine S.p hf hs (iv (w64 (n2 + 1))) rfl rfl fun a hf => ?_
        refine R.nil ?_
        refine X.then_ ?_
        replace hs := hs.front 4 rfl
        replace hs := hs.front 4 rfl
        replace hs := hs.front 4 rfl
        replace hs := hs.front 4 rfl
        replace hs := hs.take 4
        exact ⟨l4, hl_l4, b4, (w64 (n2 + 1)), (by rw [hagain2] at h; exact h), ((((((hf.nil.cons (hf.get 10 _ rfl)).cons (hf.get 9 _ rfl)).cons (hf.get 8 _ rfl)).cons (hf.get 4 _ rfl)).cons (hf.get 3 _ rfl)).cons (hf.get 2 _ rfl)), hs⟩
      · replace h := h.2 hc
        refine wp_skip ?_
        refine X.then_ ?_
        refine R.list ?_
        refine S.v hf hs ((pn fg 0)) rfl (V.loadBox 1 rfl rfl rfl Try.isAgg52 Try.sizeOf52 rfl rfl) fun a hf => ?_
        refine S.p hf hs (iv n2) rfl rfl fun a hf => ?_
        refine S.p hf hs (.func (.func 84) #[] #[(pn g4 0), (pn g1 0), (pn g2 0), (pn gj2 0)]) rfl rfl fun a hf => ?_
        replace hs := hs.front 4 rfl
        replace hs := hs.front 4 rfl
        obtain ⟨F1, hsF, hback, hold, hrest⟩ := Sat.callOwns [hown 3 costA costC l4, hbox gj2 4 [.bool b4]] (σ := [hbox g4 3 [iv x1], hbox g1 52 [(pn fg 0)], hbox g2 55 [.slice costA l4.length costC]]) hs
        refine S.call hf rfl rfl rfl (call_fn (vs := [(pn fg 0), iv n2, .func (.func 84) #[] #[(pn g4 0), (pn g1 0), (pn g2 0), (pn gj2 0)]]) rfl rfl rfl Try.call83) (R_near_spread f n2 x1 f l4 b4 _ _ f_g_BlockedA f_g_BlockedC (viewArgsF hs hold hv_f_g_Blocked) f_noA f_noC (viewArgsF hs hold hv_f_no) fg (elemArgsF hs hold hb_f) g4 (boxAtF hrest 0 rfl) f_g_BlockedA f_g_BlockedC (viewArgsF hs hold hv_f_g_Blocked) f_noA f_noC (viewArgsF hs hold hv_f_no) fg (elemArgsF hs hold hb_f) g1 (boxAtF hrest 1 rfl) costA costC g2 (boxAtF hrest 2 rfl) gj2 hsF _ h) (fun v a w' hf hr => ?_)
        obtain ⟨z1, hl_z1, z2, rfl, h2, hs2⟩ := hr
        replace h := h2; replace hs := hback _ _ hs2; clear h2 hs2 hback hold hrest hsF
        replace hs := hs.rebox 4 (vs' := [.slice costA z1.length costC]) rfl (congrArg (fun n => [Value.slice costA n costC]) hl_z1.symm)
        replace hf := hf.tell 8 (v := .slice costA z1.length costC) ((hf.get 8 (.slice costA l4.length costC) rfl).trans (congrArg (fun n => Value.slice costA n costC) hl_z1.symm))
        refine R.nil ?_
        refine X.blk ?_
        refine X.then_ ?_
        refine R.list ?_
        refine S.p hf hs (iv (w64 (n2 + 1))) rfl rfl fun a hf => ?_
        refine S.p hf hs (iv (w64 (n2 + 1))) rfl rfl fun a hf => ?_
        refine R.nil ?_
        refine X.then_ ?_
        replace hs := hs.front 1 rfl
        replace hs := hs.front 1 rfl
        replace hs := hs.front 4 rfl
        replace hs := hs.front 4 rfl
        replace hs := hs.take 4
        exact ⟨z1, (hl_z1.trans hl_l4), z2, (w64 (n2 + 1)), (by rw [hagain2] at h; exact h), ((((((hf.nil.cons (hf.get 10 _ rfl)).cons (hf.get 9 _ rfl)).cons (hf.get 8 _ rfl)).cons (hf.get 4 _ rfl)).cons (hf.get 3 _ rfl)).cons (hf.get 2 _ rfl)), hs⟩
    · replace h := h.2 hc
      refine wp_exit ?_
      refine X.then_exit ?_
      refine X.then_exit ?_
      refine X.blk_exit ?_
      refine X.blk ?_
      refine X.then_ ?_
      refine wp_seq ?_
      refine R.list ?_
      refine S.v hf hs (.bool b4) rfl (V.loadBox 3 rfl rfl rfl Try.isAgg4 Try.sizeOf4 rfl rfl) fun a hf => ?_
      refine R.nil ?_
      refine X.then_ ?_
      refine R.list ?_
      refine S.alloc hf hs rfl rfl rfl [.bool false] rfl Try.zeroValue4 rfl (fun g5 a w hf hs => ?_)
      refine S.storeBox 0 hf hs rfl rfl [.bool b4] [.bool b4] rfl rfl rfl rfl rfl Try.sizeOf4 rfl rfl rfl rfl (fun a w hf hs => ?_)
      refine R.nil ?_
      refine X.then_ ?_
      replace hs := hs.front 3 rfl
      replace hs := hs.front 3 rfl
      replace hs := hs.front 3 rfl
      replace hs := hs.take 4
      exact ⟨l4, hl_l4, g5, b4, (by rw [hagain1] at h; exact h), (((hf.nil.cons (hf.get 4 _ rfl)).cons (hf.get 3 _ rfl)).cons (hf.get 2 _ rfl)), hs⟩
  · replace h := h.2 hc
    refine wp_exit ?_
    refine X.then_exit ?_
    refine X.then_exit ?_
    refine X.blk_exit ?_
    replace hs := hs.front 2 rfl
    replace hs := hs.take 1
    exact L.end0 Try.results58 hf ⟨l2, hl_l2, rfl, h, hs⟩


def pinBad (g : Grid) (pins : List Cell) (k : Nat) (x : Cell) : Int := if inG g x = false then 1 else if x ∈ g.Blocked then 14 else if x ∈ pins.take k then 7 else 0
def pinsF (g : Grid) (pins : List Cell) (most : Int) : Int := if pins.length = 0 then 9 else if (pins.length : Int) > most then 2 else firstBad (pinBad g pins) pins 0
theorem S_route_checkPins {g : Grid} (hg : GOk g) {pins : List Cell} {most : Int} {Q : Int → Prop} (h : Q (pinsF g pins most)) : M_route_checkPins g (noOf g) pins most Q := by
  unfold M_route_checkPins
  unfold pinsF at h
  refine cnd_of (fun e => ?_) (fun e => cnd_of (fun e2 => ?_) (fun e2 => ?_))
  · rw [if_pos (by simpa using e)] at h; exact h
  · rw [if_neg (by simpa using e), if_pos (by simpa using e2)] at h; exact h
  · rw [if_neg (by simpa using e), if_neg (by simpa using e2)] at h
    refine forIn_checkP (Q := Q) (pinBad g pins) (fun k x next hx hI hne h0 => ?_) (by
      split
      · rename_i e9; rw [e9] at h; exact h
      · exact h)
    have hlt := lt_of_get hx
    unfold M_route_checkPins_L1
    refine S_isCell hg.sz ?_
    unfold pinBad at hne h0
    cases e6 : inG g x with
    | false => simp only [Bool.not_false, cnd_true]; rw [if_pos e6] at hne; exact hne (by decide)
    | true =>
      simp only [Bool.not_true, cnd_false]
      rw [if_neg (by simp [e6])] at hne h0
      refine S_number hg.sz e6 (idx_nat (noOf_cell hg e6) ?_)
      refine cnd_of (fun e7 => ?_) (fun e7 => ?_)
      · rw [if_pos (by simpa using e7)] at hne; exact hne (by decide)
      · rw [if_neg (by simpa using e7)] at hne h0
        refine ⟨⟨Int.le_refl _, by omega, by omega⟩, S_contains_cell ?_⟩
        have hseg : seg pins 0 (k : Int) = pins.take k := by unfold seg; simp
        rw [hseg]
        refine cnd_of (fun e8 => ?_) (fun e8 => ?_)
        · rw [if_pos (by simpa using e8)] at hne; exact hne (by decide)
        · rw [if_neg (by simpa using e8)] at h0; exact h0 rfl
theorem pinsF_zero {g : Grid} {pins : List Cell} {most : Int} (h : pinsF g pins most = 0) : 0 < pins.length ∧ (pins.length : Int) ≤ most ∧ pins.Nodup ∧ ∀ x ∈ pins, inG g x = true ∧ x ∉ g.Blocked := by
  unfold pinsF at h
  split at h
  · exact absurd h (by decide)
  · rename_i e1
    split at h
    · exact absurd h (by decide)
    · rename_i e2
      have hall : ∀ i x, pins[i]? = some x → inG g x = true ∧ x ∉ g.Blocked ∧ x ∉ pins.take i := fun i x hx => by
        have := firstBad_ok h i x hx
        unfold pinBad at this
        split at this
        · exact absurd this (by decide)
        · rename_i e3
          split at this
          · exact absurd this (by decide)
          · rename_i e4
            split at this
            · exact absurd this (by decide)
            · rename_i e5; exact ⟨by simpa using e3, e4, e5⟩
      refine ⟨by omega, by omega, ?_, fun x hx => ?_⟩
      · rw [List.nodup_iff_pairwise_ne, List.pairwise_iff_getElem]
        intro i j hi hj hij e
        have h1 := (hall j _ (List.getElem?_eq_getElem hj)).2.2
        exact h1 (List.mem_of_getElem? (i := i) (by rw [List.getElem?_take, if_pos hij, List.getElem?_eq_getElem hi, e]))
      · obtain ⟨i, hi⟩ := List.getElem?_of_mem hx
        have := hall i x hi
        exact ⟨this.1, this.2.1⟩
/-! ### costs that spread, in the program -/
/-- is no edge of a cell such that it would make a cost less -/
def Rlx (G : Gr) (c : List Int) (n : Nat) : Prop := ∀ x, c[n]? = some x → 0 ≤ x → ∀ e ∈ G.nbrs n, ∃ y, c[e.1]? = some y ∧ 0 ≤ y ∧ y ≤ x + G.wt e.2
/-- while a sweep goes on -/
def SwI (G : Gr) (M : Int) (l l2 : List Int) (k : Nat) (c : List Int) (b : Bool) : Prop :=
  G.RX M l c ∧ Gr.pot (M + G.N * 1000 + 1) c ≤ Gr.pot (M + G.N * 1000 + 1) l2 ∧ (b = true → Gr.pot (M + G.N * 1000 + 1) c < Gr.pot (M + G.N * 1000 + 1) l2) ∧ (b = false → ∀ n, n < k → Rlx G c n)
/-- while the edges of cell n are looked at: L done -/
def NbI (G : Gr) (M : Int) (l l2 : List Int) (n : Nat) (x : Int) (L : List (Nat × Int)) (c : List Int) (b : Bool) : Prop :=
  SwI G M l l2 n c b ∧ c[n]? = some x ∧ 0 ≤ x ∧ (b = false → ∀ e ∈ L, ∃ y, c[e.1]? = some y ∧ 0 ≤ y ∧ y ≤ x + G.wt e.2)
section
variable {G : Gr} {M : Int} {l l2 : List Int} {n : Nat} {x : Int} {L : List (Nat × Int)} {c : List Int} {b : Bool}
theorem NbI.keep (h : NbI G M l l2 n x L c b) {m : Nat} {al z : Int} (hz : c[m]? = some z) (h0 : ¬ (z < 0 ∨ x + G.wt al < z)) : NbI G M l l2 n x (L ++ [(m, al)]) c b :=
  ⟨h.1, h.2.1, h.2.2.1, fun hb e he => by
    rcases List.mem_append.1 he with he | he
    · exact h.2.2.2 hb e he
    · simp at he; subst he; exact ⟨z, hz, by omega, by simp only; omega⟩⟩
theorem NbI.less (ok : G.Ok) (h : NbI G M l l2 n x L c b) {m : Nat} {al z : Int} (hb : G.Nb n m al) (hm : G.no m = false) (hz : c[m]? = some z) (h0 : z < 0 ∨ x + G.wt al < z) : NbI G M l l2 n x (L ++ [(m, al)]) (c.set m (x + G.wt al)) true := by
  obtain ⟨⟨h1, h2, h3, h4⟩, h5, h6, h7⟩ := h
  obtain ⟨r1, r2, r3⟩ := h1.relax ok h5 h6 hb hm hz h0
  exact ⟨⟨r1, by omega, fun _ => by omega, fun e => (by cases e)⟩, by rw [List.getElem?_set_ne r3]; exact h5, h6, fun e => (by cases e)⟩
theorem NbI.close (h : NbI G M l l2 n x (G.nbrs n) c b) : SwI G M l l2 (n + 1) c b := by
  obtain ⟨⟨h1, h2, h3, h4⟩, h5, h6, h7⟩ := h
  refine ⟨h1, h2, h3, fun hb n' hn' => ?_⟩
  rcases Nat.lt_succ_iff_lt_or_eq.1 hn' with h8 | h8
  · exact h4 hb n' h8
  · subst h8
    intro x' hx' _ e he
    rw [h5] at hx'; injection hx' with hx'; subst hx'
    exact h7 hb e he
theorem SwI.skip (h : SwI G M l l2 n c b) (hx : c[n]? = some x) (h0 : x < 0) : SwI G M l l2 (n + 1) c b := by
  obtain ⟨h1, h2, h3, h4⟩ := h
  refine ⟨h1, h2, h3, fun hb n' hn' => ?_⟩
  rcases Nat.lt_succ_iff_lt_or_eq.1 hn' with h8 | h8
  · exact h4 hb n' h8
  · subst h8
    intro x' hx' h9
    rw [hx] at hx'; injection hx' with hx'; omega
theorem SwI.spr (ok : G.Ok) (h : SwI G M l l2 G.N c false) : G.Spr l c := by
  obtain ⟨h1, _, _, h4⟩ := h
  refine h1.done ok (fun n m al x hx h0 hb hm => ?_)
  exact h4 rfl n hb.1 x hx h0 (m, al) ((G.mem_nbrs hb.1).2 ⟨hb, hm⟩)
end
/-- the loop of both: sweep after sweep -/
theorem spread_loop {G : Gr} (ok : G.Ok) {M : Int} {l : List Int} (hl : G.RX M l l) {F : (List Int × Bool → Prop) → List Int × Bool → Prop} {Q : List Int → Prop}
    (hF : ∀ (X : List Int × Bool → Prop) (l2 : List Int), G.RX M l l2 → (∀ c b, SwI G M l l2 G.N c b → X (c, b)) → F X (l2, true)) (hQ : ∀ X c, Q c → F X (c, false)) (h : ∀ l', G.Spr l l' → (∀ (i : Nat) d, l'[i]? = some d → 0 ≤ d → d ≤ M + G.N * 1000) → Q l') : lp F (l, true) := by
  refine lp_measN (fun m (s : List Int × Bool) => G.RX M l s.1 ∧ (s.2 = false → G.Spr l s.1) ∧ m = 2 * Gr.pot (M + G.N * 1000 + 1) s.1 + (if s.2 = true then 1 else 0)) (n := 2 * Gr.pot (M + G.N * 1000 + 1) l + 1) ⟨hl, fun e => (by cases e), by simp⟩ ?_
  rintro m ⟨l2, b⟩ X ⟨h1, h2, h3⟩ hX
  simp only at h1 h2 h3
  cases b with
  | false => exact hQ X l2 (h l2 (h2 rfl) (fun i d hd h0 => by have := h1.le hd h0; omega))
  | true =>
    refine hF X l2 h1 (fun c b hs => ?_)
    cases b with
    | false => exact hX (2 * Gr.pot (M + G.N * 1000 + 1) c) _ (by have := hs.2.1; simp at h3; omega) ⟨hs.1, fun _ => hs.spr ok, by simp⟩
    | true => exact hX (2 * Gr.pot (M + G.N * 1000 + 1) c + 1) _ (by have := hs.2.2.1 rfl; simp at h3; omega) ⟨hs.1, fun e => (by cases e), by simp⟩
theorem S_spread1 {f : RouteFinder} (hf : GoodF f) {m : Nat} {al x z : Int} {c : List Int} {b : Bool} (hz : c[m]? = some z) (hx : 0 ≤ x ∧ x ≤ 1000000000000000) {Q : List Int → Bool → Prop} (h : if z < 0 ∨ x + (grOf f).wt al < z then Q (c.set m (x + (grOf f).wt al)) true else Q c b) : M_spread1 (m : Int) al x f c b Q := by
  have hw := hf.ok.wt al
  have key : ∀ n1 : Int, n1 = x + (grOf f).wt al → M_spread1_k1 (m : Int) c b Q n1 := fun n1 hn1 => by
    subst hn1
    unfold M_spread1_k1 M_spread1_k2
    refine idx_nat hz (cnd_of (fun e => ?_) (fun e => ?_))
    · rw [if_pos (.inl (by simpa using e))] at h
      simp only [cnd_true]
      refine idx_nat hz ?_
      rw [Int.toNat_natCast]; exact h
    · refine cnd_of (fun e2 => ?_) (fun e2 => ?_)
      · rw [if_pos (.inr (by simpa using e2))] at h
        refine idx_nat hz ?_
        rw [Int.toNat_natCast]; exact h
      · rw [if_neg (fun hh => by simp at e e2; omega)] at h; exact h
  unfold M_spread1
  unfold Gr.wt at hw key
  have hv : (grOf f).via = f.c.Via := rfl
  have hs : (grOf f).step = f.c.Step := rfl
  rw [hv, hs] at hw key
  refine cnd_of (fun e => key _ ?_) (fun e => key _ ?_)
  · rw [if_pos (by simpa using e)] at hw ⊢; exact w64_id (by omega) (by omega)
  · rw [if_neg (by simpa using e)] at hw ⊢; exact w64_id (by omega) (by omega)
theorem S_finder_spread {f : RouteFinder} (hf : GoodF f) {M : Int} (hM : 0 ≤ M ∧ M ≤ 100000000000) {l : List Int} (hl : l.length = (grOf f).N) (h1 : ∀ (i : Nat) d, l[i]? = some d → -1 ≤ d ∧ d ≤ M ∧ (0 ≤ d → (grOf f).no i = false)) {Q : List Int → Prop} (h : ∀ l', (grOf f).Spr l l' → (∀ (i : Nat) d, l'[i]? = some d → 0 ≤ d → d ≤ M + (grOf f).N * 1000) → Q l') : M_finder_spread f l Q := by
  have hN := hf.N
  unfold M_finder_spread
  refine spread_loop hf.ok (Gr.RX.init hl h1) (Q := Q) (fun X l2 hrx hX => ?_) (fun X c hc => ?_) h
  · show M_finder_spread_L1 f Q (fun l2 b2 => X (l2, b2)) l2 true
    unfold M_finder_spread_L1
    simp only [cnd_true]
    refine lp_measN (fun m (s : List Int × Bool × Int) => ∃ k : Nat, s.2.2 = (k : Int) ∧ k + m = (grOf f).N ∧ SwI (grOf f) M l l2 k s.1 s.2.1) (n := (grOf f).N) ⟨0, rfl, by omega, hrx, Nat.le_refl _, fun e => (by cases e), fun _ n hn => by omega⟩ ?_
    rintro m ⟨c, b, i⟩ Y ⟨k, hk, hkm, hs⟩ hY
    simp only at hk hs
    subst hk
    show M_finder_spread_L2 f l2 (fun l2 b2 => X (l2, b2)) (fun l4 b4 n2 => Y (l4, b4, n2)) c b (k : Int)
    unfold M_finder_spread_L2
    have hl2 : l2.length = (grOf f).N := hrx.len
    have ek : w64 ((k : Int) + 1) = ((k + 1 : Nat) : Int) := by rw [w64_id] <;> omega
    rw [hl2, ek]
    refine cnd_of (fun e => ?_) (fun e => ?_)
    · have hkl : k < (grOf f).N := by simpa using e
      have hx : c[k]? = some (c[k]'(by rw [hs.1.len]; exact hkl)) := List.getElem?_eq_getElem _
      generalize c[k]'(by rw [hs.1.len]; exact hkl) = x at hx
      refine idx_nat hx (cnd_of (fun e2 => ?_) (fun e2 => ?_))
      · exact hY (m - 1) _ (by omega) ⟨k + 1, rfl, by omega, hs.skip hx (by simpa using e2)⟩
      · have hx0 : 0 ≤ x := by simpa using e2
        have hle := hs.1.le hx hx0
        unfold M_near_spread
        refine S_nearL hf hkl (σ := List Int × Bool) (s := (c, b)) (fun t i => (t.1, t.2, i)) (fun m al t K => M_spread1 m al x f t.1 t.2 (fun a b => K (a, b))) (Q := fun t => Y (t.1, t.2, ((k + 1 : Nat) : Int))) (fun y1 X s i h => h)
          (fun R t => ∃ L, (grOf f).nbrs k = L ++ R ∧ NbI (grOf f) M l l2 k x L t.1 t.2) (fun m' al R t K hnb hfree hI hK => ?_) ⟨[], rfl, hs, hx, hx0, fun _ e he => by cases he⟩ (fun t hI => ?_)
        · obtain ⟨L, hL, hI⟩ := hI
          have hz : t.1[m']? = some (t.1[m']'(by rw [hI.1.1.len]; exact hnb.2.1)) := List.getElem?_eq_getElem _
          refine S_spread1 hf hz (by omega) ?_
          split
          · rename_i e3; exact hK _ ⟨L ++ [(m', al)], by rw [hL]; simp, hI.less hf.ok hnb hfree hz e3⟩
          · rename_i e3; exact hK _ ⟨L ++ [(m', al)], by rw [hL]; simp, hI.keep hz e3⟩
        · obtain ⟨L, hL, hI⟩ := hI
          rw [List.append_nil] at hL
          subst hL
          exact hY (m - 1) _ (by omega) ⟨k + 1, rfl, by omega, hI.close⟩
    · have hkl : k = (grOf f).N := by simp at e; omega
      subst hkl
      exact hX c b hs
  · show M_finder_spread_L1 f Q (fun l2 b2 => X (l2, b2)) c false
    unfold M_finder_spread_L1
    simp only [cnd_false]; exact hc
end Go.Proofs.Ytihjaehkdgdenaa
