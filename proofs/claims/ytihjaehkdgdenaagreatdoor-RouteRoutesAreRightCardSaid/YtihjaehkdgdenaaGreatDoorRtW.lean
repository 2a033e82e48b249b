/- Chapter texts of ours, as far as the claim needs them. -/
import Derived.Test.YtihjaehkdgdenaaGreatDoorRtH
import Derived.Test.YtihjaehkdgdenaaGreatDoorWalks
import Derived.Test.YtihjaehkdgdenaaGreatDoorRtC
import Derived.Test.YtihjaehkdgdenaaGreatDoorRtG
namespace Go.Proofs.YtihjaehkdgdenaaGreatDoor
open Tryz Go Go.RowKit
set_option linter.unusedVariables false
set_option linter.unusedSectionVars false
set_option linter.unusedSimpArgs false
def M_route_checkPins_L1 (g : Grid) (no : (List Bool)) (pins : (List Cell)) (Q : Int → Prop) (k1 : Nat) (xk1 : Cell)  (next1 : Prop) : Prop :=
  M_route_isCell g xk1 fun y1 => cnd (!y1) (Q 1) (M_route_number g xk1 fun y2 => idx no y2 fun x1 => cnd x1 (Q 14) (must (0 ≤ (0 : Int) ∧ (0 : Int) ≤ (k1 : Int) ∧ (k1 : Int) ≤ (pins.length : Int)) (M_contains_cell (seg pins (0 : Int) (k1 : Int)) xk1 fun y3 => cnd y3 (Q 7) (next1))))
def M_route_checkPins (g : Grid) (no : (List Bool)) (pins : (List Cell)) (most : Int) (Q : Int → Prop) : Prop :=
  cnd ((pins.length : Int) == 0) (Q 9) (cnd (decide ((pins.length : Int) > most)) (Q 2) (forIn' (fun k x (s : Unit) next => M_route_checkPins_L1 g no pins Q k x (next ())) (fun (s : Unit) => Q 0) pins 0 ()))
set_option maxHeartbeats 1000000 in
theorem R_route_checkPins (g : Grid) (no : (List Bool)) (pins : (List Cell)) (most : Int) (w0 : World) (g_BlockedA : Option Addr) (g_BlockedC : Nat) (hv_g_Blocked : View w0 (old w0 none_) g_BlockedA g_BlockedC g.Blocked) (noA : Option Addr) (noC : Nat) (hv_no : View w0 (old w0 none_) noA noC no) (pinsA : Option Addr) (pinsC : Nat) (hv_pins : View w0 (old w0 none_) pinsA pinsC pins) (Q : Int → Prop) (h : M_route_checkPins g no pins most Q) :
  Ret Tryz.prog 50 #[.agg #[iv g.W, iv g.H, iv g.Layers, .slice g_BlockedA g.Blocked.length g_BlockedC], .slice noA no.length noC, .slice pinsA pins.length pinsC, iv most] w0 fun v w' => ∃ (r0 : Int), v = iv r0 ∧ Q r0 ∧ Sat w0 none_ [] w' := by
 refine fn_enter func50 rfl ntmps50 rfl (fs := [(0, .agg #[iv g.W, iv g.H, iv g.Layers, .slice g_BlockedA g.Blocked.length g_BlockedC]), (1, .slice noA no.length noC), (2, .slice pinsA pins.length pinsC), (3, iv most)]) rfl (fun a hf => ?_)
 have hs := Sat.start w0 none_
 unfold M_route_checkPins at h
 refine X.l (S.box hf hs rfl rfl rfl [iv g.W, iv g.H, iv g.Layers, .slice g_BlockedA g.Blocked.length g_BlockedC] rfl rfl rfl (fun g1 a w hf hs => S.q hf hs (iv 0) rfl fun a hf => X.n (wp_seq (X.l (S.q hf hs (.slice pinsA pins.length pinsC) rfl fun a hf => S.v hf hs (iv (pins.length : Int)) rfl (V.len rfl rfl runUnderlying22) fun a hf => S.q hf hs (.bool ((pins.length : Int) == 0)) rfl fun a hf => X.n ?_)))))
 refine C.cond hf (b := (pins.length : Int) == 0) rfl (fun hc => ?_) (fun hc => ?_)
 ·replace h := h.1 hc
  refine X.l (S.q hf hs (iv 9) rfl fun a hf => X.n (wp_ret (X.then_ret ?_)))
  exact L.ret hf (run_results1 results50 (ResIs.tmp hf rfl)) ⟨9, rfl, h, hs.nil⟩
 ·replace h := h.2 hc
  refine wp_skip (X.then_ (wp_seq (X.l (S.q hf hs (.slice pinsA pins.length pinsC) rfl fun a hf => S.v hf hs (iv (pins.length : Int)) rfl (V.len rfl rfl runUnderlying22) fun a hf => S.q hf hs (iv most) rfl fun a hf => S.q hf hs (.bool (decide ((pins.length : Int) > most))) rfl fun a hf => X.n ?_))))
  refine C.cond hf (b := decide ((pins.length : Int) > most)) rfl (fun hc => ?_) (fun hc => ?_)
  ·replace h := h.1 hc
   refine X.l (S.q hf hs (iv 2) rfl fun a hf => X.n (wp_ret (X.then_ret ?_)))
   exact L.ret hf (run_results1 results50 (ResIs.tmp hf rfl)) ⟨2, rfl, h, hs.nil⟩
  ·replace h := h.2 hc
   refine wp_skip (X.then_ (wp_seq (X.l (S.q hf hs (.slice pinsA pins.length pinsC) rfl fun a hf => S.v hf hs (iv (pins.length : Int)) rfl (V.len rfl rfl runUnderlying22) fun a hf => S.q hf hs (iv 0) rfl fun a hf => X.n (wp_block ?_)))))
   have hlenk1 := hv_pins.len64
   refine C.range (fun (ll : List Cell) a w => ∃ (k1 : Nat) , pins.drop k1 = ll ∧ k1 + ll.length = pins.length ∧ forIn' (fun k x (s : Unit) next => M_route_checkPins_L1 g no pins Q k x (next ())) (fun (s : Unit) => Q 0) ll k1 () ∧ FrOk 44 [(20, iv (k1 : Int)), (1, .slice noA no.length noC), (2, .slice pinsA pins.length pinsC), (4, (pn g1 0)), (18, .slice pinsA pins.length pinsC), (19, iv (pins.length : Int))] a ∧ Sat w0 none_ [hbox g1 24 [iv g.W, iv g.H, iv g.Layers, .slice g_BlockedA g.Blocked.length g_BlockedC]] w) pins ⟨0, rfl, Nat.zero_add _, h, ((((((hf.nil.cons (hf.get 19 _ rfl)).cons (hf.get 18 _ rfl)).cons (hf.get 4 _ rfl)).cons (hf.get 2 _ rfl)).cons (hf.get 1 _ rfl)).cons (hf.get 20 _ rfl)), hs⟩ ?_
   clear h hf hs
   rintro llk1 a w ⟨k1, hlk1, hkk1, h, hf, hs⟩
   cases llk1 with
   | nil =>
    have hc := range_done hkk1
    replace h : Q 0 := h
    refine X.l (S.v hf hs (.bool false) rfl (V.cmp false rfl rfl rfl rfl hc) fun a hf => X.n (wp_seq (C.no hf rfl (wp_exit (X.then_exit (X.then_exit (X.blk_exit (X.then_ (X.l (S.q hf hs (iv 0) rfl fun a hf => X.n (wp_ret ?_)))))))))))
    exact L.ret hf (run_results1 results50 (ResIs.tmp hf rfl)) ⟨0, rfl, h, hs.nil⟩
   | cons xk1 llk1 =>
    have hltk1 := range_lt hkk1; have hc := range_go hkk1; have hxk1 := range_get hlk1
    obtain ⟨next1, hnext1⟩ : ∃ X : Prop, X = (forIn' (fun k x (s : Unit) next => M_route_checkPins_L1 g no pins Q k x (next ())) (fun (s : Unit) => Q 0) llk1 (k1 + 1) ()) := ⟨_, rfl⟩
    replace h : M_route_checkPins_L1 g no pins Q k1 xk1  next1 := by rw [hnext1]; exact h
    unfold M_route_checkPins_L1 at h
    refine X.l (S.v hf hs (.bool true) rfl (V.cmp true rfl rfl rfl rfl hc) fun a hf => X.n (wp_seq (C.yes hf rfl (wp_skip (X.then_ (wp_seq (wp_block (X.l (S.q hf hs (iv (k1 : Int)) rfl fun a hf => S.v hf hs (elemPtr pinsA (k1 * 3)) rfl (V.index rfl rfl rfl runUnderlying22 sizeOf55 (hv_pins.some_ (lt_of_get hxk1)) (Int.natCast_nonneg _) (lt_of_get hxk1) rfl) fun a hf => S.v hf hs (.agg #[iv xk1.X, iv xk1.Y, iv xk1.Layer]) rfl (V.loadEl (off := 0) (Ag.args _ _ _) (hv_pins.flat hxk1) rfl rfl rfl isAgg55 sizeOf55 rfl rfl) fun a hf => S.alloc hf hs rfl rfl rfl [iv 0, iv 0, iv 0] rfl zeroValue55 rfl (fun g2 a w hf hs => S.q hf hs (iv (k1 : Int)) rfl fun a hf => S.storeBox 0 hf hs rfl rfl [iv xk1.X, iv xk1.Y, iv xk1.Layer] [iv xk1.X, iv xk1.Y, iv xk1.Layer] rfl rfl rfl rfl rfl sizeOf55 rfl rfl rfl rfl (fun a w hf hs => X.n (wp_block (X.l ?_)))))))))))))
    refine S.v hf hs (.agg #[iv g.W, iv g.H, iv g.Layers, .slice g_BlockedA g.Blocked.length g_BlockedC]) rfl (V.loadBox 1 rfl rfl rfl isAgg24 sizeOf24 rfl rfl) fun a hf => S.v hf hs (.agg #[iv xk1.X, iv xk1.Y, iv xk1.Layer]) rfl (V.loadBox 0 rfl rfl rfl isAgg55 sizeOf55 rfl rfl) fun a hf => S.call hf rfl rfl rfl (call_fn (vs := [.agg #[iv g.W, iv g.H, iv g.Layers, .slice g_BlockedA g.Blocked.length g_BlockedC], .agg #[iv xk1.X, iv xk1.Y, iv xk1.Layer]]) rfl rfl rfl call67) (R_route_isCell g xk1 _ g_BlockedA g_BlockedC ((Ag.args _ _ _).view hv_g_Blocked hs) _ h) (fun v a w' hf hr => ?_)
    obtain ⟨y1, rfl, h2, hs2⟩ := hr
    replace h := h2; replace hs := hs.call hs2; clear h2 hs2
    refine S.q hf hs (.bool (!y1)) rfl fun a hf => S.q hf hs (.bool (!y1)) rfl fun a hf => X.n ?_
    refine C.cond hf (b := !y1) rfl (fun hc => ?_) (fun hc => ?_)
    ·replace h := h.1 hc
     refine X.l (S.q hf hs (iv 1) rfl fun a hf => X.n (wp_ret (X.blk_ret (X.blk_ret (X.then_ret (X.then_ret (X.blk_ret (X.then_ret ?_))))))))
     exact L.ret hf (run_results1 results50 (ResIs.tmp hf rfl)) ⟨1, rfl, h, hs.nil⟩
    ·replace h := h.2 hc
     refine X.l (S.q hf hs (.slice noA no.length noC) rfl fun a hf => S.v hf hs (.agg #[iv g.W, iv g.H, iv g.Layers, .slice g_BlockedA g.Blocked.length g_BlockedC]) rfl (V.loadBox 1 rfl rfl rfl isAgg24 sizeOf24 rfl rfl) fun a hf => S.v hf hs (.agg #[iv xk1.X, iv xk1.Y, iv xk1.Layer]) rfl (V.loadBox 0 rfl rfl rfl isAgg55 sizeOf55 rfl rfl) fun a hf => S.call hf rfl rfl rfl (call_fn (vs := [.agg #[iv g.W, iv g.H, iv g.Layers, .slice g_BlockedA g.Blocked.length g_BlockedC], .agg #[iv xk1.X, iv xk1.Y, iv xk1.Layer]]) rfl rfl rfl call32) (R_route_number g xk1 _ g_BlockedA g_BlockedC ((Ag.args _ _ _).view hv_g_Blocked hs) _ h) (fun v a w' hf hr => ?_))
     obtain ⟨y2, rfl, h2, hs2⟩ := hr
     replace h := h2; replace hs := hs.call hs2; clear h2 hs2
     obtain ⟨h0x1, x1, hx1, h⟩ := h
     refine S.v hf hs (elemPtr noA (y2.toNat * 1)) rfl (V.index rfl rfl rfl runUnderlying49 sizeOf4 (hv_no.some_ (lt_of_get hx1)) h0x1 (lt_of_get hx1) rfl) fun a hf => S.v hf hs (.bool x1) rfl (V.loadEl (off := 0) (Ag.args _ _ _) (hv_no.flat hx1) rfl rfl rfl isAgg4 sizeOf4 rfl rfl) fun a hf => S.q hf hs (.bool x1) rfl fun a hf => X.n ?_
     refine C.cond hf (b := x1) rfl (fun hc => ?_) (fun hc => ?_)
     ·replace h := h.1 hc
      refine X.l (S.q hf hs (iv 14) rfl fun a hf => X.n (wp_ret (X.blk_ret (X.blk_ret (X.then_ret (X.then_ret (X.blk_ret (X.then_ret ?_))))))))
      exact L.ret hf (run_results1 results50 (ResIs.tmp hf rfl)) ⟨14, rfl, h, hs.nil⟩
     ·replace h := h.2 hc
      refine wp_seq (H.start (S := Sat w0 none_ [hbox g2 55 [iv xk1.X, iv xk1.Y, iv xk1.Layer], hbox g1 24 [iv g.W, iv g.H, iv g.Layers, .slice g_BlockedA g.Blocked.length g_BlockedC]]) mo ?_)
      replace hs := hs.drew
      refine H.v hf hs (.slice pinsA pins.length pinsC) 0 rfl rfl (by kernel_rfl) (V.pure rfl) fun a hf => H.v hf hs (iv (k1 : Int)) 1 rfl rfl (by kernel_rfl) (V.pure rfl) fun a hf => ?_
      obtain ⟨hp1, h⟩ := h
      refine H.v hf hs (.slice (segA pinsA pinsC ((0 : Int) : Int).toNat 3) (seg pins (0 : Int) (k1 : Int)).length (pinsC - ((0 : Int) : Int).toNat)) 2 rfl rfl (by kernel_rfl) (V.slice rfl rfl rfl rfl runUnderlying22 sizeOf55 rfl rfl hp1 hv_pins.cap (seg_length (by have := hp1.2.2; omega))) fun a hf => H.v hf hs (.agg #[iv xk1.X, iv xk1.Y, iv xk1.Layer]) 3 rfl rfl (by kernel_rfl) (V.loadBox 0 rfl rfl rfl isAgg55 sizeOf55 rfl rfl) fun a hf => H.one (i := 4) rfl (by kernel_rfl) (S.call hf rfl rfl rfl (call_fn (vs := [.slice (segA pinsA pinsC ((0 : Int) : Int).toNat 3) (seg pins (0 : Int) (k1 : Int)).length (pinsC - ((0 : Int) : Int).toNat), .agg #[iv xk1.X, iv xk1.Y, iv xk1.Layer]]) rfl rfl rfl call56) (R_contains_cell (seg pins (0 : Int) (k1 : Int)) xk1 _ (segA pinsA pinsC ((0 : Int) : Int).toNat 3) (pinsC - ((0 : Int) : Int).toNat) ((Ag.args _ _ _).view (View.sub hv_pins hp1) hs) _ h) (fun v a w' hf hr => ?_))
      obtain ⟨y3, rfl, h2, hs2⟩ := hr
      replace h := h2; replace hs := hs.call hs2; clear h2 hs2
      refine X.n (⟨hs, (H.v hf hs (.bool y3) 5 rfl rfl (by kernel_rfl) (V.pure rfl) fun a hf => H.done (by kernel_rfl) (X.then_ ?_))⟩)
      refine C.cond hf (b := y3) rfl (fun hc => ?_) (fun hc => ?_)
      ·replace h := h.1 hc
       refine X.l (S.q hf hs (iv 7) rfl fun a hf => X.n (wp_ret (X.blk_ret (X.blk_ret (X.then_ret (X.then_ret (X.blk_ret (X.then_ret ?_))))))))
       exact L.ret hf (run_results1 results50 (ResIs.tmp hf rfl)) ⟨7, rfl, h, hs.nil⟩
      ·replace h := h.2 hc
       refine wp_skip (X.blk (X.blk (X.then_ (R.list (S.v hf hs (iv ((k1 + 1 : Nat) : Int)) rfl (V.incr rfl rfl rfl hltk1 hlenk1) fun a hf => S.q hf hs (iv ((k1 + 1 : Nat) : Int)) rfl fun a hf => X.n ?_)))))
       exact ⟨xk1, llk1, rfl, k1 + 1, range_drop hlk1, range_len hkk1, (by rw [hnext1] at h; exact h), ((((((hf.nil.cons (hf.get 19 _ rfl)).cons (hf.get 18 _ rfl)).cons (hf.get 4 _ rfl)).cons (hf.get 2 _ rfl)).cons (hf.get 1 _ rfl)).cons (hf.get 20 _ rfl)), hs.drop⟩


-- no (*etchhouse/route.finder).spread$1
-- UNSUPPORTED (*etchhouse/route.finder).near: '(*etchhouse/route.finder).spread$1'
-- UNSUPPORTED (*etchhouse/route.finder).spread: 'NoneType' object is not subscriptable
def pinBad (g : Grid) (pins : List Cell) (k : Nat) (x : Cell) : Int := if inG g x = false then 1 else if x ∈ g.Blocked then 14 else if x ∈ pins.take k then 7 else 0
def pinsF (g : Grid) (pins : List Cell) (most : Int) : Int := if pins.length = 0 then 9 else if (pins.length : Int) > most then 2 else firstBad (pinBad g pins) pins 0
theorem S_route_checkPins {g : Grid} (hg : GOk g) {pins : List Cell} {most : Int} {Q : Int → Prop} (h : Q (pinsF g pins most)) : M_route_checkPins g (noOf g) pins most Q := by
  unfold M_route_checkPins
  unfold pinsF at h
  refine cnd_of (fun e => ?_) (fun e => cnd_of (fun e2 => ?_) (fun e2 => ?_))
  · rw [if_pos (by simpa using e)] at h; exact h
  · rw [if_neg (by simpa using e), if_pos (by simpa using e2)] at h; exact h
  · rw [if_neg (by simpa using e), if_neg (by simpa using e2)] at h
    refine forIn_checkP (Q := Q) (pinBad g pins) (fun k x next hx hI hne h0 => ?_) (by
      split
      · rename_i e9; rw [e9] at h; exact h
      · exact h)
    have hlt := lt_of_get hx
    unfold M_route_checkPins_L1
    refine S_isCell hg.sz ?_
    unfold pinBad at hne h0
    cases e6 : inG g x with
    | false => simp only [Bool.not_false, cnd_true]; rw [if_pos e6] at hne; exact hne (by decide)
    | true =>
      simp only [Bool.not_true, cnd_false]
      rw [if_neg (by simp [e6])] at hne h0
      refine S_number hg.sz e6 (idx_nat (noOf_cell hg e6) ?_)
      refine cnd_of (fun e7 => ?_) (fun e7 => ?_)
      · rw [if_pos (by simpa using e7)] at hne; exact hne (by decide)
      · rw [if_neg (by simpa using e7)] at hne h0
        refine ⟨⟨Int.le_refl _, by omega, by omega⟩, S_contains_cell ?_⟩
        have hseg : seg pins 0 (k : Int) = pins.take k := by unfold seg; simp
        rw [hseg]
        refine cnd_of (fun e8 => ?_) (fun e8 => ?_)
        · rw [if_pos (by simpa using e8)] at hne; exact hne (by decide)
        · rw [if_neg (by simpa using e8)] at h0; exact h0 rfl
theorem pinsF_zero {g : Grid} {pins : List Cell} {most : Int} (h : pinsF g pins most = 0) : 0 < pins.length ∧ (pins.length : Int) ≤ most ∧ pins.Nodup ∧ ∀ x ∈ pins, inG g x = true ∧ x ∉ g.Blocked := by
  unfold pinsF at h
  split at h
  · exact absurd h (by decide)
  · rename_i e1
    split at h
    · exact absurd h (by decide)
    · rename_i e2
      have hall : ∀ i x, pins[i]? = some x → inG g x = true ∧ x ∉ g.Blocked ∧ x ∉ pins.take i := fun i x hx => by
        have := firstBad_ok h i x hx
        unfold pinBad at this
        split at this
        · exact absurd this (by decide)
        · rename_i e3
          split at this
          · exact absurd this (by decide)
          · rename_i e4
            split at this
            · exact absurd this (by decide)
            · rename_i e5; exact ⟨by simpa using e3, e4, e5⟩
      refine ⟨by omega, by omega, ?_, fun x hx => ?_⟩
      · rw [List.nodup_iff_pairwise_ne, List.pairwise_iff_getElem]
        intro i j hi hj hij e
        have h1 := (hall j _ (List.getElem?_eq_getElem hj)).2.2
        exact h1 (List.mem_of_getElem? (i := i) (by rw [List.getElem?_take, if_pos hij, List.getElem?_eq_getElem hi, e]))
      · obtain ⟨i, hi⟩ := List.getElem?_of_mem hx
        have := hall i x hi
        exact ⟨this.1, this.2.1⟩
end Go.Proofs.YtihjaehkdgdenaaGreatDoor
