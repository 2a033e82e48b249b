/- Chapter texts of ours, as far as the claim needs them. -/
import Derived.Test.YtihjaehkdgdenaaGreatDoorRtH
import Derived.Test.YtihjaehkdgdenaaGreatDoorWalks
import Derived.Test.YtihjaehkdgdenaaGreatDoorWays
import Derived.Test.YtihjaehkdgdenaaGreatDoorRtC
namespace Go.Proofs.YtihjaehkdgdenaaGreatDoor
open Go Go.RowKit
set_option linter.unusedVariables false
set_option linter.unusedSectionVars false
set_option linter.unusedSimpArgs false
def cellN (g : Grid) (n : Nat) : Cell := ⟨((grG g).X n : Int), ((grG g).Y n : Int), ((grG g).Z n : Int)⟩
section
variable {g : Grid} {c : Costs} {n m : Nat}
theorem grG_w (hs : Sz g) : g.W = ((grG g).W : Int) := by have := hs.W; simp only [grG]; omega
theorem grG_h (hs : Sz g) : g.H = ((grG g).H : Int) := by have := hs.H; simp only [grG]; omega
theorem grG_l (hs : Sz g) : g.Layers = ((grG g).L : Int) := by have := hs.L; simp only [grG]; omega
theorem cellN_in (hs : Sz g) (hn : n < (grG g).N) : inG g (cellN g n) = true := by
  have hx := (grG g).X_lt hn
  have hy := (grG g).Y_lt hn
  have hz := (grG g).Z_lt hn
  refine inG_iff.2 ?_
  rw [grG_w hs, grG_h hs, grG_l hs]
  unfold cellN; simp only; omega
theorem numN_cellN (g : Grid) (n : Nat) : numN g (cellN g n) = n := by
  unfold numN cellN; simp only [Int.toNat_natCast]; exact (grG g).num_self n
theorem cellN_numN (hs : Sz g) {a : Cell} (ha : inG g a = true) : cellN g (numN g a) = a := by
  obtain ⟨a1, a2, a3⟩ := numN_xyz hs ha
  obtain ⟨hx, hy, hz⟩ := inG_iff.1 ha
  unfold cellN
  rw [a1, a2, a3, Int.toNat_of_nonneg hx.1, Int.toNat_of_nonneg hy.1, Int.toNat_of_nonneg hz.1]
theorem S_cell_at (hs : Sz g) (hn : n < (grG g).N) {Q : Cell → Prop} (h : Q (cellN g n)) : M_route_cell g (n : Int) Q := by
  have hW := hs.W; have hH := hs.H
  have hN := NN_le hs
  have hw := grG_w hs; have hh := grG_h hs
  have e0 : w64 ((n : Int).tdiv g.W) = ((n / (grG g).W : Nat) : Int) := by
    rw [hw, ← Int.ofNat_tdiv]; exact w64_nat (Nat.le_trans (Nat.div_le_self _ _) (by omega))
  unfold M_route_cell
  refine ⟨by omega, by omega, by omega, by omega, by omega, ?_⟩
  have e1 : (n : Int).tmod g.W = ((grG g).X n : Int) := by rw [hw, ← Int.ofNat_tmod]; rfl
  have e2 : (w64 ((n : Int).tdiv g.W)).tmod g.H = ((grG g).Y n : Int) := by rw [e0, hh, ← Int.ofNat_tmod]; rfl
  have e3 : w64 ((w64 ((n : Int).tdiv g.W)).tdiv g.H) = ((grG g).Z n : Int) := by
    rw [e0, hh, ← Int.ofNat_tdiv]; exact w64_nat (Nat.le_trans (Nat.div_le_self _ _) (Nat.le_trans (Nat.div_le_self _ _) (by omega)))
  rw [e1, e2, e3]; exact h
theorem axC_nb {al : Int} (h : (grG g).Nb n m al) : axC (cellN g n) (cellN g m) = al := by
  unfold axC df cellN
  simp only
  have h2 := h.2.2
  rcases h2 with ⟨rfl, h3, h4, h5⟩ | ⟨rfl, h3, h4, h5⟩ | ⟨rfl, h3, h4, h5⟩
  · rw [if_pos (by omega)]
  · rw [if_neg (by omega), if_pos (by omega)]
  · rw [if_neg (by omega), if_neg (by omega), if_pos (by omega)]
end
theorem Least.uniq {E : Nat → List (Nat × Int)} {S : List Nat} {N : Nat} {out out' : List Int} (h : Least E S N out) (h' : Least E S N out') : out = out' := by
  apply List.ext_getElem?
  intro i
  rcases Nat.lt_or_ge i N with hi | hi
  · have e1 : out[i]? = some (out[i]'(by rw [h.len]; exact hi)) := List.getElem?_eq_getElem _
    have e2 : out'[i]? = some (out'[i]'(by rw [h'.len]; exact hi)) := List.getElem?_eq_getElem _
    rw [e1, e2, h.eq h' (fun c n => Iff.rfl) e1 e2]
  · rw [List.getElem?_eq_none (by rw [h.len]; exact hi), List.getElem?_eq_none (by rw [h'.len]; exact hi)]
section
variable {g : Grid} {c : Costs}
theorem fromAll_of (hg : GOk g) (hc : COk c) {S : List Nat} (hS : ∀ a ∈ S, a < (grG g).N ∧ (grC g c).no a = false) {out : List Int} (h : Least ((grC g c).E false) (S.map (3 * ·)) (3 * (grC g c).N) out) : (grC g c).FromAll S out := ⟨(goodF_of hg hc).ok, hS, h⟩
theorem free_cell (hg : GOk g) {a : Cell} (ha : inG g a = true ∧ a ∉ g.Blocked) : numN g a < (grG g).N ∧ (grC g c).no (numN g a) = false := by
  refine ⟨numN_lt hg.sz ha.1, ?_⟩
  show (noOf g).getD (numN g a) true = false
  rw [List.getD_eq_getElem?_getD, noOf_cell hg ha.1]
  simp [ha.2]
theorem S_from {f : RouteFinder} (hf : GoodF f) {S : List Nat} (hnd : S.Nodup) (hlt : ∀ a ∈ S, a < (grOf f).N) {Q : List Int → Prop} (h : ∀ out, Least ((grOf f).E false) (S.map (3 * ·)) (3 * (grOf f).N) out → Q out) : M_finder_from f (S.map (fun n : Nat => (n : Int))) Q := by
  have hN := hf.N
  have hl : S.length ≤ (grOf f).N := nodup_len _ _ hnd hlt
  unfold M_finder_from
  refine forIn0 (fun k (l : List Int) => l = (S.take k).map (fun n : Nat => ((3 * n : Nat) : Int))) (by simp) (fun k x l hx hI next hn => ?_) (fun l hI => ?_)
  · rw [List.getElem?_map] at hx
    obtain ⟨n, hn2, rfl⟩ := Option.map_eq_some_iff.1 hx
    have hnl := hlt n (List.mem_of_getElem? hn2)
    have hk := lt_of_get hn2
    unfold M_finder_from_L1
    subst hI
    rw [show w64 (3 * (n : Int)) = ((3 * n : Nat) : Int) by rw [w64_id] <;> omega]
    refine ⟨room_of (by simp only [List.length_append, List.length_map, List.length_take, List.length_singleton]; omega) (by decide), hn _ ?_⟩
    rw [List.take_add_one, hn2, List.map_append]; rfl
  · have := S_search (f := f) (back := false) (Sn := S.map (3 * ·)) hf (List.pairwise_map.2 (hnd.imp (fun h e => h (by omega)))) (fun s hs => by obtain ⟨a, ha, rfl⟩ := List.mem_map.1 hs; have := hlt a ha; omega) h
    rw [List.map_map] at this
    rw [List.length_map, List.take_length] at hI
    rw [hI]; exact this
end
end Go.Proofs.YtihjaehkdgdenaaGreatDoor
namespace Go.Proofs.YtihjaehkdgdenaaGreatDoor
open Tryz Go Go.RowKit
set_option linter.unusedVariables false
set_option linter.unusedSectionVars false
set_option linter.unusedSimpArgs false
def M_keys_least_k2 (xk1 : Int) (n2 : Int) (next1 : Int → Prop) (c1 : Bool) : Prop :=
  cnd c1 (next1 xk1) (next1 n2)
def M_keys_least_L1  (k1 : Nat) (xk1 : Int) (n2 : Int) (next1 : Int → Prop) : Prop :=
  cnd (decide (xk1 ≥ 0)) (cnd (decide (n2 < 0)) (M_keys_least_k2 xk1 n2 next1 true) (M_keys_least_k2 xk1 n2 next1 (decide (xk1 < n2)))) (M_keys_least_k2 xk1 n2 next1 false)
def M_keys_least (keys : (List Int)) (n : Int) (Q : Int → Prop) : Prop :=
  must (0 ≤ w64 (3 * n) ∧ w64 (3 * n) ≤ w64 ((w64 (3 * n)) + 3) ∧ w64 ((w64 (3 * n)) + 3) ≤ (keys.length : Int)) (forIn' (fun k x (s : Int) next => M_keys_least_L1 k x s (fun n2 => next n2)) (fun (s : Int) => (fun (n2 : Int) => Q n2) s) (seg keys (w64 (3 * n)) (w64 ((w64 (3 * n)) + 3))) 0 (-1))
set_option maxHeartbeats 1000000 in
theorem R_keys_least (keys : (List Int)) (n : Int) (w0 : World) (keysA : Option Addr) (keysC : Nat) (hv_keys : View w0 (old w0 none_) keysA keysC keys) (Q : Int → Prop) (h : M_keys_least keys n Q) :
  Ret Tryz.prog 102 #[.slice keysA keys.length keysC, iv n] w0 fun v w' => ∃ (r0 : Int), v = iv r0 ∧ Q r0 ∧ Sat w0 none_ [] w' := by
 refine fn_enter func102 rfl ntmps102 rfl (fs := [(0, .slice keysA keys.length keysC), (1, iv n)]) rfl (fun a hf => ?_)
 have hs := Sat.start w0 none_
 unfold M_keys_least at h
 refine X.l (S.q hf hs (iv 0) rfl fun a hf => X.n (X.l (S.q hf hs (iv (-1)) rfl fun a hf => X.n (wp_seq (X.l (S.q hf hs (.slice keysA keys.length keysC) rfl fun a hf => S.q hf hs (iv n) rfl fun a hf => S.q hf hs (iv (w64 (3 * n))) rfl fun a hf => S.q hf hs (iv n) rfl fun a hf => S.q hf hs (iv (w64 (3 * n))) rfl fun a hf => S.q hf hs (iv (w64 ((w64 (3 * n)) + 3))) rfl fun a hf => ?_))))))
 obtain ⟨hp1, h⟩ := h
 refine S.v hf hs (.slice (segA keysA keysC (w64 (3 * n) : Int).toNat 1) (seg keys (w64 (3 * n)) (w64 ((w64 (3 * n)) + 3))).length (keysC - (w64 (3 * n) : Int).toNat)) rfl (V.slice rfl rfl rfl rfl runUnderlying72 sizeOf3 rfl rfl hp1 hv_keys.cap (seg_length (by have := hp1.2.2; omega))) fun a hf => S.v hf hs (iv ((seg keys (w64 (3 * n)) (w64 ((w64 (3 * n)) + 3))).length : Int)) rfl (V.len rfl rfl runUnderlying72) fun a hf => S.q hf hs (iv 0) rfl fun a hf => X.n (wp_block ?_)
 have hlenk1 := (View.sub hv_keys hp1).len64
 refine C.range (fun (ll : List Int) a w => ∃ (k1 : Nat) (n2 : Int), (seg keys (w64 (3 * n)) (w64 ((w64 (3 * n)) + 3))).drop k1 = ll ∧ k1 + ll.length = (seg keys (w64 (3 * n)) (w64 ((w64 (3 * n)) + 3))).length ∧ forIn' (fun k x (s : Int) next => M_keys_least_L1 k x s (fun n2 => next n2)) (fun (s : Int) => (fun (n2 : Int) => Q n2) s) ll k1 n2 ∧ FrOk 34 [(16, iv (k1 : Int)), (5, iv n2), (14, .slice (segA keysA keysC (w64 (3 * n) : Int).toNat 1) (seg keys (w64 (3 * n)) (w64 ((w64 (3 * n)) + 3))).length (keysC - (w64 (3 * n) : Int).toNat)), (15, iv ((seg keys (w64 (3 * n)) (w64 ((w64 (3 * n)) + 3))).length : Int))] a ∧ Sat w0 none_ [] w) (seg keys (w64 (3 * n)) (w64 ((w64 (3 * n)) + 3))) ⟨0, (-1), rfl, Nat.zero_add _, h, ((((hf.nil.cons (hf.get 15 _ rfl)).cons (hf.get 14 _ rfl)).cons (hf.get 5 _ rfl)).cons (hf.get 16 _ rfl)), hs⟩ ?_
 clear h hf hs
 rintro llk1 a w ⟨k1, n2, hlk1, hkk1, h, hf, hs⟩
 cases llk1 with
 | nil =>
  have hc := range_done hkk1
  replace h : (fun (n2 : Int) => Q n2) n2 := h
  refine X.l (S.v hf hs (.bool false) rfl (V.cmp false rfl rfl rfl rfl hc) fun a hf => X.n (wp_seq (C.no hf rfl (wp_exit (X.then_exit (X.then_exit (X.blk_exit (X.then_ (X.l (S.q hf hs (iv n2) rfl fun a hf => S.q hf hs (iv n2) rfl fun a hf => X.n (wp_ret ?_)))))))))))
  exact L.ret hf (run_results1 results102 (ResIs.tmp hf rfl)) ⟨n2, rfl, h, hs.nil⟩
 | cons xk1 llk1 =>
  have hltk1 := range_lt hkk1; have hc := range_go hkk1; have hxk1 := range_get hlk1
  obtain ⟨next1, hnext1⟩ : ∃ X : Int → Prop, X = (fun n2 => forIn' (fun k x (s : Int) next => M_keys_least_L1 k x s (fun n2 => next n2)) (fun (s : Int) => (fun (n2 : Int) => Q n2) s) llk1 (k1 + 1) n2) := ⟨_, rfl⟩
  replace h : M_keys_least_L1 k1 xk1 n2 next1 := by rw [hnext1]; exact h
  unfold M_keys_least_L1 at h
  refine X.l (S.v hf hs (.bool true) rfl (V.cmp true rfl rfl rfl rfl hc) fun a hf => X.n (wp_seq (C.yes hf rfl (wp_skip (X.then_ (wp_seq (wp_block (X.l (S.v hf hs (elemPtr (segA keysA keysC (w64 (3 * n) : Int).toNat 1) (k1 * 1)) rfl (V.index rfl rfl rfl runUnderlying72 sizeOf3 ((View.sub hv_keys hp1).some_ (lt_of_get hxk1)) (Int.natCast_nonneg _) (lt_of_get hxk1) rfl) fun a hf => S.v hf hs (iv xk1) rfl (V.loadEl (off := 0) (Ag.args _ _ _) ((View.sub hv_keys hp1).flat hxk1) rfl rfl rfl isAgg3 sizeOf3 rfl rfl) fun a hf => S.q hf hs (iv xk1) rfl fun a hf => X.n (wp_seq ?_))))))))))
  refine C.cut (J := fun a w => ∃ (c1 : Bool), M_keys_least_k2 xk1 n2 next1 c1 ∧ FrOk 34 [(5, iv n2), (7, iv xk1), (14, .slice (segA keysA keysC (w64 (3 * n) : Int).toNat 1) (seg keys (w64 (3 * n)) (w64 ((w64 (3 * n)) + 3))).length (keysC - (w64 (3 * n) : Int).toNat)), (15, iv ((seg keys (w64 (3 * n)) (w64 ((w64 (3 * n)) + 3))).length : Int)), (16, iv (k1 : Int)), (30, .bool c1)] a ∧ Sat w0 none_ [] w) ?_ ?_
  ·rintro a w ⟨c1, h, hf, hs⟩
   unfold M_keys_least_k2 at h
   refine C.cond hf (b := c1) rfl (fun hc => ?_) (fun hc => ?_)
   ·replace h := h.1 hc
    refine R.list (S.q hf hs (iv xk1) rfl fun a hf => S.q hf hs (iv xk1) rfl fun a hf => R.nil (X.blk (X.then_ (R.list (S.v hf hs (iv ((k1 + 1 : Nat) : Int)) rfl (V.incr rfl rfl rfl hltk1 hlenk1) fun a hf => S.q hf hs (iv ((k1 + 1 : Nat) : Int)) rfl fun a hf => X.n ?_)))))
    exact ⟨xk1, llk1, rfl, k1 + 1, xk1, range_drop hlk1, range_len hkk1, (by rw [hnext1] at h; exact h), ((((hf.nil.cons (hf.get 15 _ rfl)).cons (hf.get 14 _ rfl)).cons (hf.get 5 _ rfl)).cons (hf.get 16 _ rfl)), hs⟩
   ·replace h := h.2 hc
    refine wp_skip (X.blk (X.then_ (R.list (S.v hf hs (iv ((k1 + 1 : Nat) : Int)) rfl (V.incr rfl rfl rfl hltk1 hlenk1) fun a hf => S.q hf hs (iv ((k1 + 1 : Nat) : Int)) rfl fun a hf => X.n ?_))))
    exact ⟨xk1, llk1, rfl, k1 + 1, n2, range_drop hlk1, range_len hkk1, (by rw [hnext1] at h; exact h), ((((hf.nil.cons (hf.get 15 _ rfl)).cons (hf.get 14 _ rfl)).cons (hf.get 5 _ rfl)).cons (hf.get 16 _ rfl)), hs⟩
  ·skip
   refine R.list (S.q hf hs (iv xk1) rfl fun a hf => S.q hf hs (.bool (decide (xk1 ≥ 0))) rfl fun a hf => ?_)
   refine S.split hf hs (b := decide (xk1 ≥ 0)) rfl rfl rfl (V.pure rfl) (fun hc a hf => ?_) (fun hc a hf => ?_)
   ·replace h := h.1 hc
    refine S.q hf hs (iv n2) rfl fun a hf => S.q hf hs (.bool (decide (n2 < 0))) rfl fun a hf => ?_
    refine S.split hf hs (b := decide (n2 < 0)) rfl rfl rfl (V.pure rfl) (fun hc a hf => ?_) (fun hc a hf => ?_)
    ·replace h := h.1 hc
     refine S.k hf rfl fun a hf => S.k hf rfl fun a hf => S.k hf rfl fun a hf => S.q hf hs (.bool true) rfl fun a hf => S.q hf hs (.bool true) rfl fun a hf => X.n ?_
     exact ⟨true, h, ((((((hf.nil.cons (hf.get 30 _ rfl)).cons (hf.get 16 _ rfl)).cons (hf.get 15 _ rfl)).cons (hf.get 14 _ rfl)).cons (hf.get 7 _ rfl)).cons (hf.get 5 _ rfl)), hs⟩
    ·replace h := h.2 hc
     refine S.q hf hs (iv xk1) rfl fun a hf => S.q hf hs (iv n2) rfl fun a hf => S.q hf hs (.bool (decide (xk1 < n2))) rfl fun a hf => S.q hf hs (.bool (decide (xk1 < n2))) rfl fun a hf => S.q hf hs (.bool (decide (xk1 < n2))) rfl fun a hf => X.n ?_
     exact ⟨(decide (xk1 < n2)), h, ((((((hf.nil.cons (hf.get 30 _ rfl)).cons (hf.get 16 _ rfl)).cons (hf.get 15 _ rfl)).cons (hf.get 14 _ rfl)).cons (hf.get 7 _ rfl)).cons (hf.get 5 _ rfl)), hs⟩
   ·replace h := h.2 hc
    refine S.k hf rfl fun a hf => S.k hf rfl fun a hf => S.k hf rfl fun a hf => S.k hf rfl fun a hf => S.k hf rfl fun a hf => S.k hf rfl fun a hf => S.k hf rfl fun a hf => S.q hf hs (.bool false) rfl fun a hf => X.n ?_
    exact ⟨false, h, ((((((hf.nil.cons (hf.get 30 _ rfl)).cons (hf.get 16 _ rfl)).cons (hf.get 15 _ rfl)).cons (hf.get 14 _ rfl)).cons (hf.get 7 _ rfl)).cons (hf.get 5 _ rfl)), hs⟩
section
variable {g : Grid} {c : Costs}
theorem S_keys_least {out : List Int} {n : Nat} (hn : 3 * n + 3 ≤ out.length) (hl : out.length ≤ 1000000) {Q : Int → Prop} (h : Q (Gr.leastK out n)) : M_keys_least out (n : Int) Q := by
  unfold M_keys_least
  rw [show w64 (3 * (n : Int)) = ((3 * n : Nat) : Int) by rw [w64_id] <;> omega, show w64 (((3 * n : Nat) : Int) + 3) = ((3 * n + 3 : Nat) : Int) by rw [w64_id] <;> omega]
  refine ⟨⟨by omega, by omega, by omega⟩, ?_⟩
  have hseg : seg out ((3 * n : Nat) : Int) ((3 * n + 3 : Nat) : Int) = [out.getD (3 * n) (-1), out.getD (3 * n + 1) (-1), out.getD (3 * n + 2) (-1)] := by
    have e : ∀ j, j < 3 → out[3 * n + j]? = some (out.getD (3 * n + j) (-1)) := fun j hj => by
      rw [List.getD_eq_getElem?_getD, List.getElem?_eq_getElem (show 3 * n + j < out.length by omega)]; rfl
    unfold seg
    apply List.ext_getElem?
    intro i
    simp only [Int.toNat_natCast]
    rw [List.getElem?_drop, List.getElem?_take]
    rcases (show i = 0 ∨ i = 1 ∨ i = 2 ∨ 3 ≤ i by omega) with rfl | rfl | rfl | hi
    · rw [if_pos (by omega), e 0 (by omega)]; rfl
    · rw [if_pos (by omega), e 1 (by omega)]; rfl
    · rw [if_pos (by omega), e 2 (by omega)]; rfl
    · rw [if_neg (by omega), List.getElem?_eq_none (by simpa using hi)]
  rw [hseg]
  have one : ∀ (k : Nat) (x b : Int) (next : Int → Prop), next (Gr.lk b x) → M_keys_least_L1 k x b next := fun k x b next hn => by
    unfold Gr.lk at hn
    unfold M_keys_least_L1 M_keys_least_k2
    refine cnd_of (fun e => cnd_of (fun e2 => ?_) (fun e2 => ?_)) (fun e => ?_)
    · simp only [cnd_true]; rw [if_pos ⟨by simpa using e, .inl (by simpa using e2)⟩] at hn; exact hn
    · refine cnd_of (fun e3 => ?_) (fun e3 => ?_)
      · rw [if_pos ⟨by simpa using e, .inr (by simpa using e3)⟩] at hn; exact hn
      · rw [if_neg (fun hh => by simp at e2 e3; omega)] at hn; exact hn
    · simp only [cnd_false]; rw [if_neg (fun hh => by simp at e; omega)] at hn; exact hn
  exact one 0 _ _ _ (one 1 _ _ _ (one 2 _ _ _ h))
theorem leastK_le (hg : GOk g) {S : List Nat} {out : List Int} (h : (grC g c).FromAll S out) (hS : ∀ s ∈ S.map (3 * ·), s < 3 * (grG g).N) {n : Nat} (hn : n < (grG g).N) : -1 ≤ Gr.leastK out n ∧ Gr.leastK out n ≤ 400000000000000 := by
  have hN := hg.N
  have hkB : kB = 1048576 := rfl
  rcases Gr.leastK_cases out n with ⟨h1, _⟩ | ⟨h1, ⟨j, hj, h2⟩, _⟩
  · omega
  · have hl : 3 * n + j < out.length := by rw [h.least.len]; show _ < 3 * (grG g).N; omega
    have hd : out[3 * n + j]? = some (Gr.leastK out n) := by
      rw [List.getD_eq_getElem?_getD, List.getElem?_eq_getElem hl] at h2
      rw [List.getElem?_eq_getElem hl]; exact congrArg some h2
    obtain ⟨k, m, w, e, h3, h4⟩ := h.least.way _ _ hd h1
    have hle := Wk.le (h.ok.good false) hS w
    have h5 : m < 3 * (grG g).N := h4
    rw [hkB] at e; omega
end
end Go.Proofs.YtihjaehkdgdenaaGreatDoor
