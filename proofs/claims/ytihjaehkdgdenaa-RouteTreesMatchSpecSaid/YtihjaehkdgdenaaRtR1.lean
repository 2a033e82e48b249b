/- Chapter texts of ours, as far as the claim needs them. -/
import Derived.Test.YtihjaehkdgdenaaRtS
import Derived.Test.YtihjaehkdgdenaaRtC
namespace Go.Proofs.Ytihjaehkdgdenaa
open Go Go.RowKit
set_option linter.unusedVariables false
set_option linter.unusedSimpArgs false
set_option linter.unusedVariables false
def M_keys_least_k2 (xk1 : Int) (n2 : Int) (next1 : Int → Prop) (c1 : Bool) : Prop :=
  cnd c1 (next1 xk1) (next1 n2)
def M_keys_least_L1  (k1 : Nat) (xk1 : Int) (n2 : Int) (next1 : Int → Prop) : Prop :=
  cnd (decide (xk1 ≥ 0)) (cnd (decide (n2 < 0)) (M_keys_least_k2 xk1 n2 next1 true) (M_keys_least_k2 xk1 n2 next1 (decide (xk1 < n2)))) (M_keys_least_k2 xk1 n2 next1 false)
def M_keys_least (keys : (List Int)) (n : Int) (Q : Int → Prop) : Prop :=
  must (0 ≤ w64 (3 * n) ∧ w64 (3 * n) ≤ w64 ((w64 (3 * n)) + 3) ∧ w64 ((w64 (3 * n)) + 3) ≤ (keys.length : Int)) (forIn' (fun k x (s : Int) next => M_keys_least_L1 k x s (fun n2 => next n2)) (fun (s : Int) => (fun (n2 : Int) => Q n2) s) (seg keys (w64 (3 * n)) (w64 ((w64 (3 * n)) + 3))) 0 (-1))
set_option maxHeartbeats 1000000 in
theorem R_keys_least (keys : (List Int)) (n : Int) (w0 : World) (keysA : Option Addr) (keysC : Nat) (hv_keys : View w0 (old w0 none_) keysA keysC keys) (Q : Int → Prop) (h : M_keys_least keys n Q) :
  Ret Try.prog 42 #[.slice keysA keys.length keysC, iv n] w0 fun v w' => ∃ (r0 : Int), v = iv r0 ∧ Q r0 ∧ Sat w0 none_ [] w' := by
 refine fn_enter Try.func42 rfl Try.ntmps42 rfl (fs := [(0, .slice keysA keys.length keysC), (1, iv n)]) rfl (fun a hf => ?_)
 have hs := Sat.start w0 none_
 unfold M_keys_least at h
 refine wp_seq (R.list ?_)
 refine S.p hf hs (iv 0) rfl rfl fun a hf => ?_
 refine R.nil (X.then_ (wp_seq (R.list ?_)))
 refine S.p hf hs (iv (-1)) rfl rfl fun a hf => ?_
 refine R.nil (X.then_ (wp_seq (wp_seq (R.list ?_))))
 refine S.p hf hs (.slice keysA keys.length keysC) rfl rfl fun a hf => ?_
 refine S.p hf hs (iv n) rfl rfl fun a hf => ?_
 refine S.p hf hs (iv (w64 (3 * n))) rfl rfl fun a hf => ?_
 refine S.p hf hs (iv n) rfl rfl fun a hf => ?_
 refine S.p hf hs (iv (w64 (3 * n))) rfl rfl fun a hf => ?_
 refine S.p hf hs (iv (w64 ((w64 (3 * n)) + 3))) rfl rfl fun a hf => ?_
 obtain ⟨hp1, h⟩ := h
 refine S.v hf hs (.slice (segA keysA keysC (w64 (3 * n) : Int).toNat 1) (seg keys (w64 (3 * n)) (w64 ((w64 (3 * n)) + 3))).length (keysC - (w64 (3 * n) : Int).toNat)) rfl (V.slice rfl rfl rfl rfl Try.runUnderlying55 Try.sizeOf3 rfl rfl hp1 hv_keys.cap (seg_length (by have := hp1.2.2; omega))) fun a hf => ?_
 refine S.v hf hs (iv ((seg keys (w64 (3 * n)) (w64 ((w64 (3 * n)) + 3))).length : Int)) rfl (V.len rfl rfl Try.runUnderlying55) fun a hf => ?_
 refine S.p hf hs (iv 0) rfl rfl fun a hf => ?_
 refine R.nil (X.then_ (wp_block ?_))
 have hlenk1 := (View.sub hv_keys hp1).len64
 refine C.range (fun (ll : List Int) a w => ∃ (k1 : Nat) (n2 : Int), (seg keys (w64 (3 * n)) (w64 ((w64 (3 * n)) + 3))).drop k1 = ll ∧ k1 + ll.length = (seg keys (w64 (3 * n)) (w64 ((w64 (3 * n)) + 3))).length ∧ forIn' (fun k x (s : Int) next => M_keys_least_L1 k x s (fun n2 => next n2)) (fun (s : Int) => (fun (n2 : Int) => Q n2) s) ll k1 n2 ∧ FrOk 34 [(16, iv (k1 : Int)), (5, iv n2), (14, .slice (segA keysA keysC (w64 (3 * n) : Int).toNat 1) (seg keys (w64 (3 * n)) (w64 ((w64 (3 * n)) + 3))).length (keysC - (w64 (3 * n) : Int).toNat)), (15, iv ((seg keys (w64 (3 * n)) (w64 ((w64 (3 * n)) + 3))).length : Int))] a ∧ Sat w0 none_ [] w) (seg keys (w64 (3 * n)) (w64 ((w64 (3 * n)) + 3))) ⟨0, (-1), rfl, Nat.zero_add _, h, ((((hf.nil.cons (hf.get 15 _ rfl)).cons (hf.get 14 _ rfl)).cons (hf.get 5 _ rfl)).cons (hf.get 16 _ rfl)), hs⟩ ?_
 clear h hf hs
 rintro llk1 a w ⟨k1, n2, hlk1, hkk1, h, hf, hs⟩
 cases llk1 with
 | nil =>
  have hc := range_done hkk1
  replace h : (fun (n2 : Int) => Q n2) n2 := h
  refine wp_seq (R.list ?_)
  refine S.v hf hs (.bool false) rfl (V.cmp false rfl rfl rfl rfl hc) fun a hf => ?_
  refine R.nil (X.then_ (wp_seq ?_))
  refine C.no hf rfl ?_
  refine wp_exit (X.then_exit (X.then_exit (X.blk_exit (X.then_ (wp_seq (R.list ?_))))))
  refine S.p hf hs (iv n2) rfl rfl fun a hf => ?_
  refine S.p hf hs (iv n2) rfl rfl fun a hf => ?_
  refine R.nil (X.then_ (wp_ret ?_))
  exact L.ret hf (run_results1 Try.results42 (ResIs.tmp hf rfl)) ⟨n2, rfl, h, hs.nil⟩
 | cons xk1 llk1 =>
  have hltk1 := range_lt hkk1; have hc := range_go hkk1; have hxk1 := range_get hlk1
  obtain ⟨next1, hnext1⟩ : ∃ X : Int → Prop, X = (fun n2 => forIn' (fun k x (s : Int) next => M_keys_least_L1 k x s (fun n2 => next n2)) (fun (s : Int) => (fun (n2 : Int) => Q n2) s) llk1 (k1 + 1) n2) := ⟨_, rfl⟩
  replace h : M_keys_least_L1 k1 xk1 n2 next1 := by rw [hnext1]; exact h
  unfold M_keys_least_L1 at h
  refine wp_seq (R.list ?_)
  refine S.v hf hs (.bool true) rfl (V.cmp true rfl rfl rfl rfl hc) fun a hf => ?_
  refine R.nil (X.then_ (wp_seq ?_))
  refine C.yes hf rfl ?_
  refine wp_skip (X.then_ (wp_seq (wp_block (wp_seq (R.list ?_)))))
  refine S.v hf hs (elemPtr (segA keysA keysC (w64 (3 * n) : Int).toNat 1) (k1 * 1)) rfl (V.index rfl rfl rfl Try.runUnderlying55 Try.sizeOf3 ((View.sub hv_keys hp1).some_ (lt_of_get hxk1)) (Int.natCast_nonneg _) (lt_of_get hxk1) rfl) fun a hf => ?_
  refine S.v hf hs (iv xk1) rfl (V.loadEl (off := 0) (Ag.args _ _ _) ((View.sub hv_keys hp1).flat hxk1) rfl rfl rfl Try.isAgg3 Try.sizeOf3 rfl rfl) fun a hf => ?_
  refine S.p hf hs (iv xk1) rfl rfl fun a hf => ?_
  refine R.nil (X.then_ (wp_seq ?_))
  refine C.cut (J := fun a w => ∃ (c1 : Bool), M_keys_least_k2 xk1 n2 next1 c1 ∧ FrOk 34 [(5, iv n2), (7, iv xk1), (14, .slice (segA keysA keysC (w64 (3 * n) : Int).toNat 1) (seg keys (w64 (3 * n)) (w64 ((w64 (3 * n)) + 3))).length (keysC - (w64 (3 * n) : Int).toNat)), (15, iv ((seg keys (w64 (3 * n)) (w64 ((w64 (3 * n)) + 3))).length : Int)), (16, iv (k1 : Int)), (30, .bool c1)] a ∧ Sat w0 none_ [] w) ?_ ?_
  ·rintro a w ⟨c1, h, hf, hs⟩
   unfold M_keys_least_k2 at h
   refine C.cond hf (b := c1) rfl (fun hc => ?_) (fun hc => ?_)
   ·replace h := h.1 hc
    refine R.list ?_
    refine S.p hf hs (iv xk1) rfl rfl fun a hf => ?_
    refine S.p hf hs (iv xk1) rfl rfl fun a hf => ?_
    refine R.nil (X.blk (X.then_ (R.list ?_)))
    refine S.v hf hs (iv ((k1 + 1 : Nat) : Int)) rfl (V.incr rfl rfl rfl hltk1 hlenk1) fun a hf => ?_
    refine S.p hf hs (iv ((k1 + 1 : Nat) : Int)) rfl rfl fun a hf => ?_
    refine R.nil (X.then_ ?_)
    exact ⟨xk1, llk1, rfl, k1 + 1, xk1, range_drop hlk1, range_len hkk1, (by rw [hnext1] at h; exact h), ((((hf.nil.cons (hf.get 15 _ rfl)).cons (hf.get 14 _ rfl)).cons (hf.get 5 _ rfl)).cons (hf.get 16 _ rfl)), hs⟩
   ·replace h := h.2 hc
    refine wp_skip (X.blk (X.then_ (R.list ?_)))
    refine S.v hf hs (iv ((k1 + 1 : Nat) : Int)) rfl (V.incr rfl rfl rfl hltk1 hlenk1) fun a hf => ?_
    refine S.p hf hs (iv ((k1 + 1 : Nat) : Int)) rfl rfl fun a hf => ?_
    refine R.nil (X.then_ ?_)
    exact ⟨xk1, llk1, rfl, k1 + 1, n2, range_drop hlk1, range_len hkk1, (by rw [hnext1] at h; exact h), ((((hf.nil.cons (hf.get 15 _ rfl)).cons (hf.get 14 _ rfl)).cons (hf.get 5 _ rfl)).cons (hf.get 16 _ rfl)), hs⟩
  ·skip
   refine R.list ?_
   refine S.p hf hs (iv xk1) rfl rfl fun a hf => ?_
   refine S.p hf hs (.bool (decide (xk1 ≥ 0))) rfl rfl fun a hf => ?_
   refine S.split hf hs (b := decide (xk1 ≥ 0)) rfl rfl rfl (V.pure rfl) (fun hc a hf => ?_) (fun hc a hf => ?_)
   ·replace h := h.1 hc
    refine S.p hf hs (iv n2) rfl rfl fun a hf => ?_
    refine S.p hf hs (.bool (decide (n2 < 0))) rfl rfl fun a hf => ?_
    refine S.split hf hs (b := decide (n2 < 0)) rfl rfl rfl (V.pure rfl) (fun hc a hf => ?_) (fun hc a hf => ?_)
    ·replace h := h.1 hc
     refine S.k hf rfl fun a hf => ?_
     refine S.k hf rfl fun a hf => ?_
     refine S.k hf rfl fun a hf => ?_
     refine S.p hf hs (.bool true) rfl rfl fun a hf => ?_
     refine S.p hf hs (.bool true) rfl rfl fun a hf => ?_
     refine R.nil (X.then_ ?_)
     exact ⟨true, h, ((((((hf.nil.cons (hf.get 30 _ rfl)).cons (hf.get 16 _ rfl)).cons (hf.get 15 _ rfl)).cons (hf.get 14 _ rfl)).cons (hf.get 7 _ rfl)).cons (hf.get 5 _ rfl)), hs⟩
    ·replace h := h.2 hc
     refine S.p hf hs (iv xk1) rfl rfl fun a hf => ?_
     refine S.p hf hs (iv n2) rfl rfl fun a hf => ?_
     refine S.p hf hs (.bool (decide (xk1 < n2))) rfl rfl fun a hf => ?_
     refine S.p hf hs (.bool (decide (xk1 < n2))) rfl rfl fun a hf => ?_
     refine S.p hf hs (.bool (decide (xk1 < n2))) rfl rfl fun a hf => ?_
     refine R.nil (X.then_ ?_)
     exact ⟨(decide (xk1 < n2)), h, ((((((hf.nil.cons (hf.get 30 _ rfl)).cons (hf.get 16 _ rfl)).cons (hf.get 15 _ rfl)).cons (hf.get 14 _ rfl)).cons (hf.get 7 _ rfl)).cons (hf.get 5 _ rfl)), hs⟩
   ·replace h := h.2 hc
    refine S.k hf rfl fun a hf => ?_
    refine S.k hf rfl fun a hf => ?_
    refine S.k hf rfl fun a hf => ?_
    refine S.k hf rfl fun a hf => ?_
    refine S.k hf rfl fun a hf => ?_
    refine S.k hf rfl fun a hf => ?_
    refine S.k hf rfl fun a hf => ?_
    refine S.p hf hs (.bool false) rfl rfl fun a hf => ?_
    refine R.nil (X.then_ ?_)
    exact ⟨false, h, ((((((hf.nil.cons (hf.get 30 _ rfl)).cons (hf.get 16 _ rfl)).cons (hf.get 15 _ rfl)).cons (hf.get 14 _ rfl)).cons (hf.get 7 _ rfl)).cons (hf.get 5 _ rfl)), hs⟩
section
variable {g : Grid} {c : Costs}
theorem S_keys_least {out : List Int} {n : Nat} (hn : 3 * n + 3 ≤ out.length) (hl : out.length ≤ 1000000) {Q : Int → Prop} (h : Q (Gr.leastK out n)) : M_keys_least out (n : Int) Q := by
  unfold M_keys_least
  rw [show w64 (3 * (n : Int)) = ((3 * n : Nat) : Int) by rw [w64_id] <;> omega, show w64 (((3 * n : Nat) : Int) + 3) = ((3 * n + 3 : Nat) : Int) by rw [w64_id] <;> omega]
  refine ⟨⟨by omega, by omega, by omega⟩, ?_⟩
  have hseg : seg out ((3 * n : Nat) : Int) ((3 * n + 3 : Nat) : Int) = [out.getD (3 * n) (-1), out.getD (3 * n + 1) (-1), out.getD (3 * n + 2) (-1)] := by
    have e : ∀ j, j < 3 → out[3 * n + j]? = some (out.getD (3 * n + j) (-1)) := fun j hj => by
      rw [List.getD_eq_getElem?_getD, List.getElem?_eq_getElem (show 3 * n + j < out.length by omega)]; rfl
    unfold seg
    apply List.ext_getElem?
    intro i
    simp only [Int.toNat_natCast]
    rw [List.getElem?_drop, List.getElem?_take]
    rcases (show i = 0 ∨ i = 1 ∨ i = 2 ∨ 3 ≤ i by omega) with rfl | rfl | rfl | hi
    · rw [if_pos (by omega), e 0 (by omega)]; rfl
    · rw [if_pos (by omega), e 1 (by omega)]; rfl
    · rw [if_pos (by omega), e 2 (by omega)]; rfl
    · rw [if_neg (by omega), List.getElem?_eq_none (by simpa using hi)]
  rw [hseg]
  have one : ∀ (k : Nat) (x b : Int) (next : Int → Prop), next (Gr.lk b x) → M_keys_least_L1 k x b next := fun k x b next hn => by
    unfold Gr.lk at hn
    unfold M_keys_least_L1 M_keys_least_k2
    refine cnd_of (fun e => cnd_of (fun e2 => ?_) (fun e2 => ?_)) (fun e => ?_)
    · simp only [cnd_true]; rw [if_pos ⟨by simpa using e, .inl (by simpa using e2)⟩] at hn; exact hn
    · refine cnd_of (fun e3 => ?_) (fun e3 => ?_)
      · rw [if_pos ⟨by simpa using e, .inr (by simpa using e3)⟩] at hn; exact hn
      · rw [if_neg (fun hh => by simp at e2 e3; omega)] at hn; exact hn
    · simp only [cnd_false]; rw [if_neg (fun hh => by simp at e; omega)] at hn; exact hn
  exact one 0 _ _ _ (one 1 _ _ _ (one 2 _ _ _ h))
theorem leastK_le (hg : GOk g) {S : List Nat} {out : List Int} (h : (grC g c).FromAll S out) (hS : ∀ s ∈ S.map (3 * ·), s < 3 * (grG g).N) {n : Nat} (hn : n < (grG g).N) : -1 ≤ Gr.leastK out n ∧ Gr.leastK out n ≤ 400000000000000 := by
  have hN := hg.N
  have hkB : kB = 1048576 := rfl
  rcases Gr.leastK_cases out n with ⟨h1, _⟩ | ⟨h1, ⟨j, hj, h2⟩, _⟩
  · omega
  · have hl : 3 * n + j < out.length := by rw [h.least.len]; show _ < 3 * (grG g).N; omega
    have hd : out[3 * n + j]? = some (Gr.leastK out n) := by
      rw [List.getD_eq_getElem?_getD, List.getElem?_eq_getElem hl] at h2
      rw [List.getElem?_eq_getElem hl]; exact congrArg some h2
    obtain ⟨k, m, w, e, h3, h4⟩ := h.least.way _ _ hd h1
    have hle := Wk.le (h.ok.good false) hS w
    have h5 : m < 3 * (grG g).N := h4
    rw [hkB] at e; omega
end
end Go.Proofs.Ytihjaehkdgdenaa
