/- What lines of words are written with. -/
import Derived.Test.YtdnilnmdbgcmoaaGreatDoorTextT
import Derived.Test.YtdnilnmdbgcmoaaGreatDoorShelfB
namespace Go.Proofs.YtdnilnmdbgcmoaaGreatDoor
open Go Go.RowKit Go.Proofs Go.Shelf Go.Lib
set_option linter.unusedVariables false

/-! ### strings.Builder: Grow, of a builder that was just made -/
theorem bldExtraG : Builder.Extra Tryz.prog Tryz.lays241_ren :=
  { sizeBuilder := by kernel_rfl, liesBuilder := by kernel_rfl, t5 := Tryz.underlying5, a5 := Tryz.isAgg5, z5 := Tryz.sizeOf5, v5 := Tryz.zeroValue5, infoByte := by kernel_rfl, cellsByte := by kernel_rfl, sizeByte := by kernel_rfl, neB5 := by decide }
set_option maxHeartbeats 2000000 in
set_option maxRecDepth 100000 in
theorem grow_fresh (B b n : Nat) (w : World) (hB : B ≤ b) (hbk : w.heap[b]? = some (.cells #[.pointer none, .slice none 0 0] 101 (0, 0))) (hBw : B ≤ w.heap.size) (hn : n ≤ 281474976710656) :
    Calls Tryz.prog 131 #[.pointer (some ⟨b, 0, none⟩), .int .i64 n] w fun e w' => e = .returned (.tuple #[]) ∧ (Lib.BuilderAt 101 5 B b (.pointer (some ⟨b, 0, none⟩)) [] w' ∧ Below B w w') := by
  have hbk1 : (w.setCell ⟨b, 0, none⟩ (.pointer (some ⟨b, 0, none⟩))).heap[b]? = some (.cells #[.pointer (some ⟨b, 0, none⟩), .slice none 0 0] 101 (0, 0)) := by
    simp [World.setCell, Array.getElem?_modify, hbk]
  have c1 : (w.setCell ⟨b, 0, none⟩ (.pointer (some ⟨b, 0, none⟩))).cell? ⟨b, 1, none⟩ = some (.slice none 0 0) := by rw [Lib.cell_of_heap hbk1]; rfl
  have hb1 : Below B w (w.setCell ⟨b, 0, none⟩ (.pointer (some ⟨b, 0, none⟩))) := (Below.refl B w).setCell (p := ⟨b, 0, none⟩) hB _
  have t101 := Tryz.underlying101; have a101 := Tryz.isAgg101; have z101 := Tryz.sizeOf101; have u101 := Tryz.runUnderlying101
  have t99 := Tryz.underlying99; have a99 := Tryz.isAgg99; have z99 := Tryz.sizeOf99; have u99 := Tryz.runUnderlying99
  have t3 := Tryz.underlying3; have a3 := Tryz.isAgg3; have z3 := Tryz.sizeOf3; have u3 := Tryz.runUnderlying3
  have e114 : ∀ args w, (callFunc 114 args).run Tryz.prog w = .ok (.enter 114 args) w := enters_of Tryz.func114 (by kernel_rfl) rfl
  have e178 : ∀ args w, (callFunc 178 args).run Tryz.prog w = .ok (.enter 178 args) w := enters_of Tryz.func178 (by kernel_rfl) rfl
  have mixed := mo
  go_enter Tryz.func131, Tryz.ntmps131
  have hU : Lib.BuilderAt 101 5 B b (.pointer (some ⟨b, 0, none⟩)) [] (w.setCell ⟨b, 0, none⟩ (.pointer (some ⟨b, 0, none⟩))) := ⟨hB, .slice none 0 0, hbk1, World.ownsRow_nil _ _ _ _, by simp [Value.ownBlock]⟩
  have c1' : (w.setCell ⟨b, 0, none⟩ (.pointer (some ⟨b, 0, none⟩))).drew.cell? ⟨b, 1, none⟩ = some (.slice none 0 0) := c1
  go_wp2_with (go_at_fn 114; refine (copyCheck_fresh b w (by rw [Lib.cell_of_heap hbk]; rfl) (by simp [World.shape?, hbk]) (Lib.frozen_of_heap hbk 0)).mono ?_; rintro e w' ⟨rfl, rfl⟩)
  go_region_o
  all_goals go_wp2_with (go_at_fn 178; refine (Any.Builder_grow_fresh (P := Tryz.prog) Tryz.lays241 bldExtraG B b n (w.setCell ⟨b, 0, none⟩ (.pointer (some ⟨b, 0, none⟩))).drew hB hbk1 (by simpa [World.setCell, World.drew, -World.drew_eq] using hBw) hn).mono ?_; rintro e w' ⟨rfl, h1, h2⟩)
  all_goals first
    | (go_end0; exact ⟨rfl, h1, hb1.drew.trans h2⟩)
    | (go_end0; exact ⟨rfl, hU.drew, hb1.drew⟩)
theorem bldGrow {w0 w : World} {σ : List HProp} (q : Nat) (hs : Sat w0 none_ σ w) {g : Nat} (h1 : σ[q]? = some (hbox g 101 [.pointer (selfp false g), .slice none 0 0])) {z : Int} (hz : 0 ≤ z ∧ z ≤ 281474976710656) :
    Ret Tryz.prog 131 #[.pointer (some ⟨g, 0, none⟩), .int .i64 z] w fun v w' => v = .tuple #[] ∧ ∃ A C, Sat w0 none_ [hbox g 101 [.pointer (selfp true g), .slice A ([] : Str).length C], hown 5 A C ([] : Str)] w' := by
  obtain ⟨F1, ⟨hg, hF1⟩, hZ1, _⟩ := (hs.front q h1).sat
  have hgB : w0.heap.size ≤ g := (hZ1 g ((hF1 g).2 rfl)).1.1.resolve_left (fun e => e)
  obtain ⟨n, rfl⟩ := Int.eq_ofNat_of_zero_le hz.1
  have key := grow_fresh w0.heap.size g n w hgB hg hs.keeps.size (by omega)
  refine Calls.mono key fun e w' ⟨he, ⟨_, v, hb, ho, hne⟩, hbl⟩ => ⟨_, he, rfl, ?_⟩
  obtain ⟨A, C, rfl⟩ : ∃ A C, v = .slice A ([] : Str).length C := by
    rcases ho.2 with ⟨hv, _⟩ | ⟨k, cap, cur, hv, _⟩
    · exact ⟨none, 0, hv⟩
    · exact ⟨_, cap, hv⟩
  refine ⟨A, C, ⟨hs.keeps.trans (Keeps.of_below' hbl (fun e => absurd e (by decide))) (fun b hb hM => absurd hM (Nat.not_le.2 hb)), ?_⟩⟩
  have lt1 : g < w'.heap.size := (Array.getElem?_eq_some_iff.1 hb).1
  refine ⟨fun b => b = g, ⟨hb, fun b => Iff.rfl⟩, fun b hb' => ⟨⟨.inr (by rw [show b = g from hb']; exact hgB), by rw [show b = g from hb']; exact lt1⟩, fun e => e⟩, fun b => (Value.slice A ([] : Str).length C).ownBlock = some b, ⟨?_, fun b => Iff.rfl⟩, fun b hb' => ⟨?_, ?_⟩, trivial⟩
  · refine ⟨ho.1, ?_⟩
    rcases ho.2 with h | ⟨k, cap, cur, hv, _, r⟩
    · exact .inl h
    · exact .inr ⟨k, cap, cur, hv, Nat.zero_le _, r⟩
  · rcases ho.2 with ⟨h, _⟩ | ⟨k, cap, cur, hv, hk, hh, r⟩
    · rw [h] at hb'; cases hb'
    · rw [hv] at hb'
      injection hb' with hb'
      subst hb'
      exact ⟨.inr hk, (Array.getElem?_eq_some_iff.1 hh).1⟩
  · rintro (e | e)
    · exact e
    · rw [show b = g from e] at hb'; exact hne hb'

set_option linter.unusedVariables false
def M_strings_Join_L2 (sep : Str) (k3 : Nat) (xk3 : Str) (l2 : List UInt8) (b2 : Bool) (next2 : List UInt8 → Bool → Prop) : Prop :=
  M_bld_WriteString (⟨b2, l2⟩ : StringsBuilder) sep fun y3 y4 z2 => M_bld_WriteString z2 xk3 fun y5 y6 z3 => next2 z3.buf z3.addr
def M_strings_Join_L1  (k2 : Nat) (xk2 : Str) (n3 : Int) (next1 : Int → Prop) : Prop :=
  cnd (decide ((xk2.length : Int) > w64 (9223372036854775807 - n3))) (False) (next1 (w64 (n3 + (xk2.length : Int))))
def M_strings_Join_k1 (l : (List Str)) (sep : Str) (Q : Str → Prop) (n1 : Int) : Prop :=
  forIn' (fun k x (s : Int) next => M_strings_Join_L1 k x s (fun n3 => next n3)) (fun (s : Int) => (fun (n3 : Int) => must (0 ≤ n3 ∧ n3 ≤ 281474976710656) (idx l 0 fun x2 => M_bld_WriteString (⟨true, ([] : Str)⟩ : StringsBuilder) x2 fun y1 y2 z1 => must (0 ≤ (1 : Int) ∧ (1 : Int) ≤ (l.length : Int) ∧ (l.length : Int) ≤ (l.length : Int)) (forIn' (fun k x (s : List UInt8 × Bool) next => M_strings_Join_L2 sep k x s.1 s.2 (fun l2 b2 => next (l2, b2))) (fun (s : List UInt8 × Bool) => (fun (l2 : List UInt8) (b2 : Bool) => Q l2) s.1 s.2) (seg l (1 : Int) (l.length : Int)) 0 (z1.buf, z1.addr)))) s) l 0 n1
def M_strings_Join (l : (List Str)) (sep : Str) (Q : Str → Prop) : Prop :=
  cnd ((l.length : Int) == 0) (Q []) (cnd ((l.length : Int) == 1) (idx l 0 fun x1 => Q x1) (cnd (decide ((sep.length : Int) > 0)) (must (w64 ((l.length : Int) - 1) ≠ 0) (cnd (decide ((sep.length : Int) ≥ w64 ((9223372036854775807 : Int).tdiv (w64 ((l.length : Int) - 1))))) (False) (M_strings_Join_k1 l sep Q (w64 (0 + (w64 ((sep.length : Int) * (w64 ((l.length : Int) - 1))))))))) (M_strings_Join_k1 l sep Q 0)))
set_option maxHeartbeats 1000000 in
theorem R_strings_Join (l : (List Str)) (sep : Str) (w0 : World) (lA : Option Addr) (lC : Nat) (hv_l : View w0 (old w0 none_) lA lC l) (Q : Str → Prop) (h : M_strings_Join l sep Q) :
    Ret Tryz.prog 65 #[.slice lA l.length lC, .string (ba sep)] w0 fun v w' => ∃ (r0 : Str), v = .string (ba r0) ∧ Q r0 ∧ Sat w0 none_ [] w' := by
  refine fn_enter Tryz.func65 rfl Tryz.ntmps65 rfl (fs := [(0, .slice lA l.length lC), (1, .string (ba sep))]) rfl (fun a hf => ?_)
  have hs := Sat.start w0 none_
  unfold M_strings_Join at h
  refine wp_seq ?_
  refine R.list ?_
  refine S.val hf hs (v := .string (ba [])) rfl rfl rfl (V.pure rfl) (fun a hf => ?_)
  refine R.nil ?_
  refine X.then_ ?_
  refine wp_seq ?_
  refine wp_seq ?_
  refine R.list ?_
  refine S.val hf hs (v := .slice lA l.length lC) rfl rfl rfl (V.pure rfl) (fun a hf => ?_)
  refine S.val hf hs (v := .int .i64 (l.length : Int)) rfl rfl rfl (V.len rfl rfl Tryz.runUnderlying74) (fun a hf => ?_)
  refine R.nil ?_
  refine X.then_ ?_
  refine wp_block ?_
  refine wp_seq ?_
  refine R.list ?_
  refine S.val hf hs (v := .bool ((l.length : Int) == 0)) rfl rfl rfl (V.pure rfl) (fun a hf => ?_)
  refine S.val hf hs (v := .bool ((l.length : Int) == 0)) rfl rfl rfl (V.pure rfl) (fun a hf => ?_)
  refine R.nil ?_
  refine X.then_ ?_
  refine C.cond hf (b := (l.length : Int) == 0) rfl (fun hc => ?_) (fun hc => ?_)
  · replace h := h.1 hc
    refine wp_seq ?_
    refine R.list ?_
    refine S.val hf hs (v := .string (ba [])) rfl rfl rfl (V.pure rfl) (fun a hf => ?_)
    refine R.nil ?_
    refine X.then_ ?_
    refine wp_ret ?_
    refine X.blk_ret ?_
    refine X.then_ret ?_
    exact L.ret hf (run_results1 Tryz.results65 (ResIs.tmp hf rfl)) ⟨[], rfl, h, hs.nil⟩
  · replace h := h.2 hc
    refine wp_seq ?_
    refine R.list ?_
    refine S.val hf hs (v := .bool ((l.length : Int) == 1)) rfl rfl rfl (V.pure rfl) (fun a hf => ?_)
    refine S.val hf hs (v := .bool ((l.length : Int) == 1)) rfl rfl rfl (V.pure rfl) (fun a hf => ?_)
    refine R.nil ?_
    refine X.then_ ?_
    refine C.cond hf (b := (l.length : Int) == 1) rfl (fun hc => ?_) (fun hc => ?_)
    · replace h := h.1 hc
      refine wp_seq ?_
      refine R.list ?_
      refine S.val hf hs (v := .slice lA l.length lC) rfl rfl rfl (V.pure rfl) (fun a hf => ?_)
      obtain ⟨h0x1, x1, hx1, h⟩ := h
      refine S.val hf hs (v := elemPtr lA (0 * 1)) rfl rfl rfl (V.index rfl rfl rfl Tryz.runUnderlying74 Tryz.sizeOf9 (hv_l.some_ (lt_of_get hx1)) h0x1 (lt_of_get hx1) rfl) (fun a hf => ?_)
      refine S.val hf hs (v := .string (ba x1)) rfl rfl rfl (V.loadEl (off := 0) (Ag.args _ _ _) (hv_l.flat hx1) rfl rfl rfl Tryz.isAgg9 Tryz.sizeOf9 rfl rfl) (fun a hf => ?_)
      refine S.val hf hs (v := .string (ba x1)) rfl rfl rfl (V.pure rfl) (fun a hf => ?_)
      refine R.nil ?_
      refine X.then_ ?_
      refine wp_ret ?_
      refine X.blk_ret ?_
      refine X.then_ret ?_
      exact L.ret hf (run_results1 Tryz.results65 (ResIs.tmp hf rfl)) ⟨x1, rfl, h, hs.nil⟩
    · replace h := h.2 hc
      refine wp_skip ?_
      refine X.blk ?_
      refine X.then_ ?_
      refine wp_seq ?_
      refine R.list ?_
      refine S.val hf hs (v := .int .i64 0) rfl rfl rfl (V.pure rfl) (fun a hf => ?_)
      refine R.nil ?_
      refine X.then_ ?_
      refine wp_seq ?_
      refine C.cut (J := fun a w => ∃ (n1 : Int), M_strings_Join_k1 l sep Q n1 ∧ FrOk 75 [(0, .slice lA l.length lC), (1, .string (ba sep)), (5, .int .i64 n1)] a ∧ Sat w0 none_ [] w) ?_ ?_
      · rintro a w ⟨n1, h, hf, hs⟩
        unfold M_strings_Join_k1 at h
        refine wp_seq ?_
        refine wp_seq ?_
        refine R.list ?_
        refine S.val hf hs (v := .slice lA l.length lC) rfl rfl rfl (V.pure rfl) (fun a hf => ?_)
        refine S.val hf hs (v := .int .i64 (l.length : Int)) rfl rfl rfl (V.len rfl rfl Tryz.runUnderlying74) (fun a hf => ?_)
        refine S.val hf hs (v := .int .i64 0) rfl rfl rfl (V.pure rfl) (fun a hf => ?_)
        refine R.nil ?_
        refine X.then_ ?_
        refine wp_block ?_
        have hlenk2 := hv_l.len64
        refine C.range (fun (ll : List Str) a w => ∃ (k2 : Nat) (n3 : Int), l.drop k2 = ll ∧ k2 + ll.length = l.length ∧ forIn' (fun k x (s : Int) next => M_strings_Join_L1 k x s (fun n3 => next n3)) (fun (s : Int) => (fun (n3 : Int) => must (0 ≤ n3 ∧ n3 ≤ 281474976710656) (idx l 0 fun x2 => M_bld_WriteString (⟨true, ([] : Str)⟩ : StringsBuilder) x2 fun y1 y2 z1 => must (0 ≤ (1 : Int) ∧ (1 : Int) ≤ (l.length : Int) ∧ (l.length : Int) ≤ (l.length : Int)) (forIn' (fun k x (s : List UInt8 × Bool) next => M_strings_Join_L2 sep k x s.1 s.2 (fun l2 b2 => next (l2, b2))) (fun (s : List UInt8 × Bool) => (fun (l2 : List UInt8) (b2 : Bool) => Q l2) s.1 s.2) (seg l (1 : Int) (l.length : Int)) 0 (z1.buf, z1.addr)))) s) ll k2 n3 ∧ FrOk 75 [(41, .int .i64 (k2 : Int)), (0, .slice lA l.length lC), (1, .string (ba sep)), (5, .int .i64 n3), (39, .slice lA l.length lC), (40, .int .i64 (l.length : Int))] a ∧ Sat w0 none_ [] w) l ⟨0, n1, rfl, Nat.zero_add _, h, ((((((hf.nil.cons (hf.get 40 _ rfl)).cons (hf.get 39 _ rfl)).cons (hf.get 5 _ rfl)).cons (hf.get 1 _ rfl)).cons (hf.get 0 _ rfl)).cons (hf.get 41 _ rfl)), hs⟩ ?_
        clear h hf hs
        rintro llk2 a w ⟨k2, n3, hlk2, hkk2, h, hf, hs⟩
        cases llk2 with
        | nil =>
          have hc := range_done hkk2
          replace h : (fun (n3 : Int) => must (0 ≤ n3 ∧ n3 ≤ 281474976710656) (idx l 0 fun x2 => M_bld_WriteString (⟨true, ([] : Str)⟩ : StringsBuilder) x2 fun y1 y2 z1 => must (0 ≤ (1 : Int) ∧ (1 : Int) ≤ (l.length : Int) ∧ (l.length : Int) ≤ (l.length : Int)) (forIn' (fun k x (s : List UInt8 × Bool) next => M_strings_Join_L2 sep k x s.1 s.2 (fun l2 b2 => next (l2, b2))) (fun (s : List UInt8 × Bool) => (fun (l2 : List UInt8) (b2 : Bool) => Q l2) s.1 s.2) (seg l (1 : Int) (l.length : Int)) 0 (z1.buf, z1.addr)))) n3 := h
          refine wp_seq ?_
          refine R.list ?_
          refine S.val hf hs (v := .bool false) rfl rfl rfl (V.cmp false rfl rfl rfl rfl hc) (fun a hf => ?_)
          refine R.nil ?_
          refine X.then_ ?_
          refine wp_seq ?_
          refine C.no hf rfl ?_
          refine wp_exit ?_
          refine X.then_exit ?_
          refine X.then_exit ?_
          refine X.blk_exit ?_
          refine X.then_ ?_
          refine wp_seq ?_
          refine R.list ?_
          refine S.alloc hf hs rfl rfl rfl [.pointer none, .slice none 0 0] rfl Tryz.zeroValue101 rfl (fun g1 a w hf hs => ?_)
          refine R.nil ?_
          refine X.then_ ?_
          refine wp_seq ?_
          refine R.list ?_
          refine S.val hf hs (v := .int .i64 n3) rfl rfl rfl (V.pure rfl) (fun a hf => ?_)
          obtain ⟨hz, h⟩ := h
          refine S.call hf rfl rfl rfl (call_fn (vs := [.pointer (some ⟨g1, 0, none⟩), .int .i64 n3]) rfl rfl rfl Tryz.call131) (bldGrow 0 hs (g := g1) rfl hz) (fun v a w' hf hr => ?_)
          obtain ⟨rfl, A1, C1, hs2⟩ := hr
          replace hs := hs2; clear hs2
          refine R.nil ?_
          refine X.then_ ?_
          refine wp_seq ?_
          refine R.list ?_
          refine S.val hf hs (v := .slice lA l.length lC) rfl rfl rfl (V.pure rfl) (fun a hf => ?_)
          obtain ⟨h0x2, x2, hx2, h⟩ := h
          refine S.val hf hs (v := elemPtr lA (0 * 1)) rfl rfl rfl (V.index rfl rfl rfl Tryz.runUnderlying74 Tryz.sizeOf9 (hv_l.some_ (lt_of_get hx2)) h0x2 (lt_of_get hx2) rfl) (fun a hf => ?_)
          refine S.val hf hs (v := .string (ba x2)) rfl rfl rfl (V.loadEl (off := 0) (Ag.args _ _ _) (hv_l.flat hx2) rfl rfl rfl Tryz.isAgg9 Tryz.sizeOf9 rfl rfl) (fun a hf => ?_)
          replace hs := hs.front 1 rfl
          replace hs := hs.front 1 rfl
          obtain ⟨F1, hsF, hback, hold, hrest⟩ := Sat.callOwns [hbox g1 101 [.pointer (selfp true g1), .slice A1 ([] : Str).length C1], hown 5 A1 C1 ([] : Str)] (σ := []) hs
          refine S.call hf rfl rfl rfl (call_fn (vs := [.pointer (some ⟨g1, 0, none⟩), .string (ba x2)]) rfl rfl rfl Tryz.call54) (R_bld_WriteString (⟨true, ([] : Str)⟩ : StringsBuilder) x2 _ _ g1 A1 C1 hsF _ h) (fun v a w' hf hr => ?_)
          obtain ⟨y1, y2, z1, z1_bufA, z1_bufC, rfl, h2, hs2⟩ := hr
          replace h := h2; replace hs := hback _ _ hs2; clear h2 hs2 hback hold hrest hsF
          refine R.nil ?_
          refine X.then_ ?_
          refine wp_seq ?_
          refine wp_seq ?_
          refine R.list ?_
          refine S.val hf hs (v := .slice lA l.length lC) rfl rfl rfl (V.pure rfl) (fun a hf => ?_)
          obtain ⟨hp1, h⟩ := h
          refine S.val hf hs (v := .slice (segA lA lC ((1 : Int) : Int).toNat 1) (seg l (1 : Int) (l.length : Int)).length (lC - ((1 : Int) : Int).toNat)) rfl rfl rfl (V.slice rfl rfl rfl rfl Tryz.runUnderlying74 Tryz.sizeOf9 rfl rfl hp1 hv_l.cap (seg_length (by have := hp1.2.2; omega))) (fun a hf => ?_)
          refine S.val hf hs (v := .int .i64 ((seg l (1 : Int) (l.length : Int)).length : Int)) rfl rfl rfl (V.len rfl rfl Tryz.runUnderlying74) (fun a hf => ?_)
          refine S.val hf hs (v := .int .i64 0) rfl rfl rfl (V.pure rfl) (fun a hf => ?_)
          refine R.nil ?_
          refine X.then_ ?_
          refine wp_block ?_
          have hlenk3 := (View.sub hv_l hp1).len64
          refine C.range (fun (ll : List Str) a w => ∃ (k3 : Nat) (l2 : List UInt8) (l2A : Option Addr) (l2C : Nat) (b2 : Bool), (seg l (1 : Int) (l.length : Int)).drop k3 = ll ∧ k3 + ll.length = (seg l (1 : Int) (l.length : Int)).length ∧ forIn' (fun k x (s : List UInt8 × Bool) next => M_strings_Join_L2 sep k x s.1 s.2 (fun l2 b2 => next (l2, b2))) (fun (s : List UInt8 × Bool) => (fun (l2 : List UInt8) (b2 : Bool) => Q l2) s.1 s.2) ll k3 (l2, b2) ∧ FrOk 75 [(65, .int .i64 (k3 : Int)), (1, .string (ba sep)), (8, .pointer (some ⟨g1, 0, none⟩)), (63, .slice (segA lA lC ((1 : Int) : Int).toNat 1) (seg l (1 : Int) (l.length : Int)).length (lC - ((1 : Int) : Int).toNat)), (64, .int .i64 ((seg l (1 : Int) (l.length : Int)).length : Int))] a ∧ Sat w0 none_ [hbox g1 101 [.pointer (selfp b2 g1), .slice l2A l2.length l2C], hown 5 l2A l2C l2] w) (seg l (1 : Int) (l.length : Int)) ⟨0, z1.buf, z1_bufA, z1_bufC, z1.addr, rfl, Nat.zero_add _, h, (((((hf.nil.cons (hf.get 64 _ rfl)).cons (hf.get 63 _ rfl)).cons (hf.get 8 _ rfl)).cons (hf.get 1 _ rfl)).cons (hf.get 65 _ rfl)), hs⟩ ?_
          clear h hf hs
          rintro llk3 a w ⟨k3, l2, l2A, l2C, b2, hlk3, hkk3, h, hf, hs⟩
          cases llk3 with
          | nil =>
            have hc := range_done hkk3
            replace h : (fun (l2 : List UInt8) (b2 : Bool) => Q l2) l2 b2 := h
            refine wp_seq ?_
            refine R.list ?_
            refine S.val hf hs (v := .bool false) rfl rfl rfl (V.cmp false rfl rfl rfl rfl hc) (fun a hf => ?_)
            refine R.nil ?_
            refine X.then_ ?_
            refine wp_seq ?_
            refine C.no hf rfl ?_
            refine wp_exit ?_
            refine X.then_exit ?_
            refine X.then_exit ?_
            refine X.blk_exit ?_
            refine X.then_ ?_
            refine wp_seq ?_
            refine R.list ?_
            refine S.call hf rfl rfl rfl (call_fn (vs := [.pointer (some ⟨g1, 0, none⟩)]) rfl rfl rfl Tryz.call57) (bldString 0 1 hs (g := g1) (f := b2) (A := l2A) (C := l2C) (s := l2) rfl rfl) (fun v a w' hf hr => ?_)
            obtain ⟨rfl, hs2⟩ := hr
            replace hs := hs2; clear hs2
            refine S.val hf hs (v := .string (ba l2)) rfl rfl rfl (V.pure rfl) (fun a hf => ?_)
            refine R.nil ?_
            refine X.then_ ?_
            refine wp_ret ?_
            exact L.ret hf (run_results1 Tryz.results65 (ResIs.tmp hf rfl)) ⟨l2, rfl, h, hs.nil⟩
          | cons xk3 llk3 =>
            have hltk3 := range_lt hkk3; have hc := range_go hkk3; have hxk3 := range_get hlk3
            obtain ⟨next2, hnext2⟩ : ∃ X : List UInt8 → Bool → Prop, X = (fun l2 b2 => forIn' (fun k x (s : List UInt8 × Bool) next => M_strings_Join_L2 sep k x s.1 s.2 (fun l2 b2 => next (l2, b2))) (fun (s : List UInt8 × Bool) => (fun (l2 : List UInt8) (b2 : Bool) => Q l2) s.1 s.2) llk3 (k3 + 1) (l2, b2)) := ⟨_, rfl⟩
            replace h : M_strings_Join_L2 sep k3 xk3 l2 b2 next2 := by rw [hnext2]; exact h
            unfold M_strings_Join_L2 at h
            refine wp_seq ?_
            refine R.list ?_
            refine S.val hf hs (v := .bool true) rfl rfl rfl (V.cmp true rfl rfl rfl rfl hc) (fun a hf => ?_)
            refine R.nil ?_
            refine X.then_ ?_
            refine wp_seq ?_
            refine C.yes hf rfl ?_
            refine wp_skip ?_
            refine X.then_ ?_
            refine wp_seq ?_
            refine wp_block ?_
            refine wp_seq ?_
            refine R.list ?_
            refine S.val hf hs (v := elemPtr (segA lA lC ((1 : Int) : Int).toNat 1) (k3 * 1)) rfl rfl rfl (V.index rfl rfl rfl Tryz.runUnderlying74 Tryz.sizeOf9 ((View.sub hv_l hp1).some_ (lt_of_get hxk3)) (Int.natCast_nonneg _) (lt_of_get hxk3) rfl) (fun a hf => ?_)
            refine S.val hf hs (v := .string (ba xk3)) rfl rfl rfl (V.loadEl (off := 0) (Ag.args _ _ _) ((View.sub hv_l hp1).flat hxk3) rfl rfl rfl Tryz.isAgg9 Tryz.sizeOf9 rfl rfl) (fun a hf => ?_)
            refine S.val hf hs (v := .string (ba xk3)) rfl rfl rfl (V.pure rfl) (fun a hf => ?_)
            refine R.nil ?_
            refine X.then_ ?_
            refine wp_seq ?_
            refine R.list ?_
            refine S.val hf hs (v := .string (ba sep)) rfl rfl rfl (V.pure rfl) (fun a hf => ?_)
            replace hs := hs.front 1 rfl
            replace hs := hs.front 1 rfl
            obtain ⟨F1, hsF, hback, hold, hrest⟩ := Sat.callOwns [hbox g1 101 [.pointer (selfp b2 g1), .slice l2A l2.length l2C], hown 5 l2A l2C l2] (σ := []) hs
            refine S.call hf rfl rfl rfl (call_fn (vs := [.pointer (some ⟨g1, 0, none⟩), .string (ba sep)]) rfl rfl rfl Tryz.call54) (R_bld_WriteString (⟨b2, l2⟩ : StringsBuilder) sep _ _ g1 l2A l2C hsF _ h) (fun v a w' hf hr => ?_)
            obtain ⟨y3, y4, z2, z2_bufA, z2_bufC, rfl, h2, hs2⟩ := hr
            replace h := h2; replace hs := hback _ _ hs2; clear h2 hs2 hback hold hrest hsF
            refine R.nil ?_
            refine X.then_ ?_
            refine R.list ?_
            refine S.val hf hs (v := .string (ba xk3)) rfl rfl rfl (V.pure rfl) (fun a hf => ?_)
            replace hs := hs.front 1 rfl
            replace hs := hs.front 1 rfl
            obtain ⟨F1, hsF, hback, hold, hrest⟩ := Sat.callOwns [hbox g1 101 [.pointer (selfp z2.addr g1), .slice z2_bufA z2.buf.length z2_bufC], hown 5 z2_bufA z2_bufC z2.buf] (σ := []) hs
            refine S.call hf rfl rfl rfl (call_fn (vs := [.pointer (some ⟨g1, 0, none⟩), .string (ba xk3)]) rfl rfl rfl Tryz.call54) (R_bld_WriteString z2 xk3 _ _ g1 z2_bufA z2_bufC hsF _ h) (fun v a w' hf hr => ?_)
            obtain ⟨y5, y6, z3, z3_bufA, z3_bufC, rfl, h2, hs2⟩ := hr
            replace h := h2; replace hs := hback _ _ hs2; clear h2 hs2 hback hold hrest hsF
            refine R.nil ?_
            refine X.blk ?_
            refine X.then_ ?_
            refine R.list ?_
            refine S.val hf hs (v := .int .i64 ((k3 + 1 : Nat) : Int)) rfl rfl rfl (V.incr rfl rfl rfl hltk3 hlenk3) (fun a hf => ?_)
            refine S.val hf hs (v := .int .i64 ((k3 + 1 : Nat) : Int)) rfl rfl rfl (V.pure rfl) (fun a hf => ?_)
            refine R.nil ?_
            refine X.then_ ?_
            exact ⟨xk3, llk3, rfl, k3 + 1, z3.buf, z3_bufA, z3_bufC, z3.addr, range_drop hlk3, range_len hkk3, (by rw [hnext2] at h; exact h), (((((hf.nil.cons (hf.get 64 _ rfl)).cons (hf.get 63 _ rfl)).cons (hf.get 8 _ rfl)).cons (hf.get 1 _ rfl)).cons (hf.get 65 _ rfl)), hs⟩
        | cons xk2 llk2 =>
          have hltk2 := range_lt hkk2; have hc := range_go hkk2; have hxk2 := range_get hlk2
          obtain ⟨next1, hnext1⟩ : ∃ X : Int → Prop, X = (fun n3 => forIn' (fun k x (s : Int) next => M_strings_Join_L1 k x s (fun n3 => next n3)) (fun (s : Int) => (fun (n3 : Int) => must (0 ≤ n3 ∧ n3 ≤ 281474976710656) (idx l 0 fun x2 => M_bld_WriteString (⟨true, ([] : Str)⟩ : StringsBuilder) x2 fun y1 y2 z1 => must (0 ≤ (1 : Int) ∧ (1 : Int) ≤ (l.length : Int) ∧ (l.length : Int) ≤ (l.length : Int)) (forIn' (fun k x (s : List UInt8 × Bool) next => M_strings_Join_L2 sep k x s.1 s.2 (fun l2 b2 => next (l2, b2))) (fun (s : List UInt8 × Bool) => (fun (l2 : List UInt8) (b2 : Bool) => Q l2) s.1 s.2) (seg l (1 : Int) (l.length : Int)) 0 (z1.buf, z1.addr)))) s) llk2 (k2 + 1) n3) := ⟨_, rfl⟩
          replace h : M_strings_Join_L1 k2 xk2 n3 next1 := by rw [hnext1]; exact h
          unfold M_strings_Join_L1 at h
          refine wp_seq ?_
          refine R.list ?_
          refine S.val hf hs (v := .bool true) rfl rfl rfl (V.cmp true rfl rfl rfl rfl hc) (fun a hf => ?_)
          refine R.nil ?_
          refine X.then_ ?_
          refine wp_seq ?_
          refine C.yes hf rfl ?_
          refine wp_skip ?_
          refine X.then_ ?_
          refine wp_seq ?_
          refine wp_block ?_
          refine wp_seq ?_
          refine R.list ?_
          refine S.val hf hs (v := elemPtr lA (k2 * 1)) rfl rfl rfl (V.index rfl rfl rfl Tryz.runUnderlying74 Tryz.sizeOf9 (hv_l.some_ (lt_of_get hxk2)) (Int.natCast_nonneg _) (lt_of_get hxk2) rfl) (fun a hf => ?_)
          refine S.val hf hs (v := .string (ba xk2)) rfl rfl rfl (V.loadEl (off := 0) (Ag.args _ _ _) (hv_l.flat hxk2) rfl rfl rfl Tryz.isAgg9 Tryz.sizeOf9 rfl rfl) (fun a hf => ?_)
          refine S.val hf hs (v := .string (ba xk2)) rfl rfl rfl (V.pure rfl) (fun a hf => ?_)
          refine R.nil ?_
          refine X.then_ ?_
          refine wp_seq ?_
          refine wp_seq ?_
          refine R.list ?_
          refine S.val hf hs (v := .string (ba xk2)) rfl rfl rfl (V.pure rfl) (fun a hf => ?_)
          refine S.val hf hs (v := .int .i64 (xk2.length : Int)) rfl rfl rfl (V.lenStr rfl rfl Tryz.runUnderlying9) (fun a hf => ?_)
          refine S.val hf hs (v := .int .i64 n3) rfl rfl rfl (V.pure rfl) (fun a hf => ?_)
          refine S.val hf hs (v := .int .i64 (w64 (9223372036854775807 - n3))) rfl rfl rfl (V.pure rfl) (fun a hf => ?_)
          refine S.val hf hs (v := .bool (decide ((xk2.length : Int) > w64 (9223372036854775807 - n3)))) rfl rfl rfl (V.pure rfl) (fun a hf => ?_)
          refine R.nil ?_
          refine X.then_ ?_
          refine C.cond hf (b := decide ((xk2.length : Int) > w64 (9223372036854775807 - n3))) rfl (fun hc => ?_) (fun hc => ?_)
          · replace h := h.1 hc
            exact h.elim
          · replace h := h.2 hc
            refine wp_skip ?_
            refine X.then_ ?_
            refine R.list ?_
            refine S.val hf hs (v := .int .i64 n3) rfl rfl rfl (V.pure rfl) (fun a hf => ?_)
            refine S.val hf hs (v := .string (ba xk2)) rfl rfl rfl (V.pure rfl) (fun a hf => ?_)
            refine S.val hf hs (v := .int .i64 (xk2.length : Int)) rfl rfl rfl (V.lenStr rfl rfl Tryz.runUnderlying9) (fun a hf => ?_)
            refine S.val hf hs (v := .int .i64 (w64 (n3 + (xk2.length : Int)))) rfl rfl rfl (V.pure rfl) (fun a hf => ?_)
            refine S.val hf hs (v := .int .i64 (w64 (n3 + (xk2.length : Int)))) rfl rfl rfl (V.pure rfl) (fun a hf => ?_)
            refine R.nil ?_
            refine X.blk ?_
            refine X.then_ ?_
            refine R.list ?_
            refine S.val hf hs (v := .int .i64 ((k2 + 1 : Nat) : Int)) rfl rfl rfl (V.incr rfl rfl rfl hltk2 hlenk2) (fun a hf => ?_)
            refine S.val hf hs (v := .int .i64 ((k2 + 1 : Nat) : Int)) rfl rfl rfl (V.pure rfl) (fun a hf => ?_)
            refine R.nil ?_
            refine X.then_ ?_
            exact ⟨xk2, llk2, rfl, k2 + 1, (w64 (n3 + (xk2.length : Int))), range_drop hlk2, range_len hkk2, (by rw [hnext1] at h; exact h), ((((((hf.nil.cons (hf.get 40 _ rfl)).cons (hf.get 39 _ rfl)).cons (hf.get 5 _ rfl)).cons (hf.get 1 _ rfl)).cons (hf.get 0 _ rfl)).cons (hf.get 41 _ rfl)), hs⟩
      · skip
        refine wp_seq ?_
        refine R.list ?_
        refine S.val hf hs (v := .string (ba sep)) rfl rfl rfl (V.pure rfl) (fun a hf => ?_)
        refine S.val hf hs (v := .int .i64 (sep.length : Int)) rfl rfl rfl (V.lenStr rfl rfl Tryz.runUnderlying9) (fun a hf => ?_)
        refine S.val hf hs (v := .bool (decide ((sep.length : Int) > 0))) rfl rfl rfl (V.pure rfl) (fun a hf => ?_)
        refine R.nil ?_
        refine X.then_ ?_
        refine C.cond hf (b := decide ((sep.length : Int) > 0)) rfl (fun hc => ?_) (fun hc => ?_)
        · replace h := h.1 hc
          refine wp_seq ?_
          refine wp_seq ?_
          refine R.list ?_
          refine S.val hf hs (v := .string (ba sep)) rfl rfl rfl (V.pure rfl) (fun a hf => ?_)
          refine S.val hf hs (v := .int .i64 (sep.length : Int)) rfl rfl rfl (V.lenStr rfl rfl Tryz.runUnderlying9) (fun a hf => ?_)
          refine S.val hf hs (v := .slice lA l.length lC) rfl rfl rfl (V.pure rfl) (fun a hf => ?_)
          refine S.val hf hs (v := .int .i64 (l.length : Int)) rfl rfl rfl (V.len rfl rfl Tryz.runUnderlying74) (fun a hf => ?_)
          refine S.val hf hs (v := .int .i64 (w64 ((l.length : Int) - 1))) rfl rfl rfl (V.pure rfl) (fun a hf => ?_)
          obtain ⟨hne, h⟩ := h
          refine S.val hf hs (v := .int .i64 (w64 ((9223372036854775807 : Int).tdiv (w64 ((l.length : Int) - 1))))) rfl rfl rfl (V.quo rfl rfl rfl hne) (fun a hf => ?_)
          refine S.val hf hs (v := .bool (decide ((sep.length : Int) ≥ w64 ((9223372036854775807 : Int).tdiv (w64 ((l.length : Int) - 1)))))) rfl rfl rfl (V.pure rfl) (fun a hf => ?_)
          refine R.nil ?_
          refine X.then_ ?_
          refine C.cond hf (b := decide ((sep.length : Int) ≥ w64 ((9223372036854775807 : Int).tdiv (w64 ((l.length : Int) - 1))))) rfl (fun hc => ?_) (fun hc => ?_)
          · replace h := h.1 hc
            exact h.elim
          · replace h := h.2 hc
            refine wp_skip ?_
            refine X.then_ ?_
            refine R.list ?_
            refine S.val hf hs (v := .int .i64 0) rfl rfl rfl (V.pure rfl) (fun a hf => ?_)
            refine S.val hf hs (v := .string (ba sep)) rfl rfl rfl (V.pure rfl) (fun a hf => ?_)
            refine S.val hf hs (v := .int .i64 (sep.length : Int)) rfl rfl rfl (V.lenStr rfl rfl Tryz.runUnderlying9) (fun a hf => ?_)
            refine S.val hf hs (v := .slice lA l.length lC) rfl rfl rfl (V.pure rfl) (fun a hf => ?_)
            refine S.val hf hs (v := .int .i64 (l.length : Int)) rfl rfl rfl (V.len rfl rfl Tryz.runUnderlying74) (fun a hf => ?_)
            refine S.val hf hs (v := .int .i64 (w64 ((l.length : Int) - 1))) rfl rfl rfl (V.pure rfl) (fun a hf => ?_)
            refine S.val hf hs (v := .int .i64 (w64 ((sep.length : Int) * (w64 ((l.length : Int) - 1))))) rfl rfl rfl (V.pure rfl) (fun a hf => ?_)
            refine S.val hf hs (v := .int .i64 (w64 (0 + (w64 ((sep.length : Int) * (w64 ((l.length : Int) - 1))))))) rfl rfl rfl (V.pure rfl) (fun a hf => ?_)
            refine S.val hf hs (v := .int .i64 (w64 (0 + (w64 ((sep.length : Int) * (w64 ((l.length : Int) - 1))))))) rfl rfl rfl (V.pure rfl) (fun a hf => ?_)
            refine R.nil ?_
            refine X.then_ ?_
            exact ⟨(w64 (0 + (w64 ((sep.length : Int) * (w64 ((l.length : Int) - 1)))))), h, (((hf.nil.cons (hf.get 5 _ rfl)).cons (hf.get 1 _ rfl)).cons (hf.get 0 _ rfl)), hs⟩
        · replace h := h.2 hc
          refine wp_skip ?_
          refine X.then_ ?_
          exact ⟨0, h, (((hf.nil.cons (hf.get 5 _ rfl)).cons (hf.get 1 _ rfl)).cons (hf.get 0 _ rfl)), hs⟩


end Go.Proofs.YtdnilnmdbgcmoaaGreatDoor
