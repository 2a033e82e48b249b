/- Chapter 8: a faster machine takes no longer. -/
import Derived.Test.YtmopdabkfklefaaDrillH
namespace Go.Proofs.Ytmopdabkfklefaa
open Go Go.RowKit
set_option linter.unusedVariables false

set_option linter.unusedVariables false
def M_law_FasterTakesLess_k1 (Q : Bool → Prop) (y1 : Int) (y2 : Int) (y3 : Int) (c1 : Bool) : Prop :=
  cnd c1 (cnd (y2 == 0) (M_awake  fun y5 => Q y5) (cnd (y1 == 0) (M_awake  fun y6 => Q y6) (Q false))) (cnd (decide (y3 ≤ y1)) (M_awake  fun y7 => Q y7) (Q false))
def M_law_FasterTakesLess (t : (List Bit)) (j : (List Job)) (from_ : Point) (speed : Int) (more : Int) (change : Int) (less : Int) (Q : Bool → Prop) : Prop :=
  M_drill_Seconds t j from_ speed change fun y1 y2 => M_drill_Seconds t j from_ more less fun y3 y4 => cnd (y2 != 0) (M_law_FasterTakesLess_k1 Q y1 y2 y3 true) (cnd (y4 != 0) (M_law_FasterTakesLess_k1 Q y1 y2 y3 true) (cnd (decide (more < speed)) (M_law_FasterTakesLess_k1 Q y1 y2 y3 true) (M_law_FasterTakesLess_k1 Q y1 y2 y3 (decide (less > change)))))
set_option maxHeartbeats 1000000 in
theorem R_law_FasterTakesLess (t : (List Bit)) (j : (List Job)) (from_ : Point) (speed : Int) (more : Int) (change : Int) (less : Int) (w0 : World) (tA : Option Addr) (tC : Nat) (hv_t : View w0 (old w0 none_) tA tC t) (jA : Option Addr) (jC : Nat) (hv_j : View w0 (old w0 none_) jA jC j) (Q : Bool → Prop) (h : M_law_FasterTakesLess t j from_ speed more change less Q) :
    Ret Try.prog 12 #[.slice tA t.length tC, .slice jA j.length jC, .agg #[.int .i64 from_.X, .int .i64 from_.Y], .int .i64 speed, .int .i64 more, .int .i64 change, .int .i64 less] w0 fun v w' => ∃ (r0 : Bool), v = .bool r0 ∧ Q r0 ∧ Sat w0 none_ [] w' := by
  refine fn_enter Try.func12 rfl Try.ntmps12 rfl (fs := [(0, .slice tA t.length tC), (1, .slice jA j.length jC), (2, .agg #[.int .i64 from_.X, .int .i64 from_.Y]), (3, .int .i64 speed), (4, .int .i64 more), (5, .int .i64 change), (6, .int .i64 less)]) rfl (fun a hf => ?_)
  have hs := Sat.start w0 none_
  unfold M_law_FasterTakesLess at h
  refine wp_seq ?_
  refine R.list ?_
  refine S.box hf hs rfl rfl rfl [.int .i64 from_.X, .int .i64 from_.Y] rfl rfl rfl (fun g1 a w hf hs => ?_)
  refine S.val hf hs (v := .bool false) rfl rfl rfl (V.pure rfl) (fun a hf => ?_)
  refine R.nil ?_
  refine X.then_ ?_
  refine wp_seq ?_
  refine R.list ?_
  refine S.val hf hs (v := .slice tA t.length tC) rfl rfl rfl (V.pure rfl) (fun a hf => ?_)
  refine S.val hf hs (v := .slice jA j.length jC) rfl rfl rfl (V.pure rfl) (fun a hf => ?_)
  refine S.val hf hs (v := .agg #[.int .i64 from_.X, .int .i64 from_.Y]) rfl rfl rfl (V.loadBox 0 rfl rfl rfl Try.isAgg24 Try.sizeOf24 rfl rfl) (fun a hf => ?_)
  refine S.val hf hs (v := .int .i64 speed) rfl rfl rfl (V.pure rfl) (fun a hf => ?_)
  refine S.val hf hs (v := .int .i64 change) rfl rfl rfl (V.pure rfl) (fun a hf => ?_)
  refine S.call hf rfl rfl rfl (call_fn (vs := [.slice tA t.length tC, .slice jA j.length jC, .agg #[.int .i64 from_.X, .int .i64 from_.Y], .int .i64 speed, .int .i64 change]) rfl rfl rfl Try.call40) (R_drill_Seconds t j from_ speed change _ tA tC ((Ag.args _ _ _).view hv_t hs) jA jC ((Ag.args _ _ _).view hv_j hs) _ h) (fun v a w' hf hr => ?_)
  obtain ⟨y1, y2, rfl, h2, hs2⟩ := hr
  replace h := h2; replace hs := hs.call hs2; clear h2 hs2
  refine S.val hf hs (v := .tuple #[.int .i64 y1, .int .i64 y2]) rfl rfl rfl (V.pure rfl) (fun a hf => ?_)
  refine S.val hf hs (v := .int .i64 y1) rfl rfl rfl (V.pure rfl) (fun a hf => ?_)
  refine S.val hf hs (v := .int .i64 y2) rfl rfl rfl (V.pure rfl) (fun a hf => ?_)
  refine S.val hf hs (v := .int .i64 y1) rfl rfl rfl (V.pure rfl) (fun a hf => ?_)
  refine S.val hf hs (v := .int .i64 y2) rfl rfl rfl (V.pure rfl) (fun a hf => ?_)
  refine R.nil ?_
  refine X.then_ ?_
  refine wp_seq ?_
  refine R.list ?_
  refine S.val hf hs (v := .slice tA t.length tC) rfl rfl rfl (V.pure rfl) (fun a hf => ?_)
  refine S.val hf hs (v := .slice jA j.length jC) rfl rfl rfl (V.pure rfl) (fun a hf => ?_)
  refine S.val hf hs (v := .agg #[.int .i64 from_.X, .int .i64 from_.Y]) rfl rfl rfl (V.loadBox 0 rfl rfl rfl Try.isAgg24 Try.sizeOf24 rfl rfl) (fun a hf => ?_)
  refine S.val hf hs (v := .int .i64 more) rfl rfl rfl (V.pure rfl) (fun a hf => ?_)
  refine S.val hf hs (v := .int .i64 less) rfl rfl rfl (V.pure rfl) (fun a hf => ?_)
  refine S.call hf rfl rfl rfl (call_fn (vs := [.slice tA t.length tC, .slice jA j.length jC, .agg #[.int .i64 from_.X, .int .i64 from_.Y], .int .i64 more, .int .i64 less]) rfl rfl rfl Try.call40) (R_drill_Seconds t j from_ more less _ tA tC ((Ag.args _ _ _).view hv_t hs) jA jC ((Ag.args _ _ _).view hv_j hs) _ h) (fun v a w' hf hr => ?_)
  obtain ⟨y3, y4, rfl, h2, hs2⟩ := hr
  replace h := h2; replace hs := hs.call hs2; clear h2 hs2
  refine S.val hf hs (v := .tuple #[.int .i64 y3, .int .i64 y4]) rfl rfl rfl (V.pure rfl) (fun a hf => ?_)
  refine S.val hf hs (v := .int .i64 y3) rfl rfl rfl (V.pure rfl) (fun a hf => ?_)
  refine S.val hf hs (v := .int .i64 y4) rfl rfl rfl (V.pure rfl) (fun a hf => ?_)
  refine S.val hf hs (v := .int .i64 y3) rfl rfl rfl (V.pure rfl) (fun a hf => ?_)
  refine S.val hf hs (v := .int .i64 y4) rfl rfl rfl (V.pure rfl) (fun a hf => ?_)
  refine R.nil ?_
  refine X.then_ ?_
  refine wp_seq ?_
  refine wp_seq ?_
  refine C.cut (J := fun a w => ∃ (c1 : Bool), M_law_FasterTakesLess_k1 Q y1 y2 y3 c1 ∧ FrOk 68 [(15, .int .i64 y1), (16, .int .i64 y2), (17, .int .i64 y3), (52, .bool c1)] a ∧ Sat w0 none_ [hbox g1 24 [.int .i64 from_.X, .int .i64 from_.Y]] w) ?_ ?_
  · rintro a w ⟨c1, h, hf, hs⟩
    unfold M_law_FasterTakesLess_k1 at h
    refine C.cond hf (b := c1) rfl (fun hc => ?_) (fun hc => ?_)
    · replace h := h.1 hc
      refine wp_seq ?_
      refine R.list ?_
      refine S.val hf hs (v := .int .i64 y2) rfl rfl rfl (V.pure rfl) (fun a hf => ?_)
      refine S.val hf hs (v := .bool (y2 == 0)) rfl rfl rfl (V.pure rfl) (fun a hf => ?_)
      refine S.split hf hs (b := y2 == 0) rfl rfl rfl (V.pure rfl) (fun hc a hf => ?_) (fun hc a hf => ?_)
      · replace h := h.1 hc
        refine S.skip hf rfl rfl rfl (fun a hf => ?_)
        refine S.skip hf rfl rfl rfl (fun a hf => ?_)
        refine S.val hf hs (v := .bool true) rfl rfl rfl (V.pure rfl) (fun a hf => ?_)
        refine S.val hf hs (v := .bool true) rfl rfl rfl (V.pure rfl) (fun a hf => ?_)
        refine S.call hf rfl rfl rfl (call_fn (vs := []) rfl rfl rfl Try.call20) (R_awake  _  _ h) (fun v a w' hf hr => ?_)
        obtain ⟨y5, rfl, h2, hs2⟩ := hr
        replace h := h2; replace hs := hs.call hs2; clear h2 hs2
        refine S.val hf hs (v := .bool y5) rfl rfl rfl (V.pure rfl) (fun a hf => ?_)
        refine S.val hf hs (v := .bool y5) rfl rfl rfl (V.pure rfl) (fun a hf => ?_)
        refine R.nil ?_
        refine X.then_ ?_
        refine wp_ret ?_
        refine X.then_ret ?_
        exact L.ret hf (run_results1 Try.results12 (ResIs.tmp hf rfl)) ⟨y5, rfl, h, hs.nil⟩
      · replace h := h.2 hc
        refine S.val hf hs (v := .int .i64 y1) rfl rfl rfl (V.pure rfl) (fun a hf => ?_)
        refine S.val hf hs (v := .bool (y1 == 0)) rfl rfl rfl (V.pure rfl) (fun a hf => ?_)
        refine S.val hf hs (v := .bool (y1 == 0)) rfl rfl rfl (V.pure rfl) (fun a hf => ?_)
        refine S.split hf hs (b := y1 == 0) rfl rfl rfl (V.pure rfl) (fun hc a hf => ?_) (fun hc a hf => ?_)
        · replace h := h.1 hc
          refine S.call hf rfl rfl rfl (call_fn (vs := []) rfl rfl rfl Try.call20) (R_awake  _  _ h) (fun v a w' hf hr => ?_)
          obtain ⟨y6, rfl, h2, hs2⟩ := hr
          replace h := h2; replace hs := hs.call hs2; clear h2 hs2
          refine S.val hf hs (v := .bool y6) rfl rfl rfl (V.pure rfl) (fun a hf => ?_)
          refine S.val hf hs (v := .bool y6) rfl rfl rfl (V.pure rfl) (fun a hf => ?_)
          refine R.nil ?_
          refine X.then_ ?_
          refine wp_ret ?_
          refine X.then_ret ?_
          exact L.ret hf (run_results1 Try.results12 (ResIs.tmp hf rfl)) ⟨y6, rfl, h, hs.nil⟩
        · replace h := h.2 hc
          refine S.skip hf rfl rfl rfl (fun a hf => ?_)
          refine S.val hf hs (v := .bool false) rfl rfl rfl (V.pure rfl) (fun a hf => ?_)
          refine S.val hf hs (v := .bool false) rfl rfl rfl (V.pure rfl) (fun a hf => ?_)
          refine R.nil ?_
          refine X.then_ ?_
          refine wp_ret ?_
          refine X.then_ret ?_
          exact L.ret hf (run_results1 Try.results12 (ResIs.tmp hf rfl)) ⟨false, rfl, h, hs.nil⟩
    · replace h := h.2 hc
      refine wp_skip ?_
      refine X.then_ ?_
      refine wp_seq ?_
      refine R.list ?_
      refine S.val hf hs (v := .int .i64 y3) rfl rfl rfl (V.pure rfl) (fun a hf => ?_)
      refine S.val hf hs (v := .int .i64 y1) rfl rfl rfl (V.pure rfl) (fun a hf => ?_)
      refine S.val hf hs (v := .bool (decide (y3 ≤ y1))) rfl rfl rfl (V.pure rfl) (fun a hf => ?_)
      refine S.split hf hs (b := decide (y3 ≤ y1)) rfl rfl rfl (V.pure rfl) (fun hc a hf => ?_) (fun hc a hf => ?_)
      · replace h := h.1 hc
        refine S.call hf rfl rfl rfl (call_fn (vs := []) rfl rfl rfl Try.call20) (R_awake  _  _ h) (fun v a w' hf hr => ?_)
        obtain ⟨y7, rfl, h2, hs2⟩ := hr
        replace h := h2; replace hs := hs.call hs2; clear h2 hs2
        refine S.val hf hs (v := .bool y7) rfl rfl rfl (V.pure rfl) (fun a hf => ?_)
        refine S.val hf hs (v := .bool y7) rfl rfl rfl (V.pure rfl) (fun a hf => ?_)
        refine R.nil ?_
        refine X.then_ ?_
        refine wp_ret ?_
        exact L.ret hf (run_results1 Try.results12 (ResIs.tmp hf rfl)) ⟨y7, rfl, h, hs.nil⟩
      · replace h := h.2 hc
        refine S.skip hf rfl rfl rfl (fun a hf => ?_)
        refine S.val hf hs (v := .bool false) rfl rfl rfl (V.pure rfl) (fun a hf => ?_)
        refine S.val hf hs (v := .bool false) rfl rfl rfl (V.pure rfl) (fun a hf => ?_)
        refine R.nil ?_
        refine X.then_ ?_
        refine wp_ret ?_
        exact L.ret hf (run_results1 Try.results12 (ResIs.tmp hf rfl)) ⟨false, rfl, h, hs.nil⟩
  · skip
    refine R.list ?_
    refine S.val hf hs (v := .int .i64 y2) rfl rfl rfl (V.pure rfl) (fun a hf => ?_)
    refine S.val hf hs (v := .bool (y2 != 0)) rfl rfl rfl (V.pure rfl) (fun a hf => ?_)
    refine S.split hf hs (b := y2 != 0) rfl rfl rfl (V.pure rfl) (fun hc a hf => ?_) (fun hc a hf => ?_)
    · replace h := h.1 hc
      refine S.skip hf rfl rfl rfl (fun a hf => ?_)
      refine S.skip hf rfl rfl rfl (fun a hf => ?_)
      refine S.val hf hs (v := .bool true) rfl rfl rfl (V.pure rfl) (fun a hf => ?_)
      refine S.val hf hs (v := .bool true) rfl rfl rfl (V.pure rfl) (fun a hf => ?_)
      refine S.skip hf rfl rfl rfl (fun a hf => ?_)
      refine S.skip hf rfl rfl rfl (fun a hf => ?_)
      refine S.skip hf rfl rfl rfl (fun a hf => ?_)
      refine S.val hf hs (v := .bool true) rfl rfl rfl (V.pure rfl) (fun a hf => ?_)
      refine S.val hf hs (v := .bool true) rfl rfl rfl (V.pure rfl) (fun a hf => ?_)
      refine S.skip hf rfl rfl rfl (fun a hf => ?_)
      refine S.skip hf rfl rfl rfl (fun a hf => ?_)
      refine S.skip hf rfl rfl rfl (fun a hf => ?_)
      refine S.val hf hs (v := .bool true) rfl rfl rfl (V.pure rfl) (fun a hf => ?_)
      refine R.nil ?_
      refine X.then_ ?_
      exact ⟨true, h, ((((hf.nil.cons (hf.get 52 _ rfl)).cons (hf.get 17 _ rfl)).cons (hf.get 16 _ rfl)).cons (hf.get 15 _ rfl)), hs⟩
    · replace h := h.2 hc
      refine S.val hf hs (v := .int .i64 y4) rfl rfl rfl (V.pure rfl) (fun a hf => ?_)
      refine S.val hf hs (v := .bool (y4 != 0)) rfl rfl rfl (V.pure rfl) (fun a hf => ?_)
      refine S.val hf hs (v := .bool (y4 != 0)) rfl rfl rfl (V.pure rfl) (fun a hf => ?_)
      refine S.split hf hs (b := y4 != 0) rfl rfl rfl (V.pure rfl) (fun hc a hf => ?_) (fun hc a hf => ?_)
      · replace h := h.1 hc
        refine S.skip hf rfl rfl rfl (fun a hf => ?_)
        refine S.skip hf rfl rfl rfl (fun a hf => ?_)
        refine S.skip hf rfl rfl rfl (fun a hf => ?_)
        refine S.val hf hs (v := .bool true) rfl rfl rfl (V.pure rfl) (fun a hf => ?_)
        refine S.val hf hs (v := .bool true) rfl rfl rfl (V.pure rfl) (fun a hf => ?_)
        refine S.skip hf rfl rfl rfl (fun a hf => ?_)
        refine S.skip hf rfl rfl rfl (fun a hf => ?_)
        refine S.skip hf rfl rfl rfl (fun a hf => ?_)
        refine S.val hf hs (v := .bool true) rfl rfl rfl (V.pure rfl) (fun a hf => ?_)
        refine R.nil ?_
        refine X.then_ ?_
        exact ⟨true, h, ((((hf.nil.cons (hf.get 52 _ rfl)).cons (hf.get 17 _ rfl)).cons (hf.get 16 _ rfl)).cons (hf.get 15 _ rfl)), hs⟩
      · replace h := h.2 hc
        refine S.val hf hs (v := .int .i64 more) rfl rfl rfl (V.pure rfl) (fun a hf => ?_)
        refine S.val hf hs (v := .int .i64 speed) rfl rfl rfl (V.pure rfl) (fun a hf => ?_)
        refine S.val hf hs (v := .bool (decide (more < speed))) rfl rfl rfl (V.pure rfl) (fun a hf => ?_)
        refine S.val hf hs (v := .bool (decide (more < speed))) rfl rfl rfl (V.pure rfl) (fun a hf => ?_)
        refine S.split hf hs (b := decide (more < speed)) rfl rfl rfl (V.pure rfl) (fun hc a hf => ?_) (fun hc a hf => ?_)
        · replace h := h.1 hc
          refine S.skip hf rfl rfl rfl (fun a hf => ?_)
          refine S.skip hf rfl rfl rfl (fun a hf => ?_)
          refine S.skip hf rfl rfl rfl (fun a hf => ?_)
          refine S.val hf hs (v := .bool true) rfl rfl rfl (V.pure rfl) (fun a hf => ?_)
          refine R.nil ?_
          refine X.then_ ?_
          exact ⟨true, h, ((((hf.nil.cons (hf.get 52 _ rfl)).cons (hf.get 17 _ rfl)).cons (hf.get 16 _ rfl)).cons (hf.get 15 _ rfl)), hs⟩
        · replace h := h.2 hc
          refine S.val hf hs (v := .int .i64 less) rfl rfl rfl (V.pure rfl) (fun a hf => ?_)
          refine S.val hf hs (v := .int .i64 change) rfl rfl rfl (V.pure rfl) (fun a hf => ?_)
          refine S.val hf hs (v := .bool (decide (less > change))) rfl rfl rfl (V.pure rfl) (fun a hf => ?_)
          refine S.val hf hs (v := .bool (decide (less > change))) rfl rfl rfl (V.pure rfl) (fun a hf => ?_)
          refine R.nil ?_
          refine X.then_ ?_
          exact ⟨(decide (less > change)), h, ((((hf.nil.cons (hf.get 52 _ rfl)).cons (hf.get 17 _ rfl)).cons (hf.get 16 _ rfl)).cons (hf.get 15 _ rfl)), hs⟩

theorem law_FasterTakesLess_true (t : List Bit) (j : List Job) (fr : Point) (speed more change less : Int) (ht : Fits.fits t) : M_law_FasterTakesLess t j fr speed more change less (· = true) := by
  unfold M_law_FasterTakesLess
  have aw : M_awake (fun y => y = true) := S_awake rfl
  have key : ∀ (y1 y2 y3 : Int), (y2 = 0 ∨ y1 = 0) → M_law_FasterTakesLess_k1 (· = true) y1 y2 y3 true := by
    intro y1 y2 y3 h
    unfold M_law_FasterTakesLess_k1
    rw [cnd_true]
    refine cnd_of (fun _ => aw) (fun e => cnd_of (fun _ => aw) (fun e2 => ?_))
    simp at e e2; omega
  refine S_drill_Seconds ht ?_
  split
  · rename_i e1
    refine S_drill_Seconds ht ?_
    split
    · rename_i e2
      simp only [bne_self_eq_false, cnd_false]
      refine cnd_of (fun _ => key _ _ _ (.inl rfl)) (fun e3 => ?_)
      unfold M_law_FasterTakesLess_k1
      refine cnd_of (fun _ => by simp only [beq_self_eq_true, cnd_true]; exact aw) (fun e4 => ?_)
      have hsp : speed ≤ more := by simpa using e3
      have hch : less ≤ change := by simpa using e4
      have ok : ∀ sp ch, secondsFault t j fr sp ch = 0 → changesFault t j = 0 ∧ isPoint fr = true ∧ within sp 1 1000000 = true ∧ within ch 0 1000000 = true := by
        intro sp ch h
        unfold secondsFault at h
        split at h
        · rename_i hh; exact absurd h hh
        · rename_i hh
          split at h
          · omega
          · rename_i h2
            simp only [not_or, Bool.not_eq_false] at h2
            exact ⟨Decidable.not_not.1 hh, h2.1, h2.2.1, h2.2.2⟩
      obtain ⟨k1, k2, k3, k4⟩ := ok _ _ e1
      obtain ⟨_, _, k5, k6⟩ := ok _ _ e2
      have h0 := (changes_ok k1).1
      obtain ⟨n1, n2, n3, n4, n5, n6, n7, n8, n9, n10, n11, n12, n13, n14⟩ := seconds_num h0 k2 k3 k4
      obtain ⟨m1, m2, m3, m4, m5, m6, m7, m8, m9, m10, m11, m12, m13, m14⟩ := seconds_num h0 k2 k5 k6
      have hle : secondsOf t j fr more less ≤ secondsOf t j fr speed change := by
        unfold secondsOf
        have a1 : less * ((j.length : Int) + (changesTo t j j.length).length) ≤ change * ((j.length : Int) + (changesTo t j j.length).length) := Int.mul_le_mul_of_nonneg_right hch (by omega)
        have a2 : (farSum fr (holesTo j j.length) + more - 1) / more ≤ (farSum fr (holesTo j j.length) + speed - 1) / speed := by
          have b1 : farSum fr (holesTo j j.length) + speed - 1 < ((farSum fr (holesTo j j.length) + speed - 1) / speed + 1) * speed := Int.lt_ediv_add_one_mul_self _ (by omega)
          generalize (farSum fr (holesTo j j.length) + speed - 1) / speed = q at *
          have b2 : (farSum fr (holesTo j j.length) + more - 1) / more < q + 1 := by
            refine Int.ediv_lt_of_lt_mul (by omega) ?_
            have b3 : q * speed ≤ q * more := Int.mul_le_mul_of_nonneg_left hsp n11
            rw [Int.add_mul] at b1 ⊢
            omega
          omega
        omega
      rw [show decide (secondsOf t j fr more less ≤ secondsOf t j fr speed change) = true from decide_eq_true hle, cnd_true]
      exact aw
    · rename_i e2
      simp only [bne_self_eq_false, cnd_false]
      rw [show (secondsFault t j fr more less != 0) = true by simpa using e2, cnd_true]
      exact key _ _ _ (.inl rfl)
  · rename_i e1
    refine S_drill_Seconds ht ?_
    split
    · rw [show (secondsFault t j fr speed change != 0) = true by simpa using e1, cnd_true]
      exact key _ _ _ (.inr rfl)
    · rw [show (secondsFault t j fr speed change != 0) = true by simpa using e1, cnd_true]
      exact key _ _ _ (.inr rfl)
end Go.Proofs.Ytmopdabkfklefaa
