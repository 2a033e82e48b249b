/- Chapter 7: costs that spread: the walks. -/
import Derived.Test.YtihjaehkdgdenaaRtC
namespace Go.Proofs.Ytihjaehkdgdenaa
open Go Go.RowKit
set_option linter.unusedVariables false

set_option linter.unusedVariables false
def M_spread1_k2 (m : Int) (cost : (List Int)) (more : Bool) (Q : (List Int) → Bool → Prop) (n1 : Int) (c1 : Bool) : Prop :=
  cnd c1 (idx cost m fun x1 => Q (cost.set m.toNat n1) true) (Q cost more)
def M_spread1_k1 (m : Int) (cost : (List Int)) (more : Bool) (Q : (List Int) → Bool → Prop) (n1 : Int) : Prop :=
  idx cost m fun x2 => cnd (decide (x2 < 0)) (M_spread1_k2 m cost more Q n1 true) (M_spread1_k2 m cost more Q n1 (decide (n1 < x2)))
def M_spread1 (m : Int) (along : Int) (x_ : Int) (f : RouteFinder) (cost : (List Int)) (more : Bool) (Q : (List Int) → Bool → Prop) : Prop :=
  cnd (along == 3) (M_spread1_k1 m cost more Q (w64 (x_ + f.c.Via))) (M_spread1_k1 m cost more Q (w64 (x_ + f.c.Step)))
set_option maxHeartbeats 1000000 in
theorem R_spread1 (m : Int) (along : Int) (x_ : Int) (f : RouteFinder) (cost : (List Int)) (more : Bool) (w0 : World) (F0 : Nat → Prop) (x_g : Nat) (hb_x_ : ElemAt w0 (old w0 F0) (some ⟨x_g, 0, none⟩) 0 [iv x_]) (f_g_BlockedA : Option Addr) (f_g_BlockedC : Nat) (hv_f_g_Blocked : View w0 (old w0 F0) f_g_BlockedA f_g_BlockedC f.g.Blocked) (f_noA : Option Addr) (f_noC : Nat) (hv_f_no : View w0 (old w0 F0) f_noA f_noC f.no) (fg : Nat) (hb_f : ElemAt w0 (old w0 F0) (some ⟨fg, 0, none⟩) 0 [iv f.g.W, iv f.g.H, iv f.g.Layers, .slice f_g_BlockedA f.g.Blocked.length f_g_BlockedC, iv f.c.Step, iv f.c.Via, iv f.c.Turn, iv f.c.Against, .slice f_noA f.no.length f_noC]) (fq : Nat) (hq_f : ElemAt w0 (old w0 F0) (some ⟨fq, 0, none⟩) 0 [(pn fg 0)]) (costA : Option Addr) (costC : Nat) (costg : Nat) (hb_cost : ElemAt w0 (old w0 F0) (some ⟨costg, 0, none⟩) 0 [.slice costA cost.length costC]) (moreg : Nat) (hs0 : Sat w0 F0 [hown 3 costA costC cost, hbox moreg 4 [.bool more]] w0) (Q : (List Int) → Bool → Prop) (h : M_spread1 m along x_ f cost more Q) :
    Ret Try.prog 84 #[iv m, iv along, (pn x_g 0), (pn fq 0), (pn costg 0), (pn moreg 0)] w0 fun v w' => ∃ (cost1 : List Int) (hl_cost1 : cost1.length = cost.length) (more1 : Bool), v = .tuple #[] ∧ Q cost1 more1 ∧ Sat w0 F0 [hown 3 costA costC cost1, hbox moreg 4 [.bool more1]] w' := by
  refine fn_enter Try.func84 rfl Try.ntmps84 rfl (fs := [(0, iv m), (1, iv along), (2, (pn x_g 0)), (3, (pn fq 0)), (4, (pn costg 0)), (5, (pn moreg 0))]) rfl (fun a hf => ?_)
  have hs := hs0
  unfold M_spread1 at h
  refine wp_seq ?_
  refine R.draw mo (by kernel_rfl) hs ?_
  refine D.v hf (iv x_) rfl (V.loadAt0 (off := 0) (Ag.args _ _ _) hb_x_ rfl rfl Try.isAgg3 Try.sizeOf3 rfl rfl) fun a hf => ?_
  refine D.v hf ((pn fg 0)) rfl (V.loadAt0 (off := 0) (Ag.args _ _ _) hq_f rfl rfl Try.isAgg52 Try.sizeOf52 rfl rfl) fun a hf => ?_
  refine D.p hf ((pn fg 0)) rfl rfl fun a hf => ?_
  refine D.v hf ((pn fg 4)) rfl (V.fieldBox rfl rfl Try.runUnderlying68 rfl Try.sizeOf26 rfl rfl) fun a hf => ?_
  refine D.v hf ((pn fg 4)) rfl (V.fieldBox rfl rfl Try.runUnderlying26 rfl Try.sizeOf3 rfl rfl) fun a hf => ?_
  refine D.v hf (iv f.c.Step) rfl (V.loadAt0 (off := 4) (Ag.args _ _ _) hb_f rfl rfl Try.isAgg3 Try.sizeOf3 rfl rfl) fun a hf => ?_
  refine D.p hf (iv (w64 (x_ + f.c.Step))) rfl rfl fun a hf => ?_
  refine D.p hf (iv (w64 (x_ + f.c.Step))) rfl rfl fun a hf => ?_
  refine D.done (fun w hs => ?_)
  refine X.then_ ?_
  refine wp_seq ?_
  refine C.cut (J := fun a w => ∃ (n1 : Int), M_spread1_k1 m cost more Q n1 ∧ FrOk 42 [(0, iv m), (4, (pn costg 0)), (5, (pn moreg 0)), (8, iv n1)] a ∧ Sat w0 F0 [hown 3 costA costC cost, hbox moreg 4 [.bool more]] w) ?_ ?_
  · rintro a w ⟨n1, h, hf, hs⟩
    unfold M_spread1_k1 at h
    refine wp_seq ?_
    refine C.cut (J := fun a w => ∃ (c1 : Bool), M_spread1_k2 m cost more Q n1 c1 ∧ FrOk 42 [(0, iv m), (4, (pn costg 0)), (5, (pn moreg 0)), (8, iv n1), (37, .bool c1)] a ∧ Sat w0 F0 [hown 3 costA costC cost, hbox moreg 4 [.bool more]] w) ?_ ?_
    · rintro a w ⟨c1, h, hf, hs⟩
      unfold M_spread1_k2 at h
      refine C.cond hf (b := c1) rfl (fun hc => ?_) (fun hc => ?_)
      · replace h := h.1 hc
        refine R.list ?_
        refine S.v hf hs (.slice costA cost.length costC) rfl (V.loadAt0 (off := 0) (Ag.args _ _ _) hb_cost rfl rfl Try.isAgg55 Try.sizeOf55 rfl rfl) fun a hf => ?_
        refine S.p hf hs (iv m) rfl rfl fun a hf => ?_
        refine S.p hf hs (iv n1) rfl rfl fun a hf => ?_
        obtain ⟨h0x1, x1, hx1, h⟩ := h
        refine S.v hf hs (elemPtr costA (m.toNat * 1)) rfl (V.index rfl rfl rfl Try.runUnderlying55 Try.sizeOf3 (hs.ownSome 0 rfl (lt_of_get hx1)) h0x1 (lt_of_get hx1) rfl) fun a hf => ?_
        refine S.storeOwn (off := 0) 0 hf hs rfl rfl n1 [iv n1] rfl hx1 rfl rfl rfl rfl rfl Try.sizeOf3 rfl (by decide) rfl rfl (fun a w hf hs => ?_)
        replace hf := hf.tell 38 (v := .slice costA (cost.set m.toNat n1).length costC) ((hf.get 38 (.slice costA cost.length costC) rfl).trans (congrArg (fun n => Value.slice costA n costC) List.length_set.symm))
        refine S.storeBox 1 hf hs rfl rfl [.bool true] [.bool true] rfl rfl rfl rfl rfl Try.sizeOf4 rfl rfl rfl rfl (fun a w hf hs => ?_)
        refine R.nil ?_
        replace hs := hs.front 1 rfl
        replace hs := hs.front 1 rfl
        replace hs := hs.take 2
        exact L.end0 Try.results84 hf ⟨(cost.set m.toNat n1), (List.length_set.trans rfl), true, rfl, h, hs⟩
      · replace h := h.2 hc
        refine wp_skip ?_
        replace hs := hs.front 1 rfl
        replace hs := hs.front 1 rfl
        replace hs := hs.take 2
        exact L.end0 Try.results84 hf ⟨cost, rfl, more, rfl, h, hs⟩
    · skip
      refine R.list ?_
      refine S.v hf hs (.slice costA cost.length costC) rfl (V.loadAt0 (off := 0) (Ag.args _ _ _) hb_cost rfl rfl Try.isAgg55 Try.sizeOf55 rfl rfl) fun a hf => ?_
      refine S.p hf hs (iv m) rfl rfl fun a hf => ?_
      obtain ⟨h0x2, x2, hx2, h⟩ := h
      refine S.v hf hs (elemPtr costA (m.toNat * 1)) rfl (V.index rfl rfl rfl Try.runUnderlying55 Try.sizeOf3 (hs.ownSome 0 rfl (lt_of_get hx2)) h0x2 (lt_of_get hx2) rfl) fun a hf => ?_
      refine S.v hf hs (iv x2) rfl (V.loadOwn (off := 0) 0 rfl hx2 rfl rfl rfl Try.isAgg3 Try.sizeOf3 rfl rfl) fun a hf => ?_
      refine S.p hf hs (.bool (decide (x2 < 0))) rfl rfl fun a hf => ?_
      refine S.split hf hs (b := decide (x2 < 0)) rfl rfl rfl (V.pure rfl) (fun hc a hf => ?_) (fun hc a hf => ?_)
      · replace h := h.1 hc
        refine S.k hf rfl fun a hf => ?_
        refine S.k hf rfl fun a hf => ?_
        refine S.k hf rfl fun a hf => ?_
        refine S.k hf rfl fun a hf => ?_
        refine S.k hf rfl fun a hf => ?_
        refine S.k hf rfl fun a hf => ?_
        refine S.p hf hs (.bool true) rfl rfl fun a hf => ?_
        refine R.nil ?_
        refine X.then_ ?_
        exact ⟨true, h, (((((hf.nil.cons (hf.get 37 _ rfl)).cons (hf.get 8 _ rfl)).cons (hf.get 5 _ rfl)).cons (hf.get 4 _ rfl)).cons (hf.get 0 _ rfl)), hs⟩
      · replace h := h.2 hc
        refine S.p hf hs (iv n1) rfl rfl fun a hf => ?_
        refine S.v hf hs (.slice costA cost.length costC) rfl (V.loadAt0 (off := 0) (Ag.args _ _ _) hb_cost rfl rfl Try.isAgg55 Try.sizeOf55 rfl rfl) fun a hf => ?_
        refine S.p hf hs (iv m) rfl rfl fun a hf => ?_
        refine S.v hf hs (elemPtr costA (m.toNat * 1)) rfl (V.index rfl rfl rfl Try.runUnderlying55 Try.sizeOf3 (hs.ownSome 0 rfl (lt_of_get hx2)) h0x2 (lt_of_get hx2) rfl) fun a hf => ?_
        refine S.v hf hs (iv x2) rfl (V.loadOwn (off := 0) 0 rfl hx2 rfl rfl rfl Try.isAgg3 Try.sizeOf3 rfl rfl) fun a hf => ?_
        refine S.p hf hs (.bool (decide (n1 < x2))) rfl rfl fun a hf => ?_
        refine S.p hf hs (.bool (decide (n1 < x2))) rfl rfl fun a hf => ?_
        refine R.nil ?_
        refine X.then_ ?_
        exact ⟨(decide (n1 < x2)), h, (((((hf.nil.cons (hf.get 37 _ rfl)).cons (hf.get 8 _ rfl)).cons (hf.get 5 _ rfl)).cons (hf.get 4 _ rfl)).cons (hf.get 0 _ rfl)), hs⟩
  · skip
    refine wp_seq ?_
    refine R.list ?_
    refine S.p hf hs (iv along) rfl rfl fun a hf => ?_
    refine S.p hf hs (.bool (along == 3)) rfl rfl fun a hf => ?_
    refine R.nil ?_
    refine X.then_ ?_
    refine C.cond hf (b := along == 3) rfl (fun hc => ?_) (fun hc => ?_)
    · replace h := h.1 hc
      refine R.draw mo (by kernel_rfl) hs ?_
      refine D.v hf (iv x_) rfl (V.loadAt0 (off := 0) (Ag.args _ _ _) hb_x_ rfl rfl Try.isAgg3 Try.sizeOf3 rfl rfl) fun a hf => ?_
      refine D.v hf ((pn fg 0)) rfl (V.loadAt0 (off := 0) (Ag.args _ _ _) hq_f rfl rfl Try.isAgg52 Try.sizeOf52 rfl rfl) fun a hf => ?_
      refine D.p hf ((pn fg 0)) rfl rfl fun a hf => ?_
      refine D.v hf ((pn fg 4)) rfl (V.fieldBox rfl rfl Try.runUnderlying68 rfl Try.sizeOf26 rfl rfl) fun a hf => ?_
      refine D.v hf ((pn fg 5)) rfl (V.fieldBox rfl rfl Try.runUnderlying26 rfl Try.sizeOf3 rfl rfl) fun a hf => ?_
      refine D.v hf (iv f.c.Via) rfl (V.loadAt0 (off := 5) (Ag.args _ _ _) hb_f rfl rfl Try.isAgg3 Try.sizeOf3 rfl rfl) fun a hf => ?_
      refine D.p hf (iv (w64 (x_ + f.c.Via))) rfl rfl fun a hf => ?_
      refine D.p hf (iv (w64 (x_ + f.c.Via))) rfl rfl fun a hf => ?_
      refine D.done (fun w hs => ?_)
      refine X.then_ ?_
      exact ⟨(w64 (x_ + f.c.Via)), h, ((((hf.nil.cons (hf.get 8 _ rfl)).cons (hf.get 5 _ rfl)).cons (hf.get 4 _ rfl)).cons (hf.get 0 _ rfl)), hs⟩
    · replace h := h.2 hc
      refine wp_skip ?_
      refine X.then_ ?_
      exact ⟨(w64 (x_ + f.c.Step)), h, ((((hf.nil.cons (hf.get 8 _ rfl)).cons (hf.get 5 _ rfl)).cons (hf.get 4 _ rfl)).cons (hf.get 0 _ rfl)), hs⟩

set_option linter.unusedVariables false
def M_near_spread_k2 (n : Int) (x_ : Int) (f2 : RouteFinder) (l2 : List Int) (b2 : Bool) (n2 : Int) (again1 : List Int → Bool → Int → Prop) (x1 : NearRow) (c1 : Bool) : Prop :=
  cnd c1 (M_spread1 (w64 (n + x1.by_)) x1.along x_ f2 l2 b2 fun z1 z2 => again1 z1 z2 (w64 (n2 + 1))) (again1 l2 b2 (w64 (n2 + 1)))
def M_near_spread_L1 (f : RouteFinder) (n : Int) (x_ : Int) (f2 : RouteFinder) (Q : (List Int) → Bool → Prop) (y1 : Cell) (again1 : List Int → Bool → Int → Prop) (l2 : List Int) (b2 : Bool) (n2 : Int) : Prop :=
  cnd (decide (n2 < 6)) (idx ([(⟨w64 ((w64 (-f.g.W)) * f.g.H), 3, decide (y1.Layer > 0)⟩ : NearRow), (⟨w64 (-f.g.W), 2, decide (y1.Y > 0)⟩ : NearRow), (⟨(-1), 1, decide (y1.X > 0)⟩ : NearRow), (⟨1, 1, decide (y1.X < w64 (f.g.W - 1))⟩ : NearRow), (⟨f.g.W, 2, decide (y1.Y < w64 (f.g.H - 1))⟩ : NearRow), (⟨w64 (f.g.W * f.g.H), 3, decide (y1.Layer < w64 (f.g.Layers - 1))⟩ : NearRow)] : List NearRow) n2 fun x1 => cnd x1.is (idx f.no (w64 (n + x1.by_)) fun x2 => M_near_spread_k2 n x_ f2 l2 b2 n2 again1 x1 (!x2)) (M_near_spread_k2 n x_ f2 l2 b2 n2 again1 x1 false)) (Q l2 b2)
def M_near_spread (f : RouteFinder) (n : Int) (x_ : Int) (f2 : RouteFinder) (cost : (List Int)) (more : Bool) (Q : (List Int) → Bool → Prop) : Prop :=
  M_route_cell f.g n fun y1 => lp (fun again (s : List Int × Bool × Int) => M_near_spread_L1 f n x_ f2 Q y1 (fun l2 b2 n2 => again (l2, b2, n2)) s.1 s.2.1 s.2.2) (cost, more, 0)
set_option maxHeartbeats 1000000 in
theorem R_near_spread (f : RouteFinder) (n : Int) (x_ : Int) (f2 : RouteFinder) (cost : (List Int)) (more : Bool) (w0 : World) (F0 : Nat → Prop) (f_g_BlockedA : Option Addr) (f_g_BlockedC : Nat) (hv_f_g_Blocked : View w0 (old w0 F0) f_g_BlockedA f_g_BlockedC f.g.Blocked) (f_noA : Option Addr) (f_noC : Nat) (hv_f_no : View w0 (old w0 F0) f_noA f_noC f.no) (fg : Nat) (hb_f : ElemAt w0 (old w0 F0) (some ⟨fg, 0, none⟩) 0 [iv f.g.W, iv f.g.H, iv f.g.Layers, .slice f_g_BlockedA f.g.Blocked.length f_g_BlockedC, iv f.c.Step, iv f.c.Via, iv f.c.Turn, iv f.c.Against, .slice f_noA f.no.length f_noC]) (x_g : Nat) (hb_x_ : ElemAt w0 (old w0 F0) (some ⟨x_g, 0, none⟩) 0 [iv x_]) (f2_g_BlockedA : Option Addr) (f2_g_BlockedC : Nat) (hv_f2_g_Blocked : View w0 (old w0 F0) f2_g_BlockedA f2_g_BlockedC f2.g.Blocked) (f2_noA : Option Addr) (f2_noC : Nat) (hv_f2_no : View w0 (old w0 F0) f2_noA f2_noC f2.no) (f2g : Nat) (hb_f2 : ElemAt w0 (old w0 F0) (some ⟨f2g, 0, none⟩) 0 [iv f2.g.W, iv f2.g.H, iv f2.g.Layers, .slice f2_g_BlockedA f2.g.Blocked.length f2_g_BlockedC, iv f2.c.Step, iv f2.c.Via, iv f2.c.Turn, iv f2.c.Against, .slice f2_noA f2.no.length f2_noC]) (f2q : Nat) (hq_f2 : ElemAt w0 (old w0 F0) (some ⟨f2q, 0, none⟩) 0 [(pn f2g 0)]) (costA : Option Addr) (costC : Nat) (costg : Nat) (hb_cost : ElemAt w0 (old w0 F0) (some ⟨costg, 0, none⟩) 0 [.slice costA cost.length costC]) (moreg : Nat) (hs0 : Sat w0 F0 [hown 3 costA costC cost, hbox moreg 4 [.bool more]] w0) (Q : (List Int) → Bool → Prop) (h : M_near_spread f n x_ f2 cost more Q) :
    Ret Try.prog 83 #[(pn fg 0), iv n, .func (.func 84) #[] #[(pn x_g 0), (pn f2q 0), (pn costg 0), (pn moreg 0)]] w0 fun v w' => ∃ (cost1 : List Int) (hl_cost1 : cost1.length = cost.length) (more1 : Bool), v = .tuple #[] ∧ Q cost1 more1 ∧ Sat w0 F0 [hown 3 costA costC cost1, hbox moreg 4 [.bool more1]] w' := by
  refine fn_enter Try.func83 rfl Try.ntmps83 rfl (fs := [(0, (pn fg 0)), (1, iv n), (2, .func (.func 84) #[] #[(pn x_g 0), (pn f2q 0), (pn costg 0), (pn moreg 0)])]) rfl (fun a hf => ?_)
  have hs := hs0
  unfold M_near_spread at h
  refine wp_seq ?_
  refine R.list ?_
  refine S.p hf hs ((pn fg 0)) rfl rfl fun a hf => ?_
  refine S.p hf hs ((pn fg 0)) rfl rfl fun a hf => ?_
  refine S.v hf hs ((pn fg 0)) rfl (V.fieldBox rfl rfl Try.runUnderlying68 rfl Try.sizeOf24 rfl rfl) fun a hf => ?_
  refine S.v hf hs (.agg #[iv f.g.W, iv f.g.H, iv f.g.Layers, .slice f_g_BlockedA f.g.Blocked.length f_g_BlockedC]) rfl (V.loadAt0 (off := 0) (Ag.args _ _ _) hb_f rfl rfl Try.isAgg24 Try.sizeOf24 rfl rfl) fun a hf => ?_
  refine S.p hf hs (iv n) rfl rfl fun a hf => ?_
  refine S.call hf rfl rfl rfl (call_fn (vs := [.agg #[iv f.g.W, iv f.g.H, iv f.g.Layers, .slice f_g_BlockedA f.g.Blocked.length f_g_BlockedC], iv n]) rfl rfl rfl Try.call75) (R_route_cell f.g n _ f_g_BlockedA f_g_BlockedC ((Ag.args _ _ _).view hv_f_g_Blocked hs) _ h) (fun v a w' hf hr => ?_)
  obtain ⟨y1, rfl, h2, hs2⟩ := hr
  replace h := h2; replace hs := hs.call hs2; clear h2 hs2
  refine S.alloc hf hs rfl rfl rfl [iv 0, iv 0, iv 0] rfl Try.zeroValue28 rfl (fun g1 a w hf hs => ?_)
  refine S.storeBox 0 hf hs rfl rfl [iv y1.X, iv y1.Y, iv y1.Layer] [iv y1.X, iv y1.Y, iv y1.Layer] rfl rfl rfl rfl rfl Try.sizeOf28 rfl rfl rfl rfl (fun a w hf hs => ?_)
  refine R.nil ?_
  refine X.then_ ?_
  refine wp_seq ?_
  refine R.draw mo (by kernel_rfl) hs ?_
  refine D.p hf ((pn fg 0)) rfl rfl fun a hf => ?_
  refine D.p hf ((pn fg 0)) rfl rfl fun a hf => ?_
  refine D.v hf ((pn fg 0)) rfl (V.fieldBox rfl rfl Try.runUnderlying68 rfl Try.sizeOf24 rfl rfl) fun a hf => ?_
  refine D.v hf ((pn fg 0)) rfl (V.fieldBox rfl rfl Try.runUnderlying24 rfl Try.sizeOf3 rfl rfl) fun a hf => ?_
  refine D.v hf (iv f.g.W) rfl (V.loadAt0 (off := 0) (Ag.args _ _ _) hb_f rfl rfl Try.isAgg3 Try.sizeOf3 rfl rfl) fun a hf => ?_
  refine D.p hf (iv (w64 (-f.g.W))) rfl rfl fun a hf => ?_
  refine D.p hf ((pn fg 0)) rfl rfl fun a hf => ?_
  refine D.p hf ((pn fg 0)) rfl rfl fun a hf => ?_
  refine D.v hf ((pn fg 0)) rfl (V.fieldBox rfl rfl Try.runUnderlying68 rfl Try.sizeOf24 rfl rfl) fun a hf => ?_
  refine D.v hf ((pn fg 1)) rfl (V.fieldBox rfl rfl Try.runUnderlying24 rfl Try.sizeOf3 rfl rfl) fun a hf => ?_
  refine D.v hf (iv f.g.H) rfl (V.loadAt0 (off := 1) (Ag.args _ _ _) hb_f rfl rfl Try.isAgg3 Try.sizeOf3 rfl rfl) fun a hf => ?_
  refine D.p hf (iv (w64 ((w64 (-f.g.W)) * f.g.H))) rfl rfl fun a hf => ?_
  refine D.v hf ((pn g1 2)) rfl (V.fieldBox rfl rfl Try.runUnderlying28 rfl Try.sizeOf3 rfl rfl) fun a hf => ?_
  refine D.v hf (iv y1.Layer) rfl (V.loadBox 0 rfl rfl rfl Try.isAgg3 Try.sizeOf3 rfl rfl) fun a hf => ?_
  refine D.p hf (.bool (decide (y1.Layer > 0))) rfl rfl fun a hf => ?_
  refine D.v hf (.agg #[iv (w64 ((w64 (-f.g.W)) * f.g.H)), iv 3, .bool (decide (y1.Layer > 0))]) rfl (V.build (places := #[(0, 1), (1, 1), (2, 1)]) rfl Try.zeroValue130 Try.runUnderlying130 (by intro w; simp [Try.sizeOf3, Try.sizeOf4]) rfl rfl) fun a hf => ?_
  refine D.p hf ((pn fg 0)) rfl rfl fun a hf => ?_
  refine D.p hf ((pn fg 0)) rfl rfl fun a hf => ?_
  refine D.v hf ((pn fg 0)) rfl (V.fieldBox rfl rfl Try.runUnderlying68 rfl Try.sizeOf24 rfl rfl) fun a hf => ?_
  refine D.v hf ((pn fg 0)) rfl (V.fieldBox rfl rfl Try.runUnderlying24 rfl Try.sizeOf3 rfl rfl) fun a hf => ?_
  refine D.v hf (iv f.g.W) rfl (V.loadAt0 (off := 0) (Ag.args _ _ _) hb_f rfl rfl Try.isAgg3 Try.sizeOf3 rfl rfl) fun a hf => ?_
  refine D.p hf (iv (w64 (-f.g.W))) rfl rfl fun a hf => ?_
  refine D.v hf ((pn g1 1)) rfl (V.fieldBox rfl rfl Try.runUnderlying28 rfl Try.sizeOf3 rfl rfl) fun a hf => ?_
  refine D.v hf (iv y1.Y) rfl (V.loadBox 0 rfl rfl rfl Try.isAgg3 Try.sizeOf3 rfl rfl) fun a hf => ?_
  refine D.p hf (.bool (decide (y1.Y > 0))) rfl rfl fun a hf => ?_
  refine D.v hf (.agg #[iv (w64 (-f.g.W)), iv 2, .bool (decide (y1.Y > 0))]) rfl (V.build (places := #[(0, 1), (1, 1), (2, 1)]) rfl Try.zeroValue130 Try.runUnderlying130 (by intro w; simp [Try.sizeOf3, Try.sizeOf4]) rfl rfl) fun a hf => ?_
  refine D.v hf ((pn g1 0)) rfl (V.fieldBox rfl rfl Try.runUnderlying28 rfl Try.sizeOf3 rfl rfl) fun a hf => ?_
  refine D.v hf (iv y1.X) rfl (V.loadBox 0 rfl rfl rfl Try.isAgg3 Try.sizeOf3 rfl rfl) fun a hf => ?_
  refine D.p hf (.bool (decide (y1.X > 0))) rfl rfl fun a hf => ?_
  refine D.v hf (.agg #[iv (-1), iv 1, .bool (decide (y1.X > 0))]) rfl (V.build (places := #[(0, 1), (1, 1), (2, 1)]) rfl Try.zeroValue130 Try.runUnderlying130 (by intro w; simp [Try.sizeOf3, Try.sizeOf4]) rfl rfl) fun a hf => ?_
  refine D.v hf ((pn g1 0)) rfl (V.fieldBox rfl rfl Try.runUnderlying28 rfl Try.sizeOf3 rfl rfl) fun a hf => ?_
  refine D.v hf (iv y1.X) rfl (V.loadBox 0 rfl rfl rfl Try.isAgg3 Try.sizeOf3 rfl rfl) fun a hf => ?_
  refine D.p hf ((pn fg 0)) rfl rfl fun a hf => ?_
  refine D.p hf ((pn fg 0)) rfl rfl fun a hf => ?_
  refine D.v hf ((pn fg 0)) rfl (V.fieldBox rfl rfl Try.runUnderlying68 rfl Try.sizeOf24 rfl rfl) fun a hf => ?_
  refine D.v hf ((pn fg 0)) rfl (V.fieldBox rfl rfl Try.runUnderlying24 rfl Try.sizeOf3 rfl rfl) fun a hf => ?_
  refine D.v hf (iv f.g.W) rfl (V.loadAt0 (off := 0) (Ag.args _ _ _) hb_f rfl rfl Try.isAgg3 Try.sizeOf3 rfl rfl) fun a hf => ?_
  refine D.p hf (iv (w64 (f.g.W - 1))) rfl rfl fun a hf => ?_
  refine D.p hf (.bool (decide (y1.X < w64 (f.g.W - 1)))) rfl rfl fun a hf => ?_
  refine D.v hf (.agg #[iv 1, iv 1, .bool (decide (y1.X < w64 (f.g.W - 1)))]) rfl (V.build (places := #[(0, 1), (1, 1), (2, 1)]) rfl Try.zeroValue130 Try.runUnderlying130 (by intro w; simp [Try.sizeOf3, Try.sizeOf4]) rfl rfl) fun a hf => ?_
  refine D.p hf ((pn fg 0)) rfl rfl fun a hf => ?_
  refine D.p hf ((pn fg 0)) rfl rfl fun a hf => ?_
  refine D.v hf ((pn fg 0)) rfl (V.fieldBox rfl rfl Try.runUnderlying68 rfl Try.sizeOf24 rfl rfl) fun a hf => ?_
  refine D.v hf ((pn fg 0)) rfl (V.fieldBox rfl rfl Try.runUnderlying24 rfl Try.sizeOf3 rfl rfl) fun a hf => ?_
  refine D.v hf (iv f.g.W) rfl (V.loadAt0 (off := 0) (Ag.args _ _ _) hb_f rfl rfl Try.isAgg3 Try.sizeOf3 rfl rfl) fun a hf => ?_
  refine D.v hf ((pn g1 1)) rfl (V.fieldBox rfl rfl Try.runUnderlying28 rfl Try.sizeOf3 rfl rfl) fun a hf => ?_
  refine D.v hf (iv y1.Y) rfl (V.loadBox 0 rfl rfl rfl Try.isAgg3 Try.sizeOf3 rfl rfl) fun a hf => ?_
  refine D.p hf ((pn fg 0)) rfl rfl fun a hf => ?_
  refine D.p hf ((pn fg 0)) rfl rfl fun a hf => ?_
  refine D.v hf ((pn fg 0)) rfl (V.fieldBox rfl rfl Try.runUnderlying68 rfl Try.sizeOf24 rfl rfl) fun a hf => ?_
  refine D.v hf ((pn fg 1)) rfl (V.fieldBox rfl rfl Try.runUnderlying24 rfl Try.sizeOf3 rfl rfl) fun a hf => ?_
  refine D.v hf (iv f.g.H) rfl (V.loadAt0 (off := 1) (Ag.args _ _ _) hb_f rfl rfl Try.isAgg3 Try.sizeOf3 rfl rfl) fun a hf => ?_
  refine D.p hf (iv (w64 (f.g.H - 1))) rfl rfl fun a hf => ?_
  refine D.p hf (.bool (decide (y1.Y < w64 (f.g.H - 1)))) rfl rfl fun a hf => ?_
  refine D.v hf (.agg #[iv f.g.W, iv 2, .bool (decide (y1.Y < w64 (f.g.H - 1)))]) rfl (V.build (places := #[(0, 1), (1, 1), (2, 1)]) rfl Try.zeroValue130 Try.runUnderlying130 (by intro w; simp [Try.sizeOf3, Try.sizeOf4]) rfl rfl) fun a hf => ?_
  refine D.p hf ((pn fg 0)) rfl rfl fun a hf => ?_
  refine D.p hf ((pn fg 0)) rfl rfl fun a hf => ?_
  refine D.v hf ((pn fg 0)) rfl (V.fieldBox rfl rfl Try.runUnderlying68 rfl Try.sizeOf24 rfl rfl) fun a hf => ?_
  refine D.v hf ((pn fg 0)) rfl (V.fieldBox rfl rfl Try.runUnderlying24 rfl Try.sizeOf3 rfl rfl) fun a hf => ?_
  refine D.v hf (iv f.g.W) rfl (V.loadAt0 (off := 0) (Ag.args _ _ _) hb_f rfl rfl Try.isAgg3 Try.sizeOf3 rfl rfl) fun a hf => ?_
  refine D.p hf ((pn fg 0)) rfl rfl fun a hf => ?_
  refine D.p hf ((pn fg 0)) rfl rfl fun a hf => ?_
  refine D.v hf ((pn fg 0)) rfl (V.fieldBox rfl rfl Try.runUnderlying68 rfl Try.sizeOf24 rfl rfl) fun a hf => ?_
  refine D.v hf ((pn fg 1)) rfl (V.fieldBox rfl rfl Try.runUnderlying24 rfl Try.sizeOf3 rfl rfl) fun a hf => ?_
  refine D.v hf (iv f.g.H) rfl (V.loadAt0 (off := 1) (Ag.args _ _ _) hb_f rfl rfl Try.isAgg3 Try.sizeOf3 rfl rfl) fun a hf => ?_
  refine D.p hf (iv (w64 (f.g.W * f.g.H))) rfl rfl fun a hf => ?_
  refine D.v hf ((pn g1 2)) rfl (V.fieldBox rfl rfl Try.runUnderlying28 rfl Try.sizeOf3 rfl rfl) fun a hf => ?_
  refine D.v hf (iv y1.Layer) rfl (V.loadBox 0 rfl rfl rfl Try.isAgg3 Try.sizeOf3 rfl rfl) fun a hf => ?_
  refine D.p hf ((pn fg 0)) rfl rfl fun a hf => ?_
  refine D.p hf ((pn fg 0)) rfl rfl fun a hf => ?_
  refine D.v hf ((pn fg 0)) rfl (V.fieldBox rfl rfl Try.runUnderlying68 rfl Try.sizeOf24 rfl rfl) fun a hf => ?_
  refine D.v hf ((pn fg 2)) rfl (V.fieldBox rfl rfl Try.runUnderlying24 rfl Try.sizeOf3 rfl rfl) fun a hf => ?_
  refine D.v hf (iv f.g.Layers) rfl (V.loadAt0 (off := 2) (Ag.args _ _ _) hb_f rfl rfl Try.isAgg3 Try.sizeOf3 rfl rfl) fun a hf => ?_
  refine D.p hf (iv (w64 (f.g.Layers - 1))) rfl rfl fun a hf => ?_
  refine D.p hf (.bool (decide (y1.Layer < w64 (f.g.Layers - 1)))) rfl rfl fun a hf => ?_
  refine D.v hf (.agg #[iv (w64 (f.g.W * f.g.H)), iv 3, .bool (decide (y1.Layer < w64 (f.g.Layers - 1)))]) rfl (V.build (places := #[(0, 1), (1, 1), (2, 1)]) rfl Try.zeroValue130 Try.runUnderlying130 (by intro w; simp [Try.sizeOf3, Try.sizeOf4]) rfl rfl) fun a hf => ?_
  refine D.v hf (.agg #[iv (w64 ((w64 (-f.g.W)) * f.g.H)), iv 3, .bool (decide (y1.Layer > 0)), iv (w64 (-f.g.W)), iv 2, .bool (decide (y1.Y > 0)), iv (-1), iv 1, .bool (decide (y1.X > 0)), iv 1, iv 1, .bool (decide (y1.X < w64 (f.g.W - 1))), iv f.g.W, iv 2, .bool (decide (y1.Y < w64 (f.g.H - 1))), iv (w64 (f.g.W * f.g.H)), iv 3, .bool (decide (y1.Layer < w64 (f.g.Layers - 1)))]) rfl (V.buildArr rfl Try.zeroValue131 Try.runUnderlying131 Try.sizeOf130 rfl (by kernel_rfl)) fun a hf => ?_
  refine D.p hf (iv 0) rfl rfl fun a hf => ?_
  refine D.done (fun w hs => ?_)
  refine X.then_ ?_
  refine wp_block ?_
  replace hs := hs.front 1 rfl
  replace hs := hs.front 2 rfl
  replace hs := hs.take 2
  obtain ⟨kk, h⟩ := h
  refine C.loop (fun kk a w => ∃ (l2 : List Int) (hl_l2 : l2.length = cost.length) (b2 : Bool) (n2 : Int), iterF (fun again (s : List Int × Bool × Int) => M_near_spread_L1 f n x_ f2 Q y1 (fun l2 b2 n2 => again (l2, b2, n2)) s.1 s.2.1 s.2.2) kk (l2, b2, n2) ∧ FrOk 119 [(0, (pn fg 0)), (1, iv n), (2, .func (.func 84) #[] #[(pn x_g 0), (pn f2q 0), (pn costg 0), (pn moreg 0)]), (91, .agg #[iv (w64 ((w64 (-f.g.W)) * f.g.H)), iv 3, .bool (decide (y1.Layer > 0)), iv (w64 (-f.g.W)), iv 2, .bool (decide (y1.Y > 0)), iv (-1), iv 1, .bool (decide (y1.X > 0)), iv 1, iv 1, .bool (decide (y1.X < w64 (f.g.W - 1))), iv f.g.W, iv 2, .bool (decide (y1.Y < w64 (f.g.H - 1))), iv (w64 (f.g.W * f.g.H)), iv 3, .bool (decide (y1.Layer < w64 (f.g.Layers - 1)))]), (92, iv n2)] a ∧ Sat w0 F0 [hbox moreg 4 [.bool b2], hown 3 costA costC l2] w) kk ⟨cost, rfl, more, 0, h, (((((hf.nil.cons (hf.get 92 _ rfl)).cons (hf.get 91 _ rfl)).cons (hf.get 2 _ rfl)).cons (hf.get 1 _ rfl)).cons (hf.get 0 _ rfl)), hs⟩ (fun a w ⟨_, _, _, _, h, _, _⟩ => h) ?_
  clear h hf hs
  rintro kk a w ⟨l2, hl_l2, b2, n2, h, hf, hs⟩
  obtain ⟨again1, hagain1⟩ : ∃ X : List Int → Bool → Int → Prop, X = (fun l2 b2 n2 => iterF (fun again (s : List Int × Bool × Int) => M_near_spread_L1 f n x_ f2 Q y1 (fun l2 b2 n2 => again (l2, b2, n2)) s.1 s.2.1 s.2.2) kk (l2, b2, n2)) := ⟨_, rfl⟩
  replace h : M_near_spread_L1 f n x_ f2 Q y1 again1 l2 b2 n2 := by rw [hagain1]; exact h
  unfold M_near_spread_L1 at h
  refine wp_seq ?_
  refine R.list ?_
  refine S.p hf hs (.bool (decide (n2 < 6))) rfl rfl fun a hf => ?_
  refine R.nil ?_
  refine X.then_ ?_
  refine wp_seq ?_
  refine C.cond hf (b := decide (n2 < 6)) rfl (fun hc => ?_) (fun hc => ?_)
  · replace h := h.1 hc
    refine wp_skip ?_
    refine X.then_ ?_
    refine wp_seq ?_
    refine wp_block ?_
    refine wp_seq ?_
    refine R.list ?_
    obtain ⟨h0x1, x1, hx1, h⟩ := h
    refine S.v hf hs (.agg #[iv x1.by_, iv x1.along, .bool x1.is]) rfl (V.indexAgg rfl rfl rfl Try.runUnderlying131 Try.sizeOf130 (tab_lt h0x1 hx1 rfl) (tab_part hx1 (by kernel_rfl) Try.isAgg130 Try.sizeOf130 rfl rfl)) fun a hf => ?_
    refine S.alloc hf hs rfl rfl rfl [iv 0, iv 0, .bool false] rfl Try.zeroValue130 rfl (fun g2 a w hf hs => ?_)
    refine S.storeBox 0 hf hs rfl rfl [iv x1.by_, iv x1.along, .bool x1.is] [iv x1.by_, iv x1.along, .bool x1.is] rfl rfl rfl rfl rfl Try.sizeOf130 rfl rfl rfl rfl (fun a w hf hs => ?_)
    refine R.nil ?_
    refine X.then_ ?_
    refine wp_seq ?_
    refine C.cut (J := fun a w => ∃ (c1 : Bool), M_near_spread_k2 n x_ f2 l2 b2 n2 again1 x1 c1 ∧ FrOk 119 [(0, (pn fg 0)), (1, iv n), (2, .func (.func 84) #[] #[(pn x_g 0), (pn f2q 0), (pn costg 0), (pn moreg 0)]), (8, (pn g2 0)), (91, .agg #[iv (w64 ((w64 (-f.g.W)) * f.g.H)), iv 3, .bool (decide (y1.Layer > 0)), iv (w64 (-f.g.W)), iv 2, .bool (decide (y1.Y > 0)), iv (-1), iv 1, .bool (decide (y1.X > 0)), iv 1, iv 1, .bool (decide (y1.X < w64 (f.g.W - 1))), iv f.g.W, iv 2, .bool (decide (y1.Y < w64 (f.g.H - 1))), iv (w64 (f.g.W * f.g.H)), iv 3, .bool (decide (y1.Layer < w64 (f.g.Layers - 1)))]), (92, iv n2), (109, .bool c1)] a ∧ Sat w0 F0 [hbox g2 130 [iv x1.by_, iv x1.along, .bool x1.is], hbox moreg 4 [.bool b2], hown 3 costA costC l2] w) ?_ ?_
    · rintro a w ⟨c1, h, hf, hs⟩
      unfold M_near_spread_k2 at h
      refine C.cond hf (b := c1) rfl (fun hc => ?_) (fun hc => ?_)
      · replace h := h.1 hc
        refine R.list ?_
        refine S.p hf hs (.func (.func 84) #[] #[(pn x_g 0), (pn f2q 0), (pn costg 0), (pn moreg 0)]) rfl rfl fun a hf => ?_
        refine S.p hf hs (iv n) rfl rfl fun a hf => ?_
        refine S.v hf hs ((pn g2 0)) rfl (V.fieldBox rfl rfl Try.runUnderlying130 rfl Try.sizeOf3 rfl rfl) fun a hf => ?_
        refine S.v hf hs (iv x1.by_) rfl (V.loadBox 0 rfl rfl rfl Try.isAgg3 Try.sizeOf3 rfl rfl) fun a hf => ?_
        refine S.p hf hs (iv (w64 (n + x1.by_))) rfl rfl fun a hf => ?_
        refine S.v hf hs ((pn g2 1)) rfl (V.fieldBox rfl rfl Try.runUnderlying130 rfl Try.sizeOf3 rfl rfl) fun a hf => ?_
        refine S.v hf hs (iv x1.along) rfl (V.loadBox 0 rfl rfl rfl Try.isAgg3 Try.sizeOf3 rfl rfl) fun a hf => ?_
        replace hs := hs.front 1 rfl
        replace hs := hs.front 2 rfl
        obtain ⟨F1, hsF, hback, hold, hrest⟩ := Sat.callOwns [hown 3 costA costC l2, hbox moreg 4 [.bool b2]] (σ := [hbox g2 130 [iv x1.by_, iv x1.along, .bool x1.is]]) hs
        refine S.call hf rfl rfl rfl (call_run (args := #[iv (w64 (n + x1.by_)), iv x1.along, (pn x_g 0), (pn f2q 0), (pn costg 0), (pn moreg 0)]) rfl rfl rfl Try.call84 (by simp)) (R_spread1 (w64 (n + x1.by_)) x1.along x_ f2 l2 b2 _ _ x_g (elemArgsF hs hold hb_x_) f2_g_BlockedA f2_g_BlockedC (viewArgsF hs hold hv_f2_g_Blocked) f2_noA f2_noC (viewArgsF hs hold hv_f2_no) f2g (elemArgsF hs hold hb_f2) f2q (elemArgsF hs hold hq_f2) costA costC costg (elemArgsF hs hold (show ElemAt w0 (old w0 F0) (some ⟨costg, 0, none⟩) 0 [.slice costA l2.length costC] from by rw [hl_l2]; exact hb_cost)) moreg hsF _ h) (fun v a w' hf hr => ?_)
        obtain ⟨z1, hl_z1, z2, rfl, h2, hs2⟩ := hr
        replace h := h2; replace hs := hback _ _ hs2; clear h2 hs2 hback hold hrest hsF
        refine R.nil ?_
        refine X.blk ?_
        refine X.then_ ?_
        refine R.list ?_
        refine S.p hf hs (iv (w64 (n2 + 1))) rfl rfl fun a hf => ?_
        refine S.p hf hs (iv (w64 (n2 + 1))) rfl rfl fun a hf => ?_
        refine R.nil ?_
        refine X.then_ ?_
        replace hs := hs.front 1 rfl
        replace hs := hs.take 2
        exact ⟨z1, (hl_z1.trans hl_l2), z2, (w64 (n2 + 1)), (by rw [hagain1] at h; exact h), (((((hf.nil.cons (hf.get 92 _ rfl)).cons (hf.get 91 _ rfl)).cons (hf.get 2 _ rfl)).cons (hf.get 1 _ rfl)).cons (hf.get 0 _ rfl)), hs⟩
      · replace h := h.2 hc
        refine wp_skip ?_
        refine X.blk ?_
        refine X.then_ ?_
        refine R.list ?_
        refine S.p hf hs (iv (w64 (n2 + 1))) rfl rfl fun a hf => ?_
        refine S.p hf hs (iv (w64 (n2 + 1))) rfl rfl fun a hf => ?_
        refine R.nil ?_
        refine X.then_ ?_
        replace hs := hs.front 2 rfl
        replace hs := hs.front 2 rfl
        replace hs := hs.take 2
        exact ⟨l2, hl_l2, b2, (w64 (n2 + 1)), (by rw [hagain1] at h; exact h), (((((hf.nil.cons (hf.get 92 _ rfl)).cons (hf.get 91 _ rfl)).cons (hf.get 2 _ rfl)).cons (hf.get 1 _ rfl)).cons (hf.get 0 _ rfl)), hs⟩
    · skip
      refine R.draw mo (by kernel_rfl) hs ?_
      refine D.v hf ((pn g2 2)) rfl (V.fieldBox rfl rfl Try.runUnderlying130 rfl Try.sizeOf4 rfl rfl) fun a hf => ?_
      refine D.v hf (.bool x1.is) rfl (V.loadBox 0 rfl rfl rfl Try.isAgg4 Try.sizeOf4 rfl rfl) fun a hf => ?_
      refine D.split hf (b := x1.is) rfl rfl rfl (V.pure rfl) (fun hc a hf => ?_) (fun hc a hf => ?_)
      · replace h := h.1 hc
        refine D.p hf ((pn fg 0)) rfl rfl fun a hf => ?_
        refine D.p hf ((pn fg 0)) rfl rfl fun a hf => ?_
        refine D.v hf ((pn fg 8)) rfl (V.fieldBox rfl rfl Try.runUnderlying68 rfl Try.sizeOf66 rfl rfl) fun a hf => ?_
        refine D.v hf (.slice f_noA f.no.length f_noC) rfl (V.loadAt0 (off := 8) (Ag.args _ _ _) hb_f rfl rfl Try.isAgg66 Try.sizeOf66 rfl rfl) fun a hf => ?_
        refine D.p hf (iv n) rfl rfl fun a hf => ?_
        refine D.v hf ((pn g2 0)) rfl (V.fieldBox rfl rfl Try.runUnderlying130 rfl Try.sizeOf3 rfl rfl) fun a hf => ?_
        refine D.v hf (iv x1.by_) rfl (V.loadBox 0 rfl rfl rfl Try.isAgg3 Try.sizeOf3 rfl rfl) fun a hf => ?_
        refine D.p hf (iv (w64 (n + x1.by_))) rfl rfl fun a hf => ?_
        obtain ⟨h0x2, x2, hx2, h⟩ := h
        refine D.v hf (elemPtr f_noA ((w64 (n + x1.by_)).toNat * 1)) rfl (V.index rfl rfl rfl Try.runUnderlying66 Try.sizeOf4 (hv_f_no.some_ (lt_of_get hx2)) h0x2 (lt_of_get hx2) rfl) fun a hf => ?_
        refine D.v hf (.bool x2) rfl (V.loadEl (off := 0) (Ag.args _ _ _) (hv_f_no.flat hx2) rfl rfl rfl Try.isAgg4 Try.sizeOf4 rfl rfl) fun a hf => ?_
        refine D.p hf (.bool (!x2)) rfl rfl fun a hf => ?_
        refine D.p hf (.bool (!x2)) rfl rfl fun a hf => ?_
        refine D.done (fun w hs => ?_)
        refine X.then_ ?_
        exact ⟨(!x2), h, (((((((hf.nil.cons (hf.get 109 _ rfl)).cons (hf.get 92 _ rfl)).cons (hf.get 91 _ rfl)).cons (hf.get 8 _ rfl)).cons (hf.get 2 _ rfl)).cons (hf.get 1 _ rfl)).cons (hf.get 0 _ rfl)), hs⟩
      · replace h := h.2 hc
        refine D.k hf rfl fun a hf => ?_
        refine D.k hf rfl fun a hf => ?_
        refine D.k hf rfl fun a hf => ?_
        refine D.k hf rfl fun a hf => ?_
        refine D.k hf rfl fun a hf => ?_
        refine D.k hf rfl fun a hf => ?_
        refine D.k hf rfl fun a hf => ?_
        refine D.k hf rfl fun a hf => ?_
        refine D.k hf rfl fun a hf => ?_
        refine D.k hf rfl fun a hf => ?_
        refine D.k hf rfl fun a hf => ?_
        refine D.p hf (.bool false) rfl rfl fun a hf => ?_
        refine D.done (fun w hs => ?_)
        refine X.then_ ?_
        exact ⟨false, h, (((((((hf.nil.cons (hf.get 109 _ rfl)).cons (hf.get 92 _ rfl)).cons (hf.get 91 _ rfl)).cons (hf.get 8 _ rfl)).cons (hf.get 2 _ rfl)).cons (hf.get 1 _ rfl)).cons (hf.get 0 _ rfl)), hs⟩
  · replace h := h.2 hc
    refine wp_exit ?_
    refine X.then_exit ?_
    refine X.then_exit ?_
    refine X.blk_exit ?_
    replace hs := hs.front 1 rfl
    replace hs := hs.take 2
    exact L.end0 Try.results83 hf ⟨l2, hl_l2, b2, rfl, h, hs⟩

set_option linter.unusedVariables false
def M_finder_spread_L2 (f : RouteFinder) (l2 : List Int) (again1 : List Int → Bool → Prop) (again2 : List Int → Bool → Int → Prop) (l4 : List Int) (b4 : Bool) (n2 : Int) : Prop :=
  cnd (decide (n2 < (l2.length : Int))) (idx l4 n2 fun x1 => cnd (decide (x1 < 0)) (again2 l4 b4 (w64 (n2 + 1))) (M_near_spread f n2 x1 f l4 b4 fun z1 z2 => again2 z1 z2 (w64 (n2 + 1)))) (again1 l4 b4)
def M_finder_spread_L1 (f : RouteFinder) (Q : (List Int) → Prop) (again1 : List Int → Bool → Prop) (l2 : List Int) (b2 : Bool) : Prop :=
  cnd b2 (lp (fun again (s : List Int × Bool × Int) => M_finder_spread_L2 f l2 again1 (fun l4 b4 n2 => again (l4, b4, n2)) s.1 s.2.1 s.2.2) (l2, false, 0)) (Q l2)
def M_finder_spread (f : RouteFinder) (cost : (List Int)) (Q : (List Int) → Prop) : Prop :=
  lp (fun again (s : List Int × Bool) => M_finder_spread_L1 f Q (fun l2 b2 => again (l2, b2)) s.1 s.2) (cost, true)
set_option maxHeartbeats 1000000 in
theorem R_finder_spread (f : RouteFinder) (cost : (List Int)) (w0 : World) (F0 : Nat → Prop) (f_g_BlockedA : Option Addr) (f_g_BlockedC : Nat) (hv_f_g_Blocked : View w0 (old w0 F0) f_g_BlockedA f_g_BlockedC f.g.Blocked) (f_noA : Option Addr) (f_noC : Nat) (hv_f_no : View w0 (old w0 F0) f_noA f_noC f.no) (fg : Nat) (hb_f : ElemAt w0 (old w0 F0) (some ⟨fg, 0, none⟩) 0 [iv f.g.W, iv f.g.H, iv f.g.Layers, .slice f_g_BlockedA f.g.Blocked.length f_g_BlockedC, iv f.c.Step, iv f.c.Via, iv f.c.Turn, iv f.c.Against, .slice f_noA f.no.length f_noC]) (costA : Option Addr) (costC : Nat) (hs0 : Sat w0 F0 [hown 3 costA costC cost] w0) (Q : (List Int) → Prop) (h : M_finder_spread f cost Q) :
    Ret Try.prog 58 #[(pn fg 0), .slice costA cost.length costC] w0 fun v w' => ∃ (cost1 : List Int) (hl_cost1 : cost1.length = cost.length), v = .tuple #[] ∧ Q cost1 ∧ Sat w0 F0 [hown 3 costA costC cost1] w' := by
  refine fn_enter Try.func58 rfl Try.ntmps58 rfl (fs := [(0, (pn fg 0)), (1, .slice costA cost.length costC)]) rfl (fun a hf => ?_)
  have hs := hs0
  unfold M_finder_spread at h
  refine wp_seq ?_
  refine R.list ?_
  refine S.box hf hs rfl rfl rfl [(pn fg 0)] rfl rfl rfl (fun g1 a w hf hs => ?_)
  refine S.box hf hs rfl rfl rfl [.slice costA cost.length costC] rfl rfl rfl (fun g2 a w hf hs => ?_)
  refine R.nil ?_
  refine X.then_ ?_
  refine wp_seq ?_
  refine R.list ?_
  refine S.alloc hf hs rfl rfl rfl [.bool false] rfl Try.zeroValue4 rfl (fun g3 a w hf hs => ?_)
  refine S.storeBox 0 hf hs rfl rfl [.bool true] [.bool true] rfl rfl rfl rfl rfl Try.sizeOf4 rfl rfl rfl rfl (fun a w hf hs => ?_)
  refine R.nil ?_
  refine X.then_ ?_
  refine wp_block ?_
  replace hs := hs.front 3 rfl
  replace hs := hs.front 2 rfl
  replace hs := hs.front 3 rfl
  obtain ⟨kk, h⟩ := h
  refine C.loop (fun kk a w => ∃ (l2 : List Int) (hl_l2 : l2.length = cost.length) (gj2 : Nat) (b2 : Bool), iterF (fun again (s : List Int × Bool) => M_finder_spread_L1 f Q (fun l2 b2 => again (l2, b2)) s.1 s.2) kk (l2, b2) ∧ FrOk 23 [(2, (pn g1 0)), (3, (pn g2 0)), (4, (pn gj2 0))] a ∧ Sat w0 F0 [hbox g1 52 [(pn fg 0)], hbox g2 55 [.slice costA l2.length costC], hown 3 costA costC l2, hbox gj2 4 [.bool b2]] w) kk ⟨cost, rfl, g3, true, h, (((hf.nil.cons (hf.get 4 _ rfl)).cons (hf.get 3 _ rfl)).cons (hf.get 2 _ rfl)), hs⟩ (fun a w ⟨_, _, _, _, h, _, _⟩ => h) ?_
  clear h hf hs
  rintro kk a w ⟨l2, hl_l2, gj2, b2, h, hf, hs⟩
  obtain ⟨again1, hagain1⟩ : ∃ X : List Int → Bool → Prop, X = (fun l2 b2 => iterF (fun again (s : List Int × Bool) => M_finder_spread_L1 f Q (fun l2 b2 => again (l2, b2)) s.1 s.2) kk (l2, b2)) := ⟨_, rfl⟩
  replace h : M_finder_spread_L1 f Q again1 l2 b2 := by rw [hagain1]; exact h
  unfold M_finder_spread_L1 at h
  refine wp_seq ?_
  refine wp_seq ?_
  refine R.list ?_
  refine S.v hf hs (.bool b2) rfl (V.loadBox 3 rfl rfl rfl Try.isAgg4 Try.sizeOf4 rfl rfl) fun a hf => ?_
  refine R.nil ?_
  refine X.then_ ?_
  refine C.cond hf (b := b2) rfl (fun hc => ?_) (fun hc => ?_)
  · replace h := h.1 hc
    refine wp_skip ?_
    refine X.then_ ?_
    refine wp_seq ?_
    refine wp_block ?_
    refine wp_seq ?_
    refine R.list ?_
    refine S.storeBox 3 hf hs rfl rfl [.bool false] [.bool false] rfl rfl rfl rfl rfl Try.sizeOf4 rfl rfl rfl rfl (fun a w hf hs => ?_)
    refine R.nil ?_
    refine X.then_ ?_
    refine wp_seq ?_
    refine R.list ?_
    refine S.v hf hs (.slice costA l2.length costC) rfl (V.loadBox 1 rfl rfl rfl Try.isAgg55 Try.sizeOf55 rfl rfl) fun a hf => ?_
    refine S.v hf hs (iv (l2.length : Int)) rfl (V.len rfl rfl Try.runUnderlying55) fun a hf => ?_
    refine S.p hf hs (iv 0) rfl rfl fun a hf => ?_
    refine R.nil ?_
    refine X.then_ ?_
    refine wp_block ?_
    obtain ⟨kk, h⟩ := h
    refine C.loop (fun kk a w => ∃ (l4 : List Int) (hl_l4 : l4.length = cost.length) (b4 : Bool) (n2 : Int), iterF (fun again (s : List Int × Bool × Int) => M_finder_spread_L2 f l2 again1 (fun l4 b4 n2 => again (l4, b4, n2)) s.1 s.2.1 s.2.2) kk (l4, b4, n2) ∧ FrOk 23 [(2, (pn g1 0)), (3, (pn g2 0)), (4, (pn gj2 0)), (8, .slice costA l4.length costC), (9, iv (l2.length : Int)), (10, iv n2)] a ∧ Sat w0 F0 [hbox g1 52 [(pn fg 0)], hbox g2 55 [.slice costA l4.length costC], hown 3 costA costC l4, hbox gj2 4 [.bool b4]] w) kk ⟨l2, hl_l2, false, 0, h, ((((((hf.nil.cons (hf.get 10 _ rfl)).cons (hf.get 9 _ rfl)).cons (hf.get 8 _ rfl)).cons (hf.get 4 _ rfl)).cons (hf.get 3 _ rfl)).cons (hf.get 2 _ rfl)), hs⟩ (fun a w ⟨_, _, _, _, h, _, _⟩ => h) ?_
    clear h hf hs
    rintro kk a w ⟨l4, hl_l4, b4, n2, h, hf, hs⟩
    obtain ⟨again2, hagain2⟩ : ∃ X : List Int → Bool → Int → Prop, X = (fun l4 b4 n2 => iterF (fun again (s : List Int × Bool × Int) => M_finder_spread_L2 f l2 again1 (fun l4 b4 n2 => again (l4, b4, n2)) s.1 s.2.1 s.2.2) kk (l4, b4, n2)) := ⟨_, rfl⟩
    replace h : M_finder_spread_L2 f l2 again1 again2 l4 b4 n2 := by rw [hagain2]; exact h
    unfold M_finder_spread_L2 at h
    refine wp_seq ?_
    refine R.list ?_
    refine S.p hf hs (.bool (decide (n2 < (l2.length : Int)))) rfl rfl fun a hf => ?_
    refine R.nil ?_
    refine X.then_ ?_
    refine wp_seq ?_
    refine C.cond hf (b := decide (n2 < (l2.length : Int))) rfl (fun hc => ?_) (fun hc => ?_)
    · replace h := h.1 hc
      refine wp_skip ?_
      refine X.then_ ?_
      refine wp_seq ?_
      refine wp_block ?_
      refine wp_seq ?_
      refine R.list ?_
      refine S.p hf hs (iv n2) rfl rfl fun a hf => ?_
      obtain ⟨h0x1, x1, hx1, h⟩ := h
      refine S.v hf hs (elemPtr costA (n2.toNat * 1)) rfl (V.index rfl rfl rfl Try.runUnderlying55 Try.sizeOf3 (hs.ownSome 2 rfl (lt_of_get hx1)) h0x1 (lt_of_get hx1) rfl) fun a hf => ?_
      refine S.v hf hs (iv x1) rfl (V.loadOwn (off := 0) 2 rfl hx1 rfl rfl rfl Try.isAgg3 Try.sizeOf3 rfl rfl) fun a hf => ?_
      refine S.alloc hf hs rfl rfl rfl [iv 0] rfl Try.zeroValue3 rfl (fun g4 a w hf hs => ?_)
      refine S.p hf hs (iv n2) rfl rfl fun a hf => ?_
      refine S.storeBox 0 hf hs rfl rfl [iv x1] [iv x1] rfl rfl rfl rfl rfl Try.sizeOf3 rfl rfl rfl rfl (fun a w hf hs => ?_)
      refine R.nil ?_
      refine X.then_ ?_
      refine wp_seq ?_
      refine wp_seq ?_
      refine R.list ?_
      refine S.v hf hs (iv x1) rfl (V.loadBox 0 rfl rfl rfl Try.isAgg3 Try.sizeOf3 rfl rfl) fun a hf => ?_
      refine S.p hf hs (.bool (decide (x1 < 0))) rfl rfl fun a hf => ?_
      refine R.nil ?_
      refine X.then_ ?_
      refine C.cond hf (b := decide (x1 < 0)) rfl (fun hc => ?_) (fun hc => ?_)
      · replace h := h.1 hc
        refine wp_exit ?_
        refine X.then_exit ?_
        refine X.blk_exit ?_
        refine X.then_ ?_
        refine R.list ?_
        refine S.p hf hs (iv (w64 (n2 + 1))) rfl rfl fun a hf => ?_
        refine S.p hf hs (iv (w64 (n2 + 1))) rfl rfl fun a hf => ?_
        refine R.nil ?_
        refine X.then_ ?_
        replace hs := hs.front 4 rfl
        replace hs := hs.front 4 rfl
        replace hs := hs.front 4 rfl
        replace hs := hs.front 4 rfl
        replace hs := hs.take 4
        exact ⟨l4, hl_l4, b4, (w64 (n2 + 1)), (by rw [hagain2] at h; exact h), ((((((hf.nil.cons (hf.get 10 _ rfl)).cons (hf.get 9 _ rfl)).cons (hf.get 8 _ rfl)).cons (hf.get 4 _ rfl)).cons (hf.get 3 _ rfl)).cons (hf.get 2 _ rfl)), hs⟩
      · replace h := h.2 hc
        refine wp_skip ?_
        refine X.then_ ?_
        refine R.list ?_
        refine S.v hf hs ((pn fg 0)) rfl (V.loadBox 1 rfl rfl rfl Try.isAgg52 Try.sizeOf52 rfl rfl) fun a hf => ?_
        refine S.p hf hs (iv n2) rfl rfl fun a hf => ?_
        refine S.p hf hs (.func (.func 84) #[] #[(pn g4 0), (pn g1 0), (pn g2 0), (pn gj2 0)]) rfl rfl fun a hf => ?_
        replace hs := hs.front 4 rfl
        replace hs := hs.front 4 rfl
        obtain ⟨F1, hsF, hback, hold, hrest⟩ := Sat.callOwns [hown 3 costA costC l4, hbox gj2 4 [.bool b4]] (σ := [hbox g4 3 [iv x1], hbox g1 52 [(pn fg 0)], hbox g2 55 [.slice costA l4.length costC]]) hs
        refine S.call hf rfl rfl rfl (call_fn (vs := [(pn fg 0), iv n2, .func (.func 84) #[] #[(pn g4 0), (pn g1 0), (pn g2 0), (pn gj2 0)]]) rfl rfl rfl Try.call83) (R_near_spread f n2 x1 f l4 b4 _ _ f_g_BlockedA f_g_BlockedC (viewArgsF hs hold hv_f_g_Blocked) f_noA f_noC (viewArgsF hs hold hv_f_no) fg (elemArgsF hs hold hb_f) g4 (boxAtF hrest 0 rfl) f_g_BlockedA f_g_BlockedC (viewArgsF hs hold hv_f_g_Blocked) f_noA f_noC (viewArgsF hs hold hv_f_no) fg (elemArgsF hs hold hb_f) g1 (boxAtF hrest 1 rfl) costA costC g2 (boxAtF hrest 2 rfl) gj2 hsF _ h) (fun v a w' hf hr => ?_)
        obtain ⟨z1, hl_z1, z2, rfl, h2, hs2⟩ := hr
        replace h := h2; replace hs := hback _ _ hs2; clear h2 hs2 hback hold hrest hsF
        replace hs := hs.rebox 4 (vs' := [.slice costA z1.length costC]) rfl (congrArg (fun n => [Value.slice costA n costC]) hl_z1.symm)
        replace hf := hf.tell 8 (v := .slice costA z1.length costC) ((hf.get 8 (.slice costA l4.length costC) rfl).trans (congrArg (fun n => Value.slice costA n costC) hl_z1.symm))
        refine R.nil ?_
        refine X.blk ?_
        refine X.then_ ?_
        refine R.list ?_
        refine S.p hf hs (iv (w64 (n2 + 1))) rfl rfl fun a hf => ?_
        refine S.p hf hs (iv (w64 (n2 + 1))) rfl rfl fun a hf => ?_
        refine R.nil ?_
        refine X.then_ ?_
        replace hs := hs.front 1 rfl
        replace hs := hs.front 1 rfl
        replace hs := hs.front 4 rfl
        replace hs := hs.front 4 rfl
        replace hs := hs.take 4
        exact ⟨z1, (hl_z1.trans hl_l4), z2, (w64 (n2 + 1)), (by rw [hagain2] at h; exact h), ((((((hf.nil.cons (hf.get 10 _ rfl)).cons (hf.get 9 _ rfl)).cons (hf.get 8 _ rfl)).cons (hf.get 4 _ rfl)).cons (hf.get 3 _ rfl)).cons (hf.get 2 _ rfl)), hs⟩
    · replace h := h.2 hc
      refine wp_exit ?_
      refine X.then_exit ?_
      refine X.then_exit ?_
      refine X.blk_exit ?_
      refine X.blk ?_
      refine X.then_ ?_
      refine wp_seq ?_
      refine R.list ?_
      refine S.v hf hs (.bool b4) rfl (V.loadBox 3 rfl rfl rfl Try.isAgg4 Try.sizeOf4 rfl rfl) fun a hf => ?_
      refine R.nil ?_
      refine X.then_ ?_
      refine R.list ?_
      refine S.alloc hf hs rfl rfl rfl [.bool false] rfl Try.zeroValue4 rfl (fun g5 a w hf hs => ?_)
      refine S.storeBox 0 hf hs rfl rfl [.bool b4] [.bool b4] rfl rfl rfl rfl rfl Try.sizeOf4 rfl rfl rfl rfl (fun a w hf hs => ?_)
      refine R.nil ?_
      refine X.then_ ?_
      replace hs := hs.front 3 rfl
      replace hs := hs.front 3 rfl
      replace hs := hs.front 3 rfl
      replace hs := hs.take 4
      exact ⟨l4, hl_l4, g5, b4, (by rw [hagain1] at h; exact h), (((hf.nil.cons (hf.get 4 _ rfl)).cons (hf.get 3 _ rfl)).cons (hf.get 2 _ rfl)), hs⟩
  · replace h := h.2 hc
    refine wp_exit ?_
    refine X.then_exit ?_
    refine X.then_exit ?_
    refine X.blk_exit ?_
    replace hs := hs.front 2 rfl
    replace hs := hs.take 1
    exact L.end0 Try.results58 hf ⟨l2, hl_l2, rfl, h, hs⟩


end Go.Proofs.Ytihjaehkdgdenaa
