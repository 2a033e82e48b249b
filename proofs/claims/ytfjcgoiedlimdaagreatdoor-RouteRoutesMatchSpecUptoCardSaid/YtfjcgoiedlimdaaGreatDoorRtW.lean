/- Chapter texts of ours, as far as the claim needs them. -/
import Derived.Test.YtfjcgoiedlimdaaGreatDoorPaths
import Derived.Test.YtfjcgoiedlimdaaGreatDoorRtH
import Derived.Test.YtfjcgoiedlimdaaGreatDoorRtC
import Derived.Test.YtfjcgoiedlimdaaGreatDoorRtG
namespace Go.Proofs.YtfjcgoiedlimdaaGreatDoor
open Go Go.RowKit
set_option linter.unusedVariables false
set_option linter.unusedSectionVars false
set_option linter.unusedSimpArgs false
namespace Gr
variable {G : Gr}
theorem Nb.ax {n m : Nat} {al : Int} (h : G.Nb n m al) : al = 1 ∨ al = 2 ∨ al = 3 := by have := h.2.2; omega
theorem Ak {back : Bool} {s t : Nat} {k : Int} (hs : s < 3 * G.N) : (t, k) ∈ G.E back s ↔ ∃ m al, G.Nb (s / 3) m al ∧ G.no m = false ∧ (t, k) ∈ G.el back s (m, al) := by
  unfold E
  rw [List.mem_flatMap]
  constructor
  · rintro ⟨⟨m, al⟩, hm, he⟩
    obtain ⟨h1, h2⟩ := (G.zS (by omega)).1 hm
    exact ⟨m, al, h1, h2, he⟩
  · rintro ⟨m, al, h1, h2, he⟩
    exact ⟨(m, al), (G.zS (by omega)).2 ⟨h1, h2⟩, he⟩
theorem AO {b : Nat} (hb : b < G.N) (hf : G.no b = false) {s : Nat} {c : Int} {n : Nat} (h : Wk (G.E true) [3 * b, 3 * b + 1, 3 * b + 2] s c n) :
    s < 3 * G.N ∧ ∃ c0 L, G.Pth (s / 3) b c0 n L ∧ c = c0 + G.trn ((s % 3 : Nat) : Int) L := by
  induction h with
  | @start s hs =>
    have : s / 3 = b ∧ s < 3 * G.N := by simp at hs; omega
    refine ⟨this.2, 0, [], ?_, by simp [trn]⟩
    rw [this.1]; exact .nil hb hf
  | @step s c n t k w he ih =>
    obtain ⟨hs, c0, L, hp, hc⟩ := ih
    obtain ⟨m, al, hnb, hm, hel⟩ := (Ak hs).1 he
    have hmN := hnb.2.1
    have hax := Nb.ax hnb
    have hq := Pth.cons G hp (Nb.symm G hnb) hm
    rw [← Nb.base G hnb] at hq
    unfold el at hel
    simp only at hel
    by_cases h3 : al = 3
    · subst h3
      simp only [if_true, List.mem_singleton] at hel
      injection hel with e1 e2
      subst e1; subst e2
      simp only [if_true] at hq
      refine ⟨by omega, c0 + G.via, L, ?_, ?_⟩
      · rw [show (3 * m + s % 3) / 3 = m by omega]
        have : G.base (s / 3) 3 = G.via := by simp [base]
        rw [this] at hq; exact hq
      · rw [show (3 * m + s % 3) % 3 = s % 3 by omega]; omega
    · rw [if_neg h3, if_pos trivial] at hel
      rw [if_neg h3] at hq
      split at hel
      · rename_i h4
        have key : ∀ j : Nat, j < 3 → t = 3 * m + j → k = G.base (s / 3) al + G.tn (j : Int) al → t < 3 * G.N ∧ ∃ c0 L, G.Pth (t / 3) b c0 (n + 1) L ∧ c + k = c0 + G.trn ((t % 3 : Nat) : Int) L := by
          intro j hj ht hk
          refine ⟨by omega, _, _, by rw [show t / 3 = m by omega]; exact hq, ?_⟩
          rw [show t % 3 = j by omega]
          simp only [trn]
          rw [← h4] at hc
          omega
        simp only [List.mem_cons, List.not_mem_nil, or_false, Prod.mk.injEq] at hel
        rcases hel with ⟨e1, e2⟩ | ⟨e1, e2⟩ | ⟨e1, e2⟩
        · exact key 0 (by omega) (by omega) e2
        · exact key 1 (by omega) e1 e2
        · exact key 2 (by omega) e1 e2
      · cases hel
theorem JG {a b : Nat} {c0 : Int} {n : Nat} {M : List Int} (h : G.Pth b a c0 n M) : ∀ last : Nat, last < 3 → Wk (G.E true) [3 * b, 3 * b + 1, 3 * b + 2] (3 * a + last) (c0 + G.trn (last : Int) M.reverse) n := by
  induction h with
  | nil ha h0 => intro last hl; simp only [List.reverse_nil, trn, Int.add_zero]; exact .start (by simp; omega)
  | @snoc a m c n M al h hb h0 ih =>
    intro last hl
    have hax := Nb.ax hb
    have haN := hb.1
    by_cases h3 : al = 3
    · subst h3
      simp only [if_true]
      have w := ih last hl
      have he : (3 * m + last, G.via) ∈ G.E true (3 * a + last) := by
        refine (Ak (by omega)).2 ⟨m, 3, ?_, h0, ?_⟩
        · rw [show (3 * a + last) / 3 = a by omega]; exact hb
        · unfold el; simp only [if_true, List.mem_singleton]; rw [show (3 * a + last) % 3 = last by omega]
      have := w.step he
      have e : G.base a 3 = G.via := by simp [base]
      rw [e, show c + G.via + G.trn (last : Int) M.reverse = c + G.trn (last : Int) M.reverse + G.via by omega]; exact this
    · rw [if_neg h3, List.reverse_append]
      simp only [List.reverse_cons, List.reverse_nil, List.nil_append, List.cons_append, trn]
      have w := ih al.toNat (by omega)
      have e1 : ((al.toNat : Nat) : Int) = al := by omega
      rw [e1] at w
      have he : (3 * m + last, G.base a al + G.tn (last : Int) al) ∈ G.E true (3 * a + al.toNat) := by
        refine (Ak (by omega)).2 ⟨m, al, ?_, h0, ?_⟩
        · rw [show (3 * a + al.toNat) / 3 = a by omega]; exact hb
        · unfold el
          simp only
          rw [if_neg h3, if_pos trivial, show (3 * a + al.toNat) % 3 = al.toNat by omega, show (3 * a + al.toNat) / 3 = a by omega, if_pos e1.symm]
          simp only [List.mem_cons, List.not_mem_nil, or_false, Prod.mk.injEq]
          rcases (show last = 0 ∨ last = 1 ∨ last = 2 by omega) with rfl | rfl | rfl
          · exact .inl ⟨by omega, rfl⟩
          · exact .inr (.inl ⟨by omega, rfl⟩)
          · exact .inr (.inr ⟨by omega, rfl⟩)
      have := w.step he
      rw [show c + G.base a al + (G.tn (last : Int) al + G.trn al M.reverse) = c + G.trn al M.reverse + (G.base a al + G.tn (last : Int) al) by omega]; exact this
theorem OM {S : List Nat} (hS : ∀ a ∈ S, a < G.N ∧ G.no a = false) {s : Nat} {c : Int} {n : Nat} (h : Wk (G.E false) (S.map (3 * ·)) s c n) :
    s < 3 * G.N ∧ ∃ a ∈ S, ∃ c0 L, G.Pth a (s / 3) c0 n L ∧ ((s % 3 : Nat) : Int) = lst 0 L ∧ c = c0 + G.trn 0 L := by
  induction h with
  | @start s hs =>
    obtain ⟨a, ha, rfl⟩ := List.mem_map.1 hs
    obtain ⟨h1, h2⟩ := hS a ha
    refine ⟨by omega, a, ha, 0, [], ?_, by simp [lst], by simp [trn]⟩
    rw [show 3 * a / 3 = a by omega]; exact .nil h1 h2
  | @step s c n t k w he ih =>
    obtain ⟨hs, a, ha, c0, L, hp, hl, hc⟩ := ih
    obtain ⟨m, al, hnb, hm, hel⟩ := (Ak hs).1 he
    have hmN := hnb.2.1
    have hax := Nb.ax hnb
    have hq := hp.snoc hnb hm
    unfold el at hel
    simp only at hel
    by_cases h3 : al = 3
    · subst h3
      simp only [if_true, List.mem_singleton] at hel
      injection hel with e1 e2
      subst e1; subst e2
      simp only [if_true] at hq
      refine ⟨by omega, a, ha, c0 + G.via, L, ?_, ?_, ?_⟩
      · rw [show (3 * m + s % 3) / 3 = m by omega]
        have : G.base (s / 3) 3 = G.via := by simp [base]
        rw [this] at hq; exact hq
      · rw [show (3 * m + s % 3) % 3 = s % 3 by omega]; exact hl
      · omega
    · rw [if_neg h3, if_neg (by simp)] at hel
      rw [if_neg h3] at hq
      simp only [List.mem_singleton] at hel
      injection hel with e1 e2
      subst e1; subst e2
      refine ⟨by omega, a, ha, _, _, by rw [show (3 * m + al.toNat) / 3 = m by omega]; exact hq, ?_, ?_⟩
      · rw [show (3 * m + al.toNat) % 3 = al.toNat by omega, BX]; simp only [lst]; omega
      · rw [BM]; simp only [trn]; rw [← hl]; omega
theorem PX {S : List Nat} {a b : Nat} (ha : a ∈ S) {c0 : Int} {n : Nat} {L : List Int} (h : G.Pth a b c0 n L) : Wk (G.E false) (S.map (3 * ·)) (3 * b + (lst 0 L).toNat) (c0 + G.trn 0 L) n ∧ 0 ≤ lst 0 L ∧ lst 0 L < 3 := by
  induction h with
  | nil h1 h0 => exact ⟨by simp only [lst, trn]; exact .start (List.mem_map.2 ⟨_, ha, by simp⟩), by simp [lst], by simp [lst]⟩
  | @snoc b m c n L al h hb h0 ih =>
    obtain ⟨w, l0, l3⟩ := ih
    have hax := Nb.ax hb
    have hbN := hb.1
    by_cases h3 : al = 3
    · subst h3
      simp only [if_true]
      refine ⟨?_, l0, l3⟩
      have he : (3 * m + (lst 0 L).toNat, G.via) ∈ G.E false (3 * b + (lst 0 L).toNat) := by
        refine (Ak (by omega)).2 ⟨m, 3, ?_, h0, ?_⟩
        · rw [show (3 * b + (lst 0 L).toNat) / 3 = b by omega]; exact hb
        · unfold el; simp only [if_true, List.mem_singleton]; rw [show (3 * b + (lst 0 L).toNat) % 3 = (lst 0 L).toNat by omega]
      have := w.step he
      have e : G.base b 3 = G.via := by simp [base]
      rw [e, show c + G.via + G.trn 0 L = c + G.trn 0 L + G.via by omega]; exact this
    · rw [if_neg h3, BX, BM]
      simp only [lst, trn]
      refine ⟨?_, by omega, by omega⟩
      have he : (3 * m + al.toNat, G.base b al + G.tn (lst 0 L) al) ∈ G.E false (3 * b + (lst 0 L).toNat) := by
        refine (Ak (by omega)).2 ⟨m, al, ?_, h0, ?_⟩
        · rw [show (3 * b + (lst 0 L).toNat) / 3 = b by omega]; exact hb
        · unfold el
          simp only
          rw [if_neg h3, if_neg (by simp), show (3 * b + (lst 0 L).toNat) % 3 = (lst 0 L).toNat by omega, show (3 * b + (lst 0 L).toNat) / 3 = b by omega, show (((lst 0 L).toNat : Nat) : Int) = lst 0 L by omega]
          exact List.mem_singleton.2 rfl
      have := w.step he
      rw [show c + G.base b al + (G.trn 0 L + (G.tn (lst 0 L) al + 0)) = c + G.trn 0 L + (G.base b al + G.tn (lst 0 L) al) by omega]; exact this
def Way (G : Gr) (a b : Nat) (c : Int) (n : Nat) : Prop := ∃ c0 L, G.Pth a b c0 n L ∧ c = c0 + G.trn 0 L
theorem Way.rev {a b : Nat} {c : Int} {n : Nat} (h : G.Way a b c n) : G.Way b a c n := by
  obtain ⟨c0, L, hp, hc⟩ := h
  refine ⟨c0, L.reverse, Pth.rev G hp, ?_⟩
  rw [G.Jp L (fun x hx => by have := Pth.QF G hp x hx; omega)]; exact hc
theorem FQ {a b : Nat} (hb : b < G.N) (hf : G.no b = false) {c : Int} {n : Nat} : Wk (G.E true) [3 * b, 3 * b + 1, 3 * b + 2] (3 * a) c n ↔ G.Way a b c n := by
  constructor
  · intro h
    obtain ⟨_, c0, L, hp, hc⟩ := AO hb hf h
    rw [show 3 * a / 3 = a by omega] at hp
    rw [show 3 * a % 3 = 0 by omega] at hc
    exact ⟨c0, L, hp, hc⟩
  · rintro ⟨c0, L, hp, hc⟩
    have := JG (Pth.rev G hp) 0 (by omega)
    rw [List.reverse_reverse] at this
    subst hc; exact this
end Gr
theorem Least.eq {E E' : Nat → List (Nat × Int)} {S S' : List Nat} {N : Nat} {out out' : List Int} (h : Least E S N out) (h' : Least E' S' N out') {s s' : Nat} (hw : ∀ c n, Wk E S s c n ↔ Wk E' S' s' c n) {d d' : Int} (hd : out[s]? = some d) (hd' : out'[s']? = some d') : d = d' := by
  have one : ∀ {E E' : Nat → List (Nat × Int)} {S S' : List Nat} {out out' : List Int} (h : Least E S N out) (h' : Least E' S' N out') {s s' : Nat} (hw : ∀ c n, Wk E S s c n → Wk E' S' s' c n) {d d' : Int} (hd : out[s]? = some d) (hd' : out'[s']? = some d'), 0 ≤ d → 0 ≤ d' ∧ d' ≤ d := by
    intro E E' S S' out out' h h' s s' hw d d' hd hd' h0
    obtain ⟨c, n, w, e, _, _⟩ := h.way s d hd h0
    obtain ⟨d2, h2, h3, h4⟩ := h'.min s' c n (hw c n w)
    rw [hd'] at h2; injection h2 with h2; subst h2
    exact ⟨h3, by omega⟩
  have l1 := h.low s d hd
  have l2 := h'.low s' d' hd'
  by_cases h0 : 0 ≤ d
  · have a1 := one h h' (fun c n => (hw c n).1) hd hd' h0
    have a2 := one h' h (fun c n => (hw c n).2) hd' hd a1.1
    omega
  · by_cases h1 : 0 ≤ d'
    · have a2 := one h' h (fun c n => (hw c n).2) hd' hd h1
      omega
    · omega
end Go.Proofs.YtfjcgoiedlimdaaGreatDoor
namespace Go.Proofs.YtfjcgoiedlimdaaGreatDoor
open Tryz Go Go.RowKit
set_option linter.unusedVariables false
set_option linter.unusedSectionVars false
set_option linter.unusedSimpArgs false
def lU (g : Grid) (no : (List Bool)) (pins : (List Cell)) (Q : Int → Prop) (k1 : Nat) (xk1 : Cell)  (next1 : Prop) : Prop :=
  nR g xk1 fun y1 => cnd (!y1) (Q 1) (iQ g xk1 fun y2 => idx no y2 fun x1 => cnd x1 (Q 14) (must (0 ≤ (0 : Int) ∧ (0 : Int) ≤ (k1 : Int) ∧ (k1 : Int) ≤ (pins.length : Int)) (jI (seg pins (0 : Int) (k1 : Int)) xk1 fun y3 => cnd y3 (Q 7) (next1))))
def oP (g : Grid) (no : (List Bool)) (pins : (List Cell)) (most : Int) (Q : Int → Prop) : Prop :=
  cnd ((pins.length : Int) == 0) (Q 9) (cnd (decide ((pins.length : Int) > most)) (Q 2) (forIn' (fun k x (s : Unit) next => lU g no pins Q k x (next ())) (fun (s : Unit) => Q 0) pins 0 ()))
set_option maxHeartbeats 1000000 in
theorem Dj (g : Grid) (no : (List Bool)) (d : (List Cell)) (z : Int) (y : World) (e : Option Addr) (f : Nat) (r : View y (old y none_) e f g.Blocked) (B : Option Addr) (J : Nat) (K : View y (old y none_) B J no) (m : Option Addr) (j : Nat) (o : View y (old y none_) m j d) (Q : Int → Prop) (h : oP g no d z Q) :
  Ret Tryz.prog 25 #[.agg #[iv g.W, iv g.H, iv g.Layers, .slice e g.Blocked.length f], .slice B no.length J, .slice m d.length j, iv z] y fun v w' => ∃ (r0 : Int), v = iv r0 ∧ Q r0 ∧ Sat y none_ [] w' := by
 refine fF func25 Z ntmps25 Z (fs := [(0, _), (1, _), (2, _), (3, _)]) Z (fun a b => ?_);have c := Sat.start y none_;unfold oP at h;refine X.l (S.box b c Z Z Z (gB g e f) Z Z Z (fun g1 a w b c => Al b <| Sq (iv 0) Z <| Xn <| Ws <| Xl <| Sq (.slice m d.length j) Z <| Sv c (iv (d.length : Int)) Z (V.len Z Z af) <| Sq (.bool ((d.length : Int) == 0)) Z fun a b => X.n ?_));refine Ci b h Z (fun _ h => ?_) fun F h => ?_
 ·refine Yl b <| Sq (iv 9) Z fun a b => X.n (wp_ret (X.eH ?_));exact Lr b bV Z ⟨9, Z, h, c.nil⟩
 ·refine wp_skip (X.eF (wp_seq (Yl b <| Sq (.slice m d.length j) Z <| Sv c (iv (d.length : Int)) Z (V.len Z Z af) <| Sq (iv z) Z <| Sq (.bool (decide ((d.length : Int) > z))) Z fun a b => X.n ?_)));refine Ci b h Z (fun _ h => ?_) fun F h => ?_
  ·refine Yl b <| Sq (iv 2) Z fun a b => X.n (wp_ret (X.eH ?_));exact Lr b bV Z ⟨2, Z, h, c.nil⟩
  ·refine wp_skip (X.eF (wp_seq (Yl b <| Sq (.slice m d.length j) Z <| Sv c (iv (d.length : Int)) Z (V.len Z Z af) <| Sq (iv 0) Z fun a b => X.n (wp_block ?_))));have O := o.iY;refine C.range (fun (ll : List Cell) a w => ∃ (u : Nat) , d.drop u = ll ∧ u + ll.length = d.length ∧ forIn' (fun k x (s : Unit) next => lU g no d Q k x (next ())) (fun (s : Unit) => Q 0) ll u () ∧ eU 44 [(20, iv (u : Int)), (1, .slice B no.length J), (2, .slice m d.length j), (4, (pn g1 0)), (18, .slice m d.length j), (19, iv (d.length : Int))] a ∧ Sat y none_ [hbox g1 24 (gB g e f)] w) d ⟨0, Z, Nat.zero_add _, h, (b.pk Z), c⟩ ?_;clear h b c;rintro G a w ⟨u, P, A, h, b, c⟩
   cases G with
   | nil =>
    have F := fQ A;replace h := fzx h;refine Yl b <| Sv c (.bool false) Z (V.cmp false Z Z Z Z F) fun a b => X.n (wp_seq (C.no b Z (wp_exit (X.eG (X.eG (X.fG (X.eF (Yl b <| Sq (iv 0) Z fun a b => X.n (wp_ret ?_)))))))));exact Lr b bV Z ⟨0, Z, h, c.nil⟩
   | cons t G =>
    have ag := gJ A; have F := gQ A; have I := gm P;obtain ⟨al, T, h⟩ := zM h;replace h : lU g no d Q u t  al := h;unfold lU at h;refine Yl b <| Sv c (.bool true) Z (V.cmp true Z Z Z Z F) fun a b => X.n (wp_seq (C.yes b Z (wp_skip (X.eF (wp_seq (wp_block (Yl b <| Sq (iv (u : Int)) Z <| Sv c (eP m (u * 3)) Z (V.index Z Z Z af ac (o.some_ (dO I)) (Int.natCast_nonneg _) (dO I) Z) <| Sv c (fP t) Z (V.gX (off := 0) (Ag.args _ _ _) (o.flat I) Z Z Z ae ac Z Z) fun a b => S.alloc b c Z Z Z [iv 0, iv 0, iv 0] Z ao Z (fun g2 a w b c => Al b <| Sq (iv (u : Int)) Z fun a b => S.fM 0 b c Z Z (fH t) (fH t) Z Z Z Z Z ac Z Z Z Z (fun a w b c => X.n (wp_block (Yl b <| Sv c (iO g e f) Z (V.dR 1 Z Z Z au ah Z Z) <| Sv c (fP t) Z (V.dR 0 Z Z Z ae ac Z Z) fun a b => Sc b (xC g t _ e f (Va r c) _ h) Z Z Z Z call45 ?_)))))))))));rintro v a w b ⟨y1, rfl, h, i⟩;replace c := c.call i;refine Al b <| Sq (.bool (!y1)) Z <| Sq (.bool (!y1)) Z fun a b => X.n ?_;refine Ci b h Z (fun _ h => ?_) fun F h => ?_
    ·refine Yl b <| Sq (iv 1) Z fun a b => X.n (wp_ret (X.fV (X.fV (X.eH (X.eH (X.fV (X.eH ?_)))))));exact Lr b bV Z ⟨1, Z, h, c.nil⟩
    ·refine Yl b <| Sq (.slice B no.length J) Z <| Sv c (iO g e f) Z (V.dR 1 Z Z Z au ah Z Z) <| Sv c (fP t) Z (V.dR 0 Z Z Z ae ac Z Z) fun a b => Sc b (jE g t _ e f (Va r c) _ h) Z Z Z Z bs ?_;rintro v a w b ⟨y2, rfl, h, i⟩;replace c := c.call i;obtain ⟨ay, x1, U, h⟩ := h;refine Al b <| Sv c (eP B (y2.toNat * 1)) Z (V.index Z Z Z aF am (K.some_ (dO U)) ay (dO U) Z) <| Sv c (.bool x1) Z (V.gX (off := 0) (Ag.args _ _ _) (K.flat U) Z Z Z aZ am Z Z) <| Sq (.bool x1) Z fun a b => X.n ?_;refine Ci b h Z (fun _ h => ?_) fun F h => ?_
     ·refine Yl b <| Sq (iv 14) Z fun a b => X.n (wp_ret (X.fV (X.fV (X.eH (X.eH (X.fV (X.eH ?_)))))));exact Lr b bV Z ⟨14, Z, h, c.nil⟩
     ·refine wp_seq (Hs c mo fun c => ?_);refine Ah b <| Hq c (.slice m d.length j) 0 Z Z <| Hq c (iv (u : Int)) 1 Z Z fun a b => ?_;obtain ⟨ad, h⟩ := h;refine Ah b <| Hw c (.slice (xg m j ((0 : Int) : Int).toNat 3) (seg d (0 : Int) (u : Int)).length (j - ((0 : Int) : Int).toNat)) 2 Z Z (V.slice Z Z Z Z af ac Z Z ad o.cap (seg_length (by have := ad.2.2; omega))) <| Hw c (fP t) 3 Z Z (V.dR 0 Z Z Z ae ac Z Z) fun a b => Ho 4 Z (Sc b (oz (seg d (0 : Int) (u : Int)) t _ (xg m j ((0 : Int) : Int).toNat 3) (j - ((0 : Int) : Int).toNat) ((Ag.args _ _ _).view (View.sub o ad) c) _ h) Z Z Z Z call31 ?_);rintro v a w b ⟨y3, rfl, h, i⟩;replace c := c.call i;refine X.n (⟨c, (Ah b <| Hq c (.bool y3) 5 Z Z fun a b => Hd (X.eF ?_))⟩);refine Ci b h Z (fun _ h => ?_) fun _ h => ?_
      ·refine Yl b <| Sq (iv 7) Z fun a b => X.n (wp_ret (X.fV (X.fV (X.eH (X.eH (X.fV (X.eH ?_)))))));exact Lr b bV Z ⟨7, Z, h, c.nil⟩
      ·refine wp_skip (X.blk (X.blk (X.eF (Rm b <| Sv c (iv ((u + 1 : Nat) : Int)) Z (V.jf Z Z Z ag O) <| Sq (iv ((u + 1 : Nat) : Int)) Z fun a b => X.n ?_))));exact ⟨t, G, Z, u + 1, fD P, fJ A, (by rw [T] at h; exact h), (b.pk Z), c.drop⟩


-- no (*etchhouse/route.finder).spread$1
-- UNSUPPORTED (*etchhouse/route.finder).near: '(*etchhouse/route.finder).spread$1'
-- UNSUPPORTED (*etchhouse/route.finder).spread: 'NoneType' object is not subscriptable
def Eb (g : Grid) (pins : List Cell) (k : Nat) (x : Cell) : Int := if inG g x = false then 1 else if x ∈ g.Blocked then 14 else if x ∈ pins.take k then 7 else 0
def yG (g : Grid) (pins : List Cell) (most : Int) : Int := if pins.length = 0 then 9 else if (pins.length : Int) > most then 2 else iM (Eb g pins) pins 0
theorem C9 {g : Grid} (hg : GOk g) {pins : List Cell} {most : Int} {Q : Int → Prop} (h : Q (yG g pins most)) : oP g (kS g) pins most Q := by
  unfold oP
  unfold yG at h
  refine fB (fun e => ?_) (fun e => fB (fun e2 => ?_) (fun e2 => ?_))
  · rw [if_pos (by simpa using e)] at h; exact h
  · rw [if_neg (by simpa using e), if_pos (by simpa using e2)] at h; exact h
  · rw [if_neg (by simpa using e), if_neg (by simpa using e2)] at h
    refine ve (Q := Q) (Eb g pins) (fun k x next hx hI hne h0 => ?_) (by
      split
      · rename_i e9; rw [e9] at h; exact h
      · exact h)
    have hlt := dO hx
    unfold lU
    refine Ce hg.sz ?_
    unfold Eb at hne h0
    cases e6 : inG g x with
    | false => simp only [Bool.not_false, iJ]; rw [if_pos e6] at hne; exact hne (by decide)
    | true =>
      simp only [Bool.not_true, gY]
      rw [if_neg (by simp [e6])] at hne h0
      refine qH hg.sz e6 (gG (Ba hg e6) ?_)
      refine fB (fun e7 => ?_) (fun e7 => ?_)
      · rw [if_pos (by simpa using e7)] at hne; exact hne (by decide)
      · rw [if_neg (by simpa using e7)] at hne h0
        refine ⟨⟨Int.le_refl _, by omega, by omega⟩, oC ?_⟩
        have hseg : seg pins 0 (k : Int) = pins.take k := by unfold seg; simp
        rw [hseg]
        refine fB (fun e8 => ?_) (fun e8 => ?_)
        · rw [if_pos (by simpa using e8)] at hne; exact hne (by decide)
        · rw [if_neg (by simpa using e8)] at h0; exact h0 rfl
theorem KD {g : Grid} {pins : List Cell} {most : Int} (h : yG g pins most = 0) : 0 < pins.length ∧ (pins.length : Int) ≤ most ∧ pins.Nodup ∧ ∀ x ∈ pins, inG g x = true ∧ x ∉ g.Blocked := by
  unfold yG at h
  split at h
  · exact absurd h (by decide)
  · rename_i e1
    split at h
    · exact absurd h (by decide)
    · rename_i e2
      have hall : ∀ i x, pins[i]? = some x → inG g x = true ∧ x ∉ g.Blocked ∧ x ∉ pins.take i := fun i x hx => by
        have := Af h i x hx
        unfold Eb at this
        split at this
        · exact absurd this (by decide)
        · rename_i e3
          split at this
          · exact absurd this (by decide)
          · rename_i e4
            split at this
            · exact absurd this (by decide)
            · rename_i e5; exact ⟨by simpa using e3, e4, e5⟩
      refine ⟨by omega, by omega, ?_, fun x hx => ?_⟩
      · rw [List.nodup_iff_pairwise_ne, List.pairwise_iff_getElem]
        intro i j hi hj hij e
        have h1 := (hall j _ (List.getElem?_eq_getElem hj)).2.2
        exact h1 (List.mem_of_getElem? (i := i) (by rw [List.getElem?_take, if_pos hij, List.getElem?_eq_getElem hi, e]))
      · obtain ⟨i, hi⟩ := List.getElem?_of_mem hx
        have := hall i x hi
        exact ⟨this.1, this.2.1⟩
end Go.Proofs.YtfjcgoiedlimdaaGreatDoor
