/- Chapter texts of ours, as far as the claim needs them. -/
import Derived.Test.YtfjcgoiedlimdaaGreatDoorRyA
import Derived.Test.YtfjcgoiedlimdaaGreatDoorRtG
import Derived.Test.YtfjcgoiedlimdaaGreatDoorIter
import Derived.Test.YtfjcgoiedlimdaaGreatDoorRyC
import Derived.Test.YtfjcgoiedlimdaaGreatDoorRyE
import Derived.Test.YtfjcgoiedlimdaaGreatDoorRtD
import Derived.Test.YtfjcgoiedlimdaaGreatDoorRtC
import Derived.Test.YtfjcgoiedlimdaaGreatDoorRtH
import Derived.Test.YtfjcgoiedlimdaaGreatDoorRtR1
namespace Go.Proofs.YtfjcgoiedlimdaaGreatDoor
open Go Go.RowKit
set_option linter.unusedVariables false
set_option linter.unusedSectionVars false
set_option linter.unusedSimpArgs false
inductive Cn (W : List (List Cell)) : Cell → Cell → Prop
  | refl (c : Cell) : Cn W c c
  | step {a b c : Cell} (h : Cn W a b) (w : List Cell) (hw : w ∈ W) (hb : b ∈ w) (hc : c ∈ w) : Cn W a c
theorem Cn.trans {W : List (List Cell)} {a b c : Cell} (h : Cn W a b) (h' : Cn W b c) : Cn W a c := by
  induction h' with
  | refl => exact h
  | step _ w hw hb hc ih => exact .step ih w hw hb hc
theorem Cn.symm {W : List (List Cell)} {a b : Cell} (h : Cn W a b) : Cn W b a := by
  induction h with
  | refl => exact .refl _
  | step _ w hw hb hc ih => exact (Cn.step (.refl _) w hw hc hb).trans ih
def Tog (pins : List Cell) (W : List (List Cell)) : Prop := ∀ p0, pins[0]? = some p0 → ∀ c, (c ∈ pins ∨ ∃ w ∈ W, c ∈ w) → Cn W p0 c
theorem wJ {α : Type} {l : List α} {m : Nat} {v : α} (hm : m < l.length) {j : Nat} : (l.set m v)[j]? = if j = m then some v else l[j]? := by
  rw [List.getElem?_set]
  by_cases e : m = j
  · subst e; rw [if_pos rfl, if_pos hm, if_pos rfl]
  · rw [if_neg e, if_neg (Ne.symm e)]
def Qz (t : List Task) (name : Str) : Option Task := t.find? (fun y => y.Net == name)
structure TOk (g : Grid) (t : List Task) : Prop where
  gok : GOk g
  len : t.length ≤ 100
  rise : NK Task.Net t
  pins : ∀ y ∈ t, 0 < y.Pins.length ∧ y.Pins.length ≤ 50 ∧ y.Pins.Nodup ∧ ∀ x ∈ y.Pins, inG g x = true ∧ x ∉ g.Blocked
  apart : ∀ (i j : Nat) u v c, t[i]? = some u → t[j]? = some v → c ∈ u.Pins → c ∈ v.Pins → i = j
theorem JH {g : Grid} {t : List Task} (h : vW g t = 0) : TOk g t := by
  unfold vW at h
  split at h
  · rename_i h1; exact absurd h h1
  rename_i h1
  split at h
  · cases h
  rename_i h2
  have hb := Af h
  have ap : ∀ (i j : Nat) u v c, i < j → t[i]? = some u → t[j]? = some v → c ∈ u.Pins → c ∈ v.Pins → False := fun i j u v c hij hi hj hcu hcv => by
    have h3 := (IJ (hb j v hj)).2.2.1
    have : v.Pins.any (zZ (t.take j)) = true := List.any_eq_true.2 ⟨c, hcv, by
      unfold zZ
      refine List.any_eq_true.2 ⟨u, List.mem_of_getElem? (i := i) ?_, decide_eq_true hcu⟩
      rw [List.getElem?_take, if_pos hij]; exact hi⟩
    rw [this] at h3; cases h3
  refine ⟨oZ (Decidable.not_not.1 h1), by omega, MX fun i x hx => (IJ (hb i x hx)).2.2.2, fun y hy => ?_, fun i j u v c hi hj hcu hcv => ?_⟩
  · obtain ⟨i, hi⟩ := List.getElem?_of_mem hy
    obtain ⟨p1, p2, p3, p4⟩ := KD (IJ (hb i y hi)).2.1
    exact ⟨p1, by omega, p3, p4⟩
  · rcases Nat.lt_trichotomy i j with h3 | h3 | h3
    · exact (ap i j u v c h3 hi hj hcu hcv).elim
    · exact h3
    · exact (ap j i v u c h3 hj hi hcv hcu).elim
def P6 (t : List Task) (x : fK) : List Cell := ((Qz t x.Net).map Task.Pins).getD [] ++ x.Ways.flatten
theorem JB {B : Nat} : ∀ {W : List (List Cell)}, (∀ w ∈ W, w.length ≤ B) → W.flatten.length ≤ B * W.length
  | [], _ => by simp
  | w :: r, h => by
    have h1 := h w (List.mem_cons_self ..)
    have h2 := JB (W := r) (fun v hv => h v (List.mem_cons_of_mem _ hv))
    rw [List.flatten_cons, List.length_append, List.length_cons, Nat.mul_succ]; omega
theorem Oi {l : List (List Cell)} (hl : l.flatten.length ≤ 3000000) {Q : List Cell → Prop} (h : Q l.flatten) : o5 l Q := by
  unfold o5
  have part : ∀ k, (l.take k).flatten.length ≤ l.flatten.length := fun k => by
    have e : l.flatten = (l.take k).flatten ++ (l.drop k).flatten := by rw [← List.flatten_append, List.take_append_drop]
    rw [e, List.length_append]; omega
  have step : ∀ {k x}, l[k]? = some x → (l.take (k + 1)).flatten = (l.take k).flatten ++ x := fun {k x} hx => by
    rw [List.take_add_one, hx, List.flatten_append]; simp
  refine jO (fun k (n : Int) => n = ((l.take k).flatten.length : Int)) (by simp) (fun k x n hx hI next hn => ?_) (fun n hI => ?_)
  · have h1 := part k
    have h2 := part (k + 1)
    rw [step hx, List.length_append] at h2
    have hw : w64 (n + (x.length : Int)) = ((l.take (k + 1)).flatten.length : Int) := by
      rw [step hx, List.length_append, hI, fO (by omega) (by omega)]; omega
    unfold qi
    rw [hw]
    exact fB (fun e => by have := of_decide_eq_true e; omega) (fun _ => hn _ rfl)
  · rw [List.take_length] at hI
    unfold xY
    subst hI
    refine ⟨⟨by omega, by omega, by omega⟩, ?_⟩
    refine jO (fun k (m : List Cell) => m = (l.take k).flatten) (by simp) (fun k x m hx hI next hn => ?_) (fun m hI => ?_)
    · have h2 := part (k + 1)
      unfold nK
      subst hI
      rw [← step hx]
      exact ⟨⟨by omega, by omega⟩, hn _ rfl⟩
    · rw [List.take_length] at hI
      show Q m
      rw [hI]; exact h
theorem Nv {g : Grid} {w : List Cell} (h : CO g w = 0) : w.length ≤ 40000 ∧ w ≠ [] := ⟨(uY h).1, (uY h).2.1⟩
theorem MQ {g : Grid} {W : List (List Cell)} (hW : W.length ≤ 50) (h : ∀ w ∈ W, CO g w = 0) : W.flatten.length ≤ 2000000 := by
  have := JB (B := 40000) (W := W) (fun w hw => (Nv (h w hw)).1)
  omega
open Tryz Go Go.RowKit
def uH (s2 : (List Cell)) (Q : Bool → Prop) (k1 : Nat) (xk1 : Cell)  (next1 : Prop) : Prop :=
  idx s2 (k1 : Int) fun x1 => cnd (!(decide (xk1 = x1))) (Q false) (next1)
def vC (s1 : (List Cell)) (s2 : (List Cell)) (Q : Bool → Prop) : Prop :=
  cnd ((s1.length : Int) != (s2.length : Int)) (Q false) (forIn' (fun k x (s : Unit) next => uH s2 Q k x (next ())) (fun (s : Unit) => Q true) s1 0 ())
set_option maxHeartbeats 1000000 in
theorem IL (e : (List Cell)) (g : (List Cell)) (r : World) (f : Option Addr) (i : Nat) (m : View r (old r none_) f i e) (j : Option Addr) (t : Nat) (A : View r (old r none_) j t g) (Q : Bool → Prop) (h : vC e g Q) :
  Ret Tryz.prog 55 #[.slice f e.length i, .slice j g.length t] r fun v W => ∃ (U : Bool), v = .bool U ∧ Q U ∧ Sat r none_ [] W := by
 refine fF func55 Z ntmps55 Z (fs := [(0, _), (1, _)]) Z (fun a b => ?_);have c := Sat.start r none_;unfold vC at h;refine Yl b <| Sq (.bool false) Z <| Xn <| Ws <| Xl <| Sq (.slice f e.length i) Z <| Sv c (iv (e.length : Int)) Z (V.len Z Z af) <| Sq (.slice j g.length t) Z <| Sv c (iv (g.length : Int)) Z (V.len Z Z af) <| Sq (.bool ((e.length : Int) != (g.length : Int))) Z fun a b => X.n ?_;refine Ci b h Z (fun _ h => ?_) fun J h => ?_
 ·refine Yl b <| Sq (.bool false) Z fun a b => X.n (wp_ret (X.eH ?_));exact Lr b results55 Z ⟨false, Z, h, c.nil⟩
 ·refine wp_skip (X.eF (wp_seq (Yl b <| Sq (.slice f e.length i) Z <| Sv c (iv (e.length : Int)) Z (V.len Z Z af) <| Sq (iv 0) Z fun a b => X.n (wp_block ?_))));have B := m.iY;refine C.range (fun (P : List Cell) a w => ∃ (d : Nat) , e.drop d = P ∧ d + P.length = e.length ∧ forIn' (fun k x (s : Unit) next => uH g Q k x (next ())) (fun (s : Unit) => Q true) P d () ∧ eU 26 [(13, iv (d : Int)), (0, .slice f e.length i), (1, .slice j g.length t), (12, iv (e.length : Int))] a ∧ Sat r none_ [] w) e ⟨0, Z, Nat.zero_add _, h, (b.pk Z), c⟩ ?_;clear h b c;rintro y a w ⟨d, F, o, h, b, c⟩
  cases y with
  | nil =>
   have J := fQ o;replace h := fzx h;refine Yl b <| Sv c (.bool false) Z (V.cmp false Z Z Z Z J) fun a b => X.n (wp_seq (C.no b Z (wp_exit (X.eG (X.eG (X.fG (X.eF (Yl b <| Sq (.bool true) Z fun a b => X.n (wp_ret ?_)))))))));exact Lr b results55 Z ⟨true, Z, h, c.nil⟩
  | cons u y =>
   have K := gJ o; have J := gQ o; have z := gm F;obtain ⟨O, G, h⟩ := zM h;replace h : uH g Q d u  O := h;unfold uH at h;refine Yl b <| Sv c (.bool true) Z (V.cmp true Z Z Z Z J) fun a b => X.n (wp_seq (C.yes b Z (wp_skip (X.eF (wp_seq (wp_block (Yl b <| Sq (iv (d : Int)) Z <| Sq (iv (d : Int)) Z fun a b => X.n (wp_seq (R.draw mo (by kernel_rfl) c (Ad b <| Dq (.slice f e.length i) Z <| Dq (iv (d : Int)) Z <| Dw (eP f (d * 3)) Z (V.index Z Z Z af ac (m.some_ (dO z)) (Int.natCast_nonneg _) (dO z) Z) <| Dw (fP u) Z (V.gX (off := 0) (Ag.args _ _ _) (m.flat z) Z Z Z ae ac Z Z) <| Dq (.slice j g.length t) Z <| Dq (iv (d : Int)) Z fun a b => ?_))))))))));obtain ⟨ad, T, I, h⟩ := h;refine Ad b <| Dw (eP j (d * 3)) Z (V.index Z Z Z af ac (A.some_ (dO I)) (Int.natCast_nonneg _) (dO I) Z) <| Dw (fP T) Z (V.gX (off := 0) (Ag.args _ _ _) (A.flat I) Z Z Z ae ac Z Z) <| Dw (.bool (!(decide (u = T)))) Z (V.NF Z Z Z (by kernel_rfl) (fun w => LH u T w)) fun a b => D.done (fun w c => X.eF ?_);refine Ci b h Z (fun _ h => ?_) fun _ h => ?_
   ·refine Yl b <| Sq (.bool false) Z fun a b => X.n (wp_ret (X.fV (X.eH (X.eH (X.fV (X.eH ?_))))));exact Lr b results55 Z ⟨false, Z, h, c.nil⟩
   ·refine wp_skip (X.blk (X.eF (Rm b <| Sv c (iv ((d + 1 : Nat) : Int)) Z (V.jf Z Z Z K B) <| Sq (iv ((d + 1 : Nat) : Int)) Z fun a b => X.n ?_)));exact ⟨u, y, Z, d + 1, fD F, fJ o, (by rw [G] at h; exact h), (b.pk Z), c⟩

-- no etchhouse/etchhouseref7.SameGrid
-- no etchhouse/etchhouselaw7.RouteRoutedMatchesSpec
def g0 : Grid := ⟨3, 1, 1, []⟩
def c0 : gy := ⟨2, 1, 0, 0⟩
theorem PY : ∀ s < 9, ∀ e ∈ (grC g0 c0).E true s, e.1 < 9 ∧ s / 3 ≤ e.1 / 3 + 1 ∧ e.2 = 2 := by decide +kernel
theorem Qm : ((4 : Nat), (2 : Int)) ∈ (grC g0 c0).E true 7 := by decide +kernel
theorem Qj : ((0 : Nat), (2 : Int)) ∈ (grC g0 c0).E true 4 := by decide +kernel
theorem Qu {s : Nat} {c : Int} {n : Nat} (h : Wk ((grC g0 c0).E true) [6, 7, 8] s c n) : s < 9 ∧ 4 - 2 * ((s / 3 : Nat) : Int) ≤ c := by
  induction h with
  | start hs => simp at hs; rcases hs with rfl | rfl | rfl <;> decide
  | step w he ih =>
    obtain ⟨h1, h2, h3⟩ := PY _ ih.1 _ he
    simp only at h1 h2 h3
    exact ⟨h1, by omega⟩
theorem OQ {Q : Bool → Prop} (h : Q true) : qU Q := by
  unfold qU
  have e0 : findF g0 c0 [⟨0, 0, 0⟩, ⟨2, 0, 0⟩] = 0 := by decide +kernel
  refine O5 (g := g0) (c := c0) (fun e => absurd e0 e) (fun _ out d hout hd => ?_)
  have eb : gq g0 ⟨2, 0, 0⟩ = 2 := by decide
  have ea : gq g0 ⟨0, 0, 0⟩ = 0 := by decide
  rw [eb] at hout
  rw [ea] at hd
  simp only [Nat.mul_zero, Nat.reduceMul, Nat.reduceAdd] at hout hd
  have hkB : kB = 1048576 := rfl
  obtain ⟨d', h1, h2, h3⟩ := hout.min 0 (0 + 2 + 2) 2 ((Wk.start (by simp)).step Qm |>.step Qj)
  rw [hd] at h1; injection h1 with h1; subst h1
  obtain ⟨c, n, w, e, p, b⟩ := hout.way 0 d hd h2
  have := (Qu w).2
  have e4 : d / kB = 4 := by rw [hkB] at *; omega
  unfold Eh
  rw [if_neg (by omega)]
  show cnd ((0 : Int) == 0) _ _
  rw [e4]
  simpa using h
def Ey (t : List Task) (r : List fK) : List Cell := r.flatMap (P6 t)
def rJ (g : Grid) (L : List Cell) (n : Nat) : Bool := L.any (fun c => decide (gq g c = n))
theorem EU (g : Grid) (L M : List Cell) (n : Nat) : rJ g (L ++ M) n = (rJ g L n || rJ g M n) := by unfold rJ; rw [List.any_append]
def kG (g : Grid) (M : List Cell) : List Cell := ((List.range (grG g).N).filter (fun n => rJ g g.Blocked n || rJ g M n)).map (gK g)
def jk (g : Grid) (M : List Cell) : Grid := ⟨g.W, g.H, g.Layers, kG g M⟩
def Mk (g : Grid) (A : List Cell) (l : List Bool) : Prop := l.length = (grG g).N ∧ ∀ n, n < (grG g).N → l[n]? = some (rJ g g.Blocked n || rJ g A n)
theorem Mk.set {g : Grid} (hs : Sz g) {A : List Cell} {l : List Bool} (h : Mk g A l) {c : Cell} (hc : inG g c = true) : Mk g (A ++ [c]) (l.set (gq g c) true) := by
  have hl := oK hs hc
  refine ⟨by rw [List.length_set]; exact h.1, fun n hn => ?_⟩
  rw [wJ (by rw [h.1]; exact hl), EU]
  by_cases e : n = gq g c
  · subst e
    rw [if_pos rfl]
    have : rJ g [c] (gq g c) = true := by unfold rJ; simp
    rw [this, Bool.or_true, Bool.or_true]
  · rw [if_neg e, h.2 n hn]
    have : rJ g [c] n = false := by unfold rJ; simp; exact fun h => e h.symm
    rw [this, Bool.or_false]
def Srt (g : Grid) (l : List Cell) : Prop := l.Pairwise (fun a b => gq g a < gq g b) ∧ ∀ c ∈ l, inG g c = true
theorem Ns {g : Grid} : ∀ {a b : List Cell}, a.Pairwise (fun a b => gq g a < gq g b) → b.Pairwise (fun a b => gq g a < gq g b) → (∀ c, c ∈ a ↔ c ∈ b) → a = b
  | [], b, _, _, h => by
    cases b with
    | nil => rfl
    | cons y r => exact absurd ((h y).2 (List.mem_cons_self ..)) (by simp)
  | x :: a, [], _, _, h => absurd ((h x).1 (List.mem_cons_self ..)) (by simp)
  | x :: a, y :: b, ha, hb, h => by
    rw [List.pairwise_cons] at ha hb
    have e : x = y := by
      rcases List.mem_cons.1 ((h x).1 (List.mem_cons_self ..)) with h1 | h1
      · exact h1
      · rcases List.mem_cons.1 ((h y).2 (List.mem_cons_self ..)) with h2 | h2
        · exact h2.symm
        · have := hb.1 x h1; have := ha.1 y h2; omega
    subst e
    congr 1
    refine Ns ha.2 hb.2 fun c => ⟨fun hc => ?_, fun hc => ?_⟩
    · rcases List.mem_cons.1 ((h c).1 (List.mem_cons_of_mem _ hc)) with h1 | h1
      · subst h1; have := ha.1 c hc; omega
      · exact h1
    · rcases List.mem_cons.1 ((h c).2 (List.mem_cons_of_mem _ hc)) with h1 | h1
      · subst h1; have := hb.1 c hc; omega
      · exact h1
theorem JS {g : Grid} (h : uf g = 0) : Srt g g.Blocked := by
  have hg := oZ h
  have hs := hg.sz
  unfold uf at h
  split at h; · cases h
  split at h; · cases h
  have hb := Af h
  have next : ∀ (i : Nat) a b, g.Blocked[i]? = some a → g.Blocked[i + 1]? = some b → gq g a < gq g b := fun i a b ha hb' => by
    have h1 := hb (i + 1) b hb'
    unfold wz at h1
    have ib := hg.blk b (List.mem_of_getElem? hb')
    have ia := hg.blk a (List.mem_of_getElem? ha)
    rw [if_neg (by rw [ib]; decide)] at h1
    split at h1
    · cases h1
    · rename_i h2
      have e : g.Blocked.getD (i + 1 - 1) default = a := by rw [List.getD_eq_getElem?_getD, Nat.add_sub_cancel, ha]; rfl
      rw [e, vZ hs ib, vZ hs ia] at h2
      have : ¬ ((gq g b : Int) ≤ (gq g a : Int)) := fun h3 => h2 ⟨by omega, h3⟩
      omega
  have all : ∀ (d i : Nat) a b, g.Blocked[i]? = some a → g.Blocked[i + d + 1]? = some b → gq g a < gq g b := by
    intro d
    induction d with
    | zero => intro i a b ha hb'; exact next i a b ha hb'
    | succ d ih =>
      intro i a b ha hb'
      have hl : i + d + 1 < g.Blocked.length := by have := dO hb'; omega
      have hm := List.getElem?_eq_getElem hl
      have h1 := ih i a _ ha hm
      have h2 := next (i + d + 1) _ b hm hb'
      omega
  refine ⟨List.pairwise_iff_getElem.2 fun i j hi hj hij => ?_, hg.blk⟩
  exact all (j - i - 1) i _ _ (List.getElem?_eq_getElem hi) (by rw [show i + (j - i - 1) + 1 = j by omega]; exact List.getElem?_eq_getElem hj)
theorem DI {g : Grid} (hs : Sz g) {L : List Cell} (hL : ∀ c ∈ L, inG g c = true) {c : Cell} (hc : inG g c = true) : rJ g L (gq g c) = true ↔ c ∈ L := by
  unfold rJ
  rw [List.any_eq_true]
  exact ⟨fun ⟨d, hd, e⟩ => yH hs (hL d hd) hc (of_decide_eq_true e) ▸ hd, fun h => ⟨c, h, decide_eq_true rfl⟩⟩
theorem wW {g : Grid} (hg : GOk g) {M : List Cell} (hM : ∀ c ∈ M, inG g c = true) : Srt g (kG g M) ∧ ∀ c, c ∈ kG g M ↔ c ∈ g.Blocked ∨ c ∈ M := by
  have hs := hg.sz
  have hin : ∀ c ∈ kG g M, inG g c = true := fun c hc => by
    obtain ⟨n, hn, rfl⟩ := List.mem_map.1 hc
    exact qP hs (List.mem_range.1 (List.mem_filter.1 hn).1)
  refine ⟨⟨?_, hin⟩, fun c => ⟨fun hc => ?_, fun hc => ?_⟩⟩
  · unfold kG
    rw [List.pairwise_map]
    have : (List.range (grG g).N).Pairwise (fun a b => gq g (gK g a) < gq g (gK g b)) := by
      have e : (fun a b => gq g (gK g a) < gq g (gK g b)) = (fun a b : Nat => a < b) := by funext a b; rw [jh, jh]
      rw [e]; exact List.pairwise_lt_range
    exact this.filter _
  · obtain ⟨n, hn, rfl⟩ := List.mem_map.1 hc
    have h1 := List.mem_filter.1 hn
    have hi := qP hs (List.mem_range.1 h1.1)
    have h2 := h1.2
    rw [Bool.or_eq_true] at h2
    have e := jh g n
    rcases h2 with h2 | h2
    · left; rw [← e] at h2; exact (DI hs hg.blk hi).1 h2
    · right; rw [← e] at h2; exact (DI hs hM hi).1 h2
  · have hi : inG g c = true := hc.elim (hg.blk c) (hM c)
    refine List.mem_map.2 ⟨gq g c, List.mem_filter.2 ⟨List.mem_range.2 (oK hs hi), ?_⟩, xM hs hi⟩
    rw [Bool.or_eq_true]
    rcases hc with hc | hc
    · exact .inl ((DI hs hg.blk hi).2 hc)
    · exact .inr ((DI hs hM hi).2 hc)
theorem IB {g : Grid} (hs : Sz g) {out : List Cell} (hS : Srt g out) (hl : out.length ≤ 300000000) {c : Cell} (hc : inG g c = true) {k : Nat} {next : List Cell → Prop}
    (h : ∀ out', Srt g out' → (∀ x, x ∈ out' ↔ x ∈ out ∨ x = c) → out'.length ≤ out.length + 1 → next out') : jq k c out next := by
  unfold jq
  refine oU (fun n (s : Int) => s = (n : Int) ∧ n ≤ out.length ∧ ∀ (i : Nat) x, n ≤ i → out[i]? = some x → gq g c < gq g x) (n := out.length) ⟨rfl, Nat.le_refl _, fun i x hi hx => by have := dO hx; omega⟩ ?_
  rintro n s X ⟨rfl, hn, hge⟩ hX
  unfold kX
  have ins : (∀ (i : Nat) x, i < n → out[i]? = some x → gq g x < gq g c) → jy c out next (n : Int) true := by
    intro hlo
    unfold jy yB
    refine fB (fun _ => ⟨⟨by omega, by omega, by simp, by simp only [List.length_singleton]; exact ⟨by omega, by omega⟩⟩, ?_⟩) (fun e => by cases e)
    rw [Int.toNat_natCast]
    have hlow : ∀ x ∈ out.take n, gq g x < gq g c := fun x hx => by
      obtain ⟨i, hi⟩ := List.getElem?_of_mem hx
      have hin : i < n := by have := dO hi; simp at this; omega
      rw [List.getElem?_take, if_pos hin] at hi
      exact hlo i x hin hi
    have hhi : ∀ x ∈ out.drop n, gq g c < gq g x := fun x hx => by
      obtain ⟨i, hi⟩ := List.getElem?_of_mem hx
      rw [List.getElem?_drop] at hi
      exact hge (n + i) x (by omega) hi
    have hp : (out.take n ++ out.drop n).Pairwise (fun a b => gq g a < gq g b) := by rw [List.take_append_drop]; exact hS.1
    rw [List.pairwise_append] at hp
    refine h _ ⟨?_, fun x hx => ?_⟩ (fun x => ?_) (by simp only [List.length_append, List.length_take, List.length_drop, List.length_singleton]; omega)
    · rw [List.pairwise_append, List.pairwise_append]
      refine ⟨⟨hp.1, List.pairwise_singleton .., fun a ha b hb => by rw [List.mem_singleton.1 hb]; exact hlow a ha⟩, hp.2.1, fun a ha b hb => ?_⟩
      rcases List.mem_append.1 ha with h1 | h1
      · exact hp.2.2 a h1 b hb
      · rw [List.mem_singleton.1 h1]; exact hhi b hb
    · rcases List.mem_append.1 hx with h1 | h1
      · rcases List.mem_append.1 h1 with h2 | h2
        · exact hS.2 x (List.mem_of_mem_take h2)
        · rw [List.mem_singleton.1 h2]; exact hc
      · exact hS.2 x (List.mem_of_mem_drop h1)
    · have e : x ∈ out ↔ x ∈ out.take n ∨ x ∈ out.drop n := by rw [← List.mem_append, List.take_append_drop]
      rw [e, List.mem_append, List.mem_append, List.mem_singleton]
      constructor
      · rintro ((h1 | h1) | h1)
        · exact .inl (.inl h1)
        · exact .inr h1
        · exact .inl (.inr h1)
      · rintro ((h1 | h1) | h1)
        · exact .inl (.inl h1)
        · exact .inr h1
        · exact .inl (.inr h1)
  refine fB (fun e => ?_) (fun e => ?_)
  · have hpos : 0 < n := by have := of_decide_eq_true e; omega
    have hw : w64 ((n : Int) - 1) = ((n - 1 : Nat) : Int) := by rw [fO (by omega) (by omega)]; omega
    have hg := List.getElem?_eq_getElem (show n - 1 < out.length by omega)
    have hin := hS.2 _ (List.mem_of_getElem? hg)
    rw [hw]
    refine gG hg (FM ?_)
    rw [BI hs hc hin]
    unfold jV
    rw [hw]
    have below : ∀ (i : Nat) x, i < n - 1 → out[i]? = some x → gq g x < gq g out[n - 1] := fun i x hi hx => by
      have hil := dO hx
      have := List.pairwise_iff_getElem.1 hS.1 i (n - 1) hil (by omega) hi
      have e2 : out[i] = x := by have := List.getElem?_eq_getElem hil; rw [hx] at this; injection this with this; exact this.symm
      rw [e2] at this; exact this
    refine fB (fun e2 => ?_) (fun e2 => ?_)
    · have h1 := of_decide_eq_true e2
      refine hX (n - 1) _ (by omega) ⟨rfl, by omega, fun i x hi hx => ?_⟩
      by_cases ei : i = n - 1
      · subst ei; rw [hg] at hx; injection hx with hx; subst hx; exact h1
      · exact hge i x (by omega) hx
    · have h1 := of_decide_eq_false e2
      refine fB (fun e3 => by simp at e3; omega) (fun e3 => gG hg ?_)
      by_cases ec : out[n - 1] = c
      · rw [decide_eq_true ec]
        unfold jy
        refine fB (fun e' => by cases e') (fun _ => h out hS (fun x => ⟨.inl, fun h2 => h2.elim id fun h3 => ?_⟩) (by omega))
        rw [h3, ← ec]; exact List.getElem_mem _
      · rw [decide_eq_false ec]
        refine ins fun i x hi hx => ?_
        have hne : gq g out[n - 1] ≠ gq g c := fun h2 => ec (yH hs hin hc h2)
        by_cases ei : i = n - 1
        · subst ei; rw [hg] at hx; injection hx with hx; subst hx; omega
        · have := below i x (by omega) hx; omega
  · have hz : n = 0 := by have := of_decide_eq_false e; omega
    subst hz
    unfold jV
    refine fB (fun e' => by cases e') (fun _ => fB (fun _ => ins fun i x hi => by omega) (fun e3 => by simp at e3))
theorem GH {g : Grid} (h0 : uf g = 0) {M : List Cell} (hM : ∀ c ∈ M, inG g c = true) (hl : M.length ≤ 250000000) {Q : Grid → Prop} (h : Q (jk g M)) : kZ g M Q := by
  have hg := oZ h0
  have hs := hg.sz
  have hbl := hg.len
  have start := JS h0
  unfold kZ qE
  have go : forIn' (fun k x (s : List Cell) next => jq k x s (fun l2 => next l2)) (fun (s : List Cell) => (fun (l2 : List Cell) => Q (⟨g.W, g.H, g.Layers, l2⟩ : Grid)) s) M 0 g.Blocked := by
    refine jO (fun k (out : List Cell) => Srt g out ∧ (∀ x, x ∈ out ↔ x ∈ g.Blocked ∨ x ∈ M.take k) ∧ out.length ≤ 40000 + k) ⟨start, fun x => by simp, by omega⟩ (fun k c out hc hI next hn => ?_) (fun out hI => ?_)
    · obtain ⟨i1, i2, i3⟩ := hI
      have hk := dO hc
      refine IB hs i1 (by omega) (hM c (List.mem_of_getElem? hc)) fun out' o1 o2 o3 => hn _ ⟨o1, fun x => ?_, by omega⟩
      rw [o2, i2, List.take_add_one, hc, List.mem_append]
      simp only [Option.toList, List.mem_singleton, or_assoc]
    · obtain ⟨i1, i2, i3⟩ := hI
      rw [List.take_length] at i2
      obtain ⟨b1, b2⟩ := wW hg hM
      have e : out = kG g M := Ns i1.1 b1.1 (fun c => (i2 c).trans (b2 c).symm)
      show Q (⟨g.W, g.H, g.Layers, out⟩ : Grid)
      rw [e]; exact h
  intro b hb
  refine fB (fun e => ?_) (fun e => ?_)
  · rw [hb e] at go; exact go
  · rw [List.nil_append]
    exact ⟨⟨by omega, by omega⟩, go⟩
theorem FU {g : Grid} {M M' : List Cell} (h : ∀ c, c ∈ M ↔ c ∈ M') : jk g M = jk g M' := by
  have : ∀ n, rJ g M n = rJ g M' n := fun n => by
    unfold rJ
    rw [Bool.eq_iff_iff, List.any_eq_true, List.any_eq_true]
    exact ⟨fun ⟨d, hd, e⟩ => ⟨d, (h d).1 hd, e⟩, fun ⟨d, hd, e⟩ => ⟨d, (h d).2 hd, e⟩⟩
  unfold jk kG
  simp only [this]
theorem Jc {xs ys : List Cell} {Q : Bool → Prop} (h : Q (decide (xs = ys))) : vC xs ys Q := by
  unfold vC
  exact Kw (fun k x next hq => hq) h
end Go.Proofs.YtfjcgoiedlimdaaGreatDoor
