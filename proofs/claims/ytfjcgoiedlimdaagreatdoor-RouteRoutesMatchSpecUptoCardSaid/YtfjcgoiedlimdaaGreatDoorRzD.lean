/- Chapter texts of ours, as far as the claim needs them. -/
import Derived.Test.YtfjcgoiedlimdaaGreatDoorRuA
import Derived.Test.YtfjcgoiedlimdaaGreatDoorRyI
import Derived.Test.YtfjcgoiedlimdaaGreatDoorRzA
namespace Go.Proofs.YtfjcgoiedlimdaaGreatDoor
open Go Go.RowKit
set_option linter.unusedVariables false
set_option linter.unusedSectionVars false
set_option linter.unusedSimpArgs false
section
variable {g : Grid} {c : gy} {pins : List Cell}
theorem Kis.eq {G : Gr} {T T2 : List Nat} {n : Nat} {d d2 : Int} (h : Kis G T n d) (h2 : Kis G T2 n d2) (hT : ∀ a, a ∈ T ↔ a ∈ T2) : d = d2 :=
  Gr.FT.eq h h2 (fun c m => ⟨fun ⟨a, ha, hw⟩ => ⟨a, (hT a).1 ha, hw⟩, fun ⟨a, ha, hw⟩ => ⟨a, (hT a).2 ha, hw⟩⟩)
theorem H7.eq {T T2 : List Nat} {i i2 : Nat} {p p2 : Cell} {d d2 : Int} (h : H7 g c pins T i p d) (h2 : H7 g c pins T2 i2 p2 d2) (hT : ∀ a, a ∈ T ↔ a ∈ T2) : i = i2 ∧ p = p2 ∧ d = d2 := by
  have mv : ∀ {T T2 : List Nat} {n : Nat} {K : Int}, (∀ a, a ∈ T ↔ a ∈ T2) → Kis (grC g c) T n K → Kis (grC g c) T2 n K := fun hT hk => by
    rcases hk with ⟨e, h1⟩ | ⟨h0, ⟨a1, m, ⟨a, ha, hw⟩, h3⟩, h4⟩
    · exact .inl ⟨e, fun c m ⟨a, ha, hw⟩ => h1 c m ⟨a, (hT a).2 ha, hw⟩⟩
    · exact .inr ⟨h0, ⟨a1, m, ⟨a, (hT a).1 ha, hw⟩, h3⟩, fun c m ⟨a, ha, hw⟩ => h4 c m ⟨a, (hT a).2 ha, hw⟩⟩
  have a1 := h.least i2 p2 d2 h2.at_ (fun hm => h2.out ((hT _).1 hm)) (mv (fun a => (hT a).symm) h2.key) h2.pos
  have a2 := h2.least i p d h.at_ (fun hm => h.out ((hT _).2 hm)) (mv hT h.key) h.pos
  have hi : i = i2 := by
    rcases Nat.lt_trichotomy i i2 with h3 | h3 | h3
    · have := a2.2 h3; omega
    · exact h3
    · have := a1.2 h3; omega
  subst hi
  have hp : p = p2 := by have := h.at_.symm.trans h2.at_; injection this
  subst hp
  exact ⟨rfl, rfl, h.key.eq h2.key hT⟩
theorem MR.eq {T T2 : List Nat} {p : Cell} {d : Int} {keys keys2 : List Int} {start start2 : Nat} {l l2 T' T2' : List Nat} (h : MR g c T p d keys start l T') (h2 : MR g c T2 p d keys2 start2 l2 T2') (hT : ∀ a, a ∈ T ↔ a ∈ T2) : start = start2 ∧ l = l2 ∧ ∀ a, a ∈ T' ↔ a ∈ T2' := by
  have hk : keys = keys2 := h.goal.least.uniq h2.goal.least
  subst hk
  have hs : start = start2 := Nat.le_antisymm (h.first start2 ((hT _).2 h2.mem) h2.key) (h2.first start ((hT _).1 h.mem) h.key)
  subst hs
  have hl := h.goes.det h2.goes
  subst hl
  exact ⟨rfl, rfl, fun a => by rw [h.iff, h2.iff, hT]⟩
theorem iZ.det {T : List Nat} {W : List (List Cell)} {ok : Bool} (h : iZ g c pins T W ok) : ∀ {T2 : List Nat} {W2 : List (List Cell)} {ok2 : Bool}, iZ g c pins T2 W2 ok2 → (∀ a, a ∈ T ↔ a ∈ T2) → W = W2 ∧ ok = ok2 := by
  induction h with
  | done hd =>
    intro T2 W2 ok2 h2 hT
    cases h2 with
    | done _ => exact ⟨rfl, rfl⟩
    | fail hx _ => obtain ⟨p, hp, hn⟩ := hx; exact absurd ((hT _).1 (hd p hp)) hn
    | step hp _ _ => exact absurd ((hT _).1 (hd _ (List.mem_of_getElem? hp.at_))) hp.out
  | fail hx hall =>
    intro T2 W2 ok2 h2 hT
    cases h2 with
    | done hd => obtain ⟨p, hp, hn⟩ := hx; exact absurd ((hT _).2 (hd p hp)) hn
    | fail _ _ => exact ⟨rfl, rfl⟩
    | step hp _ _ =>
      have := (hall _ (List.mem_of_getElem? hp.at_) (fun hm => hp.out ((hT _).1 hm))).eq hp.key hT
      have := hp.pos; omega
  | step hp hw hr ih =>
    intro T2 W2 ok2 h2 hT
    cases h2 with
    | done hd => exact absurd ((hT _).2 (hd _ (List.mem_of_getElem? hp.at_))) hp.out
    | fail _ hall =>
      have := (hall _ (List.mem_of_getElem? hp.at_) (fun hm => hp.out ((hT _).2 hm))).eq hp.key (fun a => (hT a).symm)
      have := hp.pos; omega
    | step hp2 hw2 hr2 =>
      obtain ⟨e1, e2, e3⟩ := hp.eq hp2 hT
      subst e1; subst e2; subst e3
      obtain ⟨e4, e5, hT'⟩ := hw.eq hw2 hT
      subst e4; subst e5
      obtain ⟨e6, e7⟩ := ih hr2 hT'
      exact ⟨by rw [e6], e7⟩
def IE (G : Gr) (a b : Nat) : Prop := ∃ c m, G.Way a b c m
theorem IE.nb {G : Gr} {a b m : Nat} {al : Int} (h : IE G a b) (hn : G.Nb b m al) (hm : G.no m = false) : IE G a m := by
  obtain ⟨_, _, c0, L, hp, _⟩ := h
  exact ⟨_, _, _, _, hp.snoc hn hm, rfl⟩
theorem Goes.conn {G : Gr} {keys : List Int} {a s : Nat} {l : List Nat} (h : G.Goes keys s l) (hs : s < 3 * G.N) (hc : IE G a (s / 3)) : ∀ t ∈ l, IE G a (t / 3) := by
  induction h with
  | stop _ _ => intro t ht; cases ht
  | step hd h0 hp hg ih =>
    obtain ⟨he, _⟩ := Gr.xA hp
    obtain ⟨al, hnb, hm, _, _⟩ := Gr.MW hs he
    have hc' := hc.nb hnb hm
    have := hnb.2.1
    intro u hu
    rcases List.mem_cons.1 hu with hu | hu
    · subst hu; exact hc'
    · exact ih (by omega) hc' u hu
theorem iZ.conn (hg : GOk g) {T : List Nat} {W : List (List Cell)} {ok : Bool} (h : iZ g c pins T W ok) {a : Nat} (hT : ∀ n ∈ T, n < (grG g).N ∧ IE (grC g c) a n) (hok : ok = true) : ∀ p ∈ pins, IE (grC g c) a (gq g p) := by
  induction h with
  | done hd => intro p hp; exact (hT _ (hd p hp)).2
  | fail _ _ => cases hok
  | @step T T' i p d keys start l W ok hp hw hr ih =>
    refine ih (fun n hn => ⟨(hw.free n hn).1, ?_⟩) hok
    rcases (hw.iff n).1 hn with h1 | h1
    · exact (hT n h1).2
    · obtain ⟨t, ht, rfl⟩ := List.mem_map.1 h1
      have hs := hT _ hw.mem
      have hs1 : 3 * start < 3 * (grC g c).N := Nat.mul_lt_mul_of_pos_left hs.1 (by decide)
      have hsc : IE (grC g c) a (3 * start / 3) := by rw [Nat.mul_div_cancel_left _ (by decide : 0 < 3)]; exact hs.2
      rcases List.mem_cons.1 ht with ht | ht
      · subst ht; exact hsc
      · exact Goes.conn hw.goes hs1 hsc t ht
end
theorem zA {g : Grid} (h0 : uf g = 0) {M : List Cell} (hM : ∀ c ∈ M, inG g c = true) : uf (jk g M) = 0 := by
  have hg := oZ h0
  have hs := hg.sz
  obtain ⟨hS, hm⟩ := wW hg hM
  have hN := hg.N
  have hlen : (kG g M).length ≤ (grG g).N := by
    unfold kG
    rw [List.length_map]
    have := List.length_filter_le (fun n => rJ g g.Blocked n || rJ g M n) (List.range (grG g).N)
    rw [List.length_range] at this; exact this
  unfold uf at h0 ⊢
  split at h0; · cases h0
  rename_i e1
  split at h0; · cases h0
  rename_i e2
  have e1' : ¬ o7 (jk g M) = false := e1
  have e3 : ¬ g.W * g.H * g.Layers > 40000 := fun h => e2 (.inl h)
  rw [if_neg e1', if_neg (by
    rintro (h | h)
    · exact e3 h
    · have : ((kG g M).length : Int) > 40000 := h
      omega)]
  refine qV _ 0 fun j y hy => ?_
  rw [Nat.zero_add]
  have hy' : (kG g M)[j]? = some y := hy
  have hin := hS.2 y (List.mem_of_getElem? hy')
  have hin' : inG (jk g M) y = true := hin
  unfold wz
  rw [if_neg (by rw [hin']; decide)]
  refine if_neg ?_
  rintro ⟨hj, hle⟩
  have hp : (kG g M)[j - 1]? = some ((kG g M)[j - 1]'(by have := dO hy'; omega)) := List.getElem?_eq_getElem _
  have hpin := hS.2 _ (List.mem_of_getElem? hp)
  have e4 : (jk g M).Blocked.getD (j - 1) default = (kG g M)[j - 1]'(by have := dO hy'; omega) := by
    show (kG g M).getD (j - 1) default = _
    rw [List.getD_eq_getElem?_getD, hp]; rfl
  rw [e4] at hle
  have hle' : Lj g y ≤ Lj g ((kG g M)[j - 1]'(by have := dO hy'; omega)) := hle
  rw [vZ hs hin, vZ hs hpin] at hle'
  have hyl := dO hy'
  have hlt := List.pairwise_iff_getElem.1 hS.1 (j - 1) j (by omega) hyl (by omega)
  have e5 : (kG g M)[j] = y := by have := List.getElem?_eq_getElem hyl; rw [hy'] at this; injection this with this; exact this.symm
  rw [e5] at hlt
  omega
theorem GI {g : Grid} {X : List Cell} {n : Nat} (hn : n < (grG g).N) : rJ g (kG g X) n = (rJ g g.Blocked n || rJ g X n) := by
  rw [Bool.eq_iff_iff]
  unfold kG
  constructor
  · intro h
    have h1 : ((List.map (gK g) ((List.range (grG g).N).filter (fun n => rJ g g.Blocked n || rJ g X n))).any (fun c => decide (gq g c = n))) = true := h
    obtain ⟨c, hc, h2⟩ := List.any_eq_true.1 h1
    obtain ⟨m, hm, rfl⟩ := List.mem_map.1 hc
    have h3 := of_decide_eq_true h2
    rw [jh] at h3
    subst h3
    exact (List.mem_filter.1 hm).2
  · intro h
    refine List.any_eq_true.2 ⟨gK g n, List.mem_map.2 ⟨n, List.mem_filter.2 ⟨List.mem_range.2 hn, h⟩, rfl⟩, decide_eq_true (jh g n)⟩
theorem OO {g : Grid} {X : List Cell} {l : List Bool} (h : Mk g X l) : l = kS (jk g X) := by
  apply List.ext_getElem?
  intro n
  rcases Nat.lt_or_ge n (grG g).N with hn | hn
  · rw [h.2 n hn]
    have h2 : n < (grG (jk g X)).N := hn
    rw [zQ h2]
    congr 1
    exact (GI hn).symm
  · rw [List.getElem?_eq_none (by rw [h.1]; exact hn), List.getElem?_eq_none (by unfold kS; simp; exact hn)]
theorem MF {g : Grid} {c : gy} {B : List Cell} {no : List Bool} {pins : List Cell} {Q : List (List Cell) → Bool → Prop} (h : lJ ⟨⟨g.W, g.H, g.Layers, B⟩, c, no⟩ pins Q) : lJ ⟨g, c, no⟩ pins Q := h
def jJ (t : List Task) (i : Nat) : List Cell := (List.range t.length).flatMap (fun j => if j = i then [] else (t.getD j ⟨[], []⟩).Pins)
theorem rD {t : List Task} {i : Nat} {c : Cell} : c ∈ jJ t i ↔ ∃ (j : Nat) (u : Task), t[j]? = some u ∧ j ≠ i ∧ c ∈ u.Pins := by
  unfold jJ
  rw [List.mem_flatMap]
  constructor
  · rintro ⟨j, hj, h⟩
    have hjl := List.mem_range.1 hj
    split at h
    · cases h
    · rename_i hne
      have hg := List.getElem?_eq_getElem hjl
      have e : t.getD j ⟨[], []⟩ = t[j] := by rw [List.getD_eq_getElem?_getD, hg]; rfl
      rw [e] at h
      exact ⟨j, _, hg, hne, h⟩
  · rintro ⟨j, u, hu, hne, h⟩
    refine ⟨j, List.mem_range.2 (dO hu), ?_⟩
    rw [if_neg hne]
    have e : t.getD j ⟨[], []⟩ = u := by rw [List.getD_eq_getElem?_getD, hu]; rfl
    rw [e]; exact h
def Fz (g : Grid) (t : List Task) (k : Nat) (E : List Cell) (l : List Int) : Prop :=
  l.length = (grG g).N ∧ ∀ n, n < (grG g).N → (∃ (j : Nat) (u : Task) (p : Cell), j ≤ k ∧ t[j]? = some u ∧ p ∈ u.Pins ∧ gq g p = n ∧ l[n]? = some ((j + 1 : Nat) : Int)) ∨
    ((∀ (j : Nat) (u : Task) (p : Cell), j < k → t[j]? = some u → p ∈ u.Pins → gq g p ≠ n) ∧ (∀ p ∈ E, gq g p ≠ n) ∧ l[n]? = some 0)
theorem MV {g : Grid} {t : List Task} (ok : TOk g t) {D : List Int → Prop} (h : ∀ l, Fz g t t.length [] l → D l) :
    forIn' (fun k x (s : List Int) next => ny g k x s (fun l2 => next l2)) (fun (s : List Int) => (fun (l2 : List Int) => D l2) s) t 0 (List.replicate (grG g).N (0 : Int)) := by
  have hs := ok.gok.sz
  refine jO (fun k (l : List Int) => Fz g t k [] l) ⟨by simp, fun n hn => .inr ⟨fun j u p hj => by omega, fun p hp => (by cases hp), by rw [List.getElem?_replicate, if_pos hn]⟩⟩ (fun k x l hx hI next hn => ?_) (fun l hI => h l hI)
  have hxp := ok.pins x (List.mem_of_getElem? hx)
  unfold ny
  refine jO (fun j (l : List Int) => Fz g t k (x.Pins.take j) l) hI (fun j p l hp hJ nx hnn => ?_) (fun l hJ => hn _ ?_)
  · have hin := (hxp.2.2.2 p (List.mem_of_getElem? hp)).1
    have hlt := oK hs hin
    unfold o9
    refine qH hs hin (gG (List.getElem?_eq_getElem (by rw [hJ.1]; exact hlt)) ?_)
    rw [Int.toNat_natCast]
    refine hnn _ ⟨by rw [List.length_set]; exact hJ.1, fun n hnl => ?_⟩
    rw [wJ (by rw [hJ.1]; exact hlt)]
    by_cases e : n = gq g p
    · subst e
      exact .inl ⟨k, x, p, Nat.le_refl _, hx, List.mem_of_getElem? hp, rfl, if_pos rfl⟩
    · rw [if_neg e]
      rcases hJ.2 n hnl with h1 | ⟨h1, h2, h3⟩
      · exact .inl h1
      · refine .inr ⟨h1, fun q hq => ?_, h3⟩
        rw [List.take_add_one, hp] at hq
        rcases List.mem_append.1 hq with h4 | h4
        · exact h2 q h4
        · have : q = p := by simpa using h4
          rw [this]; exact fun h5 => e h5.symm
  · rw [List.take_length] at hJ
    refine ⟨hJ.1, fun n hnl => ?_⟩
    rcases hJ.2 n hnl with ⟨j, u, p, h1, h2⟩ | ⟨h1, h2, h3⟩
    · exact .inl ⟨j, u, p, by omega, h2⟩
    · refine .inr ⟨fun j u p hj hu hp => ?_, fun p hp => (by cases hp), h3⟩
      by_cases e : j = k
      · subst e; rw [hx] at hu; injection hu with hu; subst hu; exact h2 p hp
      · exact h1 j u p (by omega) hu hp
theorem I4 {g : Grid} {t : List Task} (ok : TOk g t) {l : List Int} (hl : Fz g t t.length [] l) {i n : Nat} (hn : n < (grG g).N) (hi : i < t.length) : ∃ v, l[n]? = some v ∧ (decide (v > 0) && (v != w64 ((i : Int) + 1))) = rJ g (jJ t i) n := by
  have hs := ok.gok.sz
  have htl := ok.len
  have hw : w64 ((i : Int) + 1) = ((i + 1 : Nat) : Int) := by rw [fO (by omega) (by omega)]; omega
  rcases hl.2 n hn with ⟨j, u, p, _, hu, hp, hnp, hv⟩ | ⟨h1, _, hv⟩
  · refine ⟨_, hv, ?_⟩
    have hpos : decide ((((j + 1 : Nat)) : Int) > 0) = true := decide_eq_true (by omega)
    rw [hpos, Bool.true_and, hw]
    have hpin := (ok.pins u (List.mem_of_getElem? hu)).2.2.2 p hp
    by_cases e : j = i
    · subst e
      have h2 : (((j + 1 : Nat) : Int) != ((j + 1 : Nat) : Int)) = false := by simp
      rw [h2]
      symm
      unfold rJ
      rw [List.any_eq_false]
      intro c hc h3
      obtain ⟨j2, u2, hu2, hne, hc2⟩ := rD.1 hc
      have h4 := of_decide_eq_true h3
      have hcin := (ok.pins u2 (List.mem_of_getElem? hu2)).2.2.2 c hc2
      have : c = p := yH hs hcin.1 hpin.1 (h4.trans hnp.symm)
      subst this
      exact hne (ok.apart _ _ _ _ _ hu2 hu hc2 hp)
    · have h2 : (((j + 1 : Nat) : Int) != ((i + 1 : Nat) : Int)) = true := by simp; omega
      rw [h2]
      symm
      unfold rJ
      exact List.any_eq_true.2 ⟨p, rD.2 ⟨j, u, hu, e, hp⟩, decide_eq_true hnp⟩
  · refine ⟨_, hv, ?_⟩
    show false = _
    symm
    unfold rJ
    rw [List.any_eq_false]
    intro c hc h3
    obtain ⟨j2, u2, hu2, hne, hc2⟩ := rD.1 hc
    exact h1 j2 u2 c (dO hu2) hu2 hc2 (of_decide_eq_true h3)
inductive vH (g : Grid) (c : gy) (t : List Task) : List Nat → List Cell → List (List (List Cell)) → List Nat → Prop
  | nil : vH g c t [] [] (List.replicate t.length []) []
  | good {d : List Nat} {U : List Cell} {out : List (List (List Cell))} {F : List Nat} {i : Nat} {u : Task} {W : List (List Cell)} (h : vH g c t d U out F) (hu : t[i]? = some u)
      (hT : iZ (jk g (U ++ jJ t i)) c u.Pins [gq g (u.Pins.getD 0 default)] W true) : vH g c t (d ++ [i]) (U ++ W.flatten) (out.set i W) F
  | bad {d : List Nat} {U : List Cell} {out : List (List (List Cell))} {F : List Nat} {i : Nat} {u : Task} {W : List (List Cell)} (h : vH g c t d U out F) (hu : t[i]? = some u)
      (hT : iZ (jk g (U ++ jJ t i)) c u.Pins [gq g (u.Pins.getD 0 default)] W false) : vH g c t (d ++ [i]) U out (F ++ [i])
theorem yN {α : Type} {a b : List α} {x y : α} (h : a ++ [x] = b ++ [y]) : a = b ∧ x = y := by
  have := List.append_inj' h rfl
  exact ⟨this.1, by simpa using this.2⟩
theorem vH.det {g : Grid} {c : gy} {t : List Task} {d : List Nat} {U : List Cell} {out : List (List (List Cell))} {F : List Nat} (h : vH g c t d U out F) : ∀ {d' : List Nat} {U' : List Cell} {out' : List (List (List Cell))} {F' : List Nat}, vH g c t d' U' out' F' → d = d' → U = U' ∧ out = out' ∧ F = F' := by
  induction h with
  | nil =>
    intro d' U' out' F' h' e
    cases h' with
    | nil => exact ⟨rfl, rfl, rfl⟩
    | good h _ _ => exact absurd (congrArg List.length e) (by simp)
    | bad h _ _ => exact absurd (congrArg List.length e) (by simp)
  | good h hu hT ih =>
    intro d' U' out' F' h' e
    cases h' with
    | nil => exact absurd (congrArg List.length e) (by simp)
    | good h2 hu2 hT2 =>
      obtain ⟨e1, e2⟩ := yN e
      obtain ⟨e3, e4, e5⟩ := ih h2 e1
      subst e2; subst e3; subst e4; subst e5
      rw [hu] at hu2; injection hu2 with hu2; subst hu2
      obtain ⟨e6, _⟩ := hT.det hT2 (fun a => Iff.rfl)
      subst e6; exact ⟨rfl, rfl, rfl⟩
    | bad h2 hu2 hT2 =>
      obtain ⟨e1, e2⟩ := yN e
      obtain ⟨e3, e4, e5⟩ := ih h2 e1
      subst e2; subst e3
      rw [hu] at hu2; injection hu2 with hu2; subst hu2
      obtain ⟨_, e6⟩ := hT.det hT2 (fun a => Iff.rfl)
      cases e6
  | bad h hu hT ih =>
    intro d' U' out' F' h' e
    cases h' with
    | nil => exact absurd (congrArg List.length e) (by simp)
    | good h2 hu2 hT2 =>
      obtain ⟨e1, e2⟩ := yN e
      obtain ⟨e3, e4, e5⟩ := ih h2 e1
      subst e2; subst e3
      rw [hu] at hu2; injection hu2 with hu2; subst hu2
      obtain ⟨_, e6⟩ := hT.det hT2 (fun a => Iff.rfl)
      cases e6
    | bad h2 hu2 hT2 =>
      obtain ⟨e1, e2⟩ := yN e
      obtain ⟨e3, e4, e5⟩ := ih h2 e1
      subst e2; subst e3; subst e4; subst e5
      exact ⟨rfl, rfl, rfl⟩
theorem Az {g : Grid} (hg : GOk g) {X : List Cell} (hX : ∀ c ∈ X, inG g c = true) {w : List Cell} (h : CO (jk g X) w = 0) : CO g w = 0 ∧ ∀ c ∈ w, c ∉ X := by
  obtain ⟨h1, h2, h3⟩ := uY h
  have hm := (wW hg hX).2
  constructor
  · unfold CO
    rw [if_neg (fun e => h2 (List.eq_nil_of_length_eq_zero e)), if_neg (by omega)]
    refine qV _ 0 fun j y hy => ?_
    rw [Nat.zero_add]
    obtain ⟨a1, a2, a3, a4⟩ := AZ (h3 j y hy)
    have a1' : inG g y = true := a1
    have a2' : y ∉ g.Blocked := fun hb => a2 ((hm y).2 (.inl hb))
    unfold Es
    rw [if_neg (by rw [a1']; decide), if_neg a2', if_neg (fun h => a3 h.1 h.2), if_neg a4]
  · intro c hc hcX
    obtain ⟨j, hj⟩ := List.getElem?_of_mem hc
    exact (AZ (h3 j c hj)).2.1 ((hm c).2 (.inr hcX))
theorem iZ.few {g : Grid} {c : gy} {pins : List Cell} {T : List Nat} {W : List (List Cell)} {ok : Bool} (h : iZ g c pins T W ok) : W.length ≤ pins.countP (fun p => decide (gq g p ∉ T)) := by
  induction h with
  | done _ => exact Nat.zero_le _
  | fail _ _ => exact Nat.zero_le _
  | @step T T' i p d keys start l W ok hp hw hr ih =>
    have hle : pins.countP (fun q => decide (gq g q ∉ T')) + 1 ≤ pins.countP (fun q => decide (gq g q ∉ T)) := by
      have hpT' : gq g p ∈ T' := (hw.iff _).2 (.inr (Cf hw.goal hw.goes hw.key))
      have hmono : ∀ q, gq g q ∉ T' → gq g q ∉ T := fun q h1 h2 => h1 ((hw.iff _).2 (.inl h2))
      have key : ∀ (L : List Cell), p ∈ L → L.countP (fun q => decide (gq g q ∉ T')) + 1 ≤ L.countP (fun q => decide (gq g q ∉ T)) := by
        intro L
        induction L with
        | nil => intro h; cases h
        | cons x r ihl =>
          intro hx
          have hall : r.countP (fun q => decide (gq g q ∉ T')) ≤ r.countP (fun q => decide (gq g q ∉ T)) := List.countP_mono_left fun q _ hq => by
            have := of_decide_eq_true hq; exact decide_eq_true (hmono q this)
          rw [List.countP_cons, List.countP_cons]
          by_cases e : x = p
          · subst e
            have e1 : decide (gq g x ∉ T') = false := decide_eq_false (fun h => h hpT')
            have e2 : decide (gq g x ∉ T) = true := decide_eq_true hp.out
            rw [e1, e2, if_neg (by decide), if_pos rfl]; omega
          · have := ihl ((List.mem_cons.1 hx).resolve_left (Ne.symm e))
            by_cases e1 : gq g x ∉ T'
            · rw [decide_eq_true e1, decide_eq_true (hmono x e1), if_pos rfl]; omega
            · rw [decide_eq_false e1, if_neg (by decide)]; omega
      exact key pins (List.mem_of_getElem? hp.at_)
    rw [List.length_cons]; omega
theorem iZ.tog {g : Grid} (hs : Sz g) {c : gy} {pins : List Cell} (hpf : ∀ x ∈ pins, inG g x = true) {p0 : Cell} (hp0 : pins[0]? = some p0) {W : List (List Cell)}
    (hord : ∀ (j : Nat) w, W[j]? = some w → ∃ x ∈ w, (∃ n ∈ [gq g p0], x = gK g n) ∨ ∃ (i : Nat) (v : List Cell), i < j ∧ W[i]? = some v ∧ x ∈ v) (hcov : ∀ p ∈ pins, gq g p ∈ [gq g p0] ∨ ∃ v ∈ W, p ∈ v) : Tog pins W := by
  intro q0 hq0 c hc
  rw [hp0] at hq0; injection hq0 with hq0; subst hq0
  have h0 := hpf p0 (List.mem_of_getElem? hp0)
  have ways : ∀ (j : Nat) w, W[j]? = some w → ∀ x ∈ w, Cn W p0 x := by
    intro j
    induction j using Nat.strongRecOn with
    | _ j ih =>
      intro w hw x hx
      have hwm := List.mem_of_getElem? hw
      obtain ⟨y, hy, h1⟩ := hord j w hw
      have hy0 : Cn W p0 y := by
        rcases h1 with ⟨n, hn, rfl⟩ | ⟨i, v, hij, hv, hyv⟩
        · have : n = gq g p0 := by simpa using hn
          rw [this, xM hs h0]; exact .refl _
        · exact ih i hij v hv y hyv
      exact .step hy0 w hwm hy hx
  rcases hc with hc | ⟨w, hw, hc⟩
  · rcases hcov c hc with h1 | ⟨v, hv, h1⟩
    · have : gq g c = gq g p0 := by simpa using h1
      rw [yH hs (hpf c hc) h0 this]; exact .refl _
    · obtain ⟨j, hj⟩ := List.getElem?_of_mem hv
      exact ways j v hj c h1
  · obtain ⟨j, hj⟩ := List.getElem?_of_mem hw
    exact ways j w hj c hc
structure Qv (g : Grid) (t : List Task) (d : List Nat) (U : List Cell) (out : List (List (List Cell))) (F : List Nat) : Prop where
  len : out.length = t.length
  fsub : ∀ i ∈ F, i ∈ d
  fnd : F.Nodup
  uin : ∀ c ∈ U, inG g c = true
  upin : ∀ c ∈ U, ∀ (i : Nat) u, i ∉ d → t[i]? = some u → c ∉ u.Pins
  good : ∀ (i : Nat) u, i ∈ d → i ∉ F → t[i]? = some u → ∃ W, out[i]? = some W ∧ (∀ w ∈ W, CO g w = 0) ∧ W.length ≤ 50 ∧ Tog u.Pins W ∧ ∀ c ∈ W.flatten, c ∈ U ∧ ∀ (j : Nat) v, j ≠ i → t[j]? = some v → c ∉ v.Pins
  apart : ∀ (i j : Nat) W V, i ∈ d → j ∈ d → i ∉ F → j ∉ F → i ≠ j → out[i]? = some W → out[j]? = some V → ∀ c ∈ W.flatten, c ∉ V.flatten
theorem ML {g : Grid} {t : List Task} (ok : TOk g t) {i : Nat} : ∀ c ∈ jJ t i, inG g c = true := fun c hc => by
  obtain ⟨j, u, hu, _, hcu⟩ := rD.1 hc
  exact ((ok.pins u (List.mem_of_getElem? hu)).2.2.2 c hcu).1
theorem CU {g : Grid} {t : List Task} (ok : TOk g t) {U : List Cell} (hU : ∀ c ∈ U, inG g c = true) {i : Nat} : ∀ c ∈ U ++ jJ t i, inG g c = true := fun c hc => (List.mem_append.1 hc).elim (hU c) (ML ok c)
theorem DY {g : Grid} {t : List Task} (ok : TOk g t) {d : List Nat} {U : List Cell} (hU : ∀ c ∈ U, inG g c = true) (hup : ∀ c ∈ U, ∀ (i : Nat) u, i ∉ d → t[i]? = some u → c ∉ u.Pins) {i : Nat} (hi : i ∉ d) {u : Task} (hu : t[i]? = some u) :
    ∀ x ∈ u.Pins, inG (jk g (U ++ jJ t i)) x = true ∧ x ∉ (jk g (U ++ jJ t i)).Blocked := fun x hx => by
  obtain ⟨h1, h2⟩ := (ok.pins u (List.mem_of_getElem? hu)).2.2.2 x hx
  refine ⟨h1, fun hb => ?_⟩
  rcases ((wW ok.gok (CU ok hU)).2 x).1 hb with h3 | h3
  · exact h2 h3
  · rcases List.mem_append.1 h3 with h4 | h4
    · exact hup x h4 i u hi hu hx
    · obtain ⟨j, v, hv, hne, hxv⟩ := rD.1 h4
      exact hne (ok.apart _ _ _ _ _ hv hu hxv hx)
theorem vH.fact {g : Grid} (h0 : uf g = 0) {c : gy} (hc : COk c) {t : List Task} (ok : TOk g t) {d : List Nat} {U : List Cell} {out : List (List (List Cell))} {F : List Nat} (h : vH g c t d U out F) : d.Nodup → Qv g t d U out F := by
  induction h with
  | nil => intro _; exact ⟨by simp, fun i hi => (by cases hi), List.nodup_nil, fun c hc => (by cases hc), fun c hc => (by cases hc), fun i u hi => (by cases hi), fun i j W V hi => (by cases hi)⟩
  | @good d U out F i u W h hu hT ih =>
    intro hnd
    rw [List.nodup_append] at hnd
    have f := ih hnd.1
    have hid : i ∉ d := fun hi => hnd.2.2 i hi i (by simp) rfl
    have hX := CU (i := i) ok f.uin
    have hpf := DY ok f.uin f.upin hid hu
    have hgX := oZ (zA h0 hX)
    have hil := dO hu
    obtain ⟨p1, p2, p3, p4⟩ := ok.pins u (List.mem_of_getElem? hu)
    have hr := hT.right hgX hc
    have hp0 : u.Pins[0]? = some (u.Pins.getD 0 default) := by rw [List.getD_eq_getElem?_getD, List.getElem?_eq_getElem p1]; rfl
    have cellsX : ∀ c ∈ W.flatten, c ∉ U ++ jJ t i ∧ inG g c = true := fun c hc => by
      obtain ⟨w, hw, hcw⟩ := List.mem_flatten.1 hc
      have h1 := Az ok.gok hX (hr w hw)
      obtain ⟨j, hj⟩ := List.getElem?_of_mem hcw
      exact ⟨h1.2 c hcw, (AZ ((uY h1.1).2.2 j c hj)).1⟩
    have hFi : i ∉ F := fun hi => hid (f.fsub i hi)
    have hset : ∀ j, (out.set i W)[j]? = if j = i then some W else out[j]? := fun j => wJ (by rw [f.len]; exact hil)
    have hmine : ∃ W', (out.set i W)[i]? = some W' ∧ (∀ w ∈ W', CO g w = 0) ∧ W'.length ≤ 50 ∧ Tog u.Pins W' ∧ ∀ c ∈ W'.flatten, c ∈ U ++ W.flatten ∧ ∀ (j : Nat) v, j ≠ i → t[j]? = some v → c ∉ v.Pins := by
      refine ⟨W, by rw [hset, if_pos rfl], fun w hw => (Az ok.gok hX (hr w hw)).1, ?_, ?_, fun c hc => ⟨List.mem_append_right _ hc, fun j v hj hv hcv => (cellsX c hc).1 (List.mem_append_right _ (rD.2 ⟨j, v, hv, hj, hcv⟩))⟩⟩
      · have := hT.few
        have h2 := List.countP_le_length (p := fun p => decide (gq (jk g (U ++ jJ t i)) p ∉ [gq g (u.Pins.getD 0 default)])) (l := u.Pins)
        omega
      · exact iZ.tog (c := c) ok.gok.sz (fun x hx => (p4 x hx).1) hp0 (fun j w hj => hT.ord j w hj) (fun p hp => hT.cov hgX hpf rfl p hp)
    refine ⟨by rw [List.length_set]; exact f.len, fun j hj => List.mem_append_left _ (f.fsub j hj), f.fnd, fun c hc => (List.mem_append.1 hc).elim (f.uin c) (fun h => (cellsX c h).2), fun c hc j v hj hv => ?_, fun j v hj hjF hv => ?_, fun j k A B hj hk hjF hkF hne hA hB c hcA hcB => ?_⟩
    · have hjd : j ∉ d := fun h => hj (List.mem_append_left _ h)
      have hji : j ≠ i := fun h => hj (by rw [h]; simp)
      rcases List.mem_append.1 hc with h1 | h1
      · exact f.upin c h1 j v hjd hv
      · exact fun hcv => (cellsX c h1).1 (List.mem_append_right _ (rD.2 ⟨j, v, hv, hji, hcv⟩))
    · by_cases e : j = i
      · subst e; rw [hu] at hv; injection hv with hv; subst hv; exact hmine
      · have hjd : j ∈ d := by
          rcases List.mem_append.1 hj with h1 | h1
          · exact h1
          · exact absurd (by simpa using h1) e
        obtain ⟨A, a1, a2, a3, a4, a5⟩ := f.good j v hjd hjF hv
        exact ⟨A, by rw [hset, if_neg e]; exact a1, a2, a3, a4, fun c hc => ⟨List.mem_append_left _ (a5 c hc).1, (a5 c hc).2⟩⟩
    · rw [hset] at hA hB
      have inU : ∀ (j : Nat) A, j ∈ d ++ [i] → j ∉ F → j ≠ i → out[j]? = some A → ∀ c ∈ A.flatten, c ∈ U := fun j A hj hjF e hA c hcA => by
        have hjd : j ∈ d := by
          rcases List.mem_append.1 hj with h1 | h1
          · exact h1
          · exact absurd (by simpa using h1) e
        have hjl : j < t.length := by have := dO hA; rw [f.len] at this; exact this
        obtain ⟨A', a1, _, _, _, a5⟩ := f.good j _ hjd hjF (List.getElem?_eq_getElem hjl)
        rw [hA] at a1; injection a1 with a1; subst a1
        exact (a5 c hcA).1
      by_cases e1 : j = i
      · rw [if_pos e1] at hA; injection hA with hA; subst hA
        have e2 : k ≠ i := fun h => hne (e1.trans h.symm)
        rw [if_neg e2] at hB
        exact (cellsX c hcA).1 (List.mem_append_left _ (inU k B hk hkF e2 hB c hcB))
      · rw [if_neg e1] at hA
        by_cases e2 : k = i
        · rw [if_pos e2] at hB; injection hB with hB; subst hB
          exact (cellsX c hcB).1 (List.mem_append_left _ (inU j A hj hjF e1 hA c hcA))
        · rw [if_neg e2] at hB
          have mem : ∀ m, m ∈ d ++ [i] → m ≠ i → m ∈ d := fun m hm hmi => by
            rcases List.mem_append.1 hm with h1 | h1
            · exact h1
            · exact absurd (by simpa using h1) hmi
          exact f.apart j k A B (mem j hj e1) (mem k hk e2) hjF hkF hne hA hB c hcA hcB
  | @bad d U out F i u W h hu hT ih =>
    intro hnd
    rw [List.nodup_append] at hnd
    have f := ih hnd.1
    have hid : i ∉ d := fun hi => hnd.2.2 i hi i (by simp) rfl
    have mem : ∀ m, m ∈ d ++ [i] → m ∉ F ++ [i] → m ∈ d ∧ m ∉ F := fun m hm hmF => by
      rcases List.mem_append.1 hm with h1 | h1
      · exact ⟨h1, fun h2 => hmF (List.mem_append_left _ h2)⟩
      · exact absurd (List.mem_append_right _ h1) hmF
    refine ⟨f.len, fun j hj => ?_, ?_, f.uin, fun c hc j v hj hv => f.upin c hc j v (fun h => hj (List.mem_append_left _ h)) hv, fun j v hj hjF hv => ?_, fun j k A B hj hk hjF hkF => ?_⟩
    · rcases List.mem_append.1 hj with h1 | h1
      · exact List.mem_append_left _ (f.fsub j h1)
      · exact List.mem_append_right _ h1
    · rw [List.nodup_append]
      refine ⟨f.fnd, by simp, fun a ha b hb => ?_⟩
      have : b = i := by simpa using hb
      rw [this]; exact fun h => hid (h ▸ f.fsub a ha)
    · obtain ⟨h1, h2⟩ := mem j hj hjF
      exact f.good j v h1 h2 hv
    · obtain ⟨h1, h2⟩ := mem j hj hjF
      obtain ⟨h3, h4⟩ := mem k hk hkF
      exact f.apart j k A B h1 h3 h2 h4
end Go.Proofs.YtfjcgoiedlimdaaGreatDoor
