/- Chapter texts of ours, as far as the claim needs them. -/
import Derived.Test.YtihjaehkdgdenaaRuA
namespace Go.Proofs.Ytihjaehkdgdenaa
open Go Go.RowKit
set_option linter.unusedVariables false
set_option linter.unusedSimpArgs false
section
variable {g : Grid} {c : Costs} {pins : List Cell}
theorem Kis.eq {G : Gr} {T T2 : List Nat} {n : Nat} {d d2 : Int} (h : Kis G T n d) (h2 : Kis G T2 n d2) (hT : ∀ a, a ∈ T ↔ a ∈ T2) : d = d2 :=
  Gr.IsMin.eq h h2 (fun c m => ⟨fun ⟨a, ha, hw⟩ => ⟨a, (hT a).1 ha, hw⟩, fun ⟨a, ha, hw⟩ => ⟨a, (hT a).2 ha, hw⟩⟩)
theorem TPick.eq {T T2 : List Nat} {i i2 : Nat} {p p2 : Cell} {d d2 : Int} (h : TPick g c pins T i p d) (h2 : TPick g c pins T2 i2 p2 d2) (hT : ∀ a, a ∈ T ↔ a ∈ T2) : i = i2 ∧ p = p2 ∧ d = d2 := by
  have mv : ∀ {T T2 : List Nat} {n : Nat} {K : Int}, (∀ a, a ∈ T ↔ a ∈ T2) → Kis (grC g c) T n K → Kis (grC g c) T2 n K := fun hT hk => by
    rcases hk with ⟨e, h1⟩ | ⟨h0, ⟨a1, m, ⟨a, ha, hw⟩, h3⟩, h4⟩
    · exact .inl ⟨e, fun c m ⟨a, ha, hw⟩ => h1 c m ⟨a, (hT a).2 ha, hw⟩⟩
    · exact .inr ⟨h0, ⟨a1, m, ⟨a, (hT a).1 ha, hw⟩, h3⟩, fun c m ⟨a, ha, hw⟩ => h4 c m ⟨a, (hT a).2 ha, hw⟩⟩
  have a1 := h.least i2 p2 d2 h2.at_ (fun hm => h2.out ((hT _).1 hm)) (mv (fun a => (hT a).symm) h2.key) h2.pos
  have a2 := h2.least i p d h.at_ (fun hm => h.out ((hT _).2 hm)) (mv hT h.key) h.pos
  have hi : i = i2 := by
    rcases Nat.lt_trichotomy i i2 with h3 | h3 | h3
    · have := a2.2 h3; omega
    · exact h3
    · have := a1.2 h3; omega
  subst hi
  have hp : p = p2 := by have := h.at_.symm.trans h2.at_; injection this
  subst hp
  exact ⟨rfl, rfl, h.key.eq h2.key hT⟩
theorem TWay.eq {T T2 : List Nat} {p : Cell} {d : Int} {keys keys2 : List Int} {start start2 : Nat} {l l2 T' T2' : List Nat} (h : TWay g c T p d keys start l T') (h2 : TWay g c T2 p d keys2 start2 l2 T2') (hT : ∀ a, a ∈ T ↔ a ∈ T2) : start = start2 ∧ l = l2 ∧ ∀ a, a ∈ T' ↔ a ∈ T2' := by
  have hk : keys = keys2 := h.goal.least.uniq h2.goal.least
  subst hk
  have hs : start = start2 := Nat.le_antisymm (h.first start2 ((hT _).2 h2.mem) h2.key) (h2.first start ((hT _).1 h.mem) h.key)
  subst hs
  have hl := h.goes.det h2.goes
  subst hl
  exact ⟨rfl, rfl, fun a => by rw [h.iff, h2.iff, hT]⟩
theorem TreeRun.det {T : List Nat} {W : List (List Cell)} {ok : Bool} (h : TreeRun g c pins T W ok) : ∀ {T2 : List Nat} {W2 : List (List Cell)} {ok2 : Bool}, TreeRun g c pins T2 W2 ok2 → (∀ a, a ∈ T ↔ a ∈ T2) → W = W2 ∧ ok = ok2 := by
  induction h with
  | done hd =>
    intro T2 W2 ok2 h2 hT
    cases h2 with
    | done _ => exact ⟨rfl, rfl⟩
    | fail hx _ => obtain ⟨p, hp, hn⟩ := hx; exact absurd ((hT _).1 (hd p hp)) hn
    | step hp _ _ => exact absurd ((hT _).1 (hd _ (List.mem_of_getElem? hp.at_))) hp.out
  | fail hx hall =>
    intro T2 W2 ok2 h2 hT
    cases h2 with
    | done hd => obtain ⟨p, hp, hn⟩ := hx; exact absurd ((hT _).2 (hd p hp)) hn
    | fail _ _ => exact ⟨rfl, rfl⟩
    | step hp _ _ =>
      have := (hall _ (List.mem_of_getElem? hp.at_) (fun hm => hp.out ((hT _).1 hm))).eq hp.key hT
      have := hp.pos; omega
  | step hp hw hr ih =>
    intro T2 W2 ok2 h2 hT
    cases h2 with
    | done hd => exact absurd ((hT _).2 (hd _ (List.mem_of_getElem? hp.at_))) hp.out
    | fail _ hall =>
      have := (hall _ (List.mem_of_getElem? hp.at_) (fun hm => hp.out ((hT _).2 hm))).eq hp.key (fun a => (hT a).symm)
      have := hp.pos; omega
    | step hp2 hw2 hr2 =>
      obtain ⟨e1, e2, e3⟩ := hp.eq hp2 hT
      subst e1; subst e2; subst e3
      obtain ⟨e4, e5, hT'⟩ := hw.eq hw2 hT
      subst e4; subst e5
      obtain ⟨e6, e7⟩ := ih hr2 hT'
      exact ⟨by rw [e6], e7⟩
def Conn (G : Gr) (a b : Nat) : Prop := ∃ c m, G.Way a b c m
theorem Conn.nb {G : Gr} {a b m : Nat} {al : Int} (h : Conn G a b) (hn : G.Nb b m al) (hm : G.no m = false) : Conn G a m := by
  obtain ⟨_, _, c0, L, hp, _⟩ := h
  exact ⟨_, _, _, _, hp.snoc hn hm, rfl⟩
theorem Goes.conn {G : Gr} {keys : List Int} {a s : Nat} {l : List Nat} (h : G.Goes keys s l) (hs : s < 3 * G.N) (hc : Conn G a (s / 3)) : ∀ t ∈ l, Conn G a (t / 3) := by
  induction h with
  | stop _ _ => intro t ht; cases ht
  | step hd h0 hp hg ih =>
    obtain ⟨he, _⟩ := Gr.pick_some hp
    obtain ⟨al, hnb, hm, _, _⟩ := Gr.E_on hs he
    have hc' := hc.nb hnb hm
    have := hnb.2.1
    intro u hu
    rcases List.mem_cons.1 hu with hu | hu
    · subst hu; exact hc'
    · exact ih (by omega) hc' u hu
theorem TreeRun.conn (hg : GOk g) {T : List Nat} {W : List (List Cell)} {ok : Bool} (h : TreeRun g c pins T W ok) {a : Nat} (hT : ∀ n ∈ T, n < (grG g).N ∧ Conn (grC g c) a n) (hok : ok = true) : ∀ p ∈ pins, Conn (grC g c) a (numN g p) := by
  induction h with
  | done hd => intro p hp; exact (hT _ (hd p hp)).2
  | fail _ _ => cases hok
  | @step T T' i p d keys start l W ok hp hw hr ih =>
    refine ih (fun n hn => ⟨(hw.free n hn).1, ?_⟩) hok
    rcases (hw.iff n).1 hn with h1 | h1
    · exact (hT n h1).2
    · obtain ⟨t, ht, rfl⟩ := List.mem_map.1 h1
      have hs := hT _ hw.mem
      have hs1 : 3 * start < 3 * (grC g c).N := Nat.mul_lt_mul_of_pos_left hs.1 (by decide)
      have hsc : Conn (grC g c) a (3 * start / 3) := by rw [Nat.mul_div_cancel_left _ (by decide : 0 < 3)]; exact hs.2
      rcases List.mem_cons.1 ht with ht | ht
      · subst ht; exact hsc
      · exact Goes.conn hw.goes hs1 hsc t ht
end
end Go.Proofs.Ytihjaehkdgdenaa
