/- Chapter texts of ours, as far as the claim needs them. -/
import Derived.Test.YtihjaehkdgdenaaPure
import Derived.ProofKit
import Derived.OpenShut
import Derived.Deep.Slices
import Derived.ChangeSame
namespace Go.Proofs.Ytihjaehkdgdenaa
open Go Go.RowKit Go.ChangeShapes Go.WideShapes
set_option linter.unusedVariables false
def below (w : World) : Nat → Prop := fun b => b < w.heap.size
def Dat (P : Program) (t : TypeId) (α : Type) [Rep α] [Fits α] : Prop :=
  ∀ {H : Type} {enc : TypeId × Value → H} {w : World} {base : Nat} {spare : Nat → Bool} {held : Bool} {fuel : Nat} {cs : List Value} {x : DataW H × List MemPlace},
    DataW.trod enc P w base spare held fuel t cs = some x → ∃ y : α, Rep.rd w (below w) cs y ∧ Fits.fits y
section
variable {P : Program}
theorem dat_int {t : TypeId} (ht : P.underlying t = some (.int .i64)) : Dat P t Int := fun h => by
  obtain ⟨n, hc, _⟩ := DataW.trod_int ht h
  exact ⟨n, hc, trivial⟩
theorem dat_slice {t e : TypeId} {α : Type} [Rep α] [Fits α] (ht : P.underlying t = some (.slice e)) (hC : P.cellsOf e = Rep.sz α) (he : Dat P e α) : Dat P t (List α) := fun {H enc w base spare held fuel cs x} h => by
  rcases Go.Deep.open_slice ht h with ⟨hcs, _⟩ | ⟨a, len, cap, m, n, D, Pl, hcs, hb, hl, hm, hmm, _, hi⟩
  · exact ⟨[], ⟨none, 0, hcs, View.nil _ _⟩, fun x hx => by simp at hx⟩
  · have hlm : len ≤ m := by rw [hmm]; split <;> omega
    have each : ∀ i, i < len → ∃ y : α, ∃ cs', (∀ j v, cs'[j]? = some v → w.cell? (a.add (i * Rep.sz α + j)) = some v) ∧ Rep.rd w (below w) cs' y ∧ cs'.length = Rep.sz α ∧ Fits.fits y := fun i hil => by
      obtain ⟨cs', hc, ht'⟩ := hi i (by omega)
      obtain ⟨y, hy, hfy⟩ := he ht'
      obtain ⟨_, hlen, hat⟩ := World.cells?_some hc
      refine ⟨y, cs', fun j v hv => ?_, hy, by rw [hlen, hC], hfy⟩
      have hj : j < P.cellsOf e := by rw [← hlen]; exact (List.getElem?_eq_some_iff.1 hv).1
      have := hat j hj
      rw [add_add', hC] at this
      rw [this, hv]
    have pick : ∃ ys : List α, ys.length = len ∧ ∀ i y, ys[i]? = some y → ∃ cs', (∀ j v, cs'[j]? = some v → w.cell? (a.add (i * Rep.sz α + j)) = some v) ∧ Rep.rd w (below w) cs' y ∧ cs'.length = Rep.sz α ∧ Fits.fits y := by
      have : ∀ k, k ≤ len → ∃ ys : List α, ys.length = k ∧ ∀ i y, ys[i]? = some y → ∃ cs', (∀ j v, cs'[j]? = some v → w.cell? (a.add (i * Rep.sz α + j)) = some v) ∧ Rep.rd w (below w) cs' y ∧ cs'.length = Rep.sz α ∧ Fits.fits y := by
        intro k
        induction k with
        | zero => exact fun _ => ⟨[], rfl, fun i y h => by simp at h⟩
        | succ k ih =>
          intro hk
          obtain ⟨ys, hl, hys⟩ := ih (by omega)
          obtain ⟨y, hy⟩ := each k (by omega)
          refine ⟨ys ++ [y], by simp [hl], fun i z hz => ?_⟩
          rcases Nat.lt_or_ge i ys.length with hlt | hge
          · rw [List.getElem?_append_left hlt] at hz; exact hys i z hz
          · rw [List.getElem?_append_right hge] at hz
            have : i - ys.length = 0 := by have := lt_of_get hz; simp at this; omega
            rw [this] at hz; simp at hz; subst hz
            have : i = k := by omega
            subst this; exact hy
      exact this len (Nat.le_refl _)
    obtain ⟨ys, hyl, hys⟩ := pick
    refine ⟨ys, ⟨some a, cap, by rw [hyl]; exact hcs, by rw [hyl]; exact hl, hm, fun i y hy => ?_⟩, fun y hy => ?_⟩
    rotate_left
    · obtain ⟨i, hi⟩ := List.getElem?_of_mem hy
      obtain ⟨_, _, _, _, hf⟩ := hys i y hi
      exact hf
    obtain ⟨cs', hcell, hrd, hlen, _⟩ := hys i y hy
    have hpos : 0 < Rep.sz α := Rep.pos
    obtain ⟨v, hv⟩ : ∃ v, cs'[0]? = some v := ⟨cs'[0]'(by omega), List.getElem?_eq_getElem (by omega)⟩
    have hblk := World.block_lt_of_cell? w _ (hcell 0 v hv)
    rw [block_add] at hblk
    exact ⟨cs', ⟨a, rfl, hblk, hcell⟩, hrd⟩
theorem slice_cat {cs a b : List Value} {k m n : Nat} (h1 : (cs.drop k).take m = a) (h2 : (cs.drop (k + m)).take n = b) : (cs.drop k).take (m + n) = a ++ b := by
  rw [List.take_add, h1, List.drop_drop, h2]
theorem law_post {H : Type} {enc : TypeId × Value → H} {f : Func} {s : ChangeSpec} {W W' : World} {args : Array Value} {ds gs : List (DataW H)} {before p : List MemPlace} {tb : TypeId}
    (hl : laidOutB P = true) (hrec : ∀ t ∈ f.params.toList, P.readableRec t = true ∧ t < P.types.size)
    (hW : DataW.Whole enc P f.params.toList s.vars false W args.toList ds gs before) (hA : DataW.TrodAll enc P W 0 (fun _ => true) true f.params.toList args.toList ds p) (hbp : before = p) (hvars : s.vars = []) (hgs : gs = [])
    (hres : (s.fn H (ds ++ gs)).results = [.lit (.bool true)]) (hargs : (s.fn H (ds ++ gs)).args = ds) (hv : (s.fn H (ds ++ gs)).vars = [])
    (hft : f.resultTypes = #[tb]) (htb : P.underlying tb = some .bool) (hs : Sat W none_ [] W') :
    s.post enc P f false true false false W args (.bool true) W' := by
  have hb : Below W.heap.size W W' := hs.keeps.below
  subst hbp
  have hlt : ∀ q ∈ before, q.block < W.heap.size := fun q hq => hW.lt q hq
  have stays : ∀ (sp : Nat → Bool), (∀ q ∈ before, sp q.block = true) → DataW.TrodAll enc P W' 0 sp true f.params.toList args.toList ds before := by
    intro sp hsp
    have key : ∀ (ts : List TypeId) (vs : List Value) (ds : List (DataW H)) (ps : List MemPlace), (∀ t ∈ ts, P.readableRec t = true ∧ t < P.types.size) → (∀ q ∈ ps, q.block < W.heap.size ∧ sp q.block = true) → DataW.TrodAll enc P W 0 (fun _ => true) true ts vs ds ps → DataW.TrodAll enc P W' 0 sp true ts vs ds ps := by
      intro ts
      induction ts with
      | nil => intro vs ds ps _ _ h; cases vs <;> cases ds <;> exact h
      | cons t ts ih =>
        intro vs ds ps ht hps h
        cases vs with
        | nil => cases ds <;> exact h
        | cons v vs =>
          cases ds with
          | nil => exact h
          | cons d ds =>
            obtain ⟨a, b, h1, h2, rfl⟩ := h
            refine ⟨a, b, ?_, ih vs ds b (fun t' h' => ht t' (List.mem_cons_of_mem _ h')) (fun q hq => hps q (List.mem_append_right _ hq)) h2, rfl⟩
            have := ht t (List.mem_cons_self ..)
            exact WideElems.Trod_stays hl this.1 this.2 h1 (fun x hx => hb.same (hps x (List.mem_append_left _ hx)).1) (fun x hx => (hps x (List.mem_append_left _ hx)).2)
    exact key _ _ _ _ hrec (fun q hq => ⟨hlt q hq, hsp q hq⟩) hA
  have hres' : ∀ (b : Nat) (sp : Nat → Bool) (hd : Bool), DataW.TrodAll enc P W' b sp hd f.resultTypes.toList ((Value.bool true).resultList f.resultTypes.size) (s.fn H (ds ++ gs)).results [] := fun b sp hd => by
    rw [hft, hres]
    exact trodAll_mk1 (shut_bool htb true)
  have hold : ∀ q ∈ before, (fun b => decide (b < W.heap.size)) q.block = true := fun q hq => by simpa using hlt q hq
  refine ⟨ds, gs, before, [], before, [], hW, hres' _ _ _, by rw [hargs]; exact stays _ hold, by rw [hvars, hv]; exact rfl, World.keptBut_mono (fun q hq => ⟨hq, ?_⟩) (hb.frame (· ∈ before)), fun h => by cases h⟩
  exact Or.inr (Or.inl hq)
end
end Go.Proofs.Ytihjaehkdgdenaa
