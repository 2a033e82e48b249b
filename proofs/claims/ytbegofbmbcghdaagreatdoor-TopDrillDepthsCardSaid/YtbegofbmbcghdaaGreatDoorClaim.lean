/- Chapter texts of ours, as far as the claim needs them. -/
import Derived.Test.YtbegofbmbcghdaaGreatDoorPure
import Derived.ProofKit
import Derived.OpenShut
import Derived.Deep.Slices
import Derived.ChangeSame
namespace Go.Proofs.YtbegofbmbcghdaaGreatDoor
open Go Go.RowKit Go.ChangeShapes Go.WideShapes
set_option linter.unusedVariables false
set_option linter.unusedSectionVars false
set_option linter.unusedSimpArgs false
def below (w : World) : Nat → Prop := fun b => b < w.heap.size
section
variable {P : Program}
theorem fM {cs a b : List Value} {k m n : Nat} (h1 : (cs.drop k).take m = a) (h2 : (cs.drop (k + m)).take n = b) : (cs.drop k).take (m + n) = a ++ b := by
  rw [List.take_add, h1, List.drop_drop, h2]
theorem P6 {H : Type} {enc : TypeId × Value → H} {f : Func} {s : ChangeSpec} {W W' : World} {args : Array Value} {ds gs : List (DataW H)} {before p : List MemPlace} {tb : TypeId}
    (hl : laidOutB P = true) (hrec : ∀ t ∈ f.params.toList, P.readableRec t = true ∧ t < P.types.size)
    (hW : DataW.Whole enc P f.params.toList s.vars false W args.toList ds gs before) (hA : DataW.TrodAll enc P W 0 (fun _ => true) true f.params.toList args.toList ds p) (hbp : before = p) (hvars : s.vars = []) (hgs : gs = [])
    (hres : (s.fn H (ds ++ gs)).results = [.lit (.bool true)]) (hargs : (s.fn H (ds ++ gs)).args = ds) (hv : (s.fn H (ds ++ gs)).vars = [])
    (hft : f.resultTypes = #[tb]) (htb : P.underlying tb = some .bool) (hs : Sat W none_ [] W') :
    s.post enc P f false true false false W args (.bool true) W' := by
  have hb : Below W.heap.size W W' := hs.keeps.below
  subst hbp
  have hlt : ∀ q ∈ before, q.block < W.heap.size := fun q hq => hW.lt q hq
  have stays : ∀ (sp : Nat → Bool), (∀ q ∈ before, sp q.block = true) → DataW.TrodAll enc P W' 0 sp true f.params.toList args.toList ds before := by
    intro sp hsp
    have key : ∀ (ts : List TypeId) (vs : List Value) (ds : List (DataW H)) (ps : List MemPlace), (∀ t ∈ ts, P.readableRec t = true ∧ t < P.types.size) → (∀ q ∈ ps, q.block < W.heap.size ∧ sp q.block = true) → DataW.TrodAll enc P W 0 (fun _ => true) true ts vs ds ps → DataW.TrodAll enc P W' 0 sp true ts vs ds ps := by
      intro ts
      induction ts with
      | nil => intro vs ds ps _ _ h; cases vs <;> cases ds <;> exact h
      | cons t ts ih =>
        intro vs ds ps ht hps h
        cases vs with
        | nil => cases ds <;> exact h
        | cons v vs =>
          cases ds with
          | nil => exact h
          | cons d ds =>
            obtain ⟨a, b, h1, h2, rfl⟩ := h
            refine ⟨a, b, ?_, ih vs ds b (fun t' h' => ht t' (List.mem_cons_of_mem _ h')) (fun q hq => hps q (List.mem_append_right _ hq)) h2, rfl⟩
            have := ht t (List.mem_cons_self ..)
            exact WideElems.Trod_stays hl this.1 this.2 h1 (fun x hx => hb.same (hps x (List.mem_append_left _ hx)).1) (fun x hx => (hps x (List.mem_append_left _ hx)).2)
    exact key _ _ _ _ hrec (fun q hq => ⟨hlt q hq, hsp q hq⟩) hA
  have hres' : ∀ (b : Nat) (sp : Nat → Bool) (hd : Bool), DataW.TrodAll enc P W' b sp hd f.resultTypes.toList ((Value.bool true).resultList f.resultTypes.size) (s.fn H (ds ++ gs)).results [] := fun b sp hd => by
    rw [hft, hres]
    exact trodAll_mk1 (shut_bool htb true)
  have hold : ∀ q ∈ before, (fun b => decide (b < W.heap.size)) q.block = true := fun q hq => by simpa using hlt q hq
  refine ⟨ds, gs, before, [], before, [], hW, hres' _ _ _, by rw [hargs]; exact stays _ hold, by rw [hvars, hv]; exact rfl, World.keptBut_mono (fun q hq => ⟨hq, ?_⟩) (hb.frame (· ∈ before)), fun h => by cases h⟩
  exact Or.inr (Or.inl hq)
end
end Go.Proofs.YtbegofbmbcghdaaGreatDoor
