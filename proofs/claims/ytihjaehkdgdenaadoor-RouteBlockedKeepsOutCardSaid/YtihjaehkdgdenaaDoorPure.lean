/- Chapter texts of ours, as far as the claim needs them. -/
import Derived.Test.YtihjaehkdgdenaaDoorEqs
namespace Go.Proofs.YtihjaehkdgdenaaDoor
open Go Go.RowKit
set_option linter.unusedVariables false
set_option linter.unusedSectionVars false
set_option linter.unusedSimpArgs false
@[simp] theorem cnd_true {A B : Prop} : cnd true A B ↔ A := ⟨fun h => h.1 rfl, fun h => ⟨fun _ => h, fun e => by cases e⟩⟩
@[simp] theorem cnd_false {A B : Prop} : cnd false A B ↔ B := ⟨fun h => h.2 rfl, fun h => ⟨fun e => (by cases e), fun _ => h⟩⟩
theorem cnd_iff {b : Bool} {A B : Prop} : cnd b A B ↔ if b = true then A else B := by cases b <;> simp
theorem cnd_of {b : Bool} {A B : Prop} (ht : b = true → A) (hf : b = false → B) : cnd b A B := ⟨ht, hf⟩
theorem cnd_mono {b : Bool} {A B A' B' : Prop} (h : cnd b A B) (ha : A → A') (hb : B → B') : cnd b A' B' := ⟨fun e => ha (h.1 e), fun e => hb (h.2 e)⟩
theorem idx_nat {α : Type} {xs : List α} {i : Nat} {k : α → Prop} {x : α} (hx : xs[i]? = some x) (h : k x) : idx xs (i : Int) k := ⟨Int.natCast_nonneg _, x, hx, h⟩
theorem getD_of {α : Type} [Inhabited α] {xs : List α} {i : Nat} {x : α} (h : xs[i]? = some x) : xs.getD i default = x := by rw [List.getD_eq_getElem?_getD, h]; rfl
theorem forIn0 {α σ : Type} {body : Nat → α → σ → (σ → Prop) → Prop} {done : σ → Prop} (I : Nat → σ → Prop) {l : List α} {s : σ} (h0 : I 0 s)
    (step : ∀ k x s, l[k]? = some x → I k s → ∀ next : σ → Prop, (∀ s', I (k + 1) s' → next s') → body k x s next) (hd : ∀ s, I l.length s → done s) : forIn' body done l 0 s :=
  forIn'_intro I l 0 s h0 (fun j x s hj hI next hn => by
    rw [Nat.zero_add] at hI ⊢
    exact step j x s hj hI next (fun s' h => hn s' (by rw [Nat.zero_add]; exact h))) (fun s hI => hd s (by rw [Nat.zero_add] at hI; exact hI))
theorem w64_id {n : Int} (h1 : -9223372036854775808 ≤ n) (h2 : n ≤ 9223372036854775807) : w64 n = n := by
  show IntKind.i64.wrap n = n
  rw [IntKind.wrap_i64]; omega
theorem room_of {n bytes : Nat} (h : n * bytes ≤ 140737488355328) (hb : 0 < bytes) : room n bytes := ⟨by have := Nat.le_mul_of_pos_right n hb; omega, h⟩
class Fits (α : Type) where
  fits : α → Prop
instance instFitsInt : Fits Int := ⟨fun _ => True⟩
instance instFitsBool : Fits Bool := ⟨fun _ => True⟩
instance instFitsStr : Fits Str := ⟨fun s => s.length ≤ 9223372036854775807⟩
instance instFitsList {α : Type} [Fits α] : Fits (List α) := ⟨fun l => ∀ x ∈ l, Fits.fits x⟩
end Go.Proofs.YtihjaehkdgdenaaDoor
