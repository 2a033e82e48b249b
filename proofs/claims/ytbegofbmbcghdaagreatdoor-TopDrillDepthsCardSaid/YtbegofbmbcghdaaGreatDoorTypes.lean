/- Chapter texts of ours, as far as the claim needs them. -/
import Derived.Test.YtbegofbmbcghdaaGreatDoorStrs
import Derived.Test.YtbegofbmbcghdaaGreatDoorBytes
import Derived.Test.YtbegofbmbcghdaaGreatDoorKept
import Derived.Test.YtbegofbmbcghdaaGreatDoorProg
import Derived.KernelRfl
namespace Go.Proofs.YtbegofbmbcghdaaGreatDoor
open Go Go.RowKit
set_option linter.unusedVariables false
set_option linter.unusedSectionVars false
set_option linter.unusedSimpArgs false
structure Part where
  Name : Str
  Typ : Str
instance : DecidableEq Part := fun a b => decidable_of_iff (a.Name = b.Name ∧ a.Typ = b.Typ) (by cases a; cases b; simp)
instance : Inhabited Part := ⟨⟨default, default⟩⟩
instance : Fits Part := ⟨fun x => Fits.fits x.Name ∧ Fits.fits x.Typ⟩
instance : Bulk Part := ⟨fun x => Bulk.bk x.Name + (Bulk.bk x.Typ + 1), fun x => by first | exact Nat.le_add_left _ _ | omega⟩
instance : Flat Part := ⟨2, by decide, fun x => [.string (ba x.Name), .string (ba x.Typ)], fun _ => rfl, fun _ v hv => by simp only [List.mem_cons, List.not_mem_nil, or_false] at hv; rcases hv with rfl | rfl <;> rfl⟩
structure Pin where
  Part : Str
  Pin : Str
instance : DecidableEq Pin := fun a b => decidable_of_iff (a.Part = b.Part ∧ a.Pin = b.Pin) (by cases a; cases b; simp)
instance : Inhabited Pin := ⟨⟨default, default⟩⟩
instance : Fits Pin := ⟨fun x => Fits.fits x.Part ∧ Fits.fits x.Pin⟩
instance : Bulk Pin := ⟨fun x => Bulk.bk x.Part + (Bulk.bk x.Pin + 1), fun x => by first | exact Nat.le_add_left _ _ | omega⟩
instance : Flat Pin := ⟨2, by decide, fun x => [.string (ba x.Part), .string (ba x.Pin)], fun _ => rfl, fun _ v hv => by simp only [List.mem_cons, List.not_mem_nil, or_false] at hv; rcases hv with rfl | rfl <;> rfl⟩
structure Net where
  Name : Str
  Pins : (List Pin)
  Ports : (List Str)
instance : DecidableEq Net := fun a b => decidable_of_iff (a.Name = b.Name ∧ a.Pins = b.Pins ∧ a.Ports = b.Ports) (by cases a; cases b; simp)
instance : Inhabited Net := ⟨⟨default, default, default⟩⟩
instance : Fits Net := ⟨fun x => Fits.fits x.Name ∧ Fits.fits x.Pins ∧ Fits.fits x.Ports⟩
instance : Bulk Net := ⟨fun x => Bulk.bk x.Name + (Bulk.bk x.Pins + (Bulk.bk x.Ports + 1)), fun x => by first | exact Nat.le_add_left _ _ | omega⟩
instance : Rep Net := ⟨3, by decide, fun w F cs x => ∃ (uPinsA : Option Addr) (uPinsC : Nat) (uPortsA : Option Addr) (uPortsC : Nat), cs = [.string (ba x.Name), .slice uPinsA x.Pins.length uPinsC, .slice uPortsA x.Ports.length uPortsC] ∧ View w F uPinsA uPinsC x.Pins ∧ View w F uPortsA uPortsC x.Ports,
  fun ⟨_, _, _, _, h, _, _⟩ => by rw [h]; rfl, fun ⟨uPinsA, uPinsC, uPortsA, uPortsC, h, h0, h1⟩ hF => ⟨uPinsA, uPinsC, uPortsA, uPortsC, h, h0.mono hF, h1.mono hF⟩⟩
structure qH where
  Parts : (List Part)
  Nets : (List Net)
instance : DecidableEq qH := fun a b => decidable_of_iff (a.Parts = b.Parts ∧ a.Nets = b.Nets) (by cases a; cases b; simp)
instance : Inhabited qH := ⟨⟨default, default⟩⟩
instance : Fits qH := ⟨fun x => Fits.fits x.Parts ∧ Fits.fits x.Nets⟩
instance : Bulk qH := ⟨fun x => Bulk.bk x.Parts + (Bulk.bk x.Nets + 1), fun x => by first | exact Nat.le_add_left _ _ | omega⟩
instance : Rep qH := ⟨2, by decide, fun w F cs x => ∃ (uPartsA : Option Addr) (uPartsC : Nat) (uNetsA : Option Addr) (uNetsC : Nat), cs = [.slice uPartsA x.Parts.length uPartsC, .slice uNetsA x.Nets.length uNetsC] ∧ View w F uPartsA uPartsC x.Parts ∧ View w F uNetsA uNetsC x.Nets,
  fun ⟨_, _, _, _, h, _, _⟩ => by rw [h]; rfl, fun ⟨uPartsA, uPartsC, uNetsA, uNetsC, h, h0, h1⟩ hF => ⟨uPartsA, uPartsC, uNetsA, uNetsC, h, h0.mono hF, h1.mono hF⟩⟩
structure gm where
  X0 : Int
  Y0 : Int
  X1 : Int
  Y1 : Int
instance : DecidableEq gm := fun a b => decidable_of_iff (a.X0 = b.X0 ∧ a.Y0 = b.Y0 ∧ a.X1 = b.X1 ∧ a.Y1 = b.Y1) (by cases a; cases b; simp)
instance : Inhabited gm := ⟨⟨default, default, default, default⟩⟩
instance : Fits gm := ⟨fun x => Fits.fits x.X0 ∧ Fits.fits x.Y0 ∧ Fits.fits x.X1 ∧ Fits.fits x.Y1⟩
instance : Bulk gm := ⟨fun x => Bulk.bk x.X0 + (Bulk.bk x.Y0 + (Bulk.bk x.X1 + (Bulk.bk x.Y1 + 1))), fun x => by first | exact Nat.le_add_left _ _ | omega⟩
instance : Flat gm := ⟨4, by decide, fun x => [.int .i64 x.X0, .int .i64 x.Y0, .int .i64 x.X1, .int .i64 x.Y1], fun _ => rfl, fun _ v hv => by simp only [List.mem_cons, List.not_mem_nil, or_false] at hv; rcases hv with rfl | rfl | rfl | rfl <;> rfl⟩
structure jC where
  Name : Str
  Rects : (List gm)
instance : DecidableEq jC := fun a b => decidable_of_iff (a.Name = b.Name ∧ a.Rects = b.Rects) (by cases a; cases b; simp)
instance : Inhabited jC := ⟨⟨default, default⟩⟩
instance : Fits jC := ⟨fun x => Fits.fits x.Name ∧ Fits.fits x.Rects⟩
instance : Bulk jC := ⟨fun x => Bulk.bk x.Name + (Bulk.bk x.Rects + 1), fun x => by first | exact Nat.le_add_left _ _ | omega⟩
instance : Rep jC := ⟨2, by decide, fun w F cs x => ∃ (uRectsA : Option Addr) (uRectsC : Nat), cs = [.string (ba x.Name), .slice uRectsA x.Rects.length uRectsC] ∧ View w F uRectsA uRectsC x.Rects,
  fun ⟨_, _, h, _⟩ => by rw [h]; rfl, fun ⟨uRectsA, uRectsC, h, h0⟩ hF => ⟨uRectsA, uRectsC, h, h0.mono hF⟩⟩
structure Point where
  X : Int
  Y : Int
instance : DecidableEq Point := fun a b => decidable_of_iff (a.X = b.X ∧ a.Y = b.Y) (by cases a; cases b; simp)
instance : Inhabited Point := ⟨⟨default, default⟩⟩
instance : Fits Point := ⟨fun x => Fits.fits x.X ∧ Fits.fits x.Y⟩
instance : Bulk Point := ⟨fun x => Bulk.bk x.X + (Bulk.bk x.Y + 1), fun x => by first | exact Nat.le_add_left _ _ | omega⟩
instance : Flat Point := ⟨2, by decide, fun x => [.int .i64 x.X, .int .i64 x.Y], fun _ => rfl, fun _ v hv => by simp only [List.mem_cons, List.not_mem_nil, or_false] at hv; rcases hv with rfl | rfl <;> rfl⟩
structure fK where
  Kind : Int
  Name : Str
  At : Point
  Points : (List Point)
  NX : Int
  NY : Int
  Steps : (List fK)
instance : Inhabited fK := ⟨⟨default, default, default, [], default, default, []⟩⟩
instance : Fits fK := ⟨fun _ => True⟩
instance : Bulk fK := ⟨fun _ => 1, fun _ => Nat.le_refl _⟩
inductive fK.Rd (w : World) (F : Nat → Prop) : List Value → fK → Prop
  | mk (x : fK) (uPointsA : Option Addr) (uPointsC : Nat) (uStepsA : Option Addr) (uStepsC : Nat) (hPoints : View w F uPointsA uPointsC x.Points) (hSteps : x.Steps.length ≤ uStepsC) (mSteps : uStepsC ≤ maxLen) (cssSteps : Nat → List Value) (eSteps : ∀ (i : Nat) (y : fK), x.Steps[i]? = some y → iW w F uStepsA (i * 8) (cssSteps i)) (rSteps : ∀ (i : Nat) (y : fK), x.Steps[i]? = some y → Rd w F (cssSteps i) y) : Rd w F [.int .i64 x.Kind, .string (ba x.Name), .int .i64 x.At.X, .int .i64 x.At.Y, .slice uPointsA x.Points.length uPointsC, .int .i64 x.NX, .int .i64 x.NY, .slice uStepsA x.Steps.length uStepsC] x
theorem fK.Rd.len {w : World} {F : Nat → Prop} {cs : List Value} {x : fK} (h : fK.Rd w F cs x) : cs.length = 8 := by cases h; rfl
theorem fK.Rd.mono {w w' : World} {F F' : Nat → Prop} {cs : List Value} {x : fK} (h : fK.Rd w F cs x) (hF : ∀ b, F b → F' b ∧ w'.heap[b]? = w.heap[b]?) : fK.Rd w' F' cs x := by
  induction h with
  | mk x uPointsA uPointsC uStepsA uStepsC hPoints hSteps mSteps cssSteps eSteps rSteps ihSteps => exact .mk x uPointsA uPointsC uStepsA uStepsC (hPoints.mono hF) hSteps mSteps cssSteps (fun i y hy => (eSteps i y hy).mono hF) (fun i y hy => ihSteps i y hy)
instance : Rep fK := ⟨8, by decide, fK.Rd, fK.Rd.len, fK.Rd.mono⟩
theorem BM {w : World} {F : Nat → Prop} {cs : List Value} {x : fK} (h : Rep.rd w F cs x) : ∃ (uPointsA : Option Addr) (uPointsC : Nat) (uStepsA : Option Addr) (uStepsC : Nat), cs = [.int .i64 x.Kind, .string (ba x.Name), .int .i64 x.At.X, .int .i64 x.At.Y, .slice uPointsA x.Points.length uPointsC, .int .i64 x.NX, .int .i64 x.NY, .slice uStepsA x.Steps.length uStepsC] ∧ View w F uPointsA uPointsC x.Points ∧ View w F uStepsA uStepsC x.Steps := by
  cases h with
  | mk _ uPointsA uPointsC uStepsA uStepsC hPoints hSteps mSteps cssSteps eSteps rSteps => exact ⟨_, _, _, _, rfl, hPoints, ⟨hSteps, mSteps, fun i y hy => ⟨_, eSteps i y hy, rSteps i y hy⟩⟩⟩
structure qG where
  Unit : Int
  Tools : (List jC)
  Steps : (List fK)
instance : Inhabited qG := ⟨⟨default, default, default⟩⟩
instance : Fits qG := ⟨fun x => Fits.fits x.Unit ∧ Fits.fits x.Tools ∧ Fits.fits x.Steps⟩
instance : Bulk qG := ⟨fun x => Bulk.bk x.Unit + (Bulk.bk x.Tools + (Bulk.bk x.Steps + 1)), fun x => by first | exact Nat.le_add_left _ _ | omega⟩
instance : Rep qG := ⟨3, by decide, fun w F cs x => ∃ (uToolsA : Option Addr) (uToolsC : Nat) (uStepsA : Option Addr) (uStepsC : Nat), cs = [.int .i64 x.Unit, .slice uToolsA x.Tools.length uToolsC, .slice uStepsA x.Steps.length uStepsC] ∧ View w F uToolsA uToolsC x.Tools ∧ View w F uStepsA uStepsC x.Steps,
  fun ⟨_, _, _, _, h, _, _⟩ => by rw [h]; rfl, fun ⟨uToolsA, uToolsC, uStepsA, uStepsC, h, h0, h1⟩ hF => ⟨uToolsA, uToolsC, uStepsA, uStepsC, h, h0.mono hF, h1.mono hF⟩⟩
structure nK where
  Name : Str
  Nets : (List Str)
  Clearance : Int
  Width : Int
instance : DecidableEq nK := fun a b => decidable_of_iff (a.Name = b.Name ∧ a.Nets = b.Nets ∧ a.Clearance = b.Clearance ∧ a.Width = b.Width) (by cases a; cases b; simp)
instance : Inhabited nK := ⟨⟨default, default, default, default⟩⟩
instance : Fits nK := ⟨fun x => Fits.fits x.Name ∧ Fits.fits x.Nets ∧ Fits.fits x.Clearance ∧ Fits.fits x.Width⟩
instance : Bulk nK := ⟨fun x => Bulk.bk x.Name + (Bulk.bk x.Nets + (Bulk.bk x.Clearance + (Bulk.bk x.Width + 1))), fun x => by first | exact Nat.le_add_left _ _ | omega⟩
instance : Rep nK := ⟨4, by decide, fun w F cs x => ∃ (uNetsA : Option Addr) (uNetsC : Nat), cs = [.string (ba x.Name), .slice uNetsA x.Nets.length uNetsC, .int .i64 x.Clearance, .int .i64 x.Width] ∧ View w F uNetsA uNetsC x.Nets,
  fun ⟨_, _, h, _⟩ => by rw [h]; rfl, fun ⟨uNetsA, uNetsC, h, h0⟩ hF => ⟨uNetsA, uNetsC, h, h0.mono hF⟩⟩
structure wO where
  Layer : Int
  Region : (List gm)
  Clearance : Int
instance : DecidableEq wO := fun a b => decidable_of_iff (a.Layer = b.Layer ∧ a.Region = b.Region ∧ a.Clearance = b.Clearance) (by cases a; cases b; simp)
instance : Inhabited wO := ⟨⟨default, default, default⟩⟩
instance : Fits wO := ⟨fun x => Fits.fits x.Layer ∧ Fits.fits x.Region ∧ Fits.fits x.Clearance⟩
instance : Bulk wO := ⟨fun x => Bulk.bk x.Layer + (Bulk.bk x.Region + (Bulk.bk x.Clearance + 1)), fun x => by first | exact Nat.le_add_left _ _ | omega⟩
instance : Rep wO := ⟨3, by decide, fun w F cs x => ∃ (uRegionA : Option Addr) (uRegionC : Nat), cs = [.int .i64 x.Layer, .slice uRegionA x.Region.length uRegionC, .int .i64 x.Clearance] ∧ View w F uRegionA uRegionC x.Region,
  fun ⟨_, _, h, _⟩ => by rw [h]; rfl, fun ⟨uRegionA, uRegionC, h, h0⟩ hF => ⟨uRegionA, uRegionC, h, h0.mono hF⟩⟩
structure xM where
  Clearance : Int
  Width : Int
  Ring : Int
  Edge : Int
  HoleGap : Int
  Classes : (List nK)
  Areas : (List wO)
instance : DecidableEq xM := fun a b => decidable_of_iff (a.Clearance = b.Clearance ∧ a.Width = b.Width ∧ a.Ring = b.Ring ∧ a.Edge = b.Edge ∧ a.HoleGap = b.HoleGap ∧ a.Classes = b.Classes ∧ a.Areas = b.Areas) (by cases a; cases b; simp)
instance : Inhabited xM := ⟨⟨default, default, default, default, default, default, default⟩⟩
instance : Fits xM := ⟨fun x => Fits.fits x.Clearance ∧ Fits.fits x.Width ∧ Fits.fits x.Ring ∧ Fits.fits x.Edge ∧ Fits.fits x.HoleGap ∧ Fits.fits x.Classes ∧ Fits.fits x.Areas⟩
instance : Bulk xM := ⟨fun x => Bulk.bk x.Clearance + (Bulk.bk x.Width + (Bulk.bk x.Ring + (Bulk.bk x.Edge + (Bulk.bk x.HoleGap + (Bulk.bk x.Classes + (Bulk.bk x.Areas + 1)))))), fun x => by first | exact Nat.le_add_left _ _ | omega⟩
instance : Rep xM := ⟨7, by decide, fun w F cs x => ∃ (uClassesA : Option Addr) (uClassesC : Nat) (uAreasA : Option Addr) (uAreasC : Nat), cs = [.int .i64 x.Clearance, .int .i64 x.Width, .int .i64 x.Ring, .int .i64 x.Edge, .int .i64 x.HoleGap, .slice uClassesA x.Classes.length uClassesC, .slice uAreasA x.Areas.length uAreasC] ∧ View w F uClassesA uClassesC x.Classes ∧ View w F uAreasA uAreasC x.Areas,
  fun ⟨_, _, _, _, h, _, _⟩ => by rw [h]; rfl, fun ⟨uClassesA, uClassesC, uAreasA, uAreasC, h, h0, h1⟩ hF => ⟨uClassesA, uClassesC, uAreasA, uAreasC, h, h0.mono hF, h1.mono hF⟩⟩
structure iC where
  Name : Str
  Kind : Int
  Group : Int
instance : DecidableEq iC := fun a b => decidable_of_iff (a.Name = b.Name ∧ a.Kind = b.Kind ∧ a.Group = b.Group) (by cases a; cases b; simp)
instance : Inhabited iC := ⟨⟨default, default, default⟩⟩
instance : Fits iC := ⟨fun x => Fits.fits x.Name ∧ Fits.fits x.Kind ∧ Fits.fits x.Group⟩
instance : Bulk iC := ⟨fun x => Bulk.bk x.Name + (Bulk.bk x.Kind + (Bulk.bk x.Group + 1)), fun x => by first | exact Nat.le_add_left _ _ | omega⟩
instance : Flat iC := ⟨3, by decide, fun x => [.string (ba x.Name), .int .i64 x.Kind, .int .i64 x.Group], fun _ => rfl, fun _ v hv => by simp only [List.mem_cons, List.not_mem_nil, or_false] at hv; rcases hv with rfl | rfl | rfl <;> rfl⟩
structure gK where
  Name : Str
  Pins : (List iC)
instance : DecidableEq gK := fun a b => decidable_of_iff (a.Name = b.Name ∧ a.Pins = b.Pins) (by cases a; cases b; simp)
instance : Inhabited gK := ⟨⟨default, default⟩⟩
instance : Fits gK := ⟨fun x => Fits.fits x.Name ∧ Fits.fits x.Pins⟩
instance : Bulk gK := ⟨fun x => Bulk.bk x.Name + (Bulk.bk x.Pins + 1), fun x => by first | exact Nat.le_add_left _ _ | omega⟩
instance : Rep gK := ⟨2, by decide, fun w F cs x => ∃ (uPinsA : Option Addr) (uPinsC : Nat), cs = [.string (ba x.Name), .slice uPinsA x.Pins.length uPinsC] ∧ View w F uPinsA uPinsC x.Pins,
  fun ⟨_, _, h, _⟩ => by rw [h]; rfl, fun ⟨uPinsA, uPinsC, h, h0⟩ hF => ⟨uPinsA, uPinsC, h, h0.mono hF⟩⟩
structure eY where
  Name : Str
  Kind : Int
  Thick : Int
  Grow : Int
instance : DecidableEq eY := fun a b => decidable_of_iff (a.Name = b.Name ∧ a.Kind = b.Kind ∧ a.Thick = b.Thick ∧ a.Grow = b.Grow) (by cases a; cases b; simp)
instance : Inhabited eY := ⟨⟨default, default, default, default⟩⟩
instance : Fits eY := ⟨fun x => Fits.fits x.Name ∧ Fits.fits x.Kind ∧ Fits.fits x.Thick ∧ Fits.fits x.Grow⟩
instance : Bulk eY := ⟨fun x => Bulk.bk x.Name + (Bulk.bk x.Kind + (Bulk.bk x.Thick + (Bulk.bk x.Grow + 1))), fun x => by first | exact Nat.le_add_left _ _ | omega⟩
instance : Flat eY := ⟨4, by decide, fun x => [.string (ba x.Name), .int .i64 x.Kind, .int .i64 x.Thick, .int .i64 x.Grow], fun _ => rfl, fun _ v hv => by simp only [List.mem_cons, List.not_mem_nil, or_false] at hv; rcases hv with rfl | rfl | rfl | rfl <;> rfl⟩
structure Layer where
  Name : Str
  eY : Str
instance : DecidableEq Layer := fun a b => decidable_of_iff (a.Name = b.Name ∧ a.eY = b.eY) (by cases a; cases b; simp)
instance : Inhabited Layer := ⟨⟨default, default⟩⟩
instance : Fits Layer := ⟨fun x => Fits.fits x.Name ∧ Fits.fits x.eY⟩
instance : Bulk Layer := ⟨fun x => Bulk.bk x.Name + (Bulk.bk x.eY + 1), fun x => by first | exact Nat.le_add_left _ _ | omega⟩
instance : Flat Layer := ⟨2, by decide, fun x => [.string (ba x.Name), .string (ba x.eY)], fun _ => rfl, fun _ v hv => by simp only [List.mem_cons, List.not_mem_nil, or_false] at hv; rcases hv with rfl | rfl <;> rfl⟩
structure zT where
  At : Point
  Size : Int
  From : Int
  To : Int
  Plated : Bool
instance : DecidableEq zT := fun a b => decidable_of_iff (a.At = b.At ∧ a.Size = b.Size ∧ a.From = b.From ∧ a.To = b.To ∧ a.Plated = b.Plated) (by cases a; cases b; simp)
instance : Inhabited zT := ⟨⟨default, default, default, default, default⟩⟩
instance : Fits zT := ⟨fun x => Fits.fits x.At ∧ Fits.fits x.Size ∧ Fits.fits x.From ∧ Fits.fits x.To ∧ Fits.fits x.Plated⟩
instance : Bulk zT := ⟨fun x => Bulk.bk x.At + (Bulk.bk x.Size + (Bulk.bk x.From + (Bulk.bk x.To + (Bulk.bk x.Plated + 1)))), fun x => by first | exact Nat.le_add_left _ _ | omega⟩
instance : Flat zT := ⟨6, by decide, fun x => [.int .i64 x.At.X, .int .i64 x.At.Y, .int .i64 x.Size, .int .i64 x.From, .int .i64 x.To, .bool x.Plated], fun _ => rfl, fun _ v hv => by simp only [List.mem_cons, List.not_mem_nil, or_false] at hv; rcases hv with rfl | rfl | rfl | rfl | rfl | rfl <;> rfl⟩
structure Body where
  Typ : Str
  W : Int
  H : Int
  Tall : Int
  Nozzle : Str
instance : DecidableEq Body := fun a b => decidable_of_iff (a.Typ = b.Typ ∧ a.W = b.W ∧ a.H = b.H ∧ a.Tall = b.Tall ∧ a.Nozzle = b.Nozzle) (by cases a; cases b; simp)
instance : Inhabited Body := ⟨⟨default, default, default, default, default⟩⟩
instance : Fits Body := ⟨fun x => Fits.fits x.Typ ∧ Fits.fits x.W ∧ Fits.fits x.H ∧ Fits.fits x.Tall ∧ Fits.fits x.Nozzle⟩
instance : Bulk Body := ⟨fun x => Bulk.bk x.Typ + (Bulk.bk x.W + (Bulk.bk x.H + (Bulk.bk x.Tall + (Bulk.bk x.Nozzle + 1)))), fun x => by first | exact Nat.le_add_left _ _ | omega⟩
instance : Flat Body := ⟨5, by decide, fun x => [.string (ba x.Typ), .int .i64 x.W, .int .i64 x.H, .int .i64 x.Tall, .string (ba x.Nozzle)], fun _ => rfl, fun _ v hv => by simp only [List.mem_cons, List.not_mem_nil, or_false] at hv; rcases hv with rfl | rfl | rfl | rfl | rfl <;> rfl⟩
structure Place where
  Part : Str
  Typ : Str
  At : Point
  Quarters : Int
  Below : Bool
instance : DecidableEq Place := fun a b => decidable_of_iff (a.Part = b.Part ∧ a.Typ = b.Typ ∧ a.At = b.At ∧ a.Quarters = b.Quarters ∧ a.Below = b.Below) (by cases a; cases b; simp)
instance : Inhabited Place := ⟨⟨default, default, default, default, default⟩⟩
instance : Fits Place := ⟨fun x => Fits.fits x.Part ∧ Fits.fits x.Typ ∧ Fits.fits x.At ∧ Fits.fits x.Quarters ∧ Fits.fits x.Below⟩
instance : Bulk Place := ⟨fun x => Bulk.bk x.Part + (Bulk.bk x.Typ + (Bulk.bk x.At + (Bulk.bk x.Quarters + (Bulk.bk x.Below + 1)))), fun x => by first | exact Nat.le_add_left _ _ | omega⟩
instance : Flat Place := ⟨6, by decide, fun x => [.string (ba x.Part), .string (ba x.Typ), .int .i64 x.At.X, .int .i64 x.At.Y, .int .i64 x.Quarters, .bool x.Below], fun _ => rfl, fun _ v hv => by simp only [List.mem_cons, List.not_mem_nil, or_false] at hv; rcases hv with rfl | rfl | rfl | rfl | rfl | rfl <;> rfl⟩
structure IU where
  Pin : Str
  At : Point
instance : DecidableEq IU := fun a b => decidable_of_iff (a.Pin = b.Pin ∧ a.At = b.At) (by cases a; cases b; simp)
instance : Inhabited IU := ⟨⟨default, default⟩⟩
instance : Fits IU := ⟨fun x => Fits.fits x.Pin ∧ Fits.fits x.At⟩
instance : Bulk IU := ⟨fun x => Bulk.bk x.Pin + (Bulk.bk x.At + 1), fun x => by first | exact Nat.le_add_left _ _ | omega⟩
instance : Flat IU := ⟨3, by decide, fun x => [.string (ba x.Pin), .int .i64 x.At.X, .int .i64 x.At.Y], fun _ => rfl, fun _ v hv => by simp only [List.mem_cons, List.not_mem_nil, or_false] at hv; rcases hv with rfl | rfl | rfl <;> rfl⟩
structure Gy where
  Typ : Str
  Spots : (List IU)
instance : DecidableEq Gy := fun a b => decidable_of_iff (a.Typ = b.Typ ∧ a.Spots = b.Spots) (by cases a; cases b; simp)
instance : Inhabited Gy := ⟨⟨default, default⟩⟩
instance : Fits Gy := ⟨fun x => Fits.fits x.Typ ∧ Fits.fits x.Spots⟩
instance : Bulk Gy := ⟨fun x => Bulk.bk x.Typ + (Bulk.bk x.Spots + 1), fun x => by first | exact Nat.le_add_left _ _ | omega⟩
instance : Rep Gy := ⟨2, by decide, fun w F cs x => ∃ (uSpotsA : Option Addr) (uSpotsC : Nat), cs = [.string (ba x.Typ), .slice uSpotsA x.Spots.length uSpotsC] ∧ View w F uSpotsA uSpotsC x.Spots,
  fun ⟨_, _, h, _⟩ => by rw [h]; rfl, fun ⟨uSpotsA, uSpotsC, h, h0⟩ hF => ⟨uSpotsA, uSpotsC, h, h0.mono hF⟩⟩
structure Order where
  Types : (List gK)
  List_ : qH
  Materials : (List eY)
  Stack : (List Layer)
  Plots : (List qG)
  Outline : qG
  Bores : (List zT)
  Bodies : (List Body)
  Places : (List Place)
  Feet : (List Gy)
  Rules : xM
instance : Inhabited Order := ⟨⟨default, default, default, default, default, default, default, default, default, default, default⟩⟩
instance : Fits Order := ⟨fun x => Fits.fits x.Types ∧ Fits.fits x.List_ ∧ Fits.fits x.Materials ∧ Fits.fits x.Stack ∧ Fits.fits x.Plots ∧ Fits.fits x.Outline ∧ Fits.fits x.Bores ∧ Fits.fits x.Bodies ∧ Fits.fits x.Places ∧ Fits.fits x.Feet ∧ Fits.fits x.Rules⟩
instance : Bulk Order := ⟨fun x => Bulk.bk x.Types + (Bulk.bk x.List_ + (Bulk.bk x.Materials + (Bulk.bk x.Stack + (Bulk.bk x.Plots + (Bulk.bk x.Outline + (Bulk.bk x.Bores + (Bulk.bk x.Bodies + (Bulk.bk x.Places + (Bulk.bk x.Feet + (Bulk.bk x.Rules + 1)))))))))), fun x => by first | exact Nat.le_add_left _ _ | omega⟩
instance : Rep Order := ⟨20, by decide, fun w F cs x => ∃ (uTypesA : Option Addr) (uTypesC : Nat) (uList__PartsA : Option Addr) (uList__PartsC : Nat) (uList__NetsA : Option Addr) (uList__NetsC : Nat) (uMaterialsA : Option Addr) (uMaterialsC : Nat) (uStackA : Option Addr) (uStackC : Nat) (uPlotsA : Option Addr) (uPlotsC : Nat) (uOutline_ToolsA : Option Addr) (uOutline_ToolsC : Nat) (uOutline_StepsA : Option Addr) (uOutline_StepsC : Nat) (uBoresA : Option Addr) (uBoresC : Nat) (uBodiesA : Option Addr) (uBodiesC : Nat) (uPlacesA : Option Addr) (uPlacesC : Nat) (uFeetA : Option Addr) (uFeetC : Nat) (uRules_ClassesA : Option Addr) (uRules_ClassesC : Nat) (uRules_AreasA : Option Addr) (uRules_AreasC : Nat), cs = [.slice uTypesA x.Types.length uTypesC, .slice uList__PartsA x.List_.Parts.length uList__PartsC, .slice uList__NetsA x.List_.Nets.length uList__NetsC, .slice uMaterialsA x.Materials.length uMaterialsC, .slice uStackA x.Stack.length uStackC, .slice uPlotsA x.Plots.length uPlotsC, .int .i64 x.Outline.Unit, .slice uOutline_ToolsA x.Outline.Tools.length uOutline_ToolsC, .slice uOutline_StepsA x.Outline.Steps.length uOutline_StepsC, .slice uBoresA x.Bores.length uBoresC, .slice uBodiesA x.Bodies.length uBodiesC, .slice uPlacesA x.Places.length uPlacesC, .slice uFeetA x.Feet.length uFeetC, .int .i64 x.Rules.Clearance, .int .i64 x.Rules.Width, .int .i64 x.Rules.Ring, .int .i64 x.Rules.Edge, .int .i64 x.Rules.HoleGap, .slice uRules_ClassesA x.Rules.Classes.length uRules_ClassesC, .slice uRules_AreasA x.Rules.Areas.length uRules_AreasC] ∧ View w F uTypesA uTypesC x.Types ∧ View w F uList__PartsA uList__PartsC x.List_.Parts ∧ View w F uList__NetsA uList__NetsC x.List_.Nets ∧ View w F uMaterialsA uMaterialsC x.Materials ∧ View w F uStackA uStackC x.Stack ∧ View w F uPlotsA uPlotsC x.Plots ∧ View w F uOutline_ToolsA uOutline_ToolsC x.Outline.Tools ∧ View w F uOutline_StepsA uOutline_StepsC x.Outline.Steps ∧ View w F uBoresA uBoresC x.Bores ∧ View w F uBodiesA uBodiesC x.Bodies ∧ View w F uPlacesA uPlacesC x.Places ∧ View w F uFeetA uFeetC x.Feet ∧ View w F uRules_ClassesA uRules_ClassesC x.Rules.Classes ∧ View w F uRules_AreasA uRules_AreasC x.Rules.Areas,
  fun ⟨_, _, _, _, _, _, _, _, _, _, _, _, _, _, _, _, _, _, _, _, _, _, _, _, _, _, _, _, h, _, _, _, _, _, _, _, _, _, _, _, _, _, _⟩ => by rw [h]; rfl, fun ⟨uTypesA, uTypesC, uList__PartsA, uList__PartsC, uList__NetsA, uList__NetsC, uMaterialsA, uMaterialsC, uStackA, uStackC, uPlotsA, uPlotsC, uOutline_ToolsA, uOutline_ToolsC, uOutline_StepsA, uOutline_StepsC, uBoresA, uBoresC, uBodiesA, uBodiesC, uPlacesA, uPlacesC, uFeetA, uFeetC, uRules_ClassesA, uRules_ClassesC, uRules_AreasA, uRules_AreasC, h, h0, h1, h2, h3, h4, h5, h6, h7, h8, h9, h10, h11, h12, h13⟩ hF => ⟨uTypesA, uTypesC, uList__PartsA, uList__PartsC, uList__NetsA, uList__NetsC, uMaterialsA, uMaterialsC, uStackA, uStackC, uPlotsA, uPlotsC, uOutline_ToolsA, uOutline_ToolsC, uOutline_StepsA, uOutline_StepsC, uBoresA, uBoresC, uBodiesA, uBodiesC, uPlacesA, uPlacesC, uFeetA, uFeetC, uRules_ClassesA, uRules_ClassesC, uRules_AreasA, uRules_AreasC, h, h0.mono hF, h1.mono hF, h2.mono hF, h3.mono hF, h4.mono hF, h5.mono hF, h6.mono hF, h7.mono hF, h8.mono hF, h9.mono hF, h10.mono hF, h11.mono hF, h12.mono hF, h13.mono hF⟩⟩
structure gU where
  From : Int
  To : Int
  Core : Bool
  Holes : (List Int)
instance : DecidableEq gU := fun a b => decidable_of_iff (a.From = b.From ∧ a.To = b.To ∧ a.Core = b.Core ∧ a.Holes = b.Holes) (by cases a; cases b; simp)
instance : Inhabited gU := ⟨⟨default, default, default, default⟩⟩
instance : Fits gU := ⟨fun x => Fits.fits x.From ∧ Fits.fits x.To ∧ Fits.fits x.Core ∧ Fits.fits x.Holes⟩
instance : Bulk gU := ⟨fun x => Bulk.bk x.From + (Bulk.bk x.To + (Bulk.bk x.Core + (Bulk.bk x.Holes + 1))), fun x => by first | exact Nat.le_add_left _ _ | omega⟩
instance : Rep gU := ⟨4, by decide, fun w F cs x => ∃ (uHolesA : Option Addr) (uHolesC : Nat), cs = [.int .i64 x.From, .int .i64 x.To, .bool x.Core, .slice uHolesA x.Holes.length uHolesC] ∧ View w F uHolesA uHolesC x.Holes,
  fun ⟨_, _, h, _⟩ => by rw [h]; rfl, fun ⟨uHolesA, uHolesC, h, h0⟩ hF => ⟨uHolesA, uHolesC, h, h0.mono hF⟩⟩
structure GR where
  From : Int
  To : Int
  Core : Bool
  Holes : Sl
instance : Flat GR := ⟨4, by decide, fun x => [.int .i64 x.From, .int .i64 x.To, .bool x.Core, .slice x.Holes.a x.Holes.n x.Holes.c], fun _ => rfl, fun _ v hv => by simp only [List.mem_cons, List.not_mem_nil, or_false] at hv; rcases hv with rfl | rfl | rfl | rfl <;> rfl⟩
instance : Row1 gU Int GR := ⟨fun x => x.Holes, fun x A C => ⟨x.From, x.To, x.Core, ⟨A, x.Holes.length, C⟩⟩, fun h => ⟨_, _, rfl, h⟩, rfl⟩
structure iM where
  At : Point
  Size : Int
  Depth : Int
  Plated : Bool
instance : DecidableEq iM := fun a b => decidable_of_iff (a.At = b.At ∧ a.Size = b.Size ∧ a.Depth = b.Depth ∧ a.Plated = b.Plated) (by cases a; cases b; simp)
instance : Inhabited iM := ⟨⟨default, default, default, default⟩⟩
instance : Fits iM := ⟨fun x => Fits.fits x.At ∧ Fits.fits x.Size ∧ Fits.fits x.Depth ∧ Fits.fits x.Plated⟩
instance : Bulk iM := ⟨fun x => Bulk.bk x.At + (Bulk.bk x.Size + (Bulk.bk x.Depth + (Bulk.bk x.Plated + 1))), fun x => by first | exact Nat.le_add_left _ _ | omega⟩
instance : Flat iM := ⟨5, by decide, fun x => [.int .i64 x.At.X, .int .i64 x.At.Y, .int .i64 x.Size, .int .i64 x.Depth, .bool x.Plated], fun _ => rfl, fun _ v hv => by simp only [List.mem_cons, List.not_mem_nil, or_false] at hv; rcases hv with rfl | rfl | rfl | rfl | rfl <;> rfl⟩
structure Job where
  Tool : Str
  Holes : (List iM)
instance : DecidableEq Job := fun a b => decidable_of_iff (a.Tool = b.Tool ∧ a.Holes = b.Holes) (by cases a; cases b; simp)
instance : Inhabited Job := ⟨⟨default, default⟩⟩
instance : Fits Job := ⟨fun x => Fits.fits x.Tool ∧ Fits.fits x.Holes⟩
instance : Bulk Job := ⟨fun x => Bulk.bk x.Tool + (Bulk.bk x.Holes + 1), fun x => by first | exact Nat.le_add_left _ _ | omega⟩
instance : Rep Job := ⟨2, by decide, fun w F cs x => ∃ (uHolesA : Option Addr) (uHolesC : Nat), cs = [.string (ba x.Tool), .slice uHolesA x.Holes.length uHolesC] ∧ View w F uHolesA uHolesC x.Holes,
  fun ⟨_, _, h, _⟩ => by rw [h]; rfl, fun ⟨uHolesA, uHolesC, h, h0⟩ hF => ⟨uHolesA, uHolesC, h, h0.mono hF⟩⟩
structure OD where
  Tool : Str
  Holes : Sl
instance : Flat OD := ⟨2, by decide, fun x => [.string (ba x.Tool), .slice x.Holes.a x.Holes.n x.Holes.c], fun _ => rfl, fun _ v hv => by simp only [List.mem_cons, List.not_mem_nil, or_false] at hv; rcases hv with rfl | rfl <;> rfl⟩
instance : Row1 Job iM OD := ⟨fun x => x.Holes, fun x A C => ⟨x.Tool, ⟨A, x.Holes.length, C⟩⟩, fun h => ⟨_, _, rfl, h⟩, rfl⟩
structure gy where
  gU : gU
  Jobs : (List Job)
  Missing : (List Int)
instance : DecidableEq gy := fun a b => decidable_of_iff (a.gU = b.gU ∧ a.Jobs = b.Jobs ∧ a.Missing = b.Missing) (by cases a; cases b; simp)
instance : Inhabited gy := ⟨⟨default, default, default⟩⟩
instance : Fits gy := ⟨fun x => Fits.fits x.gU ∧ Fits.fits x.Jobs ∧ Fits.fits x.Missing⟩
instance : Bulk gy := ⟨fun x => Bulk.bk x.gU + (Bulk.bk x.Jobs + (Bulk.bk x.Missing + 1)), fun x => by first | exact Nat.le_add_left _ _ | omega⟩
instance : Rep gy := ⟨6, by decide, fun w F cs x => ∃ (uPress_HolesA : Option Addr) (uPress_HolesC : Nat) (uJobsA : Option Addr) (uJobsC : Nat) (uMissingA : Option Addr) (uMissingC : Nat), cs = [.int .i64 x.gU.From, .int .i64 x.gU.To, .bool x.gU.Core, .slice uPress_HolesA x.gU.Holes.length uPress_HolesC, .slice uJobsA x.Jobs.length uJobsC, .slice uMissingA x.Missing.length uMissingC] ∧ View w F uPress_HolesA uPress_HolesC x.gU.Holes ∧ View w F uJobsA uJobsC x.Jobs ∧ View w F uMissingA uMissingC x.Missing,
  fun ⟨_, _, _, _, _, _, h, _, _, _⟩ => by rw [h]; rfl, fun ⟨uPress_HolesA, uPress_HolesC, uJobsA, uJobsC, uMissingA, uMissingC, h, h0, h1, h2⟩ hF => ⟨uPress_HolesA, uPress_HolesC, uJobsA, uJobsC, uMissingA, uMissingC, h, h0.mono hF, h1.mono hF, h2.mono hF⟩⟩
structure zu where
  Press_From : Int
  Press_To : Int
  Press_Core : Bool
  Press_Holes : Sl
  Jobs : Sl
  Missing : Sl
instance : Flat zu := ⟨6, by decide, fun x => [.int .i64 x.Press_From, .int .i64 x.Press_To, .bool x.Press_Core, .slice x.Press_Holes.a x.Press_Holes.n x.Press_Holes.c, .slice x.Jobs.a x.Jobs.n x.Jobs.c, .slice x.Missing.a x.Missing.n x.Missing.c], fun _ => rfl, fun _ v hv => by simp only [List.mem_cons, List.not_mem_nil, or_false] at hv; rcases hv with rfl | rfl | rfl | rfl | rfl | rfl <;> rfl⟩
instance : RowK gy zu := ⟨rfl⟩
theorem Tq {w : World} {F : Nat → Prop} {x : gy} {A0 : Option Addr} {C0 : Nat} {A1 : Option Addr} {C1 : Nat} {as1 : List (Option Addr × Nat)} {A2 : Option Addr} {C2 : Nat} (h : (hall [hown 3 A0 C0 x.gU.Holes, hrows 58 71 A1 C1 as1 x.Jobs, hown 3 A2 C2 x.Missing]).holds w F) : Rep.rd w F (Flat.enc (⟨x.gU.From, x.gU.To, x.gU.Core, ⟨A0, x.gU.Holes.length, C0⟩, ⟨A1, x.Jobs.length, C1⟩, ⟨A2, x.Missing.length, C2⟩⟩ : zu)) x := by
  obtain ⟨F0, h0, i0, F1, h1, i1, F2, h2, i2, _⟩ := h
  exact ⟨_, _, _, _, _, _, rfl, (Io h0).mono (fun b hb => ⟨(i0 b hb).1, rfl⟩), (O3 h1).mono (fun b hb => ⟨(i1 b hb).1, rfl⟩), (Io h2).mono (fun b hb => ⟨(i2 b hb).1, rfl⟩)⟩
structure gY where
  fault : Int
  where_ : Str
instance : DecidableEq gY := fun a b => decidable_of_iff (a.fault = b.fault ∧ a.where_ = b.where_) (by cases a; cases b; simp)
instance : Inhabited gY := ⟨⟨default, default⟩⟩
instance : Fits gY := ⟨fun x => Fits.fits x.fault ∧ Fits.fits x.where_⟩
instance : Bulk gY := ⟨fun x => Bulk.bk x.fault + (Bulk.bk x.where_ + 1), fun x => by first | exact Nat.le_add_left _ _ | omega⟩
instance : Flat gY := ⟨2, by decide, fun x => [.int .i64 x.fault, .string (ba x.where_)], fun _ => rfl, fun _ v hv => by simp only [List.mem_cons, List.not_mem_nil, or_false] at hv; rcases hv with rfl | rfl <;> rfl⟩
structure Through where
  From : Int
  To : Int
instance : DecidableEq Through := fun a b => decidable_of_iff (a.From = b.From ∧ a.To = b.To) (by cases a; cases b; simp)
instance : Inhabited Through := ⟨⟨default, default⟩⟩
instance : Fits Through := ⟨fun x => Fits.fits x.From ∧ Fits.fits x.To⟩
instance : Bulk Through := ⟨fun x => Bulk.bk x.From + (Bulk.bk x.To + 1), fun x => by first | exact Nat.le_add_left _ _ | omega⟩
instance : Flat Through := ⟨2, by decide, fun x => [.int .i64 x.From, .int .i64 x.To], fun _ => rfl, fun _ v hv => by simp only [List.mem_cons, List.not_mem_nil, or_false] at hv; rcases hv with rfl | rfl <;> rfl⟩
structure Bit where
  Name : Str
  Size : Int
  Life : Int
  Stack : Int
instance : DecidableEq Bit := fun a b => decidable_of_iff (a.Name = b.Name ∧ a.Size = b.Size ∧ a.Life = b.Life ∧ a.Stack = b.Stack) (by cases a; cases b; simp)
instance : Inhabited Bit := ⟨⟨default, default, default, default⟩⟩
instance : Fits Bit := ⟨fun x => Fits.fits x.Name ∧ Fits.fits x.Size ∧ Fits.fits x.Life ∧ Fits.fits x.Stack⟩
instance : Bulk Bit := ⟨fun x => Bulk.bk x.Name + (Bulk.bk x.Size + (Bulk.bk x.Life + (Bulk.bk x.Stack + 1))), fun x => by first | exact Nat.le_add_left _ _ | omega⟩
instance : Flat Bit := ⟨4, by decide, fun x => [.string (ba x.Name), .int .i64 x.Size, .int .i64 x.Life, .int .i64 x.Stack], fun _ => rfl, fun _ v hv => by simp only [List.mem_cons, List.not_mem_nil, or_false] at hv; rcases hv with rfl | rfl | rfl | rfl <;> rfl⟩
structure iq where
  name : Bool
  at_ : Bool
  points : Bool
  repeat_ : Bool
instance : DecidableEq iq := fun a b => decidable_of_iff (a.name = b.name ∧ a.at_ = b.at_ ∧ a.points = b.points ∧ a.repeat_ = b.repeat_) (by cases a; cases b; simp)
instance : Inhabited iq := ⟨⟨default, default, default, default⟩⟩
instance : Fits iq := ⟨fun x => Fits.fits x.name ∧ Fits.fits x.at_ ∧ Fits.fits x.points ∧ Fits.fits x.repeat_⟩
instance : Bulk iq := ⟨fun x => Bulk.bk x.name + (Bulk.bk x.at_ + (Bulk.bk x.points + (Bulk.bk x.repeat_ + 1))), fun x => by first | exact Nat.le_add_left _ _ | omega⟩
instance : Flat iq := ⟨4, by decide, fun x => [.bool x.name, .bool x.at_, .bool x.points, .bool x.repeat_], fun _ => rfl, fun _ v hv => by simp only [List.mem_cons, List.not_mem_nil, or_false] at hv; rcases hv with rfl | rfl | rfl | rfl <;> rfl⟩
structure fU where
  Y0 : Int
  Y1 : Int
  Xs : (List Int)
instance : DecidableEq fU := fun a b => decidable_of_iff (a.Y0 = b.Y0 ∧ a.Y1 = b.Y1 ∧ a.Xs = b.Xs) (by cases a; cases b; simp)
instance : Inhabited fU := ⟨⟨default, default, default⟩⟩
instance : Fits fU := ⟨fun x => Fits.fits x.Y0 ∧ Fits.fits x.Y1 ∧ Fits.fits x.Xs⟩
instance : Bulk fU := ⟨fun x => Bulk.bk x.Y0 + (Bulk.bk x.Y1 + (Bulk.bk x.Xs + 1)), fun x => by first | exact Nat.le_add_left _ _ | omega⟩
instance : Rep fU := ⟨3, by decide, fun w F cs x => ∃ (uXsA : Option Addr) (uXsC : Nat), cs = [.int .i64 x.Y0, .int .i64 x.Y1, .slice uXsA x.Xs.length uXsC] ∧ View w F uXsA uXsC x.Xs,
  fun ⟨_, _, h, _⟩ => by rw [h]; rfl, fun ⟨uXsA, uXsC, h, h0⟩ hF => ⟨uXsA, uXsC, h, h0.mono hF⟩⟩
structure zF where
  Y0 : Int
  Y1 : Int
  Xs : Sl
instance : Flat zF := ⟨3, by decide, fun x => [.int .i64 x.Y0, .int .i64 x.Y1, .slice x.Xs.a x.Xs.n x.Xs.c], fun _ => rfl, fun _ v hv => by simp only [List.mem_cons, List.not_mem_nil, or_false] at hv; rcases hv with rfl | rfl | rfl <;> rfl⟩
instance : Row1 fU Int zF := ⟨fun x => x.Xs, fun x A C => ⟨x.Y0, x.Y1, ⟨A, x.Xs.length, C⟩⟩, fun h => ⟨_, _, rfl, h⟩, rfl⟩
theorem SX (x y : Point) {d : Nat} (w : World) : (Op.equalIn (d + 2) 60 (.agg #[.int .i64 x.X, .int .i64 x.Y]) (.agg #[.int .i64 y.X, .int .i64 y.Y])).run Tryz.prog w = .ok (decide (x = y)) w :=
  Ey Tryz.underlying60 (by kernel_rfl) (vw (by decide) (jf Tryz.isAgg3 rfl) (jf Tryz.isAgg3 rfl) (eq_int Tryz.runUnderlying3 _ _) (vw (by decide) (jf Tryz.isAgg3 rfl) (jf Tryz.isAgg3 rfl) (eq_int Tryz.runUnderlying3 _ _) GN)) (by rw [Bool.eq_iff_iff]; cases x; cases y; simp [and_assoc])
theorem MS (x y : Through) {d : Nat} (w : World) : (Op.equalIn (d + 2) 80 (.agg #[.int .i64 x.From, .int .i64 x.To]) (.agg #[.int .i64 y.From, .int .i64 y.To])).run Tryz.prog w = .ok (decide (x = y)) w :=
  Ey Tryz.underlying80 (by kernel_rfl) (vw (by decide) (jf Tryz.isAgg3 rfl) (jf Tryz.isAgg3 rfl) (eq_int Tryz.runUnderlying3 _ _) (vw (by decide) (jf Tryz.isAgg3 rfl) (jf Tryz.isAgg3 rfl) (eq_int Tryz.runUnderlying3 _ _) GN)) (by rw [Bool.eq_iff_iff]; cases x; cases y; simp [and_assoc])
theorem SH (x y : gm) {d : Nat} (w : World) : (Op.equalIn (d + 2) 122 (.agg #[.int .i64 x.X0, .int .i64 x.Y0, .int .i64 x.X1, .int .i64 x.Y1]) (.agg #[.int .i64 y.X0, .int .i64 y.Y0, .int .i64 y.X1, .int .i64 y.Y1])).run Tryz.prog w = .ok (decide (x = y)) w :=
  Ey Tryz.underlying122 (by kernel_rfl) (vw (by decide) (jf Tryz.isAgg3 rfl) (jf Tryz.isAgg3 rfl) (eq_int Tryz.runUnderlying3 _ _) (vw (by decide) (jf Tryz.isAgg3 rfl) (jf Tryz.isAgg3 rfl) (eq_int Tryz.runUnderlying3 _ _) (vw (by decide) (jf Tryz.isAgg3 rfl) (jf Tryz.isAgg3 rfl) (eq_int Tryz.runUnderlying3 _ _) (vw (by decide) (jf Tryz.isAgg3 rfl) (jf Tryz.isAgg3 rfl) (eq_int Tryz.runUnderlying3 _ _) GN)))) (by rw [Bool.eq_iff_iff]; cases x; cases y; simp [and_assoc])
theorem SA (x y : Pin) {d : Nat} (w : World) : (Op.equalIn (d + 2) 146 (.agg #[.string (ba x.Part), .string (ba x.Pin)]) (.agg #[.string (ba y.Part), .string (ba y.Pin)])).run Tryz.prog w = .ok (decide (x = y)) w :=
  Ey Tryz.underlying146 (by kernel_rfl) (vw (by decide) (jf Tryz.isAgg9 rfl) (jf Tryz.isAgg9 rfl) (P9 Tryz.runUnderlying9 _ _) (vw (by decide) (jf Tryz.isAgg9 rfl) (jf Tryz.isAgg9 rfl) (P9 Tryz.runUnderlying9 _ _) GN)) (by rw [Bool.eq_iff_iff]; cases x; cases y; simp [and_assoc])
theorem mo : Tryz.prog.follows .mixedOrders = true := by kernel_rfl
theorem info3 : uY Tryz.prog 3 1 8 [.int .i64 0] := ⟨⟨Tryz.t3, _, by kernel_rfl, rfl, rfl, rfl, rfl⟩⟩
theorem info9 : uY Tryz.prog 9 1 16 [.string (ba [])] := ⟨⟨Tryz.t9, _, by kernel_rfl, rfl, rfl, rfl, rfl⟩⟩
theorem SG : uY Tryz.prog 52 4 48 [.int .i64 0, .int .i64 0, .bool false, .slice none 0 0] := ⟨⟨Tryz.t52, _, by kernel_rfl, rfl, rfl, rfl, rfl⟩⟩
theorem RZ : uY Tryz.prog 55 6 96 [.int .i64 0, .int .i64 0, .bool false, .slice none 0 0, .slice none 0 0, .slice none 0 0] := ⟨⟨Tryz.t55, _, by kernel_rfl, rfl, rfl, rfl, rfl⟩⟩
theorem Sr : uY Tryz.prog 56 1 24 [.slice none 0 0] := ⟨⟨Tryz.t56, _, by kernel_rfl, rfl, rfl, rfl, rfl⟩⟩
theorem RS : uY Tryz.prog 58 2 40 [.string (ba []), .slice none 0 0] := ⟨⟨Tryz.t58, _, by kernel_rfl, rfl, rfl, rfl, rfl⟩⟩
theorem P8 : uY Tryz.prog 71 5 40 [.int .i64 0, .int .i64 0, .int .i64 0, .int .i64 0, .bool false] := ⟨⟨Tryz.t71, _, by kernel_rfl, rfl, rfl, rfl, rfl⟩⟩
theorem Eg : uY Tryz.prog 80 2 16 [.int .i64 0, .int .i64 0] := ⟨⟨Tryz.t80, _, by kernel_rfl, rfl, rfl, rfl, rfl⟩⟩
theorem G5 : uY Tryz.prog 122 4 32 [.int .i64 0, .int .i64 0, .int .i64 0, .int .i64 0] := ⟨⟨Tryz.t122, _, by kernel_rfl, rfl, rfl, rfl, rfl⟩⟩
theorem Rf : uY Tryz.prog 266 3 40 [.int .i64 0, .int .i64 0, .slice none 0 0] := ⟨⟨Tryz.t266, _, by kernel_rfl, rfl, rfl, rfl, rfl⟩⟩
abbrev ek4 : Bool → Value := fun x => .bool x
abbrev ek9 : Str → Value := fun x => .string (ba x)
abbrev Dl : Pin → Value := fun x => .agg #[.string (ba x.Part), .string (ba x.Pin)]
theorem QN : I4 Tryz.prog 9 ek9 := QD Tryz.runUnderlying9
theorem O6 {d : Nat} (x : Pin) : EY Tryz.prog (d + 2) 146 (.agg #[.string (ba x.Part), .string (ba x.Pin)]) :=
  KH Tryz.runUnderlying146 (fun f hf => by
    simp only [List.mem_cons, List.not_mem_nil, or_false] at hf
    rcases hf with rfl | rfl
    · exact ⟨_, fun w => (jf Tryz.isAgg9 rfl), (J7 Tryz.runUnderlying9 _)⟩
    · exact ⟨_, fun w => (jf Tryz.isAgg9 rfl), (J7 Tryz.runUnderlying9 _)⟩)
theorem PN : I4 Tryz.prog 146 Dl := NH (K := Pin) Tryz.runUnderlying146 (fun x => O6 x) (fun x y w => SA x y w) (fun x => by simp [Instr.sameBits, QU])
abbrev aa := @Tryz.sizeOf3
abbrev ab := @Tryz.isAgg3
abbrev ac := @Tryz.sizeOf9
abbrev ae := @Tryz.isAgg9
abbrev af := @Tryz.sizeOf80
abbrev ah := @Tryz.runUnderlying50
abbrev ai := @Tryz.sizeOf122
abbrev aj := @Tryz.sizeOf50
abbrev ak := @Tryz.runUnderlying76
abbrev al := @Tryz.runUnderlying80
abbrev am := @Tryz.runUnderlying122
abbrev ao := @Tryz.sizeOf60
abbrev ap := @Tryz.runUnderlying43
abbrev aq := @Tryz.runUnderlying118
abbrev ar := @Tryz.isAgg80
abbrev au := @Tryz.runUnderlying188
abbrev av := @Tryz.sizeOf73
abbrev aw := @Tryz.sizeOf68
abbrev ax := @Tryz.sizeOf4
abbrev ay := @Tryz.runUnderlying28
abbrev az := @Tryz.isAgg50
abbrev aA := @Tryz.sizeOf28
abbrev aB := @Tryz.sizeOf130
abbrev aC := @Tryz.sizeOf31
abbrev aD := @Tryz.isAgg122
abbrev aF := @Tryz.runUnderlying60
abbrev aG := @Tryz.runUnderlying186
abbrev aH := @Tryz.runUnderlying45
abbrev aI := @Tryz.sizeOf156
abbrev aJ := @Tryz.runUnderlying266
abbrev aK := @Tryz.isAgg73
abbrev aL := @Tryz.runUnderlying68
abbrev aM := @Tryz.runUnderlying130
abbrev aN := @Tryz.runUnderlying62
abbrev aO := @Tryz.zeroValue80
abbrev aP := @Tryz.isAgg60
abbrev aQ := @Tryz.sizeOf210
abbrev aR := @Tryz.runUnderlying33
abbrev aS := @Tryz.zeroValue3
abbrev aT := @Tryz.sizeOf34
abbrev aU := @Tryz.runUnderlying55
abbrev aV := @Tryz.sizeOf55
abbrev aW := @Tryz.runUnderlying66
abbrev aX := @Tryz.runUnderlying210
abbrev aY := @Tryz.runUnderlying167
abbrev aZ := @Tryz.sizeOf146
abbrev a6 := @Tryz.sizeOf52
abbrev a7 := @Tryz.sizeOf109
abbrev a8 := @Tryz.sizeOf56
abbrev bb := @Tryz.call36
abbrev bc := @Tryz.sizeOf169
abbrev bd := @Tryz.sizeOf118
abbrev be := @Tryz.runUnderlying246
abbrev bh := @Tryz.zeroValue60
abbrev bi := @Tryz.sizeOf27
abbrev bj := @Tryz.zeroValue122
abbrev bl := @Tryz.sizeOf188
abbrev bm := @Tryz.sizeOf246
abbrev bo := @Tryz.sizeOf30
abbrev bp := @Tryz.results93
abbrev bq := @Tryz.sizeOf33
abbrev br := @Tryz.isAgg68
abbrev bs := @Tryz.call19
abbrev bt := @Tryz.runUnderlying52
abbrev bu := @Tryz.sizeOf53
abbrev bv := @Tryz.runUnderlying56
abbrev bw := @Tryz.runUnderlying109
abbrev bx := @Tryz.runUnderlying9
abbrev bz := @Tryz.runUnderlying3
abbrev bB := @Tryz.runUnderlying178
abbrev bD := @Tryz.sizeOf66
abbrev bE := @Tryz.sizeOf120
abbrev bF := @Tryz.sizeOf186
abbrev bG := @Tryz.isAgg28
abbrev bH := @Tryz.runUnderlying27
abbrev bI := @Tryz.sizeOf71
abbrev bJ := @Tryz.runUnderlying44
abbrev bK := @Tryz.runUnderlying156
abbrev bL := @Tryz.runUnderlying22
abbrev bM := @Tryz.sizeOf196
abbrev bN := @Tryz.sizeOf22
abbrev bO := @Tryz.results18
abbrev bP := @Tryz.runUnderlying120
abbrev bQ := @Tryz.runUnderlying31
abbrev bR := @Tryz.isAgg31
abbrev bS := @Tryz.results68
abbrev bT := @Tryz.runUnderlying214
abbrev bU := @Tryz.isAgg43
abbrev bV := @Tryz.sizeOf43
abbrev bW := @Tryz.results9
abbrev bX := @Tryz.runUnderlying34
abbrev bY := @Tryz.runUnderlying35
abbrev bZ := @Tryz.results84
abbrev ca := @Tryz.runUnderlying23
abbrev cb := @Tryz.isAgg146
abbrev cd := @Tryz.runUnderlying30
abbrev ce := @Tryz.underlying50
abbrev ch := @Tryz.sizeOf266
abbrev ci := @Tryz.runUnderlying41
abbrev cj := @Tryz.results25
abbrev ck := @Tryz.sizeOf46
abbrev cl := @Tryz.results24
abbrev cm := @Tryz.underlying76
abbrev cn := @Tryz.sizeOf62
abbrev co := @Tryz.results15
abbrev cr := @Tryz.results23
abbrev ct := @Tryz.runUnderlying141
abbrev cu := @Tryz.zeroValue246
abbrev cv := @Tryz.runUnderlying217
abbrev cw := @Tryz.zeroValue73
abbrev cx := @Tryz.runUnderlying73
abbrev cy := @Tryz.isAgg130
abbrev cz := @Tryz.zeroValue130
abbrev cA := @Tryz.results4
abbrev cB := @Tryz.results73
abbrev cC := @Tryz.results59
abbrev cD := @Tryz.runUnderlying154
abbrev cE := @Tryz.runUnderlying169
abbrev cF := @Tryz.runUnderlying196
abbrev cG := @Tryz.runUnderlying146
abbrev cH := @Tryz.runUnderlying143
abbrev cI := @Tryz.results55
abbrev cJ := @Tryz.results21
abbrev cK := @Tryz.zeroValue68
abbrev cL := @Tryz.runUnderlying162
abbrev cM := @Tryz.sizeOf160
abbrev cN := @Tryz.runUnderlying71
abbrev cO := @Tryz.runUnderlying53
abbrev cP := @Tryz.sizeOf111
abbrev cQ := @Tryz.results41
abbrev cR := @Tryz.results78
abbrev cS := @Tryz.runUnderlying26
abbrev cT := @Tryz.underlying118
abbrev cU := @Tryz.runUnderlying165
abbrev cV := @Tryz.zeroValue52
abbrev cW := @Tryz.zeroValue71
abbrev cX := @Tryz.runUnderlying36
abbrev cY := @Tryz.runUnderlying24
abbrev cZ := @Tryz.runUnderlying38
abbrev c0 := @Tryz.runUnderlying128
abbrev c9 := @Tryz.runUnderlying174
abbrev da := @Tryz.runUnderlying37
abbrev db := @Tryz.runUnderlying160
abbrev dc := @Tryz.runUnderlying106
abbrev dd := @Tryz.runUnderlying58
abbrev de := @Tryz.runUnderlying113
end Go.Proofs.YtbegofbmbcghdaaGreatDoor
