/- From what came in to the laws' inputs: what all rows of this seat have in common. -/
import Derived.Test.YtpghhaobcikdhaaC5
import Derived.Test.YtpghhaobcikdhaaHwZ
import Derived.Test.YtpghhaobcikdhaaRows
import Derived.WalkKit
import Derived.ProofKit
import Derived.OpenShut
import Derived.ChangeOld
import Derived.Carry
import Derived.SizedLaws
namespace Go.Proofs.Ytpghhaobcikdhaa
open Go Go.Hw
open Go.ChangeShapes Go.WideShapes Go.ChangeAt Go.RowKit
set_option linter.unusedVariables false
set_option linter.unusedSimpArgs false

theorem ownK : ownKnob Try.prog.godebug = none := by kernel_rfl
theorem laidOut : laidOutB Try.prog = true := by kernel_rfl
theorem und3 : Try.prog.underlying 3 = some (.int .i64) := by kernel_rfl
theorem und4 : Try.prog.underlying 4 = some .bool := by kernel_rfl
def isStruct : Option TypeDesc → Bool | some (.struct _) => true | _ => false
theorem und66 : ∃ fs, Try.prog.underlying 66 = some (.struct fs) := by
  have h : isStruct (Try.prog.underlying 66) = true := by kernel_rfl
  cases hu : Try.prog.underlying 66 with
  | none => rw [hu] at h; cases h
  | some d =>
    rw [hu] at h
    cases d <;> first | (cases h; done) | exact ⟨_, rfl⟩
theorem und81 : Try.prog.underlying 81 = some (.slice 159) := by kernel_rfl
theorem kinds66 : kindsOf Try.prog 5 66 = some [.i64, .i64] := by kernel_rfl
theorem kinds159 : kindsOf Try.prog 8 159 = some [.i64, .i64, .i64, .i64, .i64, .i64, .i64, .i64, .i64, .i64, .u64, .u64, .i64, .i64, .i64, .u64, .u64, .i64, .i64] := by kernel_rfl

def actOf (r : List Int) : Act :=
  ⟨r.getD 0 0, (r.getD 1 0, r.getD 2 0), (r.getD 3 0, r.getD 4 0), (r.getD 5 0, r.getD 6 0), ⟨r.getD 7 0, r.getD 8 0, r.getD 9 0, r.getD 10 0, r.getD 11 0, r.getD 12 0⟩,
   r.getD 13 0, r.getD 14 0, r.getD 15 0, r.getD 16 0, r.getD 17 0, r.getD 18 0⟩
theorem cons_of {α : Type} {n : Nat} {l : List α} (h : l.length = n + 1) : ∃ a r, l = a :: r ∧ r.length = n := by
  cases l with
  | nil => cases h
  | cons a r => exact ⟨a, r, rfl, by simpa using h⟩
theorem act_cells {r : List Int} (h : r.length = 19) :
    zipK [.i64, .i64, .i64, .i64, .i64, .i64, .i64, .i64, .i64, .i64, .u64, .u64, .i64, .i64, .i64, .u64, .u64, .i64, .i64] r = (actOf r).cells := by
  obtain ⟨x0, r0, rfl, h0⟩ := cons_of h
  obtain ⟨x1, r1, rfl, h1⟩ := cons_of h0
  obtain ⟨x2, r2, rfl, h2⟩ := cons_of h1
  obtain ⟨x3, r3, rfl, h3⟩ := cons_of h2
  obtain ⟨x4, r4, rfl, h4⟩ := cons_of h3
  obtain ⟨x5, r5, rfl, h5⟩ := cons_of h4
  obtain ⟨x6, r6, rfl, h6⟩ := cons_of h5
  obtain ⟨x7, r7, rfl, h7⟩ := cons_of h6
  obtain ⟨x8, r8, rfl, h8⟩ := cons_of h7
  obtain ⟨x9, r9, rfl, h9⟩ := cons_of h8
  obtain ⟨x10, r10, rfl, h10⟩ := cons_of h9
  obtain ⟨x11, r11, rfl, h11⟩ := cons_of h10
  obtain ⟨x12, r12, rfl, h12⟩ := cons_of h11
  obtain ⟨x13, r13, rfl, h13⟩ := cons_of h12
  obtain ⟨x14, r14, rfl, h14⟩ := cons_of h13
  obtain ⟨x15, r15, rfl, h15⟩ := cons_of h14
  obtain ⟨x16, r16, rfl, h16⟩ := cons_of h15
  obtain ⟨x17, r17, rfl, h17⟩ := cons_of h16
  obtain ⟨x18, r18, rfl, h18⟩ := cons_of h17
  have hn : r18 = [] := List.eq_nil_of_length_eq_zero h18
  subst hn
  rfl

theorem cells159 : Try.prog.cellsOf 159 = List.length [IntKind.i64, .i64, .i64, .i64, .i64, .i64, .i64, .i64, .i64, .i64, .u64, .u64, .i64, .i64, .i64, .u64, .u64, .i64, .i64] := by kernel_rfl
theorem rd_acts {W : World} {H : Type} {enc : TypeId × Value → H} {a : Option Addr} {len cap : Nat} {d : DataW H} {ps : List MemPlace}
    (h : DataW.Trod enc Try.prog W 0 (fun _ => true) true 81 (.slice a len cap) d ps) : ∃ l : List Act, Rd W 19 Act.cells (.slice a len cap) l := by
  obtain ⟨fuel, hf⟩ := h
  obtain ⟨rows, hr, hfit, hat⟩ := slice_rows und81 kinds159 (by decide) cells159 hf
  refine ⟨rows.map actOf, a, cap, by rw [List.length_map, hr], fun i hi => ?_⟩
  rw [List.length_map] at hi
  obtain ⟨b, off, cur, T, fr, h1, h2, h3, h4⟩ := hat i hi
  refine ⟨b, off, cur, T, fr, h1, h2, ?_, h4⟩
  rw [List.getElem_map, ← act_cells (hfit _ (List.getElem_mem hi)).1]
  exact h3

set_option maxRecDepth 100000 in
theorem open_slot {W : World} {H : Type} {enc : TypeId × Value → H} {base : Nat} {v : Value} {d : DataW H} {ps : List MemPlace} (hok : Value.okWide Try.prog W .any base 66 v)
    (h : DataW.Trod enc Try.prog W 0 (fun _ => true) true 66 v d ps) : ∃ s : Slot, v = slotV s := by
  obtain ⟨fs, hu⟩ := und66
  obtain ⟨cs, rfl, _⟩ := okWide_struct hu hok
  obtain ⟨fuel, hf⟩ := h
  obtain ⟨ns, f1, f2⟩ := kinds_open 5 kinds66 hf
  have hl := f1.1
  match ns, hl with
  | [a, b], _ =>
    refine ⟨(a, b), ?_⟩
    unfold slotV
    have : cs = (zipK [.i64, .i64] [a, b]).toArray := by rw [← f2]; rfl
    rw [this]
    rfl
end Go.Proofs.Ytpghhaobcikdhaa
