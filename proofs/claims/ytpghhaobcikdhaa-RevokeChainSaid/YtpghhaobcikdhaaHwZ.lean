/- What came in, by its cells: numbers, structs of numbers, slices of such. -/
import Derived.Test.YtpghhaobcikdhaaHwO
import Derived.ChangeShapes
import Derived.ChangeSlices
import Derived.DataElems
namespace Go.Hw
open Go

def fieldsK (P : Program) (rc : TypeId → Option (List IntKind)) : List Field → Nat → Option (List IntKind)
  | [], _ => some []
  | f :: r, off => if f.offset = off then (rc f.type).bind fun ks => if P.cellsOf f.type = ks.length then (fieldsK P rc r (off + ks.length)).map (ks ++ ·) else none else none
/-- the kinds of a type's cells, where all of them are numbers -/
def kindsOf (P : Program) : Nat → TypeId → Option (List IntKind)
  | 0, _ => none
  | n + 1, t => match P.underlying t with
    | some (.int k) => some [k]
    | some (.struct fs) => (fieldsK P (kindsOf P n) fs.toList 0).bind fun ks => if P.cellsOf t = ks.length then some ks else none
    | _ => none

def zipK (ks : List IntKind) (ns : List Int) : List Value := List.zipWith (fun k n => Value.int k n) ks ns
def Fits (ks : List IntKind) (ns : List Int) : Prop := ns.length = ks.length ∧ ∀ (i : Nat) k n, ks[i]? = some k → ns[i]? = some n → (Lit.int k n).wf = true

theorem fits_append {a b : List IntKind} {x y : List Int} (h1 : Fits a x) (h2 : Fits b y) : Fits (a ++ b) (x ++ y) ∧ zipK (a ++ b) (x ++ y) = zipK a x ++ zipK b y := by
  refine ⟨⟨by rw [List.length_append, List.length_append, h1.1, h2.1], fun i k n hk hn => ?_⟩, List.zipWith_append h1.1.symm⟩
  by_cases hi : i < a.length
  · rw [List.getElem?_append_left hi] at hk
    rw [List.getElem?_append_left (by rw [h1.1]; exact hi)] at hn
    exact h1.2 i k n hk hn
  · rw [List.getElem?_append_right (by omega)] at hk
    rw [List.getElem?_append_right (by rw [h1.1]; omega), h1.1] at hn
    exact h2.2 _ k n hk hn

section
variable {H : Type} {enc : TypeId × Value → H} {P : Program} {w : World} {base : Nat} {spare : Nat → Bool} {held : Bool}

theorem fields_open {rc : TypeId → Option (List IntKind)} {cs : List Value} : ∀ (fs : List Field) (off : Nat) {ks : List IntKind}, fieldsK P rc fs off = some ks →
    (∀ f ∈ fs, ∀ kf, rc f.type = some kf → ∃ ns, Fits kf ns ∧ (cs.drop f.offset).take (P.cellsOf f.type) = zipK kf ns) → cs.length = off + ks.length → ∃ ns, Fits ks ns ∧ cs.drop off = zipK ks ns
  | [], off, ks, h, _, hl => by
    cases h
    refine ⟨[], ⟨rfl, fun i k n h => by simp at h⟩, ?_⟩
    rw [List.drop_eq_nil_of_le (by rw [hl]; simp)]
    rfl
  | f :: fs, off, ks, h, hf, hl => by
    unfold fieldsK at h
    split at h
    · rename_i ho
      cases hr : rc f.type with
      | none => rw [hr] at h; cases h
      | some kf =>
        rw [hr] at h
        simp only [Option.bind_some] at h
        split at h
        · rename_i hc
          obtain ⟨kr, hkr, rfl⟩ := Option.map_eq_some_iff.1 h
          obtain ⟨n1, f1, e1⟩ := hf f (by simp) kf hr
          rw [List.length_append] at hl
          obtain ⟨n2, f2, e2⟩ := fields_open fs _ hkr (fun g hg => hf g (List.mem_cons.2 (.inr hg))) (by omega)
          obtain ⟨f3, e3⟩ := fits_append f1 f2
          refine ⟨n1 ++ n2, f3, ?_⟩
          rw [e3, ← e1, ← e2, ho, hc, ← List.drop_drop, List.take_append_drop]
        · cases h
    · cases h

theorem kinds_open : ∀ (m : Nat) {t : TypeId} {ks : List IntKind} {fuel : Nat} {cs : List Value} {x : DataW H × List MemPlace}, kindsOf P m t = some ks →
    DataW.trod enc P w base spare held fuel t cs = some x → ∃ ns, Fits ks ns ∧ cs = zipK ks ns
  | 0, _, _, _, _, _, hk, _ => by cases hk
  | m + 1, t, ks, fuel, cs, x, hk, h => by
    unfold kindsOf at hk
    cases hu : P.underlying t with
    | none => rw [hu] at hk; cases hk
    | some d =>
      rw [hu] at hk
      cases d <;> first | (cases hk; done) | skip
      case int k =>
        cases hk
        obtain ⟨n, rfl, _, hw⟩ := DataW.trod_int hu h
        refine ⟨[n], ⟨rfl, fun i k' n' h1 h2 => ?_⟩, rfl⟩
        cases i with
        | zero => simp at h1 h2; subst h1 h2; exact hw
        | succ i => simp at h1
      case struct fs =>
        obtain ⟨xs, n, _, _, hl, hlen, hf⟩ := DataW.trod_struct hu h
        have key : ∀ f ∈ fs.toList, ∀ kf, kindsOf P m f.type = some kf → ∃ ns, Fits kf ns ∧ (cs.drop f.offset).take (P.cellsOf f.type) = zipK kf ns := by
          intro f hfm kf hkf
          obtain ⟨i, hi⟩ := List.getElem?_of_mem hfm
          have hi' : fs[i]? = some f := by simpa using hi
          have := hf i f hi'
          have hlt : i < xs.length := by
            rw [hlen]
            exact (Array.getElem?_eq_some_iff.1 hi').1
          rw [List.getElem?_eq_getElem hlt] at this
          exact kinds_open m hkf this
        cases hk2 : fieldsK P (kindsOf P m) fs.toList 0 with
        | none => simp only [hk2, Option.bind_none] at hk; cases hk
        | some ks' =>
          simp only [hk2, Option.bind_some] at hk
          split at hk
          · rename_i hc
            injection hk with hk
            subst hk
            have := fields_open fs.toList 0 hk2 key (by omega)
            simpa using this
          · cases hk

/-- a slice of such, that came in -/
theorem slice_rows {t e : TypeId} {m fuel : Nat} {ks : List IntKind} {a : Option Addr} {len cap : Nat} {x : DataW H × List MemPlace} (ht : P.underlying t = some (.slice e)) (hk : kindsOf P m e = some ks) (hm : 0 < ks.length)
    (hc : P.cellsOf e = ks.length) (h : DataW.trod enc P w base spare held fuel t [.slice a len cap] = some x) : ∃ rows : List (List Int), rows.length = len ∧ (∀ r ∈ rows, Fits ks r) ∧
      ∀ (i : Nat) (hi : i < rows.length), ∃ b off cur T fr, a = some ⟨b, off, none⟩ ∧ w.heap[b]? = some (.cells cur T fr) ∧ (cur.toList.drop (off + i * ks.length)).take ks.length = zipK ks rows[i] ∧ off + i * ks.length + ks.length ≤ cur.size := by
  rcases DataW.trod_slice ht h with ⟨hcs, _⟩ | ⟨ad, l, c, elems, rest, n, _, hcs, _, _, _, _, hlen, hel, _, _⟩
  · simp only [List.cons.injEq, Value.slice.injEq, and_true] at hcs
    obtain ⟨rfl, rfl, rfl⟩ := hcs
    exact ⟨[], rfl, fun r hr => (by cases hr), fun i hi => (by simp at hi)⟩
  · simp only [List.cons.injEq, Value.slice.injEq, and_true] at hcs
    obtain ⟨rfl, rfl, rfl⟩ := hcs
    have each : ∀ i, i < len → ∃ ns, Fits ks ns ∧ ∀ j, j < ks.length → w.cell? (ad.add (i * ks.length + j)) = (zipK ks ns)[j]? := by
      intro i hi
      have h1 := hel i hi
      rw [List.getElem?_eq_getElem (by omega), Option.bind_eq_some_iff, hc] at h1
      obtain ⟨cs, h2, h3⟩ := h1
      obtain ⟨_, h4, h5⟩ := World.cells?_some h2
      obtain ⟨ns, f1, f2⟩ := kinds_open m hk h3
      refine ⟨ns, f1, fun j hj => ?_⟩
      rw [← f2, ← h5 j hj, Addr.add_add]
    have pick : ∀ N : Nat, (∀ i, i < N → ∃ ns, Fits ks ns ∧ ∀ j, j < ks.length → w.cell? (ad.add (i * ks.length + j)) = (zipK ks ns)[j]?) →
        ∃ rows : List (List Int), rows.length = N ∧ ∀ i (hi : i < rows.length), Fits ks rows[i] ∧ ∀ j, j < ks.length → w.cell? (ad.add (i * ks.length + j)) = (zipK ks rows[i])[j]? := by
      intro N
      induction N with
      | zero => exact fun _ => ⟨[], rfl, fun i hi => (by simp at hi)⟩
      | succ N ih =>
        intro each
        obtain ⟨rows, hr, hall⟩ := ih fun i hi => each i (by omega)
        obtain ⟨ns, f1, f2⟩ := each N (by omega)
        refine ⟨rows ++ [ns], by simp [hr], fun i hi => ?_⟩
        rw [List.length_append, List.length_singleton] at hi
        by_cases hlt : i < rows.length
        · rw [List.getElem_append_left hlt]
          exact hall i hlt
        · have : i = rows.length := by omega
          subst this
          simp only [List.getElem_append_right (Nat.le_refl _), Nat.sub_self, List.getElem_cons_zero]
          rw [hr]
          exact ⟨f1, f2⟩
    obtain ⟨rows, hr, hall⟩ := pick len each
    refine ⟨rows, hr, fun r hrm => ?_, fun i hi => ?_⟩
    · obtain ⟨i, hi, rfl⟩ := List.getElem_of_mem hrm
      exact (hall i hi).1
    · obtain ⟨f1, f2⟩ := hall i hi
      have zl : (zipK ks rows[i]).length = ks.length := by unfold zipK; rw [List.length_zipWith, f1.1]; omega
      have hsp : ad.spot = none := by
        have h0 := (hall 0 (by omega)).2 0 hm
        have zl0 : (zipK ks (rows[0]'(by omega))).length = ks.length := by unfold zipK; rw [List.length_zipWith, (hall 0 (by omega)).1.1]; omega
        rw [List.getElem?_eq_getElem (by omega), Nat.zero_mul, Nat.add_zero] at h0
        unfold World.cell? Addr.add at h0
        simp only [if_true] at h0
        split at h0
        · split at h0
          · cases h0
          · rename_i hs; simpa using hs
        · cases h0
      obtain ⟨b, off, spot⟩ := ad
      simp only at hsp
      subst hsp
      have cell : ∀ j, j < ks.length → w.cell? ⟨b, off + i * ks.length + j, none⟩ = (zipK ks rows[i])[j]? := fun j hj => by
        rw [← f2 j hj, Go.WideShapes.add_plain, Nat.add_assoc]
      have hb : ∃ cur T fr, w.heap[b]? = some (.cells cur T fr) := by
        have := cell 0 hm
        rw [List.getElem?_eq_getElem (by omega)] at this
        unfold World.cell? at this
        simp only at this
        split at this
        · rename_i cur T fr hh
          exact ⟨cur, T, fr, hh⟩
        · cases this
      obtain ⟨cur, T, fr, hb⟩ := hb
      have cellc : ∀ j, j < ks.length → cur.toList[off + i * ks.length + j]? = (zipK ks rows[i])[j]? := fun j hj => by
        have := cell j hj
        unfold World.cell? at this
        simp only [hb, Option.isSome_none, Bool.false_eq_true, if_false] at this
        rw [← this]
        simp
      have hle : off + i * ks.length + ks.length ≤ cur.size := by
        have := cellc (ks.length - 1) (by omega)
        rw [List.getElem?_eq_getElem (l := zipK ks rows[i]) (by omega)] at this
        have := (List.getElem?_eq_some_iff.1 this).1
        simp only [Array.length_toList] at this
        omega
      refine ⟨b, off, cur, T, fr, rfl, hb, ?_, hle⟩
      apply List.ext_getElem?
      intro j
      rw [List.getElem?_take, List.getElem?_drop]
      by_cases hj : j < ks.length
      · rw [if_pos hj]; exact cellc j hj
      · rw [if_neg hj, List.getElem?_eq_none (by omega)]
end
end Go.Hw
