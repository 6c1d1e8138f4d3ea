/- Which slots come of which: the tree's pieces. -/
import Derived.Test.YtpghhaobcikdhaaA7
namespace Go.Proofs.Ytpghhaobcikdhaa
open Go Go.Hw
set_option linter.unusedSimpArgs false
set_option linter.unusedVariables false
set_option maxRecDepth 100000

theorem keyS : KeyOk Try.prog T_api_Slot slotV := by
  have h1 : ((Try.prog.fieldsOf 66)[0]!.name == "_") = false := by kernel_rfl
  have h2 : ((Try.prog.fieldsOf 66)[1]!.name == "_") = false := by kernel_rfl
  exact keyOk_pair (f := (Try.prog.fieldsOf 66)[0]!) (g := (Try.prog.fieldsOf 66)[1]!) (A := 3) (B := 3) (by kernel_rfl) (by kernel_rfl) (by kernel_rfl) (by kernel_rfl) (by kernel_rfl) (by kernel_rfl)
    (by simpa using h1) (by simpa using h2) (by kernel_rfl) (by kernel_rfl) (by kernel_rfl)

/-- a slot that is in the tree: what it comes of, and what comes of it -/
abbrev Tree := Slot → Option (Option Slot × List Slot)
/-- where the knots lie -/
abbrev KLay := List (Slot × Nat × Nat)
def KLay.ents (L : KLay) : List (Slot × Value × Nat) := L.map fun e => (e.1, ptrV e.2.1, e.2.2)
def KLay.at (L : KLay) (s : Slot) : Nat := ((L.find? fun e => s = e.1).map (·.2.1)).getD 0
def parV (L : KLay) (p : Option Slot) : Value := .pointer (p.map fun q => ⟨L.at q, 0, none⟩)
def knotCells (L : KLay) (s : Slot) (p : Option Slot) (ch : Value) : Array Value := #[.int .i64 s.1, .int .i64 s.2, parV L p, ch]
abbrev knotP (L : KLay) (s : Slot) (b : Nat) (p : Option Slot) (ch : Value) : Chunk := pts b (.cells (knotCells L s p ch) T_tree_knot (0, 0))
def knotC (L : KLay) (s : Slot) (b : Nat) (d : Option (Option Slot × List Slot)) : Chunk :=
  match d with
  | some d => ex fun ch => star (knotP L s b d.1 ch) (knotsC ch (d.2.map L.at))
  | none => fact False
def knotsR (L L' : KLay) (T : Tree) : Chunk := stars (L'.map fun e => knotC L e.1 e.2.1 (T e.1))

structure TL (L : KLay) (T : Tree) : Prop where
  nodup : (L.map (·.1)).Nodup
  dom : ∀ s, (T s).isSome = true ↔ s ∈ L.map (·.1)

def treeL (t m : Nat) (L : KLay) (clock : Nat) (T : Tree) : Chunk :=
  star (pts t (.cells #[.map (some m)] T_tree_Tree (0, 0))) (star (pts m (mapO slotV L.ents clock)) (star (fact (TL L T)) (knotsR L L T)))
def treeC (t : Nat) (T : Tree) : Chunk := ex fun p : Nat × KLay × Nat => treeL t p.1 p.2.1 p.2.2 T

section
variable {w0 : World} {Γ Γ' : List Chunk} {W : World} {t m clock : Nat} {L L' L1 L2 : KLay} {T T' : Tree}

theorem treeC_open (h : S w0 (treeC t T :: Γ) W) : ∃ m L clock, S w0 (treeL t m L clock T :: Γ) W :=
  let ⟨⟨m, L, c⟩, h⟩ := S.ex h; ⟨m, L, c, h⟩
theorem treeC_shut (h : S w0 (treeL t m L clock T :: Γ) W) : S w0 (treeC t T :: Γ) W :=
  S.unex (c := fun p : Nat × KLay × Nat => treeL t p.1 p.2.1 p.2.2 T) (m, L, clock) h
theorem treeL_open (h : S w0 (treeL t m L clock T :: Γ) W) :
    TL L T ∧ S w0 (pts t (.cells #[.map (some m)] T_tree_Tree (0, 0)) :: pts m (mapO slotV L.ents clock) :: knotsR L L T :: Γ) W := by
  have h1 := ((h.star).take (.tail .head)).star
  have h2 := S.fact (S.star (h1.take (.tail .head)))
  exact ⟨h2.1, (h2.2.take (.tail .head)).take (.tail (.tail .head))⟩
theorem treeL_shut {Γ0 Γ1 Γ2 : List Chunk} (h : S w0 Γ0 W) (t1 : Take (pts t (.cells #[.map (some m)] T_tree_Tree (0, 0))) Γ0 Γ1) (t2 : Take (pts m (mapO slotV L.ents clock)) Γ1 Γ2)
    (t3 : Take (knotsR L L T) Γ2 Γ) (hf : TL L T) : S w0 (treeL t m L clock T :: Γ) W := by
  have h1 := (h.take t1).take (.tail t2)
  have h2 := h1.take (.tail (.tail t3))
  have h3 := S.unstar (S.unfact hf h2)
  have h4 := S.unstar (h3.take (.tail .head))
  exact S.unstar (h4.take (.tail .head))

theorem mGet_kents {s : Slot} : mGet s L.ents = (L.find? fun e => s = e.1).map fun e => ptrV e.2.1 := by
  unfold mGet KLay.ents
  rw [List.find?_map]
  simp only [Option.map_map]
  rfl
theorem kents_fst : L.ents.map (·.1) = L.map (·.1) := by simp only [KLay.ents, List.map_map]; rfl

theorem TL.none (hf : TL L T) {s : Slot} (h : T s = none) : mGet s L.ents = none := by
  rw [mGet_kents, List.find?_eq_none.2]
  · rfl
  · intro e he
    simp only [decide_eq_true_eq]
    rintro rfl
    have := (hf.dom e.1).2 (List.mem_map.2 ⟨e, he, rfl⟩)
    rw [h] at this
    cases this

theorem at_mem (hn : (L.map (·.1)).Nodup) {e : Slot × Nat × Nat} (he : e ∈ L) : (L.find? fun x => e.1 = x.1) = some e := by
  induction L with
  | nil => cases he
  | cons x L ih =>
    rw [List.map_cons, List.nodup_cons] at hn
    rcases List.mem_cons.1 he with rfl | he
    · simp
    · have : e.1 ≠ x.1 := fun h => hn.1 (h ▸ List.mem_map.2 ⟨e, he, rfl⟩)
      rw [List.find?_cons, decide_eq_false this]
      exact ih hn.2 he

theorem TL.some (hf : TL L T) {s : Slot} (h : (T s).isSome = true) : ∃ blk born, (s, blk, born) ∈ L ∧ mGet s L.ents = some (ptrV blk) ∧ L.at s = blk := by
  obtain ⟨e, he, rfl⟩ := List.mem_map.1 ((hf.dom s).1 h)
  refine ⟨e.2.1, e.2.2, he, ?_, ?_⟩
  · rw [mGet_kents, at_mem hf.nodup he]; rfl
  · unfold KLay.at; rw [at_mem hf.nodup he]; rfl

theorem TL.at (hf : TL L T) {e : Slot × Nat × Nat} (he : e ∈ L) : L.at e.1 = e.2.1 := by unfold KLay.at; rw [at_mem hf.nodup he]; rfl

theorem knots_pick {e : Slot × Nat × Nat} {d : Option Slot × List Slot} (h : S w0 Γ W) (tk : Take (knotsR L (L1 ++ e :: L2) T) Γ Γ') (hd : T e.1 = some d) :
    ∃ ch, S w0 (knotP L e.1 e.2.1 d.1 ch :: knotsC ch (d.2.map L.at) :: knotsR L (L1 ++ L2) T :: Γ') W := by
  have h1 := S.pick (f := fun e : Slot × Nat × Nat => knotC L e.1 e.2.1 (T e.1)) (h.take tk)
  rw [hd] at h1
  obtain ⟨ch, h2⟩ := S.ex (c := fun ch => star (knotP L e.1 e.2.1 d.1 ch) (knotsC ch (d.2.map L.at))) h1
  exact ⟨ch, S.star h2⟩

theorem knots_unpick {e : Slot × Nat × Nat} {d : Option Slot × List Slot} {ch : Value} {Γ0 Γ1 Γ2 : List Chunk} (h : S w0 Γ0 W) (t1 : Take (knotP L e.1 e.2.1 d.1 ch) Γ0 Γ1) (t2 : Take (knotsC ch (d.2.map L.at)) Γ1 Γ2)
    (t3 : Take (knotsR L (L1 ++ L2) T) Γ2 Γ) (hd : T' e.1 = some d) (ho : ∀ x ∈ L1 ++ L2, T' x.1 = T x.1) : S w0 (knotsR L (L1 ++ e :: L2) T' :: Γ) W := by
  have h1 := (h.take t1).take (.tail t2)
  have h2 := S.unex (c := fun ch => star (knotP L e.1 e.2.1 d.1 ch) (knotsC ch (d.2.map L.at))) ch (S.unstar (h1.take (.tail .head)))
  have h3 := h2.take (.tail t3)
  have e0 : (ex fun ch => star (knotP L e.1 e.2.1 d.1 ch) (knotsC ch (d.2.map L.at))) = knotC L e.1 e.2.1 (T' e.1) := by rw [hd]; rfl
  rw [e0] at h3
  have e1 : knotsR L (L1 ++ L2) T = knotsR L (L1 ++ L2) T' := by
    unfold knotsR
    congr 1
    exact List.map_congr_left fun x hx => by rw [ho x hx]
  rw [e1] at h3
  exact S.unpick (f := fun e : Slot × Nat × Nat => knotC L e.1 e.2.1 (T' e.1)) (h3.take (.tail .head))

theorem S.ne {b b' : Nat} {o o' : Obj} (h : S w0 (pts b o :: Γ) W) (tk : Take (pts b' o') Γ Γ') : b ≠ b' := by
  rintro rfl
  obtain ⟨_, _, _, fp, f, g, h1, h2, h3, h4⟩ := h
  obtain ⟨f2, g2, k1, k2, k3, k4⟩ := tk.hold h2
  exact h3 b ⟨(h1.2 b).2 rfl, (k4 b).2 (.inl ((k1.2 b).2 rfl))⟩

theorem knots_d (h : S w0 Γ W) (tk : Take (knotsR L L' T) Γ Γ') {e : Slot × Nat × Nat} (he : e ∈ L') : (T e.1).isSome = true := by
  obtain ⟨L1, L2, rfl⟩ := List.append_of_mem he
  have h1 := S.pick (f := fun e : Slot × Nat × Nat => knotC L e.1 e.2.1 (T e.1)) (h.take tk)
  cases hd : T e.1 with
  | some d => rfl
  | none => rw [hd] at h1; exact (S.fact (p := False) h1).1.elim

theorem knots_live (h : S w0 Γ W) (tk : Take (knotsR L L' T) Γ Γ') {e : Slot × Nat × Nat} (he : e ∈ L') : ∃ c T, W.heap[e.2.1]? = some (.cells c T (0, 0)) := by
  obtain ⟨d, hd⟩ := Option.isSome_iff_exists.1 (knots_d h tk he)
  obtain ⟨L1, L2, rfl⟩ := List.append_of_mem he
  obtain ⟨ch, h1⟩ := knots_pick h tk hd
  exact ⟨_, _, Knows.head.get h1⟩

theorem knots_ne {e e' : Slot × Nat × Nat} (h : S w0 Γ W) (tk : Take (knotsR L (L1 ++ e :: L2) T) Γ Γ') (he : e' ∈ L1 ++ L2) : e.2.1 ≠ e'.2.1 := by
  obtain ⟨d, hd⟩ := Option.isSome_iff_exists.1 (knots_d h tk (e := e) (by simp))
  obtain ⟨ch, h1⟩ := knots_pick h tk hd
  obtain ⟨d', hd'⟩ := Option.isSome_iff_exists.1 (knots_d h1 (.tail (.tail .head)) he)
  obtain ⟨M1, M2, hM⟩ := List.append_of_mem he
  rw [hM] at h1
  obtain ⟨ch', h2⟩ := knots_pick h1 (.tail (.tail .head)) hd'
  exact S.ne (h2.take (.tail (.tail (.tail .head)))) .head

theorem at_inj (h : S w0 Γ W) (tk : Take (knotsR L L T) Γ Γ') (hf : TL L T) {a b : Slot} (ha : (T a).isSome = true) (hb : (T b).isSome = true) (hab : L.at a = L.at b) : a = b := by
  obtain ⟨x, bx, hx, _, ex⟩ := hf.some ha
  obtain ⟨y, by_, hy, _, ey⟩ := hf.some hb
  rw [ex, ey] at hab
  subst hab
  by_cases hne : a = b
  · exact hne
  · obtain ⟨L1, L2, hL⟩ := List.append_of_mem hx
    have hm : (b, x, by_) ∈ L1 ++ L2 := by
      rw [hL] at hy
      rcases List.mem_append.1 hy with h | h
      · exact List.mem_append.2 (.inl h)
      · rcases List.mem_cons.1 h with h | h
        · injection h with h1 h2; exact absurd h1.symm hne
        · exact List.mem_append.2 (.inr h)
    have tk' : Take (knotsR L (L1 ++ (a, x, bx) :: L2) T) Γ Γ' := by rw [← hL]; exact tk
    exact absurd rfl (knots_ne (e := (a, x, bx)) (e' := (b, x, by_)) h tk' hm)
end
end Go.Proofs.Ytpghhaobcikdhaa
