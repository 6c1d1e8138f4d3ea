/- What came in, read; RevokeCopies. -/
import Derived.Test.YtpghhaobcikdhaaC2
import Derived.Below
namespace Go.Proofs.Ytpghhaobcikdhaa
open Go Go.Hw
set_option linter.unusedSimpArgs false
set_option linter.unusedVariables false
set_option maxRecDepth 100000

/-- a slice that came in, by its elements -/
def Rd {α : Type} (w0 : World) (m : Nat) (f : α → List Value) (x : Value) (l : List α) : Prop :=
  ∃ a c, x = .slice a l.length c ∧ ∀ (i : Nat) (hi : i < l.length), ∃ b off cur T fr, a = some ⟨b, off, none⟩ ∧ w0.heap[b]? = some (.cells cur T fr) ∧ (cur.toList.drop (off + i * m)).take m = f l[i] ∧ off + i * m + m ≤ cur.size

theorem S.old {w0 : World} {Γ Γ' : List Chunk} {W : World} (h : S w0 Γ W) (tk : Take (init w0) Γ Γ') {b : Nat} (hb : b < w0.heap.size) : W.heap[b]? = w0.heap[b]? := by
  obtain ⟨_, _, _, fp, hh⟩ := h
  obtain ⟨f, g, h1, _⟩ := tk.hold hh
  exact h1.2 b hb
theorem heap_lt {w : World} {b : Nat} {o : Obj} (h : w.heap[b]? = some o) : b < w.heap.size := by
  rcases Nat.lt_or_ge b w.heap.size with h' | h'
  · exact h'
  · rw [Array.getElem?_eq_none h'] at h; cases h
theorem S.below {w0 : World} {Γ Γ' : List Chunk} {W : World} (h : S w0 Γ W) (tk : Take (init w0) Γ Γ') : RowKit.Below w0.heap.size w0 W := by
  refine ⟨h.os, h.tape, h.output, ?_, fun k hk => S.old h tk hk⟩
  rcases Nat.eq_zero_or_pos w0.heap.size with h0 | h0
  · omega
  · have h1 := S.old h tk (b := w0.heap.size - 1) (by omega)
    have h2 : (w0.heap[w0.heap.size - 1]?).isSome = true := by simp; omega
    rw [← h1] at h2
    obtain ⟨o, ho⟩ := Option.isSome_iff_exists.1 h2
    have := heap_lt ho
    omega

def modI (x m : Int) : Int := (IntKind.u64.wrap x).tmod m
theorem wrap_u64_nonneg (x : Int) : 0 ≤ IntKind.u64.wrap x := by
  have e : IntKind.u64.wrap x = x % 18446744073709551616 := by
    unfold IntKind.wrap
    simp [IntKind.bits, IntKind.signed]
  rw [e]
  exact Int.emod_nonneg _ (by decide)
theorem wrap_u64 {n : Int} (h : 0 ≤ n ∧ n < 9223372036854775808) : IntKind.u64.wrap n = n := by
  have e : IntKind.u64.wrap n = n % 18446744073709551616 := by
    unfold IntKind.wrap
    simp [IntKind.bits, IntKind.signed]
  rw [e]
  exact Int.emod_eq_of_lt h.1 (by omega)
theorem modI_bound (x : Int) {m : Int} (hm : 0 < m) : 0 ≤ modI x m ∧ modI x m < m :=
  ⟨Int.tmod_nonneg _ (wrap_u64_nonneg x), Int.tmod_lt_of_pos _ hm⟩

/- capabilities, each a copy of one made before -/
def ecap : Cap := ⟨4, 7, 7, 0, 0, 0⟩
structure CopyInv (X : Caps) (n : Nat) : Prop where
  made : X.Made
  fl : ∀ a, X.s.fl a ↔ ∃ j : Nat, j < n ∧ a = (0, (j : Int))
  cap : ∀ a, X.s.fl a → X.s.cap a = ecap
  anc : ∀ j : Nat, 1 ≤ j → j < n → X.t.Anc (0, 0) (0, (j : Int))
  node : ∀ j : Nat, j < 16 → (X.s.get (0, (j : Int))).isSome = true
theorem anc_add {T : Tree} {s : Slot} {par : Option Slot} (hn : T s = none) {a c : Slot} (h : T.Anc a c) : (T.add s par).2.Anc a c := by
  have keep : ∀ c d, T c = some d → ∃ e, (T.add s par).2 c = some e ∧ e.1 = d.1 := by
    intro c d hc
    obtain ⟨e, he⟩ := Option.isSome_iff_exists.1 ((Tree.add_dom (par := par) hn).2 (.inr (isSome_of hc)))
    refine ⟨e, he, ?_⟩
    rcases Tree.add_get hn he with ⟨h1, _⟩ | ⟨_, e', h2, h3, _⟩
    · rw [h1, hn] at hc; cases hc
    · rw [hc] at h2; injection h2 with h2; rw [h3, h2]
  induction h with
  | par hd hp => obtain ⟨e, he, h1⟩ := keep _ _ hd; exact .par he (h1.trans hp)
  | up hd hp _ ih => obtain ⟨e, he, h1⟩ := keep _ _ hd; exact .up he (h1.trans hp) ih
theorem isSome_put {σ : Store} {a b : Slot} {c : Cap} (h : (σ.get b).isSome = true) : ((σ.put a c).2.get b).isSome = true := by
  by_cases he : (σ.put a c).1 = 0
  · obtain ⟨_, _, hs, _, e⟩ := Store.put_yes he
    obtain ⟨x, hx⟩ := Option.isSome_iff_exists.1 hs
    rw [e, Store.get_set hx]
    split
    · rfl
    · exact h
  · rw [Store.put_no he]; exact h

theorem derive_ecap : ecap.derive 7 0 0 0 = (ecap, 0) := by kernel_rfl
theorem check_ecap : ecap.check = 0 := by kernel_rfl

theorem both_of {X : Caps} {a b : Slot} (ha : X.s.fl a) (hb : ¬ X.s.fl b) (hs : (X.s.get b).isSome = true) : X.both a b = (X.s.cap a, 0) := by
  obtain ⟨c, hc, hk, he⟩ := Store.fl_get ha
  obtain ⟨x, hx⟩ := Option.isSome_iff_exists.1 hs
  have hx0 : x.kind = 0 := by
    unfold Store.fl at hb
    rw [Store.cap_get, hx] at hb
    simpa using hb
  unfold Caps.both Caps.source Caps.place Store.geta
  rw [hc, hx, he]
  simp [hk, hx0]

theorem CopyInv.copy {X : Caps} {n k : Nat} (h : CopyInv X n) (hk : k < n) (hn : n < 16) : (X.copy (0, (k : Int)) (0, (n : Int)) 7).1 = 0 ∧ CopyInv (X.copy (0, (k : Int)) (0, (n : Int)) 7).2 (n + 1) := by
  have hsrc : X.s.fl (0, (k : Int)) := (h.fl _).2 ⟨k, hk, rfl⟩
  have hdst : ¬ X.s.fl (0, (n : Int)) := fun hh => by
    obtain ⟨j, hj, e⟩ := (h.fl _).1 hh
    injection e with _ e
    have : n = j := Int.ofNat.inj e
    omega
  have hget := h.node n hn
  have hb := both_of hsrc hdst hget
  have hcap := h.cap _ hsrc
  have hput := put_of hget hdst (c := ecap) (by decide) check_ecap
  have hnone := none_of h.made.ok hdst
  have hdom := (h.made.ok.same _).2 hsrc
  have hge : (X.s.geta (0, (k : Int))).1 = ecap := hcap
  have e : X.copy (0, (k : Int)) (0, (n : Int)) 7 = (0, ⟨(X.s.put (0, (n : Int)) ecap).2, (X.t.add (0, (n : Int)) (some (0, (k : Int)))).2⟩) := by
    unfold Caps.copy Caps.mint
    rw [hb, hcap, hge]
    have hd : ecap.derive 7 0 ecap.guard ecap.bits = (ecap, 0) := derive_ecap
    simp only [hd, ne_eq, not_true, if_false]
    unfold Caps.child
    rw [hb]
    unfold Tree.child
    simp [hput, hdom]
  have hmade := Caps.copy_made h.made (0, (k : Int)) (0, (n : Int)) 7
  rw [e] at hmade ⊢
  refine ⟨rfl, hmade, fun a => ?_, fun a ha => ?_, fun j h1 hj => ?_, fun j hj => ?_⟩
  · show (X.s.put _ _).2.fl a ↔ _
    rw [fl_put hput, h.fl]
    constructor
    · rintro (rfl | ⟨j, hj, rfl⟩)
      · exact ⟨n, by omega, rfl⟩
      · exact ⟨j, by omega, rfl⟩
    · rintro ⟨j, hj, rfl⟩
      by_cases hjn : j = n
      · exact .inl (by rw [hjn])
      · exact .inr ⟨j, by omega, rfl⟩
  · have ha' : (X.s.put (0, (n : Int)) ecap).2.fl a := ha
    show (X.s.put _ _).2.cap a = _
    rw [Store.cap_put hput]
    split
    · rfl
    · rename_i hne
      exact h.cap a (((fl_put hput).1 ha').resolve_left hne)
  · show (X.t.add _ _).2.Anc _ _
    by_cases hjn : j = n
    · subst hjn
      have hs : (X.t.add (0, (j : Int)) (some (0, (k : Int)))).2 (0, (j : Int)) = some (some (0, (k : Int)), []) := by
        rw [Tree.add_new hnone]; simp
      by_cases hk0 : k = 0
      · subst hk0
        exact .par hs rfl
      · exact .up hs rfl (anc_add hnone (h.anc k (by omega) hk))
    · exact anc_add hnone (h.anc j h1 (by omega))
  · exact isSome_put (h.node j hj)

def cX1 : Caps := (Caps.new.node 0 4).2
def cX2 : Caps := (cX1.plant (0, 0) ecap).2
theorem cX1_made : cX1.Made := Caps.node_made Caps.new_made _ _
theorem cX1_get (j : Nat) (hj : j < 16) : (cX1.s.get (0, (j : Int))).isSome = true := by
  have e : cX1.s 0 = some (Node.new 4) := by kernel_rfl
  unfold Store.get
  simp only [e, Node.new]
  rw [if_pos ⟨by omega, by omega⟩]
  simp
  omega
theorem cX1_cap (a : Slot) : cX1.s.cap a = Cap.zero := by
  show (Caps.new.s.add 0 4).2.cap a = _
  rw [Store.cap_add]
  rfl
theorem cX2_inv : CopyInv cX2 1 := by
  have hnf : ∀ a, ¬ cX1.s.fl a := fun a h => by unfold Store.fl at h; rw [cX1_cap] at h; exact h rfl
  have hput : (cX1.s.put (0, 0) ecap).1 = 0 := put_of (cX1_get 0 (by omega)) (hnf _) (by decide) check_ecap
  have e : cX2 = ⟨(cX1.s.put (0, 0) ecap).2, (cX1.t.add (0, 0) none).2⟩ := by
    unfold cX2 Caps.plant
    simp only [hput, if_true]
  refine ⟨Caps.plant_made cX1_made _ _, fun a => ?_, fun a ha => ?_, fun j h1 h2 => by omega, fun j hj => ?_⟩
  · rw [e]
    show (cX1.s.put _ _).2.fl a ↔ _
    rw [fl_put hput]
    constructor
    · rintro (rfl | h)
      · exact ⟨0, by omega, rfl⟩
      · exact absurd h (hnf a)
    · rintro ⟨j, hj, rfl⟩
      have : j = 0 := by omega
      subst this
      exact .inl rfl
  · rw [e] at ha ⊢
    have ha' : (cX1.s.put (0, 0) ecap).2.fl a := ha
    show (cX1.s.put _ _).2.cap a = _
    rw [Store.cap_put hput]
    split
    · rfl
    · rename_i hne
      exact absurd (((fl_put hput).1 ha').resolve_left hne) (hnf a)
  · rw [e]
    exact isSome_put (cX1_get j hj)

/-- a revoke under way: such kin are left -/
structure RevInv (X : Caps) (l : List Slot) : Prop where
  made : X.Made
  fl0 : X.s.fl (0, 0)
  kin : X.t.Kin (0, 0) l
  fl : ∀ a, X.s.fl a ↔ a = (0, 0) ∨ a ∈ l
  cap : ∀ a, X.s.fl a → X.s.cap a = ecap

theorem CopyInv.rev {X : Caps} {n : Nat} (h : CopyInv X n) (h1 : 1 ≤ n) : ∃ l, RevInv X l ∧ l.length = n - 1 := by
  obtain ⟨l, hl⟩ := Tree.kin_of h.made.ok.t (0, 0)
  have h0 : X.s.fl (0, 0) := (h.fl _).2 ⟨0, by omega, rfl⟩
  have hm : ∀ a, a ∈ l ↔ ∃ j : Nat, 1 ≤ j ∧ j < n ∧ a = (0, (j : Int)) := by
    intro a
    constructor
    · intro ha
      have hf := (h.made.ok.same a).1 (hl.dom a ha)
      obtain ⟨j, hj, rfl⟩ := (h.fl a).1 hf
      refine ⟨j, ?_, hj, rfl⟩
      rcases Nat.eq_zero_or_pos j with hz | hz
      · subst hz
        exact absurd ha hl.self
      · exact hz
    · rintro ⟨j, hj1, hj2, rfl⟩
      exact (hl.anc _).2 (h.anc j hj1 hj2)
  have hlen : l.length = n - 1 := by
    have hinj : ((List.range (n - 1)).map fun i : Nat => ((0 : Int), ((i + 1 : Nat) : Int))).Nodup := by
      unfold List.Nodup
      rw [List.pairwise_map]
      exact List.nodup_range.imp fun hne e => hne (by injection e with _ e; have := Int.ofNat.inj e; omega)
    have a1 := length_sub l ((List.range (n - 1)).map fun i : Nat => ((0 : Int), ((i + 1 : Nat) : Int))) hl.nodup fun x hx => by
      obtain ⟨j, hj1, hj2, rfl⟩ := (hm x).1 hx
      exact List.mem_map.2 ⟨j - 1, List.mem_range.2 (by omega), by rw [show j - 1 + 1 = j from by omega]⟩
    have a2 := length_sub _ l hinj fun x hx => by
      obtain ⟨i, hi, rfl⟩ := List.mem_map.1 hx
      exact (hm _).2 ⟨i + 1, by omega, by have := List.mem_range.1 hi; omega, rfl⟩
    rw [List.length_map, List.length_range] at a1 a2
    omega
  refine ⟨l, ⟨h.made, h0, hl, fun a => ?_, h.cap⟩, hlen⟩
  rw [h.fl, hm]
  constructor
  · rintro ⟨j, hj, rfl⟩
    rcases Nat.eq_zero_or_pos j with hz | hz
    · subst hz
      exact .inl rfl
    · exact .inr ⟨j, hz, hj, rfl⟩
  · rintro (rfl | ⟨j, _, hj, rfl⟩)
    · exact ⟨0, by omega, rfl⟩
    · exact ⟨j, hj, rfl⟩

theorem RevInv.final {X : Caps} {l : List Slot} (h : RevInv X l) : X.final (0, 0) = decide (l.length = 0) := by
  rw [Bool.eq_iff_iff, Caps.final_iff h.made.ok.s, decide_eq_true_eq]
  constructor
  · rintro ⟨_, hu⟩
    cases l with
    | nil => rfl
    | cons g l =>
      have hg : X.s.fl g := (h.fl g).2 (.inr (by simp))
      have := hu g hg (by rw [h.cap _ hg, h.cap _ h.fl0]) (by rw [h.cap _ hg, h.cap _ h.fl0])
      exact absurd (by rw [this]; simp : (0, 0) ∈ g :: l) (fun hm => h.kin.self (by simp [← this]))
  · intro hl
    have : l = [] := List.eq_nil_of_length_eq_zero hl
    subst this
    refine ⟨h.fl0, fun b hb _ _ => ?_⟩
    rcases (h.fl b).1 hb with h1 | h1
    · exact h1
    · cases h1
theorem RevInv.takes {X : Caps} {l l2 : List Slot} (h : RevInv X (l ++ l2)) : RevInv (takes X l2.reverse) l := by
  obtain ⟨h1, h2, h3, h4⟩ := takes_kin h.made h.fl0 l2.length rfl h.kin
  have hd := List.nodup_append.1 h.kin.nodup
  have hfl : ∀ a, (Go.Proofs.Ytpghhaobcikdhaa.takes X l2.reverse).s.fl a ↔ a ∉ l2 ∧ X.s.fl a := fun a => by
    unfold Store.fl
    rw [h4]
    by_cases ha : a ∈ l2 <;> simp [ha, Cap.zero]
  refine ⟨h1, h2, h3, fun a => ?_, fun a ha => ?_⟩
  · rw [hfl, h.fl, List.mem_append]
    constructor
    · rintro ⟨n1, h5 | h5 | h5⟩
      · exact .inl h5
      · exact .inr h5
      · exact absurd h5 n1
    · rintro (rfl | h5)
      · exact ⟨fun hm => h.kin.self (by simp [hm]), .inl rfl⟩
      · exact ⟨fun hm => hd.2.2 a h5 a hm rfl, .inr (.inl h5)⟩
  · obtain ⟨n1, n2⟩ := (hfl a).1 ha
    rw [h4, if_neg n1]
    exact h.cap a n2
theorem RevInv.full {X : Caps} (h : RevInv X []) : X.s.full.length = 1 := by
  have hn := Store.full_nodup h.made.ok.s.wf
  rw [one_iff hn ((Store.full_iff h.made.ok.s).2 h.fl0)]
  intro b hb
  rcases (h.fl b).1 ((Store.full_iff h.made.ok.s).1 hb) with h1 | h1
  · exact h1
  · cases h1

/-- so many calls -/
theorem calls_eq {L i s : Nat} (hs1 : 1 ≤ s) (hs6 : s ≤ 6) (h1 : L ≤ i * s + s) (h2 : i = 0 ∨ i * s < L) : i + 1 = L / s + 1 - (if L > 0 ∧ L % s = 0 then 1 else 0) := by
  have hh : s = 1 ∨ s = 2 ∨ s = 3 ∨ s = 4 ∨ s = 5 ∨ s = 6 := by omega
  rcases hh with rfl | rfl | rfl | rfl | rfl | rfl <;> split <;> omega
end Go.Proofs.Ytpghhaobcikdhaa
