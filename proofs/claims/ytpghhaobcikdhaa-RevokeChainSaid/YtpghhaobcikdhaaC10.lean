/- RevokeChain: how the nodes are laid in one another (plain). -/
import Derived.Test.YtpghhaobcikdhaaC9
namespace Go.Proofs.Ytpghhaobcikdhaa
open Go Go.Hw
set_option linter.unusedSimpArgs false
set_option linter.unusedVariables false
set_option maxRecDepth 100000

theorem stepsN (x : Int) {m : Int} (h0 : 0 < m) (hm : m < 1000000) : ∃ st : Nat, 1 ≤ st ∧ (st : Int) ≤ m ∧ IntKind.i64.wrap (1 + IntKind.i64.wrap ((IntKind.u64.wrap x).tmod m)) = (st : Int) := by
  have hb := modI_bound x h0
  unfold modI at hb
  refine ⟨(1 + (IntKind.u64.wrap x).tmod m).toNat, by omega, by omega, ?_⟩
  rw [wrap_i64 (n := (IntKind.u64.wrap x).tmod m) (by omega), wrap_i64 (by omega)]
  omega

theorem plant_facts {X : Caps} (h : X.Ok) (hz : ∀ a c, X.s.get a = some c → c.kind = 0 → c = Cap.zero) {a : Slot} {c : Cap} (hg : (X.s.get a).isSome = true) (hf : ¬ X.s.fl a) (hk : c.kind ≠ 0) (hc : c.check = 0) :
    (X.plant a c).1 = 0 ∧ (X.plant a c).2.Ok ∧ (∀ b x, (X.plant a c).2.s.get b = some x → x.kind = 0 → x = Cap.zero) ∧ (∀ b, (X.plant a c).2.s.fl b ↔ b = a ∨ X.s.fl b) ∧
    (∀ b, (X.plant a c).2.s.cap b = if b = a then c else X.s.cap b) ∧ ∀ id, (X.plant a c).2.s.radix id = X.s.radix id := by
  have hp := put_of hg hf hk hc
  refine ⟨hp, Caps.plant_ok h a c, fun b x hx hx0 => ?_, fun b => fl_put hp, fun b => Store.cap_put hp, fun id => Store.radix_put id⟩
  have hx' : (X.s.put a c).2.get b = some x := hx
  rw [(Store.put_yes hp).2.2.2.2] at hx'
  obtain ⟨y, hy⟩ := Option.isSome_iff_exists.1 hg
  rw [Store.get_set hy] at hx'
  split at hx'
  · injection hx' with hx'
    rw [← hx'] at hx0
    exact absurd hx0 hk
  · exact hz b x hx' hx0
theorem plant_full {X : Caps} {a : Slot} {c : Cap} (hf : X.s.fl a) : (X.plant a c).1 ≠ 0 ∧ (X.plant a c).2 = X := by
  have h1 : (X.s.put a c).1 ≠ 0 := fun e => (Store.put_yes e).2.1 hf
  refine ⟨h1, ?_⟩
  unfold Caps.plant
  simp only [h1, if_false, Store.put_no h1]

/-- the first nodes, all empty -/
structure Nd (X : Caps) (i : Nat) : Prop where
  ok : X.Ok
  z : ∀ a c, X.s.get a = some c → c.kind = 0 → c = Cap.zero
  node : ∀ id : Nat, id < i → X.s.radix id = 2
  gone : ∀ id : Nat, i ≤ id → X.s id = none
  empty : ∀ a, ¬ X.s.fl a

theorem Nd.start : Nd Caps.new 0 := ⟨Caps.new_ok, fun a c h => (by cases h), fun id h => (by omega), fun id h => rfl, fun a h => h rfl⟩
theorem Nd.add {X : Caps} {i : Nat} (h : Nd X i) (hi : i < 64) : (X.node i 2).1 = 0 ∧ Nd (X.node i 2).2 (i + 1) := by
  have hn := h.gone i (Nat.le_refl _)
  have e : X.s.add i 2 = (0, fun x => if x = (i : Int) then some (Node.new 2) else X.s x) := by
    unfold Store.add
    rw [if_neg (by omega), if_neg (by rw [hn]; decide)]
    rfl
  have e2 : X.node i 2 = (0, ⟨fun x => if x = (i : Int) then some (Node.new 2) else X.s x, X.t⟩) := by unfold Caps.node; rw [e]
  have hcap : ∀ b, (X.node i 2).2.s.cap b = X.s.cap b := fun b => Store.cap_add
  refine ⟨by rw [e2], Caps.node_ok h.ok _ _, fun a c hc hk => ?_, fun id hid => ?_, fun id hid => ?_, fun a ha => ?_⟩
  · rw [e2] at hc
    unfold Store.get at hc
    by_cases ha : a.1 = (i : Int)
    · simp only [ha, if_true] at hc
      split at hc
      · have := List.mem_of_getElem? hc
        rw [Node.new, List.mem_replicate] at this
        exact this.2
      · cases hc
    · simp only [ha, if_false] at hc
      exact h.z a c hc hk
  · rw [e2]
    unfold Store.radix
    by_cases hid' : id = i
    · subst hid'; simp [Node.new]
    · have hne : ¬ ((id : Int) = (i : Int)) := by omega
      simp only [hne, if_false]
      exact h.node id (by omega)
  · rw [e2]
    have hne : ¬ ((id : Int) = (i : Int)) := by omega
    simp only [hne, if_false]
    exact h.gone id (by omega)
  · unfold Store.fl at ha
    rw [hcap] at ha
    exact h.empty a ha
theorem Nd.ch {X : Caps} {n : Nat} (h : Nd X (n + 1)) : Ch X n 0 [] :=
  ⟨h.ok, h.z, fun id hid => h.node id (by omega), fun id hid => by unfold Store.radix; rw [h.gone id (by omega)], by omega,
   fun a => ⟨fun hf => absurd hf (h.empty a), fun hh => by rcases hh with ⟨i, hi, _⟩ | hh; omega; cases hh⟩, List.nodup_nil, fun i hi => (by omega), fun a ha => (by cases ha), fun a ha => (by cases ha), fun a ha => (by cases ha)⟩

theorem nodeCheck0 : Cap.check ⟨2, ((0 + 1 : Nat) : Int), 0, 0, 0, 0⟩ = 0 := by kernel_rfl
theorem nodeCheck1 : Cap.check ⟨2, ((1 + 1 : Nat) : Int), 0, 0, 0, 0⟩ = 0 := by kernel_rfl
theorem nodeCheck2 : Cap.check ⟨2, ((2 + 1 : Nat) : Int), 0, 0, 0, 0⟩ = 0 := by kernel_rfl
theorem nodeCheck3 : Cap.check ⟨2, ((3 + 1 : Nat) : Int), 0, 0, 0, 0⟩ = 0 := by kernel_rfl
theorem nodeCheck4 : Cap.check ⟨2, ((4 + 1 : Nat) : Int), 0, 0, 0, 0⟩ = 0 := by kernel_rfl
theorem nodeCheck5 : Cap.check ⟨2, ((5 + 1 : Nat) : Int), 0, 0, 0, 0⟩ = 0 := by kernel_rfl
theorem nodeCheck6 : Cap.check ⟨2, ((6 + 1 : Nat) : Int), 0, 0, 0, 0⟩ = 0 := by kernel_rfl
theorem nodeCheck7 : Cap.check ⟨2, ((7 + 1 : Nat) : Int), 0, 0, 0, 0⟩ = 0 := by kernel_rfl
theorem frameCheck0 : Cap.check ⟨6, ((20 + 0 : Nat) : Int), 1, 0, 0, 0⟩ = 0 := by kernel_rfl
theorem frameCheck1 : Cap.check ⟨6, ((20 + 1 : Nat) : Int), 1, 0, 0, 0⟩ = 0 := by kernel_rfl
theorem frameCheck2 : Cap.check ⟨6, ((20 + 2 : Nat) : Int), 1, 0, 0, 0⟩ = 0 := by kernel_rfl
theorem frameCheck3 : Cap.check ⟨6, ((20 + 3 : Nat) : Int), 1, 0, 0, 0⟩ = 0 := by kernel_rfl
theorem frameCheck4 : Cap.check ⟨6, ((20 + 4 : Nat) : Int), 1, 0, 0, 0⟩ = 0 := by kernel_rfl
theorem frameCheck5 : Cap.check ⟨6, ((20 + 5 : Nat) : Int), 1, 0, 0, 0⟩ = 0 := by kernel_rfl
theorem frameCheck6 : Cap.check ⟨6, ((20 + 6 : Nat) : Int), 1, 0, 0, 0⟩ = 0 := by kernel_rfl
theorem frameCheck7 : Cap.check ⟨6, ((20 + 7 : Nat) : Int), 1, 0, 0, 0⟩ = 0 := by kernel_rfl
theorem frameCheck8 : Cap.check ⟨6, ((20 + 8 : Nat) : Int), 1, 0, 0, 0⟩ = 0 := by kernel_rfl
theorem frameCheck9 : Cap.check ⟨6, ((20 + 9 : Nat) : Int), 1, 0, 0, 0⟩ = 0 := by kernel_rfl
theorem frameCheck10 : Cap.check ⟨6, ((20 + 10 : Nat) : Int), 1, 0, 0, 0⟩ = 0 := by kernel_rfl
theorem frameCheck11 : Cap.check ⟨6, ((20 + 11 : Nat) : Int), 1, 0, 0, 0⟩ = 0 := by kernel_rfl
theorem node_check (k : Nat) (hk : k < 8) : Cap.check ⟨2, ((k + 1 : Nat) : Int), 0, 0, 0, 0⟩ = 0 :=
  match k, hk with
  | 0, _ => nodeCheck0
  | 1, _ => nodeCheck1
  | 2, _ => nodeCheck2
  | 3, _ => nodeCheck3
  | 4, _ => nodeCheck4
  | 5, _ => nodeCheck5
  | 6, _ => nodeCheck6
  | 7, _ => nodeCheck7
theorem frame_check (i : Nat) (hi : i < 12) : Cap.check ⟨6, ((20 + i : Nat) : Int), 1, 0, 0, 0⟩ = 0 :=
  match i, hi with
  | 0, _ => frameCheck0
  | 1, _ => frameCheck1
  | 2, _ => frameCheck2
  | 3, _ => frameCheck3
  | 4, _ => frameCheck4
  | 5, _ => frameCheck5
  | 6, _ => frameCheck6
  | 7, _ => frameCheck7
  | 8, _ => frameCheck8
  | 9, _ => frameCheck9
  | 10, _ => frameCheck10
  | 11, _ => frameCheck11

/-- one more node's capability -/
theorem Ch.link {X : Caps} {n k : Nat} (h : Ch X n k []) (hk : k < n) (hn : n ≤ 8) : (X.plant ((k : Int), 1) ⟨2, ((k + 1 : Nat) : Int), 0, 0, 0, 0⟩).1 = 0 ∧ Ch (X.plant ((k : Int), 1) ⟨2, ((k + 1 : Nat) : Int), 0, 0, 0, 0⟩).2 n (k + 1) [] := by
  have hg := get_of_radix h.ok (h.node k (by omega)) (j := 1) ⟨by omega, by omega⟩
  have hf : ¬ X.s.fl ((k : Int), 1) := fun hh => by
    rcases (h.fl _).1 hh with ⟨i, hi, e⟩ | e
    · injection e with e _; omega
    · cases e
  obtain ⟨p1, p2, p3, p4, p5, p6⟩ := plant_facts h.ok h.z hg hf (c := ⟨2, ((k + 1 : Nat) : Int), 0, 0, 0, 0⟩) (by decide : (2 : Int) ≠ 0) (node_check k (by omega))
  refine ⟨p1, p2, p3, fun id hid => by rw [p6]; exact h.node id hid, fun id hid => by rw [p6]; exact h.gone id hid, by omega, fun a => ?_, List.nodup_nil, fun i hi => ?_, fun a ha => (by cases ha), fun a ha => (by cases ha), fun a ha => (by cases ha)⟩
  · rw [p4, h.fl]
    constructor
    · rintro (rfl | ⟨i, hi, rfl⟩ | e)
      · exact .inl ⟨k, by omega, rfl⟩
      · exact .inl ⟨i, by omega, rfl⟩
      · cases e
    · rintro (⟨i, hi, rfl⟩ | e)
      · rcases Nat.lt_or_ge i k with hlt | hge
        · exact .inr (.inl ⟨i, hlt, rfl⟩)
        · have : i = k := by omega
          subst this
          exact .inl rfl
      · cases e
  · rw [p5]
    by_cases hik : i = k
    · subst hik; simp
    · rw [if_neg (fun e => hik (by injection e with e _; omega))]
      exact h.ncap i (by omega)

/-- one more frame, where there is none -/
def FB (X : Caps) (F : List Slot) (i : Nat) : Prop := ∀ a ∈ F, 20 ≤ (X.s.cap a).object ∧ (X.s.cap a).object < 20 + i
theorem Ch.frameIn {X : Caps} {n : Nat} {F : List Slot} {i q : Nat} {e : Int} (h : Ch X n n F) (hb : FB X F i) (hq : 1 ≤ q ∧ q ≤ n) (he : e = 0 ∨ e = 2) (hi : i < 12) :
    ((X.plant ((q : Int), e) ⟨6, ((20 + i : Nat) : Int), 1, 0, 0, 0⟩).1 = 0 ∧ Ch (X.plant ((q : Int), e) ⟨6, ((20 + i : Nat) : Int), 1, 0, 0, 0⟩).2 n n (F ++ [((q : Int), e)]) ∧
      FB (X.plant ((q : Int), e) ⟨6, ((20 + i : Nat) : Int), 1, 0, 0, 0⟩).2 (F ++ [((q : Int), e)]) (i + 1)) ∨
    ((X.plant ((q : Int), e) ⟨6, ((20 + i : Nat) : Int), 1, 0, 0, 0⟩).1 ≠ 0 ∧ (X.plant ((q : Int), e) ⟨6, ((20 + i : Nat) : Int), 1, 0, 0, 0⟩).2 = X) := by
  by_cases hf : X.s.fl ((q : Int), e)
  · exact .inr (plant_full hf)
  · left
    have hg := get_of_radix h.ok (h.node q hq.2) (j := e) ⟨by omega, by omega⟩
    obtain ⟨p1, p2, p3, p4, p5, p6⟩ := plant_facts h.ok h.z hg hf (c := ⟨6, ((20 + i : Nat) : Int), 1, 0, 0, 0⟩) (by decide : (6 : Int) ≠ 0) (frame_check i hi)
    have hne : ∀ a ∈ F, a ≠ ((q : Int), e) := fun a ha e' => hf (by rw [← e']; exact (h.fl a).2 (.inr ha))
    have hnn : ∀ j : Nat, ((j : Int), (1 : Int)) ≠ ((q : Int), e) := fun j e' => by injection e' with _ e'; omega
    refine ⟨p1, ⟨p2, p3, fun id hid => by rw [p6]; exact h.node id hid, fun id hid => by rw [p6]; exact h.gone id hid, h.kn, fun a => ?_, ?_, fun j hj => ?_, fun a ha => ?_, fun a ha => ?_, fun a ha b hb' hab => ?_⟩, fun a ha => ?_⟩
    · rw [p4, h.fl, List.mem_append, List.mem_singleton]
      constructor
      · rintro (rfl | h1 | h1)
        · exact .inr (.inr rfl)
        · exact .inl h1
        · exact .inr (.inl h1)
      · rintro (h1 | h1 | h1)
        · exact .inr (.inl h1)
        · exact .inr (.inr h1)
        · exact .inl h1
    · rw [List.nodup_append]
      refine ⟨h.nd, by simp, fun a ha b hb' => ?_⟩
      rw [List.mem_singleton.1 hb']
      exact hne a ha
    · rw [p5, if_neg (hnn j)]; exact h.ncap j hj
    · rcases List.mem_append.1 ha with ha | ha
      · exact h.fat a ha
      · rw [List.mem_singleton.1 ha]; exact ⟨⟨q, hq.1, hq.2, rfl⟩, he⟩
    · rcases List.mem_append.1 ha with ha | ha
      · rw [p5, if_neg (hne a ha)]; exact h.fcap a ha
      · rw [List.mem_singleton.1 ha, p5, if_pos rfl]
    · rcases List.mem_append.1 ha with ha | ha <;> rcases List.mem_append.1 hb' with hb' | hb'
      · rw [p5, p5, if_neg (hne a ha), if_neg (hne b hb')] at hab
        exact h.uniq a ha b hb' hab
      · rw [List.mem_singleton.1 hb', p5, p5, if_neg (hne a ha), if_pos rfl] at hab
        have := hb a ha
        simp only at hab
        omega
      · rw [List.mem_singleton.1 ha, p5, p5, if_pos rfl, if_neg (hne b hb')] at hab
        have := hb b hb'
        simp only at hab
        omega
      · rw [List.mem_singleton.1 ha, List.mem_singleton.1 hb']
    · rcases List.mem_append.1 ha with ha | ha
      · rw [p5, if_neg (hne a ha)]; have := hb a ha; omega
      · rw [List.mem_singleton.1 ha, p5, if_pos rfl]; simp only; omega

theorem Ch.full_le {X : Caps} {nn k : Nat} {F : List Slot} (h : Ch X nn k F) : X.s.full.length ≤ k + F.length := by
  have := length_sub X.s.full (((List.range k).map fun j : Nat => ((j : Int), (1 : Int))) ++ F) (Store.full_nodup h.ok.s.wf) fun a ha => by
    rcases (h.fl a).1 ((Store.full_iff h.ok.s).1 ha) with ⟨i, hi, rfl⟩ | hF
    · exact List.mem_append.2 (.inl (List.mem_map.2 ⟨i, List.mem_range.2 hi, rfl⟩))
    · exact List.mem_append.2 (.inr hF)
  rw [List.length_append, List.length_map, List.length_range] at this
  exact this
theorem Ch.full_nil {X : Caps} (h : Ch X 0 0 []) : X.s.full = [] := List.eq_nil_of_length_eq_zero (by have := h.full_le; simp at this; simp [this])

/-- the node that is told next -/
theorem Tl.next {n m : Nat} {ts : List Cap} (h : Tl n m 0 0 ts) {q : Nat} (hq : q < ts.length) (hn : isNode ts[q] = true) :
    ((ts.take q).filter isNode).length < n ∧ ts[q].object = ((n - ((ts.take q).filter isNode).length : Nat) : Int) ∧ ((ts.take (q + 1)).filter isNode).length = ((ts.take q).filter isNode).length + 1 := by
  have e : ts = ts.take q ++ ts[q] :: ts.drop (q + 1) := by rw [← List.drop_eq_getElem_cons hq, List.take_append_drop]
  have e2 : ts.filter isNode = (ts.take q).filter isNode ++ ts[q] :: (ts.drop (q + 1)).filter isNode := by
    conv => lhs; rw [e]
    rw [List.filter_append, List.filter_cons, if_pos hn]
  have hlen : (ts.filter isNode).length = n := by
    have := congrArg List.length h.nodes
    simpa using this
  have hlt : ((ts.take q).filter isNode).length < n := by
    rw [← hlen, e2, List.length_append, List.length_cons]; omega
  refine ⟨hlt, ?_, ?_⟩
  · have h1 := congrArg (fun l : List Int => l[((ts.take q).filter isNode).length]?) h.nodes
    simp only [List.getElem?_map] at h1
    rw [e2, List.getElem?_append_right (Nat.le_refl _), Nat.sub_self, List.getElem?_cons_zero, List.getElem?_range (by omega)] at h1
    simp only [Option.map_some, Option.some.injEq] at h1
    rw [h1]
    omega
  · rw [List.take_succ_eq_append_getElem hq, List.filter_append, List.length_append]
    simp [hn]
theorem Tl.skip {ts : List Cap} {q : Nat} (hq : q < ts.length) (hn : isNode ts[q] = false) : ((ts.take (q + 1)).filter isNode).length = ((ts.take q).filter isNode).length := by
  rw [List.take_succ_eq_append_getElem hq, List.filter_append, List.length_append]
  simp [hn]
theorem Tl.all {n m : Nat} {ts : List Cap} (h : Tl n m 0 0 ts) : (ts.filter isNode).length = n := by
  have := congrArg List.length h.nodes
  simpa using this
end Go.Proofs.Ytpghhaobcikdhaa
