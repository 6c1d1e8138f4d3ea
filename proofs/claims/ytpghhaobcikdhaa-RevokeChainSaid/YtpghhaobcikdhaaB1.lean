/- Slots, by what is in them (plain). -/
import Derived.Test.YtpghhaobcikdhaaA22
namespace Go.Proofs.Ytpghhaobcikdhaa
open Go Go.Hw
set_option linter.unusedSimpArgs false
set_option linter.unusedVariables false

theorem length_sub {α : Type} [DecidableEq α] : ∀ (l m : List α), l.Nodup → (∀ x ∈ l, x ∈ m) → l.length ≤ m.length
  | [], _, _, _ => Nat.zero_le _
  | a :: l, m, hn, hs => by
    have ha : a ∈ m := hs a (List.mem_cons.2 (.inl rfl))
    have hn' := List.nodup_cons.1 hn
    have h1 := length_sub l (m.erase a) hn'.2 fun x hx => by
      have hne : x ≠ a := fun e => hn'.1 (e ▸ hx)
      exact (List.mem_erase_of_ne hne).2 (hs x (List.mem_cons.2 (.inr hx)))
    rw [List.length_erase_of_mem ha] at h1
    have h2 := List.length_pos_of_mem ha
    rw [List.length_cons]
    omega

theorem one_iff {α : Type} {l : List α} {a : α} (hn : l.Nodup) (ha : a ∈ l) : l.length = 1 ↔ ∀ b ∈ l, b = a := by
  constructor
  · intro h b hb
    obtain ⟨x, rfl⟩ := List.length_eq_one_iff.1 h
    rw [List.mem_singleton.1 hb, List.mem_singleton.1 ha]
  · intro h
    match l, hn, ha, h with
    | [x], _, _, _ => rfl
    | x :: y :: l, hn, _, h =>
      have h1 := h x (by simp)
      have h2 := h y (by simp)
      rw [h1, h2] at hn
      simp at hn

def allSlots : List Slot := (List.range 64).flatMap fun (id : Nat) => (List.range 16).map fun (i : Nat) => ((id : Int), (i : Int))
theorem allSlots_mem {a : Slot} : a ∈ allSlots ↔ (0 ≤ a.1 ∧ a.1 < 64) ∧ 0 ≤ a.2 ∧ a.2 < 16 := by
  unfold allSlots
  rw [List.mem_flatMap]
  constructor
  · rintro ⟨id, hid, h⟩
    obtain ⟨i, hi, rfl⟩ := List.mem_map.1 h
    have := List.mem_range.1 hid
    have := List.mem_range.1 hi
    simp only
    omega
  · rintro ⟨⟨h1, h2⟩, h3, h4⟩
    refine ⟨a.1.toNat, List.mem_range.2 (by omega), List.mem_map.2 ⟨a.2.toNat, List.mem_range.2 (by omega), ?_⟩⟩
    rw [Int.toNat_of_nonneg h1, Int.toNat_of_nonneg h3]
theorem allSlots_nodup : allSlots.Nodup := by
  unfold allSlots List.Nodup
  rw [List.pairwise_flatMap]
  refine ⟨fun id _ => ?_, ?_⟩
  · rw [List.pairwise_map]
    exact List.nodup_range.imp fun h e => h (by injection e with _ e; exact Int.ofNat.inj e)
  · refine List.nodup_range.imp fun {x y} h a ha b hb e => ?_
    obtain ⟨i, _, rfl⟩ := List.mem_map.1 ha
    obtain ⟨j, _, rfl⟩ := List.mem_map.1 hb
    injection e with e _
    exact h (Int.ofNat.inj e)
theorem allSlots_len : allSlots.length = 1024 := by
  unfold allSlots
  rw [List.length_flatMap]
  simp only [List.length_map, List.length_range]
  decide

/-- what is in a slot, nought if it is empty or there is none -/
def Store.cap (σ : Store) (a : Slot) : Cap := (σ.geta a).1
/-- there is something in a slot -/
def Store.fl (σ : Store) (a : Slot) : Prop := (σ.cap a).kind ≠ 0
def Store.Dom (σ : Store) : Prop := ∀ id, (σ id).isSome = true → 0 ≤ id ∧ id < 64
structure Store.Ok (σ : Store) : Prop where
  wf : σ.Wf
  dom : σ.Dom

theorem Store.cap_get {σ : Store} {a : Slot} : σ.cap a = (σ.get a).getD Cap.zero := rfl
theorem Store.fl_get {σ : Store} {a : Slot} (h : σ.fl a) : ∃ c, σ.get a = some c ∧ c.kind ≠ 0 ∧ σ.cap a = c := by
  unfold Store.fl at h
  rw [Store.cap_get] at h
  cases hc : σ.get a with
  | none => rw [hc] at h; exact absurd rfl h
  | some c => rw [hc] at h; exact ⟨c, rfl, h, by rw [Store.cap_get, hc]; rfl⟩
theorem Store.fl_of {σ : Store} {a : Slot} {c : Cap} (h : σ.get a = some c) (hk : c.kind ≠ 0) : σ.fl a := by
  unfold Store.fl
  rw [Store.cap_get, h]
  exact hk
theorem Store.get_in {σ : Store} (h : σ.Ok) {a : Slot} (ha : (σ.get a).isSome = true) : a ∈ allSlots := by
  obtain ⟨c, hc⟩ := Option.isSome_iff_exists.1 ha
  obtain ⟨n, hn, h1, h2, h3⟩ := Store.get_len hc
  have hd := h.dom a.1 (by rw [hn]; rfl)
  have hw := (h.wf _ _ hn).len
  have := (List.getElem?_eq_some_iff.1 h3).1
  exact allSlots_mem.2 ⟨hd, h1, by omega⟩
theorem Store.fl_in {σ : Store} (h : σ.Ok) {a : Slot} (ha : σ.fl a) : a ∈ allSlots := by
  obtain ⟨c, hc, _⟩ := Store.fl_get ha
  exact Store.get_in h (by rw [hc]; rfl)
theorem Store.full_iff {σ : Store} (h : σ.Ok) {a : Slot} : a ∈ σ.full ↔ σ.fl a := by
  rw [Store.mem_full h.wf]
  constructor
  · rintro ⟨⟨c, hc, hk⟩, _⟩
    exact Store.fl_of hc hk
  · intro ha
    obtain ⟨c, hc, hk, _⟩ := Store.fl_get ha
    have := allSlots_mem.1 (Store.fl_in h ha)
    exact ⟨⟨c, hc, hk⟩, this.1⟩

theorem Store.full_eq {σ : Store} (hw : σ.Wf) : σ.full = allSlots.filter fun a => decide ((σ.cap a).kind ≠ 0) := by
  unfold Store.full Store.fullTo allSlots
  rw [List.filter_flatMap]
  congr 1
  funext id
  rw [List.filter_map]
  cases hn : σ (id : Int) with
  | none =>
    have : (List.range 16).filter ((fun a : Slot => decide ((σ.cap a).kind ≠ 0)) ∘ fun i : Nat => ((id : Int), (i : Int))) = [] := by
      rw [List.filter_eq_nil_iff]
      intro i _
      simp [Store.cap_get, Store.get, hn, Cap.zero]
    rw [this]
    rfl
  | some n =>
    show n.fullTo id 16 = _
    unfold Node.fullTo
    congr 1
    refine List.filter_congr fun i hi => ?_
    have hi := List.mem_range.1 hi
    have hw := hw _ _ hn
    have e : (σ.cap ((id : Int), (i : Int))).kind = n.kindAt i := by
      rw [Store.cap_get]
      unfold Store.get Node.kindAt
      simp only [hn]
      by_cases hlt : (i : Int) < (2 ^ n.radix : Nat)
      · rw [if_pos ⟨by omega, hlt⟩]; rfl
      · rw [if_neg (by omega)]
        have hl : i < n.caps.length := by rw [hw.len]; exact hi
        rw [List.getElem?_eq_getElem hl]
        rw [hw.top i n.caps[i] (by omega) (by simp [hl])]
        rfl
    simp only [Function.comp_apply, e]

theorem Store.full_nodup {σ : Store} (hw : σ.Wf) : σ.full.Nodup := by
  rw [Store.full_eq hw]
  exact allSlots_nodup.filter _

theorem Store.nodup_len {σ : Store} (h : σ.Ok) {l : List Slot} (hn : l.Nodup) (hf : ∀ a ∈ l, σ.fl a) : l.length ≤ 1024 := by
  rw [← allSlots_len]
  exact length_sub _ _ hn fun x hx => Store.fl_in h (hf x hx)

/-- of how many slots a capability names an object -/
theorem Store.count_one {σ : Store} (h : σ.Ok) {a : Slot} (ha : σ.fl a) : σ.count (σ.cap a).kind (σ.cap a).object = 1 ↔ ∀ b, σ.fl b → (σ.cap b).kind = (σ.cap a).kind → (σ.cap b).object = (σ.cap a).object → b = a := by
  unfold Store.count
  have hm : a ∈ σ.full.filter (σ.is (σ.cap a).kind (σ.cap a).object) := List.mem_filter.2 ⟨(Store.full_iff h).2 ha, by simp [Store.is, Store.cap]⟩
  rw [one_iff ((Store.full_nodup h.wf).filter _) hm]
  constructor
  · intro hh b hb h1 h2
    refine hh b (List.mem_filter.2 ⟨(Store.full_iff h).2 hb, ?_⟩)
    unfold Store.cap at h1 h2
    simp [Store.is, Store.cap, h1, h2]
  · intro hh b hb
    obtain ⟨h1, h2⟩ := List.mem_filter.1 hb
    simp only [Store.is, Bool.and_eq_true, beq_iff_eq] at h2
    exact hh b ((Store.full_iff h).1 h1) h2.1 h2.2

theorem Caps.final_iff {X : Caps} (h : X.s.Ok) {a : Slot} : X.final a = true ↔ X.s.fl a ∧ ∀ b, X.s.fl b → (X.s.cap b).kind = (X.s.cap a).kind → (X.s.cap b).object = (X.s.cap a).object → b = a := by
  unfold Caps.final
  simp only [Bool.and_eq_true, beq_iff_eq, bne_iff_ne]
  constructor
  · rintro ⟨_, h1, h2⟩
    exact ⟨h1, (Store.count_one h h1).1 h2⟩
  · rintro ⟨h1, h2⟩
    refine ⟨?_, h1, (Store.count_one h h1).2 h2⟩
    obtain ⟨c, hc, _⟩ := Store.fl_get h1
    unfold Store.geta
    rw [hc]
    rfl

/- what is done with a slot -/
theorem Store.get_set {σ : Store} {a b : Slot} {x c : Cap} (h : σ.get a = some x) : (σ.set a c).get b = if b = a then some c else σ.get b := by
  obtain ⟨n, hn, h1, h2, h3⟩ := Store.get_len h
  unfold Store.get Store.set
  by_cases hb : b.1 = a.1
  · simp only [hb, if_true, hn, Option.map_some, Node.set]
    by_cases he : b = a
    · subst he
      rw [if_pos ⟨h1, h2⟩, if_pos rfl]
      rw [List.getElem?_set_self (List.getElem?_eq_some_iff.1 h3).1]
    · rw [if_neg he]
      split
      · rename_i h5
        rw [List.getElem?_set_ne]
        intro e
        apply he
        refine Prod.ext hb ?_
        omega
      · rfl
  · have hba : b ≠ a := fun e => hb (by rw [e])
    simp only [hb, if_false, hba]

theorem Store.set_ok {σ : Store} (h : σ.Ok) {a : Slot} {x c : Cap} (hx : σ.get a = some x) : (σ.set a c).Ok := by
  obtain ⟨n, hn, h1, h2, h3⟩ := Store.get_len hx
  refine ⟨fun id m hm => ?_, fun id hm => ?_⟩
  · unfold Store.set at hm
    split at hm
    · rename_i e
      rw [e, hn] at hm
      simp only [Option.map_some, Option.some.injEq] at hm
      subst hm
      exact (h.wf _ _ hn).set (by omega) c
    · exact h.wf _ _ hm
  · refine h.dom id ?_
    unfold Store.set at hm
    split at hm
    · simpa using hm
    · exact hm

theorem Store.radix_set {σ : Store} {a : Slot} {c : Cap} (id : Int) : (σ.set a c).radix id = σ.radix id := by
  unfold Store.radix Store.set
  by_cases e : id = a.1
  · simp only [e, if_true]
    cases σ a.1 <;> rfl
  · simp only [e, if_false]

theorem Store.takeOut_fl {σ : Store} {a : Slot} (ha : σ.fl a) : σ.takeOut a = ((σ.cap a, 0), σ.set a Cap.zero) := by
  obtain ⟨c, hc, hk, he⟩ := Store.fl_get ha
  unfold Store.takeOut
  simp only [hc, he]
  rw [if_neg hk]
theorem Store.takeOut_no {σ : Store} {a : Slot} (ha : ¬ σ.fl a) : (σ.takeOut a).2 = σ ∧ (σ.takeOut a).1.2 ≠ 0 ∧ (σ.takeOut a).1.1 = Cap.zero := by
  unfold Store.takeOut
  cases hc : σ.get a with
  | none => exact ⟨rfl, (by decide : (6 : Int) ≠ 0), rfl⟩
  | some c =>
    have hk : c.kind = 0 := by
      unfold Store.fl at ha
      rw [Store.cap_get, hc] at ha
      simpa using ha
    simp only [hk, if_true]
    exact ⟨trivial, by decide, trivial⟩

theorem Store.cap_take {σ : Store} {a b : Slot} (ha : σ.fl a) : (σ.takeOut a).2.cap b = if b = a then Cap.zero else σ.cap b := by
  obtain ⟨c, hc, hk, he⟩ := Store.fl_get ha
  rw [Store.takeOut_fl ha, Store.cap_get, Store.get_set hc]
  split <;> rfl
theorem Store.takeOut_ok {σ : Store} (h : σ.Ok) (a : Slot) : (σ.takeOut a).2.Ok := by
  by_cases ha : σ.fl a
  · obtain ⟨c, hc, hk, he⟩ := Store.fl_get ha
    rw [Store.takeOut_fl ha]
    exact Store.set_ok h hc
  · rw [(Store.takeOut_no ha).1]; exact h
theorem Store.radix_take {σ : Store} {a : Slot} (id : Int) : (σ.takeOut a).2.radix id = σ.radix id := by
  by_cases ha : σ.fl a
  · rw [Store.takeOut_fl ha, Store.radix_set]
  · rw [(Store.takeOut_no ha).1]

theorem Store.cap_drop {σ : Store} (hw : σ.Wf) {id : Int} {b : Slot} : (σ.drop id).2.cap b = σ.cap b := by
  unfold Store.drop
  cases hn : σ id with
  | none => rfl
  | some n =>
    simp only
    split
    · rename_i hz
      rw [Store.cap_get, Store.cap_get]
      unfold Store.get
      by_cases hb : b.1 = id
      · simp only [hb, if_true, hn, Option.getD_none]
        split
        · cases hc : n.caps[b.2.toNat]? with
          | none => rfl
          | some c =>
            rw [hz] at hc
            have := List.mem_of_getElem? hc
            rw [List.mem_replicate] at this
            rw [this.2]
            rfl
        · rfl
      · simp only [hb, if_false]
    · rfl
theorem Store.drop_ok {σ : Store} (h : σ.Ok) (id : Int) : (σ.drop id).2.Ok := by
  unfold Store.drop
  cases hn : σ id with
  | none => exact h
  | some n =>
    simp only
    split
    · refine ⟨fun x m hm => ?_, fun x hm => ?_⟩
      · simp only at hm
        split at hm
        · cases hm
        · exact h.wf _ _ hm
      · simp only at hm
        split at hm
        · cases hm
        · exact h.dom _ hm
    · exact h
theorem Store.radix_drop {σ : Store} {id x : Int} (hx : x ≠ id) : (σ.drop id).2.radix x = σ.radix x := by
  unfold Store.drop
  cases hn : σ id with
  | none => rfl
  | some n =>
    simp only
    split
    · unfold Store.radix
      simp only [hx, if_false]
    · rfl

theorem Store.cap_add {σ : Store} {id r : Int} {b : Slot} : (σ.add id r).2.cap b = σ.cap b := by
  unfold Store.add
  split
  · rfl
  split
  · rfl
  · rename_i h1 h2
    rw [Store.cap_get, Store.cap_get]
    unfold Store.get
    by_cases hb : b.1 = id
    · have : σ id = none := by cases h : σ id <;> simp [h] at h2 ⊢
      simp only [hb, if_true, this, Option.getD_none, Node.new]
      split
      · cases hc : (List.replicate 16 Cap.zero)[b.2.toNat]? with
        | none => rfl
        | some c =>
          have := List.mem_of_getElem? hc
          rw [List.mem_replicate] at this
          rw [this.2]
          rfl
      · rfl
    · simp only [hb, if_false]
theorem Node.new_wf {r : Nat} (h1 : 1 ≤ r) (h2 : r ≤ 4) : (Node.new r).Wf :=
  ⟨h1, h2, by simp [Node.new], fun i c _ hc => by
    have := List.mem_of_getElem? hc
    rw [Node.new, List.mem_replicate] at this
    exact this.2⟩
theorem Store.add_ok {σ : Store} (h : σ.Ok) (id r : Int) : (σ.add id r).2.Ok := by
  unfold Store.add
  split
  · exact h
  split
  · exact h
  · refine ⟨fun x m hm => ?_, fun x hm => ?_⟩
    · simp only at hm
      split at hm
      · injection hm with hm
        subst hm
        exact Node.new_wf (by omega) (by omega)
      · exact h.wf _ _ hm
    · simp only at hm
      split at hm
      · omega
      · exact h.dom _ hm

theorem Store.put_ok {σ : Store} (h : σ.Ok) (a : Slot) (c : Cap) : (σ.put a c).2.Ok := by
  unfold Store.put
  cases hx : σ.get a with
  | none => exact h
  | some x =>
    simp only
    split
    · exact h
    split
    · exact h
    split
    · exact h
    · exact Store.set_ok h hx
theorem Store.put_no {σ : Store} {a : Slot} {c : Cap} (he : (σ.put a c).1 ≠ 0) : (σ.put a c).2 = σ := by
  unfold Store.put at he ⊢
  cases hx : σ.get a with
  | none => rfl
  | some x =>
    rw [hx] at he
    simp only at he ⊢
    split
    · rfl
    split
    · rfl
    split
    · rfl
    · rename_i h1 h2 h3
      simp [h1, h2, h3] at he
theorem Store.put_yes {σ : Store} {a : Slot} {c : Cap} (he : (σ.put a c).1 = 0) : c.kind ≠ 0 ∧ ¬ σ.fl a ∧ (σ.get a).isSome = true ∧ c.check = 0 ∧ (σ.put a c).2 = σ.set a c := by
  unfold Store.put at he ⊢
  cases hx : σ.get a with
  | none => rw [hx] at he; exact absurd he (by decide : (6 : Int) ≠ 0)
  | some x =>
    rw [hx] at he
    simp only at he ⊢
    split at he
    · rename_i h; exact absurd he h
    split at he
    · exact absurd he (by decide : (3 : Int) ≠ 0)
    split at he
    · exact absurd he (by decide : (4 : Int) ≠ 0)
    · rename_i h1 h2 h3
      refine ⟨h2, ?_, rfl, by simpa using h1, ?_⟩
      · unfold Store.fl; rw [Store.cap_get, hx]; exact h3
      · rw [if_neg h1, if_neg h2, if_neg h3]
theorem Store.cap_put {σ : Store} {a b : Slot} {c : Cap} (he : (σ.put a c).1 = 0) : (σ.put a c).2.cap b = if b = a then c else σ.cap b := by
  obtain ⟨_, _, hs, _, e⟩ := Store.put_yes he
  obtain ⟨x, hx⟩ := Option.isSome_iff_exists.1 hs
  rw [e, Store.cap_get, Store.get_set hx]
  split <;> rfl
theorem Store.radix_put {σ : Store} {a : Slot} {c : Cap} (id : Int) : (σ.put a c).2.radix id = σ.radix id := by
  by_cases he : (σ.put a c).1 = 0
  · rw [(Store.put_yes he).2.2.2.2, Store.radix_set]
  · rw [Store.put_no he]
end Go.Proofs.Ytpghhaobcikdhaa
