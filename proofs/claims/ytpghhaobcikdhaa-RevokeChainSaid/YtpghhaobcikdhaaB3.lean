/- Slots and their tree together: what is done keeps them right (plain). -/
import Derived.Test.YtpghhaobcikdhaaB2
namespace Go.Proofs.Ytpghhaobcikdhaa
open Go Go.Hw
set_option linter.unusedSimpArgs false
set_option linter.unusedVariables false

structure Caps.Ok (X : Caps) : Prop where
  s : X.s.Ok
  t : X.t.Wf
  same : ∀ a, (X.t a).isSome = true ↔ X.s.fl a
  chk : ∀ a, X.s.fl a → (X.s.cap a).check = 0

theorem small_of {σ : Store} {T : Tree} (h : σ.Ok) (hs : ∀ a, (T a).isSome = true ↔ σ.fl a) : T.Small :=
  fun _ hn hd => Store.nodup_len h hn fun a ha => (hs a).1 (hd a ha)

theorem Caps.new_ok : Caps.new.Ok := by
  refine ⟨⟨fun id n h => (by cases h), fun id h => (by cases h)⟩, ?_, fun a => ?_, fun a h => ?_⟩
  · exact { kids := fun x d h => (by cases h), par := fun x d q h => (by cases h), small := fun x d h => (by cases h), nodup := fun x d h => (by cases h), link := fun x d h => (by cases h),
            rank := ⟨fun _ => 0, 0, fun _ => Nat.le_refl _, fun x d q h => (by cases h)⟩ }
  · constructor
    · intro h; cases h
    · intro h; exact absurd rfl h
  · exact absurd rfl h

theorem fl_put {σ : Store} {a b : Slot} {c : Cap} (he : (σ.put a c).1 = 0) : (σ.put a c).2.fl b ↔ b = a ∨ σ.fl b := by
  unfold Store.fl
  rw [Store.cap_put he]
  by_cases h : b = a
  · simp [h, (Store.put_yes he).1]
  · simp [h]

theorem none_of {X : Caps} (h : X.Ok) {a : Slot} (ha : ¬ X.s.fl a) : X.t a = none := by
  cases ht : X.t a with
  | none => rfl
  | some d => exact absurd ((h.same a).1 (isSome_of ht)) ha

theorem put_chk {X : Caps} (h : X.Ok) {a : Slot} {c : Cap} (he : (X.s.put a c).1 = 0) : ∀ b, (X.s.put a c).2.fl b → ((X.s.put a c).2.cap b).check = 0 := by
  intro b hb
  rw [Store.cap_put he]
  split
  · exact (Store.put_yes he).2.2.2.1
  · rename_i hne
    rcases (fl_put he).1 hb with h1 | h1
    · exact absurd h1 hne
    · exact h.chk b h1

theorem Caps.plant_ok {X : Caps} (h : X.Ok) (a : Slot) (x : Cap) : (X.plant a x).2.Ok := by
  unfold Caps.plant
  by_cases he : (X.s.put a x).1 = 0
  · simp only [he, if_true]
    obtain ⟨hk, hf, hs, hc, e⟩ := Store.put_yes he
    have hn := none_of h hf
    have hsame : ∀ b, ((X.t.add a none).2 b).isSome = true ↔ (X.s.put a x).2.fl b := fun b => by
      rw [Tree.add_dom hn, fl_put he, h.same]
    have hok := Store.put_ok h.s a x
    exact ⟨hok, Tree.add_wf h.t hn (fun q hq => (by cases hq)) (small_of hok hsame), hsame, put_chk h he⟩
  · simp only [he, if_false, Store.put_no he]
    exact h

theorem both_ok {X : Caps} {a b : Slot} (h : (X.both a b).2 = 0) : X.s.fl a ∧ ¬ X.s.fl b ∧ (X.s.get b).isSome = true ∧ (X.both a b).1 = X.s.cap a := by
  unfold Caps.both at h ⊢
  simp only at h ⊢
  split at h
  · rename_i h1
    unfold Caps.source at h1 ⊢
    simp only at h1 ⊢
    split at h1
    · exact absurd h1 (by decide)
    · rename_i h2
      unfold Caps.place at h
      split at h
      · exact absurd h (by decide)
      · rename_i h3
        refine ⟨fun e => h2 ⟨h1, e⟩, fun e => h3 ⟨h, e⟩, ?_, rfl⟩
        unfold Store.geta at h
        simp only at h
        split at h
        · assumption
        · exact absurd h (by decide)
  · rename_i h1
    exact absurd h h1

theorem Caps.child_ok {X : Caps} (h : X.Ok) (o a : Slot) (x : Cap) : (X.child o a x).2.Ok := by
  unfold Caps.child
  by_cases hb : (X.both o a).2 = 0
  · rw [if_neg (by simp [hb])]
    obtain ⟨ho, ha, _⟩ := both_ok hb
    by_cases he : (X.s.put a x).1 = 0
    · simp only [he, if_true]
      have hn := none_of h ha
      have hod := (h.same o).2 ho
      have ec : (X.t.child o a) = X.t.add a (some o) := by unfold Tree.child; rw [if_pos hod]
      rw [ec]
      have hsame : ∀ b, ((X.t.add a (some o)).2 b).isSome = true ↔ (X.s.put a x).2.fl b := fun b => by
        rw [Tree.add_dom hn, fl_put he, h.same]
      have hok := Store.put_ok h.s a x
      refine ⟨hok, Tree.add_wf h.t hn (fun q hq => ?_) (small_of hok hsame), hsame, put_chk h he⟩
      injection hq with hq
      rw [← hq]; exact hod
    · simp only [he, if_false, Store.put_no he]
      exact h
  · rw [if_pos hb]
    exact h
theorem Caps.mint_ok {X : Caps} (h : X.Ok) (a b : Slot) (r badge guard n : Int) : (X.mint a b r badge guard n).2.Ok := by
  unfold Caps.mint
  split
  · exact h
  split
  · exact h
  · exact Caps.child_ok h _ _ _
theorem Caps.copy_ok {X : Caps} (h : X.Ok) (a b : Slot) (r : Int) : (X.copy a b r).2.Ok := Caps.mint_ok h _ _ _ _ _ _

theorem get_take {σ : Store} {a b : Slot} (ha : σ.fl a) : (σ.takeOut a).2.get b = if b = a then some Cap.zero else σ.get b := by
  obtain ⟨c, hc, hk, he⟩ := Store.fl_get ha
  rw [Store.takeOut_fl ha]
  exact Store.get_set hc
theorem put_of {σ : Store} {a : Slot} {c : Cap} (h1 : (σ.get a).isSome = true) (h2 : ¬ σ.fl a) (h3 : c.kind ≠ 0) (h4 : c.check = 0) : (σ.put a c).1 = 0 := by
  obtain ⟨x, hx⟩ := Option.isSome_iff_exists.1 h1
  unfold Store.fl at h2
  rw [Store.cap_get, hx, Option.getD_some] at h2
  unfold Store.put
  simp only [hx]
  rw [if_neg (by simp [h4]), if_neg h3, if_neg h2]

/-- a move that is done -/
theorem carry_put {X : Caps} (h : X.Ok) {a b : Slot} (ha : X.s.fl a) (hb : ¬ X.s.fl b) (hs : (X.s.get b).isSome = true) : ((X.s.takeOut a).2.put b (X.s.cap a)).1 = 0 := by
  have hab : b ≠ a := fun e => hb (e ▸ ha)
  refine put_of ?_ ?_ ha (h.chk a ha)
  · rw [get_take ha, if_neg hab]; exact hs
  · unfold Store.fl
    rw [Store.cap_take ha, if_neg hab]
    exact hb
theorem carry_cap {X : Caps} (h : X.Ok) {a b y : Slot} (ha : X.s.fl a) (hb : ¬ X.s.fl b) (hs : (X.s.get b).isSome = true) :
    ((X.carry a b (X.s.cap a)).s.cap y) = if y = b then X.s.cap a else if y = a then Cap.zero else X.s.cap y := by
  show ((X.s.takeOut a).2.put b (X.s.cap a)).2.cap y = _
  rw [Store.cap_put (carry_put h ha hb hs), Store.cap_take ha]
theorem Caps.carry_ok {X : Caps} (h : X.Ok) {a b : Slot} (ha : X.s.fl a) (hb : ¬ X.s.fl b) (hs : (X.s.get b).isSome = true) : (X.carry a b (X.s.cap a)).Ok := by
  have hab : b ≠ a := fun e => hb (e ▸ ha)
  have hok : (X.carry a b (X.s.cap a)).s.Ok := Store.put_ok (Store.takeOut_ok h.s a) _ _
  have hta := (h.same a).2 ha
  have htb := none_of h hb
  refine ⟨hok, Tree.move_wf h.t hta htb, fun y => ?_, fun y hy => ?_⟩
  · show ((X.t.move a b).2 y).isSome = true ↔ _
    rw [Tree.move_dom hta htb, Store.fl, carry_cap h ha hb hs]
    unfold unren
    by_cases h1 : y = b
    · simp [h1, hab, hta]; exact ha
    · by_cases h2 : y = a
      · simp [h1, h2, hab.symm, Cap.zero]
      · simp only [h1, h2, if_false, ne_eq, not_false_eq_true, true_and]
        exact h.same y
  · rw [carry_cap h ha hb hs]
    rw [Store.fl, carry_cap h ha hb hs] at hy
    by_cases h1 : y = b
    · rw [if_pos h1]; exact h.chk a ha
    · rw [if_neg h1] at hy ⊢
      by_cases h2 : y = a
      · rw [if_pos h2] at hy; exact absurd rfl hy
      · rw [if_neg h2] at hy ⊢
        exact h.chk y hy
theorem Caps.move_ok {X : Caps} (h : X.Ok) (a b : Slot) : (X.move a b).2.Ok := by
  unfold Caps.move
  split
  · rename_i hb
    obtain ⟨h1, h2, h3, h4⟩ := both_ok hb
    rw [h4]
    exact Caps.carry_ok h h1 h2 h3
  · exact h

theorem fl_take {σ : Store} {a b : Slot} (ha : σ.fl a) : (σ.takeOut a).2.fl b ↔ b ≠ a ∧ σ.fl b := by
  unfold Store.fl
  rw [Store.cap_take ha]
  by_cases h : b = a <;> simp [h, Cap.zero]

theorem Caps.take_eq {X : Caps} {a : Slot} (ha : X.s.fl a) : X.take a = ((X.s.cap a, 0), ⟨(X.s.takeOut a).2, (X.t.drop a).2⟩) := by
  unfold Caps.take
  rw [Store.takeOut_fl ha]
  rfl
theorem Caps.take_no {X : Caps} {a : Slot} (ha : ¬ X.s.fl a) : (X.take a).2 = X ∧ (X.take a).1.1 = Cap.zero := by
  unfold Caps.take
  obtain ⟨h1, h2, h3⟩ := Store.takeOut_no ha
  simp only [h1, h2, h3, if_false]
  exact ⟨trivial, trivial⟩
theorem Caps.take_ok {X : Caps} (h : X.Ok) (a : Slot) : (X.take a).2.Ok := by
  by_cases ha : X.s.fl a
  · rw [Caps.take_eq ha]
    refine ⟨Store.takeOut_ok h.s a, Tree.drop_wf h.t (small_of h.s h.same) a, fun b => ?_, fun b hb => ?_⟩
    · simp only
      rw [Tree.drop_dom, fl_take ha, h.same, and_comm]
    · simp only at hb ⊢
      obtain ⟨h1, h2⟩ := (fl_take ha).1 hb
      rw [Store.cap_take ha, if_neg h1]
      exact h.chk b h2
  · rw [(Caps.take_no ha).1]
    exact h

theorem Caps.clear_ok {X : Caps} (h : X.Ok) (id : Int) : (X.clear id).2.Ok := by
  unfold Caps.clear
  refine ⟨Store.drop_ok h.s id, h.t, fun b => ?_, fun b hb => ?_⟩
  · simp only
    rw [h.same, Store.fl, Store.fl, Store.cap_drop h.s.wf]
  · simp only at hb ⊢
    rw [Store.fl, Store.cap_drop h.s.wf] at hb
    rw [Store.cap_drop h.s.wf]
    exact h.chk b hb
theorem Caps.node_ok {X : Caps} (h : X.Ok) (id r : Int) : (X.node id r).2.Ok := by
  unfold Caps.node
  refine ⟨Store.add_ok h.s id r, h.t, fun b => ?_, fun b hb => ?_⟩
  · simp only
    rw [h.same, Store.fl, Store.fl, Store.cap_add]
  · simp only at hb ⊢
    rw [Store.fl, Store.cap_add] at hb
    rw [Store.cap_add]
    exact h.chk b hb

/- a step -/
theorem St.step_ok {st : St} (h : st.X.Ok) (a : Slot) : (st.step a).X.Ok := by
  unfold St.step
  split
  · split
    · exact Caps.clear_ok (Caps.take_ok h a) _
    · exact Caps.take_ok h a
  · exact Caps.take_ok h a
theorem St.step_n {st : St} (a : Slot) : (st.step a).n = st.n - 1 := by
  unfold St.step
  split <;> rfl
theorem St.step_ts {st : St} {a : Slot} (ha : st.X.s.fl a) : (st.step a).ts = st.ts ++ if st.X.final a = true then [st.X.s.cap a] else [] := by
  unfold St.step
  split
  · rw [Caps.take_eq ha]
  · simp
theorem St.step_cap {st : St} (h : st.X.Ok) {a b : Slot} (ha : st.X.s.fl a) : (st.step a).X.s.cap b = if b = a then Cap.zero else st.X.s.cap b := by
  have e : (st.X.take a).2.s.cap b = if b = a then Cap.zero else st.X.s.cap b := by
    rw [Caps.take_eq ha]
    exact Store.cap_take ha
  unfold St.step
  split
  · split
    · show ((st.X.take a).2.s.drop _).2.cap b = _
      rw [Store.cap_drop (Caps.take_ok h a).s.wf, e]
    · exact e
  · exact e
theorem St.step_fl {st : St} (h : st.X.Ok) {a b : Slot} (ha : st.X.s.fl a) : (st.step a).X.s.fl b ↔ b ≠ a ∧ st.X.s.fl b := by
  unfold Store.fl
  rw [St.step_cap h ha]
  by_cases hb : b = a <;> simp [hb, Cap.zero]
theorem St.step_t {st : St} {a : Slot} (ha : st.X.s.fl a) : (st.step a).X.t = (st.X.t.drop a).2 := by
  unfold St.step
  rw [Caps.take_eq ha]
  split
  · split <;> rfl
  · rfl
theorem St.step_radix {st : St} {a : Slot} (ha : st.X.s.fl a) {id : Int} (hid : (st.X.s.cap a).kind = 2 → st.X.final a = true → id ≠ (st.X.s.cap a).object) : (st.step a).X.s.radix id = st.X.s.radix id := by
  have e : (st.X.take a).2.s.radix id = st.X.s.radix id := by
    rw [Caps.take_eq ha]
    exact Store.radix_take id
  unfold St.step
  split
  · rename_i hf
    split
    · rename_i hk
      have hk' : (st.X.s.cap a).kind = 2 := by rw [Caps.take_eq ha] at hk; exact hk
      show ((st.X.take a).2.s.drop _).2.radix id = _
      rw [Store.radix_drop, e]
      rw [Caps.take_eq ha]
      exact hid hk' hf
    · exact e
  · exact e

/- those of one object come of one another -/
def Caps.key (X : Caps) (a : Slot) : Int × Int := ((X.s.cap a).kind, (X.s.cap a).object)
structure Caps.Made (X : Caps) : Prop where
  ok : X.Ok
  key : ∀ c d p, X.t c = some d → d.1 = some p → X.key c = X.key p

theorem Caps.new_made : Caps.new.Made := ⟨Caps.new_ok, fun c d p h => (by cases h)⟩
theorem Caps.node_made {X : Caps} (h : X.Made) (id r : Int) : (X.node id r).2.Made := by
  refine ⟨Caps.node_ok h.ok id r, fun c d p hc hp => ?_⟩
  have := h.key c d p hc hp
  unfold Caps.key Caps.node at *
  simp only [Store.cap_add]
  exact this
theorem Caps.clear_made {X : Caps} (h : X.Made) (id : Int) : (X.clear id).2.Made := by
  refine ⟨Caps.clear_ok h.ok id, fun c d p hc hp => ?_⟩
  have := h.key c d p hc hp
  unfold Caps.key Caps.clear at *
  simp only [Store.cap_drop h.ok.s.wf]
  exact this
theorem Caps.plant_made {X : Caps} (h : X.Made) (a : Slot) (x : Cap) : (X.plant a x).2.Made := by
  refine ⟨Caps.plant_ok h.ok a x, fun c d p hc hp => ?_⟩
  unfold Caps.plant at hc
  by_cases he : (X.s.put a x).1 = 0
  · obtain ⟨hk, hf, hs, hcc, e⟩ := Store.put_yes he
    have hn := none_of h.ok hf
    simp only [he, if_true] at hc
    have ek : ∀ y, y ≠ a → (X.plant a x).2.key y = X.key y := fun y hy => by
      unfold Caps.key Caps.plant
      simp only [Store.cap_put he, if_neg hy]
    rcases Tree.add_get hn hc with ⟨h1, h2⟩ | ⟨h1, e, h2, h3, h4⟩
    · rw [h2] at hp; cases hp
    · rw [h3] at hp
      have hpd := h.ok.t.par _ _ _ h2 hp
      rw [ek c h1, ek p (fun e => by rw [e, hn] at hpd; cases hpd)]
      exact h.key c e p h2 hp
  · simp only [he, if_false] at hc
    have ek : (X.plant a x).2 = X := by unfold Caps.plant; simp only [he, if_false, Store.put_no he]
    rw [ek]
    exact h.key c d p hc hp

theorem derive_key {x : Cap} {r badge guard n : Int} (h : (x.derive r badge guard n).2 = 0) : (x.derive r badge guard n).1.kind = x.kind ∧ (x.derive r badge guard n).1.object = x.object := by
  unfold Cap.derive at h ⊢
  repeat' split
  all_goals first
    | exact ⟨rfl, rfl⟩
    | (exfalso; simp_all)

theorem Caps.child_made {X : Caps} (h : X.Made) (o a : Slot) (x : Cap) (hx : (X.both o a).2 = 0 → (x.kind, x.object) = X.key o) : (X.child o a x).2.Made := by
  refine ⟨Caps.child_ok h.ok o a x, ?_⟩
  by_cases hb : (X.both o a).2 = 0
  · by_cases he : (X.s.put a x).1 = 0
    · obtain ⟨ho, ha, _⟩ := both_ok hb
      have hn := none_of h.ok ha
      have hod := (h.ok.same o).2 ho
      have ec : (X.child o a x).2 = ⟨(X.s.put a x).2, (X.t.add a (some o)).2⟩ := by
        unfold Caps.child
        rw [if_neg (by simp [hb])]
        simp only [he, if_true]
        unfold Tree.child
        rw [if_pos hod]
      rw [ec]
      have ek : ∀ y, y ≠ a → Caps.key ⟨(X.s.put a x).2, (X.t.add a (some o)).2⟩ y = X.key y := fun y hy => by
        unfold Caps.key
        simp only [Store.cap_put he, if_neg hy]
      have eka : Caps.key ⟨(X.s.put a x).2, (X.t.add a (some o)).2⟩ a = (x.kind, x.object) := by
        unfold Caps.key
        simp only [Store.cap_put he, if_true]
      intro c d p hc hp
      simp only at hc
      rcases Tree.add_get hn hc with ⟨h1, h2⟩ | ⟨h1, e, h2, h3, h4⟩
      · rw [h2] at hp
        injection hp with hp
        subst hp
        rw [h1, eka, ek o (fun e => by rw [e] at ho; exact ha ho)]
        exact hx hb
      · rw [h3] at hp
        have hpd := h.ok.t.par _ _ _ h2 hp
        rw [ek c h1, ek p (fun e => by rw [e, hn] at hpd; cases hpd)]
        exact h.key c e p h2 hp
    · have ec : (X.child o a x).2 = X := by
        unfold Caps.child
        rw [if_neg (by simp [hb])]
        simp only [he, if_false, Store.put_no he]
      rw [ec]
      exact h.key
  · have ec : (X.child o a x).2 = X := by unfold Caps.child; rw [if_pos hb]
    rw [ec]
    exact h.key
theorem Caps.mint_made {X : Caps} (h : X.Made) (a b : Slot) (r badge guard n : Int) : (X.mint a b r badge guard n).2.Made := by
  unfold Caps.mint
  split
  · exact h
  split
  · exact h
  · rename_i h1 h2
    refine Caps.child_made h _ _ _ fun hb => ?_
    have := derive_key (x := (X.both a b).1) (r := r) (badge := badge) (guard := guard) (n := n) (by simpa using h2)
    rw [this.1, this.2, (both_ok hb).2.2.2]
    rfl
theorem Caps.copy_made {X : Caps} (h : X.Made) (a b : Slot) (r : Int) : (X.copy a b r).2.Made := Caps.mint_made h _ _ _ _ _ _
theorem Caps.move_made {X : Caps} (h : X.Made) (a b : Slot) : (X.move a b).2.Made := by
  refine ⟨Caps.move_ok h.ok a b, ?_⟩
  unfold Caps.move
  split
  · rename_i hb
    obtain ⟨h1, h2, h3, h4⟩ := both_ok hb
    rw [h4]
    have hta := (h.ok.same a).2 h1
    have htb := none_of h.ok h2
    have ek : ∀ y, y ≠ a → (X.carry a b (X.s.cap a)).key y = X.key (unren a b y) := fun y hy => by
      unfold Caps.key unren
      rw [carry_cap h.ok h1 h2 h3]
      by_cases e : y = b
      · simp [e]
      · simp [e, hy]
    intro c d p hc hp
    have hc' : (X.t.move a b).2 c = some d := hc
    rw [Tree.move_eq hta htb] at hc'
    split at hc'
    · cases hc'
    · rename_i hca
      cases he : X.t (unren a b c) with
      | none => rw [he] at hc'; cases hc'
      | some e =>
        rw [he] at hc'
        simp only [Option.map_some, Option.some.injEq] at hc'
        subst hc'
        simp only [renD] at hp
        obtain ⟨q, hq, rfl⟩ := Option.map_eq_some_iff.1 hp
        have hqd := h.ok.t.par _ _ _ he hq
        have hqb : q ≠ b := fun e => by rw [e, htb] at hqd; cases hqd
        have hab : a ≠ b := fun e => by rw [e, htb] at hta; cases hta
        simp only
        rw [ek c hca, ek (ren a b q) (ren_ne hab), un_ren hqb]
        exact h.key _ _ _ he hq
  · exact h.key
theorem Caps.take_made {X : Caps} (h : X.Made) (a : Slot) : (X.take a).2.Made := by
  refine ⟨Caps.take_ok h.ok a, ?_⟩
  by_cases ha : X.s.fl a
  · rw [Caps.take_eq ha]
    obtain ⟨da, hda⟩ := Option.isSome_iff_exists.1 ((h.ok.same a).2 ha)
    have ek : ∀ y, y ≠ a → Caps.key ⟨(X.s.takeOut a).2, (X.t.drop a).2⟩ y = X.key y := fun y hy => by
      unfold Caps.key
      simp only [Store.cap_take ha, if_neg hy]
    intro c d p hc hp
    simp only at hc
    have hca : c ≠ a := ((Tree.drop_dom).1 (isSome_of hc)).2
    have e : (X.t.drop a).2 c = (X.t c).map fun e => (if e.1 = some a then da.1 else e.1, e.2.flatMap fun c => if c = a then da.2 else [c]) := by simp [Tree.drop, hda, hca]
    rw [e] at hc
    cases he : X.t c with
    | none => rw [he] at hc; cases hc
    | some e =>
      rw [he] at hc
      simp only [Option.map_some, Option.some.injEq] at hc
      subst hc
      simp only at hp
      rw [ek c hca]
      split at hp
      · rename_i h1
        have hpa : p ≠ a := fun e => h.ok.t.self hda (by rw [hp, e])
        rw [ek p hpa, h.key c e a he h1]
        exact h.key a da p hda hp
      · rename_i h1
        have hpa : p ≠ a := fun e => h1 (by rw [hp, e])
        rw [ek p hpa]
        exact h.key c e p he hp
  · rw [(Caps.take_no ha).1]
    exact h.key
end Go.Proofs.Ytpghhaobcikdhaa
