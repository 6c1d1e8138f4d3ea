/- Revoke: what away does, one capability after another (plain). -/
import Derived.Test.YtpghhaobcikdhaaB3
namespace Go.Proofs.Ytpghhaobcikdhaa
open Go Go.Hw
set_option linter.unusedSimpArgs false
set_option linter.unusedVariables false

/-- the slot that goes first of all -/
inductive Chain (X : Caps) : List Slot → Slot → Slot → Prop
  | stop {way : List Slot} {a : Slot} (h : (St.mk X 0 []).goes way a = none) : Chain X way a a
  | go {way : List Slot} {a s v : Slot} (h : (St.mk X 0 []).goes way a = some s) (h1 : Chain X (way ++ [s]) s v) : Chain X way a v

theorem goes_X {st : St} {way : List Slot} {a : Slot} : st.goes way a = (St.mk st.X 0 []).goes way a := rfl

theorem Chain.det {X : Caps} {way : List Slot} {a v v' : Slot} (h : Chain X way a v) (h' : Chain X way a v') : v = v' := by
  induction h with
  | stop h =>
    cases h' with
    | stop _ => rfl
    | go h1 _ => rw [h] at h1; cases h1
  | go h h1 ih =>
    cases h' with
    | stop h2 => rw [h] at h2; cases h2
    | go h2 h3 =>
      rw [h] at h2
      injection h2 with h2
      subst h2
      exact ih h3

theorem find_congr {α : Type} {p q : α → Bool} : ∀ {l : List α}, (∀ x ∈ l, p x = q x) → l.find? p = l.find? q
  | [], _ => rfl
  | x :: l, h => by
    rw [List.find?_cons, List.find?_cons, h x (by simp), find_congr fun y hy => h y (List.mem_cons.2 (.inr hy))]

theorem inner_some {X : Caps} {node : Int} {but : List Slot} {s : Slot} (h : X.inner node but = some s) : s.1 = node ∧ s ∉ but ∧ X.s.fl s ∧ X.s.radix node ≠ 0 := by
  unfold Caps.inner at h
  have h1 := List.find?_some h
  have h2 := List.mem_of_find?_eq_some h
  obtain ⟨i, hi, rfl⟩ := List.mem_map.1 h2
  simp only [Bool.and_eq_true, decide_eq_true_eq, bne_iff_ne] at h1
  exact ⟨rfl, h1.2.1, h1.2.2, h1.1⟩

theorem inner_congr {X Y : Caps} {node : Int} {but : List Slot} (hr : Y.s.radix node = X.s.radix node) (hc : ∀ i : Int, (Y.s.cap (node, i)).kind = (X.s.cap (node, i)).kind) : Y.inner node but = X.inner node but := by
  unfold Caps.inner
  rw [hr]
  refine find_congr fun x hx => ?_
  obtain ⟨i, _, rfl⟩ := List.mem_map.1 hx
  have := hc i
  unfold Store.cap at this
  rw [this]

theorem goes_some {X : Caps} {way : List Slot} {a s : Slot} (hg : (St.mk X 0 []).goes way a = some s) :
    (X.s.cap a).kind = 2 ∧ X.final a = true ∧ X.inner (X.s.cap a).object way = some s := by
  unfold St.goes at hg
  split at hg
  · rename_i hc
    exact ⟨hc.1, hc.2, hg⟩
  · cases hg
theorem goes_of {X : Caps} {way : List Slot} {a : Slot} (h1 : (X.s.cap a).kind = 2) (h2 : X.final a = true) : (St.mk X 0 []).goes way a = X.inner (X.s.cap a).object way := by
  unfold St.goes
  rw [if_pos ⟨h1, h2⟩]
  rfl
theorem goes_not {X : Caps} {way : List Slot} {a : Slot} (h2 : X.final a = false) : (St.mk X 0 []).goes way a = none := by
  unfold St.goes
  rw [if_neg]
  simp [h2]

structure Way (X : Caps) (way : List Slot) (a : Slot) : Prop where
  nodup : way.Nodup
  full : ∀ x ∈ way, X.s.fl x
  mem : a ∈ way

theorem Way.go {X : Caps} {way : List Slot} {a s : Slot} (w : Way X way a) (h : (St.mk X 0 []).goes way a = some s) : Way X (way ++ [s]) s := by
  obtain ⟨_, _, h3⟩ := goes_some h
  obtain ⟨_, h4, h5, _⟩ := inner_some h3
  refine ⟨List.nodup_append.2 ⟨w.nodup, by simp, fun x hx y hy e => ?_⟩, fun x hx => ?_, by simp⟩
  · rw [List.mem_singleton.1 hy] at e
    exact h4 (e ▸ hx)
  · rcases List.mem_append.1 hx with hx | hx
    · exact w.full x hx
    · rw [List.mem_singleton.1 hx]; exact h5
theorem Way.one {X : Caps} {a : Slot} (h : X.s.fl a) : Way X [a] a := ⟨by simp, fun x hx => by rw [List.mem_singleton.1 hx]; exact h, by simp⟩
theorem Way.len {X : Caps} (hok : X.Ok) {way : List Slot} {a : Slot} (w : Way X way a) : way.length ≤ 1024 := Store.nodup_len hok.s w.nodup w.full

theorem Chain.exists {X : Caps} (hok : X.Ok) : ∀ (k : Nat) {way : List Slot} {a : Slot}, Way X way a → 1025 - way.length ≤ k → ∃ v, Chain X way a v := by
  intro k
  induction k with
  | zero =>
    intro way a w hk
    have := w.len hok
    omega
  | succ k ih =>
    intro way a w hk
    cases hg : (St.mk X 0 []).goes way a with
    | none => exact ⟨a, .stop hg⟩
    | some s =>
      have w' := w.go hg
      have := w'.len hok
      rw [List.length_append, List.length_singleton] at this
      obtain ⟨v, hv⟩ := ih w' (by rw [List.length_append, List.length_singleton]; omega)
      exact ⟨v, .go hg hv⟩

theorem Chain.facts {X : Caps} {way : List Slot} {a v : Slot} (h : Chain X way a v) : Way X way a → X.s.fl v ∧ (v = a ∨ v ∉ way) ∧
    (v = a ∨ ∃ b, X.s.fl b ∧ X.final b = true ∧ (X.s.cap b).kind = 2 ∧ (X.s.cap b).object = v.1 ∧ (b = a ∨ b ∉ way)) := by
  induction h with
  | stop h => exact fun w => ⟨w.full _ w.mem, .inl rfl, .inl rfl⟩
  | @go way a s v h h1 ih =>
    intro w
    have w' := w.go h
    obtain ⟨i1, i2, i3⟩ := ih w'
    obtain ⟨g1, g2, g3⟩ := goes_some h
    obtain ⟨n1, n2, n3, _⟩ := inner_some g3
    refine ⟨i1, .inr ?_, .inr ?_⟩
    · rcases i2 with rfl | i2
      · exact n2
      · exact fun hm => i2 (List.mem_append.2 (.inl hm))
    · rcases i3 with rfl | ⟨b, b1, b2, b3, b4, b5⟩
      · exact ⟨a, w.full _ w.mem, g2, g1, n1.symm, .inl rfl⟩
      · refine ⟨b, b1, b2, b3, b4, .inr ?_⟩
        rcases b5 with rfl | b5
        · exact n2
        · exact fun hm => b5 (List.mem_append.2 (.inl hm))

/-- a capability that is taken changes no link ahead of it -/
theorem goes_stays {st : St} (hok : st.X.Ok) {way : List Slot} {a s v : Slot} (w : Way st.X way a) (hg : st.goes way a = some s) (hc : Chain st.X (way ++ [s]) s v) (hv : v ≠ s) : (st.step v).goes way a = some s := by
  rw [goes_X] at hg ⊢
  have w' := w.go hg
  obtain ⟨g1, g2, g3⟩ := goes_some hg
  obtain ⟨n1, n2, n3, _⟩ := inner_some g3
  obtain ⟨f1, f2, f3⟩ := hc.facts w'
  have hvw : v ∉ way ++ [s] := f2.resolve_left hv
  have hva : v ≠ a := fun e => hvw (e ▸ List.mem_append.2 (.inl w.mem))
  obtain ⟨b, b1, b2, b3, b4, b5⟩ := f3.resolve_left hv
  have hba : b ≠ a := by
    rintro rfl
    rcases b5 with rfl | b5
    · exact n2 w.mem
    · exact b5 (List.mem_append.2 (.inl w.mem))
  obtain ⟨fa, fu⟩ := (Caps.final_iff hok.s).1 g2
  have hne : v.1 ≠ (st.X.s.cap a).object := fun e => hba (fu b b1 (b3.trans g1.symm) (b4.trans e))
  have ca : (st.step v).X.s.cap a = st.X.s.cap a := by rw [St.step_cap hok f1, if_neg hva.symm]
  have hok' := St.step_ok hok v
  have fin : (st.step v).X.final a = true := by
    rw [Caps.final_iff hok'.s]
    refine ⟨(St.step_fl hok f1).2 ⟨hva.symm, fa⟩, fun y hy h1 h2 => ?_⟩
    obtain ⟨y1, y2⟩ := (St.step_fl hok f1).1 hy
    rw [ca, St.step_cap hok f1, if_neg y1] at h1 h2
    exact fu y y2 h1 h2
  rw [goes_of (by rw [ca]; exact g1) fin, ca, ← g3]
  refine inner_congr ?_ fun i => ?_
  · refine St.step_radix f1 fun hk _ e => hva ?_
    exact fu v f1 (hk.trans g1.symm) e.symm
  · rw [St.step_cap hok f1, if_neg]
    rintro rfl
    exact hne rfl

theorem Way.step {st : St} (hok : st.X.Ok) {way : List Slot} {a v : Slot} (w : Way st.X way a) (hf : st.X.s.fl v) (hv : v ∉ way) : Way (st.step v).X way a :=
  ⟨w.nodup, fun x hx => (St.step_fl hok hf).2 ⟨fun e => hv (e ▸ hx), w.full x hx⟩, w.mem⟩

/-- one after another, as long as there are steps -/
inductive Run : St → List Slot → Slot → Out → Prop
  | spent {st : St} {way : List Slot} {a : Slot} (h : st.n = 0) : Run st way a (.spent st)
  | last {st : St} {way : List Slot} {a : Slot} (h : st.n ≠ 0) (hc : Chain st.X way a a) : Run st way a (.ok (st.step a))
  | more {st : St} {way : List Slot} {a v : Slot} {r : Out} (h : st.n ≠ 0) (hc : Chain st.X way a v) (hv : v ≠ a) (h1 : Run (st.step v) way a r) : Run st way a r

theorem Run.det {st : St} {way : List Slot} {a : Slot} {r r' : Out} (h : Run st way a r) (h' : Run st way a r') : r = r' := by
  induction h with
  | spent h =>
    cases h' with
    | spent _ => rfl
    | last h1 _ => exact absurd h h1
    | more h1 _ _ _ => exact absurd h h1
  | last h hc =>
    cases h' with
    | spent h1 => exact absurd h1 h
    | last _ _ => rfl
    | more _ hc' hv _ => exact absurd (hc'.det hc) hv
  | more h hc hv h1 ih =>
    cases h' with
    | spent h2 => exact absurd h2 h
    | last _ hc' => exact absurd (hc.det hc') hv
    | more _ hc' _ h2 =>
      cases hc.det hc'
      exact ih h2

theorem Run.exists : ∀ (k : Nat) {st : St} {way : List Slot} {a : Slot}, st.X.Ok → Way st.X way a → st.n = k → ∃ r, Run st way a r := by
  intro k
  induction k with
  | zero => exact fun _ _ h => ⟨_, .spent h⟩
  | succ k ih =>
    intro st way a hok w hn
    obtain ⟨v, hv⟩ := Chain.exists hok _ w (Nat.le_refl _)
    by_cases e : v = a
    · subst e
      exact ⟨_, .last (by omega) hv⟩
    · obtain ⟨f1, f2, _⟩ := hv.facts w
      obtain ⟨r, hr⟩ := ih (st := st.step v) (St.step_ok hok v) (w.step hok f1 (f2.resolve_left e)) (by rw [St.step_n]; omega)
      exact ⟨r, .more (by omega) hv e hr⟩

theorem Run.split {st : St} {way : List Slot} {a s : Slot} {r : Out} (h : Run st way a r) : st.X.Ok → Way st.X way a → 0 ≤ st.n → st.goes way a = some s →
    (∃ st', r = .spent st' ∧ Run st (way ++ [s]) s (.spent st')) ∨ (∃ st1, Run st (way ++ [s]) s (.ok st1) ∧ st1.n < st.n ∧ 0 ≤ st1.n ∧ Run st1 way a r ∧ Way st1.X way a ∧ st1.X.Ok) := by
  induction h with
  | spent h => exact fun _ _ _ _ => .inl ⟨_, rfl, .spent h⟩
  | last h hc =>
    intro _ w _ hg
    cases hc with
    | stop h2 => rw [goes_X] at hg; rw [h2] at hg; cases hg
    | go h2 h3 =>
      have w' := w.go h2
      rcases (h3.facts w').2.1 with e | e
      · have := (inner_some (goes_some h2).2.2).2.1
        rw [← e] at this
        exact absurd w.mem this
      · exact absurd (List.mem_append.2 (.inl w.mem)) e
  | @more st way a v r h hc hv h1 ih =>
    intro hok w hn hg
    have hg' := hg
    rw [goes_X] at hg'
    cases hc with
    | stop h2 => exact absurd rfl hv
    | @go _ _ s' _ h2 h3 =>
      rw [h2] at hg'
      injection hg' with hg'
      subst hg'
      have w' := w.go h2
      obtain ⟨f1, f2, _⟩ := h3.facts w'
      have hvw : v ∉ way := by
        rcases f2 with rfl | f2
        · exact (inner_some (goes_some h2).2.2).2.1
        · exact fun hm => f2 (List.mem_append.2 (.inl hm))
      have wn := w.step hok f1 hvw
      have okn := St.step_ok hok v
      have nn := @St.step_n st v
      by_cases e : v = s'
      · subst e
        exact .inr ⟨st.step v, .last h h3, by rw [nn]; omega, by rw [nn]; omega, h1, wn, okn⟩
      · have hg2 := goes_stays hok w hg h3 e
        rcases ih okn wn (by rw [nn]; omega) hg2 with ⟨st', e1, e2⟩ | ⟨st1, e1, e2, e3, e4⟩
        · exact .inl ⟨st', e1, .more h h3 e e2⟩
        · exact .inr ⟨st1, .more h h3 e e1, by rw [nn] at e2; omega, e3, e4⟩

def Out.bound (st : St) (way : List Slot) (m : Nat) : Out → Prop
  | .ok st' => (m : Int) + 1 ≤ st.n - st'.n
  | .spent st' => (m : Int) ≤ st.n - st'.n + (1025 - way.length)

theorem Run.loop : ∀ (N K : Nat) {st : St} {way : List Slot} {a : Slot} {r : Out}, st.n = N → 1025 - way.length ≤ K → st.X.Ok → Way st.X way a → Run st way a r →
    ∃ m, Loop m st way a r ∧ r.bound st way m := by
  intro N
  induction N using Nat.strongRecOn with
  | _ N ihN =>
  intro K
  induction K with
  | zero =>
    intro st way a r _ hK hok w _
    have := w.len hok
    omega
  | succ K ihK =>
    intro st way a r hN hK hok w hr
    have hlen := w.len hok
    cases hg : st.goes way a with
    | none =>
      have hg' := hg
      rw [goes_X] at hg'
      have e : r = st.stepO a := by
        cases hr with
        | spent h => simp [St.stepO, h]
        | last h _ => simp [St.stepO, h]
        | more h hc hv _ => exact absurd (hc.det (.stop hg')) hv
      rw [e]
      refine ⟨0, .stop hg, ?_⟩
      unfold St.stepO
      split
      · simp only [Out.bound]; omega
      · simp only [Out.bound, St.step_n]; omega
    | some s =>
      have w' := w.go (by rw [← goes_X]; exact hg)
      have hlen' := w'.len hok
      rw [List.length_append, List.length_singleton] at hlen'
      have hK' : 1025 - (way ++ [s]).length ≤ K := by rw [List.length_append, List.length_singleton]; omega
      rcases hr.split hok w (by omega) hg with ⟨st', rfl, h1⟩ | ⟨st1, h1, h2, h3, h4, h5, h6⟩
      · obtain ⟨m, hm, hb⟩ := ihK hN hK' hok w' h1
        refine ⟨m + 1, .spent hg hm, ?_⟩
        simp only [Out.bound, List.length_append, List.length_singleton] at hb ⊢
        omega
      · obtain ⟨m, hm, hb⟩ := ihK hN hK' hok w' h1
        obtain ⟨m', hm', hb'⟩ := ihN st1.n.toNat (by omega) (1025 - way.length) (st := st1) (by omega) (Nat.le_refl _) h6 h5 h4
        refine ⟨m + m' + 1, .go hg hm hm', ?_⟩
        cases r with
        | ok st' => simp only [Out.bound] at hb hb' ⊢; omega
        | spent st' => simp only [Out.bound] at hb hb' ⊢; omega

/- more steps, and what was told before -/
def St.shift (st : St) (k : Int) (p : List Cap) : St := ⟨st.X, st.n + k, p ++ st.ts⟩
theorem St.shift_step {st : St} {k : Int} {p : List Cap} (a : Slot) : (st.shift k p).step a = (st.step a).shift k p := by
  unfold St.step St.shift
  simp only
  split
  · simp only [List.append_assoc, St.mk.injEq, true_and, and_true]; omega
  · simp only [St.mk.injEq, true_and, and_true]; omega

theorem Run.shift_ok {st st' : St} {way : List Slot} {a : Slot} {k : Int} {p : List Cap} (hk : 0 ≤ k) (h : Run st way a (.ok st')) : 0 ≤ st.n → Run (st.shift k p) way a (.ok (st'.shift k p)) := by
  generalize hr : Out.ok st' = r at h
  induction h with
  | spent h => cases hr
  | last h hc =>
    injection hr with hr
    intro hn
    rw [hr, ← St.shift_step]
    exact .last (by show _ + k ≠ 0; omega) hc
  | @more st way a v r h hc hv h1 ih =>
    intro hn
    refine .more (by show _ + k ≠ 0; omega) hc hv ?_
    rw [St.shift_step]
    exact ih hr (by rw [St.step_n]; omega)

theorem Run.shift_spent {st st' : St} {way : List Slot} {a : Slot} {k : Int} {p : List Cap} {r : Out} (hk : 0 ≤ k) (h : Run st way a (.spent st')) : 0 ≤ st.n → Run (st'.shift k p) way a r → Run (st.shift k p) way a r := by
  generalize hr : Out.spent st' = r' at h
  induction h with
  | spent h => injection hr with hr; rw [hr]; exact fun _ h => h
  | last h hc => cases hr
  | @more st way a v r h hc hv h1 ih =>
    intro hn h2
    refine .more (by show _ + k ≠ 0; omega) hc hv ?_
    rw [St.shift_step]
    exact ih hr (by rw [St.step_n]; omega) h2
theorem Run.spent_n {st st' : St} {way : List Slot} {a : Slot} (h : Run st way a (.spent st')) : st'.n = 0 := by
  generalize hr : Out.spent st' = r' at h
  induction h with
  | spent h => injection hr with hr; rw [hr]; exact h
  | last h hc => cases hr
  | more h hc hv h1 ih => exact ih hr

/-- what each step keeps, a run keeps -/
theorem Run.keeps {J : St → Prop} (hs : ∀ st v, st.X.Ok → st.X.s.fl v → J st → J (st.step v)) {st : St} {way : List Slot} {a : Slot} {r : Out} (h : Run st way a r) : st.X.Ok → Way st.X way a → J st → J r.st ∧ r.st.X.Ok := by
  induction h with
  | spent h => exact fun hok _ hj => ⟨hj, hok⟩
  | last h hc => exact fun hok w hj => ⟨hs _ _ hok (hc.facts w).1 hj, St.step_ok hok _⟩
  | @more st way a v r h hc hv h1 ih =>
    intro hok w hj
    obtain ⟨f1, f2, _⟩ := hc.facts w
    exact ih (St.step_ok hok _) (w.step hok f1 (f2.resolve_left hv)) (hs _ _ hok f1 hj)
theorem Run.keeps2 {J : St → Prop} (hs : ∀ st v, st.X.Ok → st.X.s.fl v → st.n ≠ 0 → J st → J (st.step v)) {st : St} {way : List Slot} {a : Slot} {r : Out} (h : Run st way a r) : st.X.Ok → Way st.X way a → J st → J r.st ∧ r.st.X.Ok := by
  induction h with
  | spent h => exact fun hok _ hj => ⟨hj, hok⟩
  | last h hc => exact fun hok w hj => ⟨hs _ _ hok (hc.facts w).1 h hj, St.step_ok hok _⟩
  | @more st way a v r h hc hv h1 ih =>
    intro hok w hj
    obtain ⟨f1, f2, _⟩ := hc.facts w
    exact ih (St.step_ok hok _) (w.step hok f1 (f2.resolve_left hv)) (hs _ _ hok f1 h hj)
/-- behind it: the slot is empty if all is done, and full if not -/
theorem Run.done {st st' : St} {way : List Slot} {a : Slot} (h : Run st way a (.ok st')) : st.X.Ok → Way st.X way a → ¬ st'.X.s.fl a := by
  generalize hr : Out.ok st' = r at h
  induction h with
  | spent h => cases hr
  | last h hc =>
    injection hr with hr
    intro hok w
    rw [hr, St.step_fl hok (hc.facts w).1]
    exact fun h => h.1 rfl
  | @more st way a v r h hc hv h1 ih =>
    intro hok w
    obtain ⟨f1, f2, _⟩ := hc.facts w
    exact ih hr (St.step_ok hok _) (w.step hok f1 (f2.resolve_left hv))
theorem Run.left {st st' : St} {way : List Slot} {a : Slot} (h : Run st way a (.spent st')) : st.X.Ok → Way st.X way a → Way st'.X way a := by
  generalize hr : Out.spent st' = r at h
  induction h with
  | spent h => injection hr with hr; rw [hr]; exact fun _ w => w
  | last h hc => cases hr
  | @more st way a v r h hc hv h1 ih =>
    intro hok w
    obtain ⟨f1, f2, _⟩ := hc.facts w
    exact ih hr (St.step_ok hok _) (w.step hok f1 (f2.resolve_left hv))
end Go.Proofs.Ytpghhaobcikdhaa
