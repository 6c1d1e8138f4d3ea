/- The tree: what is done with it keeps it right; all that comes of a slot (plain). -/
import Derived.Test.YtpghhaobcikdhaaB1
namespace Go.Proofs.Ytpghhaobcikdhaa
open Go Go.Hw
set_option linter.unusedSimpArgs false
set_option linter.unusedVariables false

/-- no more than some slots are in it -/
def Tree.Small (T : Tree) : Prop := ∀ l : List Slot, l.Nodup → (∀ c ∈ l, (T c).isSome = true) → l.length ≤ 1024

theorem isSome_of {α : Type} {x : Option α} {y : α} (h : x = some y) : x.isSome = true := by rw [h]; rfl

theorem mem_flat {s c : Slot} {k l : List Slot} : (c ∈ l.flatMap fun c => if c = s then k else [c]) ↔ (s ∈ l ∧ c ∈ k) ∨ (c ∈ l ∧ c ≠ s) := by
  rw [List.mem_flatMap]
  constructor
  · rintro ⟨x, hx, hc⟩
    split at hc
    · rename_i e
      subst e
      exact .inl ⟨hx, hc⟩
    · rename_i e
      rw [List.mem_singleton.1 hc]
      exact .inr ⟨hx, e⟩
  · rintro (⟨h1, h2⟩ | ⟨h1, h2⟩)
    · exact ⟨s, h1, by rw [if_pos rfl]; exact h2⟩
    · exact ⟨c, h1, by rw [if_neg h2]; exact List.mem_singleton.2 rfl⟩

theorem nodup_flat {s : Slot} {k l : List Slot} (hl : l.Nodup) (hk : k.Nodup) (hd : ∀ c ∈ k, c ∉ l) : (l.flatMap fun c => if c = s then k else [c]).Nodup := by
  induction l with
  | nil => exact List.nodup_nil
  | cons a l ih =>
    have hl := List.nodup_cons.1 hl
    have hd' : ∀ c ∈ k, c ∉ l := fun c hc h => hd c hc (List.mem_cons.2 (.inr h))
    rw [List.flatMap_cons]
    by_cases h : a = s
    · subst h
      rw [if_pos rfl, flat_id hl.1, List.nodup_append]
      exact ⟨hk, hl.2, fun x hx y hy e => hd' x hx (e ▸ hy)⟩
    · rw [if_neg h, List.singleton_append, List.nodup_cons]
      refine ⟨fun hm => ?_, ih hl.2 hd'⟩
      rcases mem_flat.1 hm with ⟨_, h2⟩ | ⟨h2, _⟩
      · exact hd a h2 (List.mem_cons.2 (.inl rfl))
      · exact hl.1 h2

theorem Tree.drop_dom {T : Tree} {s c : Slot} : ((T.drop s).2 c).isSome = true ↔ (T c).isSome = true ∧ c ≠ s := by
  unfold Tree.drop
  cases hd : T s with
  | none =>
    simp only
    constructor
    · intro h
      exact ⟨h, fun e => by rw [e, hd] at h; cases h⟩
    · exact fun h => h.1
  | some d =>
    simp only
    by_cases h : c = s <;> simp [h]

theorem Tree.drop_wf {T : Tree} (hw : T.Wf) (hs : T.Small) (s : Slot) : (T.drop s).2.Wf := by
  have hdom := @Tree.drop_dom T s
  cases hd : T s with
  | none =>
    have e : (T.drop s).2 = T := by simp [Tree.drop, hd]
    rw [e]; exact hw
  | some d =>
    have e : (T.drop s).2 = fun x => if x = s then none else (T x).map fun e => (if e.1 = some s then d.1 else e.1, e.2.flatMap fun c => if c = s then d.2 else [c]) := by simp [Tree.drop, hd]
    rw [e] at hdom ⊢
    have hself := hw.self hd
    have get : ∀ x y, (if x = s then none else (T x).map fun e => (if e.1 = some s then d.1 else e.1, e.2.flatMap fun c => if c = s then d.2 else [c])) = some y →
        x ≠ s ∧ ∃ e, T x = some e ∧ y.1 = (if e.1 = some s then d.1 else e.1) ∧ y.2 = e.2.flatMap fun c => if c = s then d.2 else [c] := by
      intro x y h
      split at h
      · cases h
      · rename_i hx
        refine ⟨hx, ?_⟩
        cases he : T x with
        | none => rw [he] at h; cases h
        | some e =>
          rw [he] at h
          simp only [Option.map_some, Option.some.injEq] at h
          subst h
          exact ⟨e, rfl, rfl, rfl⟩
    have kids : ∀ x y, (if x = s then none else (T x).map fun e => (if e.1 = some s then d.1 else e.1, e.2.flatMap fun c => if c = s then d.2 else [c])) = some y → ∀ c ∈ y.2,
        (T c).isSome = true ∧ c ≠ s := by
      intro x y h c hc
      obtain ⟨hx, e, he, _, h2⟩ := get x y h
      rw [h2] at hc
      rcases mem_flat.1 hc with ⟨_, h3⟩ | ⟨h3, h4⟩
      · exact ⟨hw.kids _ _ hd c h3, fun e => hw.selfkid hd (e ▸ h3)⟩
      · exact ⟨hw.kids _ _ he c h3, h4⟩
    have nd : ∀ x y, (if x = s then none else (T x).map fun e => (if e.1 = some s then d.1 else e.1, e.2.flatMap fun c => if c = s then d.2 else [c])) = some y → y.2.Nodup := by
      intro x y h
      obtain ⟨hx, e, he, _, h2⟩ := get x y h
      rw [h2]
      refine nodup_flat (hw.nodup _ _ he) (hw.nodup _ _ hd) fun c hc hm => ?_
      obtain ⟨dc, hdc⟩ := Option.isSome_iff_exists.1 (hw.kids _ _ hd c hc)
      have h3 := (hw.link _ _ hd c dc hdc).1 hc
      have h4 := (hw.link _ _ he c dc hdc).1 hm
      rw [h3] at h4
      injection h4 with h4
      exact hx h4.symm
    refine { kids := fun x y h c hc => (hdom).2 (kids x y h c hc), par := ?_, small := ?_, nodup := nd, link := ?_, rank := ?_ }
    · intro x y q h hq
      obtain ⟨hx, e, he, h1, _⟩ := get x y h
      rw [h1] at hq
      refine (hdom).2 ?_
      split at hq
      · exact ⟨hw.par _ _ _ hd hq, fun e => hself (by rw [hq, e])⟩
      · rename_i hne
        exact ⟨hw.par _ _ _ he hq, fun e => hne (by rw [hq, e])⟩
    · intro x y h
      have := hs y.2 (nd x y h) fun c hc => (kids x y h c hc).1
      omega
    · intro x y h c yc hc
      obtain ⟨hx, e, he, h1, h2⟩ := get x y h
      obtain ⟨hcx, ec, hec, h3, h4⟩ := get c yc hc
      rw [h2, h3, mem_flat]
      have l1 := hw.link _ _ hd c ec hec
      have l2 := hw.link _ _ he c ec hec
      have l3 := hw.link _ _ he s d hd
      split
      · rename_i hps
        have hck := l1.2 hps
        constructor
        · rintro (⟨h5, _⟩ | ⟨h5, _⟩)
          · exact l3.1 h5
          · have := l2.1 h5
            rw [hps] at this
            injection this with this
            exact absurd this.symm hx
        · intro h5
          exact .inl ⟨l3.2 h5, hck⟩
      · rename_i hps
        have hck : c ∉ d.2 := fun h => hps (l1.1 h)
        constructor
        · rintro (⟨_, h5⟩ | ⟨h5, _⟩)
          · exact absurd h5 hck
          · exact l2.1 h5
        · intro h5
          exact .inr ⟨l2.2 h5, hcx⟩
    · obtain ⟨r, N, hN, hr⟩ := hw.rank
      refine ⟨r, N, hN, fun x y q h hq => ?_⟩
      obtain ⟨hx, e, he, h1, _⟩ := get x y h
      rw [h1] at hq
      split at hq
      · rename_i hps
        exact Nat.lt_trans (hr _ _ _ hd hq) (hr _ _ _ he hps)
      · exact hr _ _ _ he hq

theorem Tree.add_new {T : Tree} {s : Slot} {par : Option Slot} (hn : T s = none) : T.add s par = (0, fun x => if x = s then some (par, []) else if some x = par then (T x).map fun d => (d.1, d.2 ++ [s]) else T x) := by
  unfold Tree.add
  rw [if_neg (by rw [hn]; decide)]
theorem Tree.add_dom {T : Tree} {s c : Slot} {par : Option Slot} (hn : T s = none) : ((T.add s par).2 c).isSome = true ↔ c = s ∨ (T c).isSome = true := by
  rw [Tree.add_new hn]
  simp only
  by_cases h : c = s
  · simp [h]
  · rw [if_neg h]
    by_cases h2 : some c = par
    · rw [if_pos h2]
      simp [h]
    · rw [if_neg h2]
      simp [h]

theorem Tree.add_get {T : Tree} {s x : Slot} {par : Option Slot} {y : Option Slot × List Slot} (hn : T s = none) (h : (T.add s par).2 x = some y) :
    (x = s ∧ y = (par, [])) ∨ (x ≠ s ∧ ∃ e, T x = some e ∧ y.1 = e.1 ∧ y.2 = if some x = par then e.2 ++ [s] else e.2) := by
  rw [Tree.add_new hn] at h
  simp only at h
  split at h
  · rename_i hx
    injection h with h
    exact .inl ⟨hx, h.symm⟩
  · rename_i hx
    refine .inr ⟨hx, ?_⟩
    split at h
    · rename_i hp
      cases he : T x with
      | none => rw [he] at h; cases h
      | some e =>
        rw [he] at h
        simp only [Option.map_some, Option.some.injEq] at h
        subst h
        exact ⟨e, rfl, rfl, by rw [if_pos hp]⟩
    · rename_i hp
      exact ⟨y, h, rfl, by rw [if_neg hp]⟩

theorem Tree.add_wf {T : Tree} (hw : T.Wf) {s : Slot} {par : Option Slot} (hn : T s = none) (hp : ∀ q, par = some q → (T q).isSome = true) (hs : (T.add s par).2.Small) : (T.add s par).2.Wf := by
  have hdom := fun c => @Tree.add_dom T s c par hn
  have get := fun x y => @Tree.add_get T s x par y hn
  have nok : ∀ x e, T x = some e → s ∉ e.2 := fun x e he hm => by
    have := hw.kids _ _ he s hm
    rw [hn] at this; cases this
  have nop : ∀ x e, T x = some e → e.1 ≠ some s := fun x e he hm => by
    have := hw.par _ _ _ he hm
    rw [hn] at this; cases this
  have kids : ∀ x y, (T.add s par).2 x = some y → ∀ c ∈ y.2, ((T.add s par).2 c).isSome = true := by
    intro x y h c hc
    rw [hdom]
    rcases get x y h with ⟨_, rfl⟩ | ⟨_, e, he, _, h2⟩
    · cases hc
    · rw [h2] at hc
      split at hc
      · rcases List.mem_append.1 hc with hc | hc
        · exact .inr (hw.kids _ _ he c hc)
        · exact .inl (List.mem_singleton.1 hc)
      · exact .inr (hw.kids _ _ he c hc)
  have nd : ∀ x y, (T.add s par).2 x = some y → y.2.Nodup := by
    intro x y h
    rcases get x y h with ⟨_, rfl⟩ | ⟨_, e, he, _, h2⟩
    · exact List.nodup_nil
    · rw [h2]
      split
      · rw [List.nodup_append]
        refine ⟨hw.nodup _ _ he, by simp, fun a ha b hb hab => ?_⟩
        rw [List.mem_singleton.1 hb] at hab
        exact nok _ _ he (hab ▸ ha)
      · exact hw.nodup _ _ he
  refine { kids := kids, par := ?_, small := ?_, nodup := nd, link := ?_, rank := ?_ }
  · intro x y q h hq
    rw [hdom]
    rcases get x y h with ⟨_, rfl⟩ | ⟨_, e, he, h1, _⟩
    · exact .inr (hp q hq)
    · rw [h1] at hq
      exact .inr (hw.par _ _ _ he hq)
  · intro x y h
    have := hs y.2 (nd x y h) (kids x y h)
    omega
  · intro x y h c yc hc
    rcases get x y h with ⟨hx, rfl⟩ | ⟨hx, e, he, h1, h2⟩
    · subst hx
      rcases get c yc hc with ⟨hcs, rfl⟩ | ⟨hcs, ec, hec, h3, h4⟩
      · constructor
        · intro h; cases h
        · intro h
          have := hp x h
          rw [hn] at this; cases this
      · constructor
        · intro h; cases h
        · intro h
          rw [h3] at h
          exact absurd h (nop _ _ hec)
    · rcases get c yc hc with ⟨hcs, rfl⟩ | ⟨hcs, ec, hec, h3, h4⟩
      · subst hcs
        rw [h2]
        split
        · rename_i hpx
          simp [← hpx]
        · rename_i hpx
          constructor
          · intro h; exact absurd h (nok _ _ he)
          · intro h; exact absurd h.symm hpx
      · rw [h2, h3]
        have l := hw.link _ _ he c ec hec
        split
        · rw [List.mem_append, List.mem_singleton]
          constructor
          · rintro (h | h)
            · exact l.1 h
            · exact absurd h hcs
          · intro h; exact .inl (l.2 h)
        · exact l
  · obtain ⟨r, N, hN, hr⟩ := hw.rank
    refine ⟨fun x => if x = s then N + 1 else r x, N + 1, fun x => ?_, fun x y q h hq => ?_⟩
    · simp only
      split
      · omega
      · exact Nat.le_succ_of_le (hN x)
    · have hqs : q ≠ s := by
        rintro rfl
        rcases get x y h with ⟨_, rfl⟩ | ⟨_, e, he, h1, _⟩
        · have := hp q hq
          rw [hn] at this; cases this
        · exact nop _ _ he (h1 ▸ hq)
      simp only [if_neg hqs]
      rcases get x y h with ⟨hx, rfl⟩ | ⟨hx, e, he, h1, _⟩
      · rw [if_pos hx]
        exact Nat.lt_succ_of_le (hN q)
      · rw [if_neg hx]
        exact hr _ _ _ he (h1 ▸ hq)

/-- back of ren -/
def unren (a b x : Slot) : Slot := if x = b then a else x
theorem un_ren {a b c : Slot} (hc : c ≠ b) : unren a b (ren a b c) = c := by
  unfold unren ren
  by_cases h : c = a
  · simp [h]
  · simp [h, hc]
theorem ren_un {a b x : Slot} (hx : x ≠ a) : ren a b (unren a b x) = x := by
  unfold unren ren
  by_cases h : x = b
  · simp [h]
  · simp [h, hx]
theorem ren_ne {a b c : Slot} (hab : a ≠ b) : ren a b c ≠ a := by
  unfold ren
  by_cases h : c = a
  · rw [if_pos h]; exact fun e => hab e.symm
  · rw [if_neg h]; exact h

theorem Tree.move_eq {T : Tree} {a b : Slot} (ha : (T a).isSome = true) (hb : T b = none) (x : Slot) : (T.move a b).2 x = if x = a then none else (T (unren a b x)).map (renD a b) := by
  have hab : a ≠ b := fun e => by rw [e, hb] at ha; cases ha
  unfold Tree.move
  rw [if_pos ha, if_neg (by rw [hb]; decide)]
  simp only [unren]
  by_cases h1 : x = b
  · rw [if_pos h1, if_neg (fun e => hab (e.symm.trans h1)), if_pos h1]
  · rw [if_neg h1, if_neg h1]
theorem Tree.move_dom {T : Tree} {a b x : Slot} (ha : (T a).isSome = true) (hb : T b = none) : ((T.move a b).2 x).isSome = true ↔ x ≠ a ∧ (T (unren a b x)).isSome = true := by
  rw [Tree.move_eq ha hb]
  by_cases h : x = a <;> simp [h]

theorem Tree.move_wf {T : Tree} (hw : T.Wf) {a b : Slot} (ha : (T a).isSome = true) (hb : T b = none) : (T.move a b).2.Wf := by
  have hab : a ≠ b := fun e => by rw [e, hb] at ha; cases ha
  have get : ∀ x y, (T.move a b).2 x = some y → x ≠ a ∧ ∃ e, T (unren a b x) = some e ∧ y.1 = e.1.map (ren a b) ∧ y.2 = e.2.map (ren a b) := by
    intro x y h
    rw [Tree.move_eq ha hb] at h
    split at h
    · cases h
    · rename_i hx
      refine ⟨hx, ?_⟩
      cases he : T (unren a b x) with
      | none => rw [he] at h; cases h
      | some e =>
        rw [he] at h
        simp only [Option.map_some, Option.some.injEq] at h
        subst h
        exact ⟨e, rfl, rfl, rfl⟩
  have neb : ∀ c, (T c).isSome = true → c ≠ b := fun c hc e => by rw [e, hb] at hc; cases hc
  have inj : ∀ c c', c ≠ b → c' ≠ b → ren a b c = ren a b c' → c = c' := fun c c' h h' e => by rw [← un_ren (a := a) h, e, un_ren h']
  refine { kids := ?_, par := ?_, small := ?_, nodup := ?_, link := ?_, rank := ?_ }
  · intro x y h c hc
    obtain ⟨hx, e, he, _, h2⟩ := get x y h
    rw [h2] at hc
    obtain ⟨k, hk, rfl⟩ := List.mem_map.1 hc
    have hkd := hw.kids _ _ he k hk
    rw [Tree.move_dom ha hb]
    exact ⟨ren_ne hab, by rw [un_ren (neb k hkd)]; exact hkd⟩
  · intro x y q h hq
    obtain ⟨hx, e, he, h1, _⟩ := get x y h
    rw [h1] at hq
    obtain ⟨p, hp, rfl⟩ := Option.map_eq_some_iff.1 hq
    have hpd := hw.par _ _ _ he hp
    rw [Tree.move_dom ha hb]
    exact ⟨ren_ne hab, by rw [un_ren (neb p hpd)]; exact hpd⟩
  · intro x y h
    obtain ⟨hx, e, he, _, h2⟩ := get x y h
    rw [h2, List.length_map]
    exact hw.small _ _ he
  · intro x y h
    obtain ⟨hx, e, he, _, h2⟩ := get x y h
    rw [h2]
    unfold List.Nodup
    rw [List.pairwise_map]
    refine List.Pairwise.imp_of_mem ?_ (hw.nodup _ _ he)
    intro c c' hc hc' hne heq
    exact hne (inj c c' (neb c (hw.kids _ _ he c hc)) (neb c' (hw.kids _ _ he c' hc')) heq)
  · intro x y h c yc hc
    obtain ⟨hx, e, he, h1, h2⟩ := get x y h
    obtain ⟨hcx, ec, hec, h3, h4⟩ := get c yc hc
    have l := hw.link _ _ he _ ec hec
    rw [h2, h3]
    constructor
    · intro hm
      obtain ⟨k, hk, hkc⟩ := List.mem_map.1 hm
      have hkb := neb k (hw.kids _ _ he k hk)
      have : unren a b c = k := by rw [← hkc, un_ren hkb]
      rw [this] at l
      rw [l.1 hk, Option.map_some, ren_un hx]
    · intro hm
      obtain ⟨p, hp, hpx⟩ := Option.map_eq_some_iff.1 hm
      have hpb := neb p (hw.par _ _ _ hec hp)
      have : unren a b x = p := by rw [← hpx, un_ren hpb]
      rw [this] at l
      exact List.mem_map.2 ⟨_, l.2 hp, ren_un hcx⟩
  · obtain ⟨r, N, hN, hr⟩ := hw.rank
    refine ⟨fun x => r (unren a b x), N, fun x => hN _, fun x y q h hq => ?_⟩
    obtain ⟨hx, e, he, h1, _⟩ := get x y h
    rw [h1] at hq
    obtain ⟨p, hp, rfl⟩ := Option.map_eq_some_iff.1 hq
    have hpb := neb p (hw.par _ _ _ he hp)
    simp only [un_ren hpb]
    exact hr _ _ _ he hp

/- what comes of a slot -/
theorem Pre.append {T : Tree} {o1 l1 o2 l2 : List Slot} (h1 : Pre T o1 l1) (h2 : Pre T o2 l2) : Pre T (o1 ++ o2) (l1 ++ l2) := by
  induction h1 with
  | nil => exact h2
  | @cons c rest l d hd h ih =>
    rw [List.append_assoc] at ih
    exact .cons hd ih

theorem Pre.det {T : Tree} {o l l' : List Slot} (h1 : Pre T o l) (h2 : Pre T o l') : l = l' := by
  induction h1 generalizing l' with
  | nil => cases h2; rfl
  | @cons c rest l d hd h ih =>
    cases h2 with
    | cons hd' h' =>
      rw [hd] at hd'
      injection hd' with hd'
      subst hd'
      rw [ih h']

theorem Pre.exists {T : Tree} (hw : T.Wf) : ∀ o : List Slot, (∀ c ∈ o, (T c).isSome = true) → ∃ l, Pre T o l := by
  obtain ⟨r, N, hN, hr⟩ := hw.rank
  have main : ∀ k, ∀ o : List Slot, (∀ c ∈ o, (T c).isSome = true ∧ N - r c < k) → ∃ l, Pre T o l := by
    intro k
    induction k with
    | zero =>
      intro o ho
      cases o with
      | nil => exact ⟨[], .nil⟩
      | cons c rest => exact absurd (ho c (by simp)).2 (by omega)
    | succ k ih =>
      intro o
      induction o with
      | nil => intro _; exact ⟨[], .nil⟩
      | cons c rest ih2 =>
        intro ho
        obtain ⟨d, hd⟩ := Option.isSome_iff_exists.1 (ho c (by simp)).1
        obtain ⟨l2, h2⟩ := ih2 fun x hx => ho x (List.mem_cons.2 (.inr hx))
        obtain ⟨l1, h1⟩ := ih d.2 fun x hx => by
          have hx1 := hw.kids _ _ hd x hx
          obtain ⟨dx, hdx⟩ := Option.isSome_iff_exists.1 hx1
          have := hr _ _ _ hdx ((hw.link _ _ hd x dx hdx).1 hx)
          have := (ho c (by simp)).2
          have := hN x
          exact ⟨hx1, by omega⟩
        exact ⟨_, .cons hd (h1.append h2)⟩
  intro o ho
  exact main (N + 1) o fun c hc => ⟨ho c hc, by omega⟩

theorem Pre.sub {T : Tree} {o l : List Slot} (h : Pre T o l) : (∀ x ∈ o, x ∈ l) ∧ ∀ c ∈ l, ∀ d, T c = some d → ∀ k ∈ d.2, k ∈ l := by
  induction h with
  | nil => exact ⟨fun x hx => hx, fun c hc => by cases hc⟩
  | @cons c rest l d hd h ih =>
    constructor
    · intro x hx
      rcases List.mem_cons.1 hx with rfl | hx
      · simp
      · exact List.mem_cons.2 (.inr (ih.1 x (by simp [hx])))
    · intro x hx e he k hk
      rcases List.mem_cons.1 hx with rfl | hx
      · rw [hd] at he
        injection he with he
        subst he
        exact List.mem_cons.2 (.inr (ih.1 k (by simp [hk])))
      · exact List.mem_cons.2 (.inr (ih.2 x hx e he k hk))

theorem Pre.all {T : Tree} {o l : List Slot} (h : Pre T o l) {Q : Slot → Prop} (hk : ∀ c d, T c = some d → Q c → ∀ k ∈ d.2, Q k) (ho : ∀ c ∈ o, Q c) : ∀ c ∈ l, Q c := by
  induction h with
  | nil => exact fun c hc => by cases hc
  | @cons c rest l d hd h ih =>
    intro x hx
    rcases List.mem_cons.1 hx with rfl | hx
    · exact ho _ (by simp)
    · refine ih (fun y hy => ?_) x hx
      rcases List.mem_append.1 hy with hy | hy
      · exact hk c d hd (ho c (by simp)) y hy
      · exact ho y (by simp [hy])

theorem Pre.dom {T : Tree} {o l : List Slot} (hw : T.Wf) (h : Pre T o l) : ∀ c ∈ l, (T c).isSome = true := by
  induction h with
  | nil => exact fun c hc => by cases hc
  | @cons c rest l d hd h ih =>
    intro x hx
    rcases List.mem_cons.1 hx with rfl | hx
    · exact isSome_of hd
    · exact ih x hx

/-- s is further up than c -/
inductive Tree.Anc (T : Tree) (s : Slot) : Slot → Prop
  | par {c : Slot} {d : Option Slot × List Slot} (hd : T c = some d) (hp : d.1 = some s) : Tree.Anc T s c
  | up {c p : Slot} {d : Option Slot × List Slot} (hd : T c = some d) (hp : d.1 = some p) (h : Tree.Anc T s p) : Tree.Anc T s c

theorem Tree.Anc.trans {T : Tree} {a b c : Slot} (h1 : T.Anc a b) (h2 : T.Anc b c) : T.Anc a c := by
  induction h2 with
  | par hd hp => exact .up hd hp h1
  | up hd hp _ ih => exact .up hd hp ih
theorem Tree.Anc.rank {T : Tree} {r : Slot → Nat} (hr : ∀ x d q, T x = some d → d.1 = some q → r q < r x) {a c : Slot} (h : T.Anc a c) : r a < r c := by
  induction h with
  | par hd hp => exact hr _ _ _ hd hp
  | up hd hp _ ih => exact Nat.lt_trans ih (hr _ _ _ hd hp)
theorem Tree.Anc.parent {T : Tree} {a c q : Slot} {d : Option Slot × List Slot} (h : T.Anc a c) (hd : T c = some d) (hq : d.1 = some q) : a = q ∨ T.Anc a q := by
  cases h with
  | par hd' hp =>
    rw [hd] at hd'
    injection hd' with hd'
    subst hd'
    rw [hq] at hp
    injection hp with hp
    exact .inl hp.symm
  | up hd' hp h =>
    rw [hd] at hd'
    injection hd' with hd'
    subst hd'
    rw [hq] at hp
    injection hp with hp
    subst hp
    exact .inr h
theorem Tree.Anc.mem {T : Tree} (hw : T.Wf) {s c : Slot} {ds : Option Slot × List Slot} (hs : T s = some ds) {l : List Slot} (hl : Pre T ds.2 l) (h : T.Anc s c) : c ∈ l := by
  induction h with
  | par hd hp => exact hl.sub.1 _ ((hw.link _ _ hs _ _ hd).2 hp)
  | @up c p d hd hp h ih =>
    obtain ⟨dp, hdp⟩ := Option.isSome_iff_exists.1 (hw.par _ _ _ hd hp)
    exact hl.sub.2 p ih dp hdp _ ((hw.link _ _ hdp _ _ hd).2 hp)

theorem Pre.from {T : Tree} (hw : T.Wf) {o l : List Slot} (h : Pre T o l) : ∀ x ∈ l, x ∈ o ∨ ∃ y ∈ o, T.Anc y x := by
  induction h with
  | nil => exact fun x hx => by cases hx
  | @cons c rest l d hd h ih =>
    intro x hx
    rcases List.mem_cons.1 hx with rfl | hx
    · exact .inl (by simp)
    · have anc : ∀ y ∈ d.2, T.Anc c y := fun y hy => by
        obtain ⟨dy, hdy⟩ := Option.isSome_iff_exists.1 (hw.kids _ _ hd y hy)
        exact .par hdy ((hw.link _ _ hd y dy hdy).1 hy)
      rcases ih x hx with h | ⟨y, hy, h⟩
      · rcases List.mem_append.1 h with h | h
        · exact .inr ⟨c, by simp, anc x h⟩
        · exact .inl (by simp [h])
      · rcases List.mem_append.1 hy with hy | hy
        · exact .inr ⟨c, by simp, (anc y hy).trans h⟩
        · exact .inr ⟨y, by simp [hy], h⟩

def Tree.Off (T : Tree) (x y : Slot) : Prop := x ≠ y ∧ ¬ T.Anc x y ∧ ¬ T.Anc y x

theorem Pre.nodup {T : Tree} (hw : T.Wf) {o l : List Slot} (h : Pre T o l) : o.Pairwise T.Off → l.Nodup := by
  obtain ⟨r, N, hN, hr⟩ := hw.rank
  induction h with
  | nil => exact fun _ => List.nodup_nil
  | @cons c rest l d hd h ih =>
    intro ho
    have ho := List.pairwise_cons.1 ho
    have anc : ∀ y ∈ d.2, T.Anc c y := fun y hy => by
      obtain ⟨dy, hdy⟩ := Option.isSome_iff_exists.1 (hw.kids _ _ hd y hy)
      exact .par hdy ((hw.link _ _ hd y dy hdy).1 hy)
    have ancp : ∀ x y, y ∈ d.2 → T.Anc x y → x = c ∨ T.Anc x c := fun x y hy hx => by
      obtain ⟨dy, hdy⟩ := Option.isSome_iff_exists.1 (hw.kids _ _ hd y hy)
      exact hx.parent hdy ((hw.link _ _ hd y dy hdy).1 hy)
    have kk : ∀ x y, x ∈ d.2 → y ∈ d.2 → ¬ T.Anc x y := fun x y hx hy h => by
      have := (anc x hx).rank hr
      rcases ancp x y hy h with rfl | h
      · omega
      · have := h.rank hr
        omega
    have hn : (d.2 ++ rest).Pairwise T.Off := by
      rw [List.pairwise_append]
      refine ⟨?_, ho.2, ?_⟩
      · refine List.Pairwise.imp_of_mem ?_ (hw.nodup _ _ hd)
        intro x y hx hy hne
        exact ⟨hne, kk x y hx hy, kk y x hy hx⟩
      · intro k hk x hx
        have hox := ho.1 x hx
        refine ⟨fun e => hox.2.1 (e ▸ anc k hk), fun h => hox.2.1 ((anc k hk).trans h), fun h => ?_⟩
        rcases ancp x k hk h with e | h
        · exact hox.1 e.symm
        · exact hox.2.2 h
    refine List.nodup_cons.2 ⟨fun hc => ?_, ih hn⟩
    rcases h.from hw c hc with h | ⟨y, hy, h⟩
    · rcases List.mem_append.1 h with h | h
      · exact absurd ((anc c h).rank hr) (by omega)
      · exact (ho.1 c h).1 rfl
    · rcases List.mem_append.1 hy with hy | hy
      · have h1 := (anc y hy).rank hr
        have h2 := h.rank hr
        omega
      · exact (ho.1 y hy).2.2 h

theorem Pre.drop {T : Tree} (hw : T.Wf) {s : Slot} {ds : Option Slot × List Slot} (hs : T s = some ds) {o l : List Slot} (h : Pre T o l) :
    Pre (T.drop s).2 (o.flatMap fun c => if c = s then ds.2 else [c]) (l.filter fun x => decide (x ≠ s)) := by
  have e : (T.drop s).2 = fun x => if x = s then none else (T x).map fun e => (if e.1 = some s then ds.1 else e.1, e.2.flatMap fun c => if c = s then ds.2 else [c]) := by simp [Tree.drop, hs]
  rw [e]
  induction h with
  | nil => exact .nil
  | @cons c rest l d hd h ih =>
    rw [List.flatMap_append] at ih
    rw [List.flatMap_cons, List.filter_cons]
    by_cases hc : c = s
    · subst hc
      rw [hs] at hd
      injection hd with hd
      subst hd
      rw [if_pos rfl, if_neg (by simp)]
      rw [flat_id (hw.selfkid hs)] at ih
      exact ih
    · rw [if_neg hc, if_pos (by simp [hc])]
      refine .cons (d := (if d.1 = some s then ds.1 else d.1, d.2.flatMap fun c => if c = s then ds.2 else [c])) ?_ ih
      simp only [if_neg hc, hd, Option.map_some]

/-- what comes of a slot, and is in the tree -/
structure Tree.Kin (T : Tree) (s : Slot) (l : List Slot) : Prop where
  kin : KinOf T s l
  nodup : l.Nodup
  dom : ∀ x ∈ l, (T x).isSome = true
  self : s ∉ l
  anc : ∀ x, x ∈ l ↔ T.Anc s x

theorem Tree.kin_of {T : Tree} (hw : T.Wf) (s : Slot) : ∃ l, T.Kin s l := by
  obtain ⟨r, N, hN, hr⟩ := hw.rank
  cases hs : T s with
  | none =>
    refine ⟨[], (by unfold KinOf; rw [hs]), List.nodup_nil, fun x hx => (by cases hx), fun h => (by cases h), fun x => ⟨fun h => (by cases h), fun h => ?_⟩⟩
    exfalso
    induction h with
    | par hd hp => have := hw.par _ _ _ hd hp; rw [hs] at this; cases this
    | up _ _ _ ih => exact ih
  | some d =>
    obtain ⟨l, hl⟩ := Pre.exists hw d.2 (hw.kids _ _ hs)
    have anc : ∀ y ∈ d.2, T.Anc s y := fun y hy => by
      obtain ⟨dy, hdy⟩ := Option.isSome_iff_exists.1 (hw.kids _ _ hs y hy)
      exact .par hdy ((hw.link _ _ hs y dy hdy).1 hy)
    have ha : ∀ x ∈ l, T.Anc s x := fun x hx => by
      rcases hl.from hw x hx with h | ⟨y, hy, h⟩
      · exact anc x h
      · exact (anc y hy).trans h
    refine ⟨l, (by unfold KinOf; rw [hs]; exact hl), hl.nodup hw ?_, hl.dom hw, fun h => absurd ((ha s h).rank hr) (by omega), fun x => ⟨ha x, fun h => h.mem hw hs hl⟩⟩
    refine List.Pairwise.imp_of_mem ?_ (hw.nodup _ _ hs)
    have kk : ∀ x y, x ∈ d.2 → y ∈ d.2 → ¬ T.Anc x y := fun x y hx hy h => by
      obtain ⟨dy, hdy⟩ := Option.isSome_iff_exists.1 (hw.kids _ _ hs y hy)
      have := (anc x hx).rank hr
      rcases h.parent hdy ((hw.link _ _ hs y dy hdy).1 hy) with e | h
      · subst e; omega
      · have := h.rank hr
        omega
    intro x y hx hy hne
    exact ⟨hne, kk x y hx hy, kk y x hy hx⟩

theorem KinOf.det {T : Tree} {s : Slot} {l l' : List Slot} (h : KinOf T s l) (h' : KinOf T s l') : l = l' := by
  unfold KinOf at h h'
  cases hs : T s with
  | none => rw [hs] at h h'; rw [h, h']
  | some d => rw [hs] at h h'; exact Pre.det h h'

theorem KinOf.drop {T : Tree} (hw : T.Wf) {s v : Slot} {l : List Slot} (h : KinOf T s l) (hv : (T v).isSome = true) (hne : s ≠ v) : KinOf (T.drop v).2 s (l.filter fun x => decide (x ≠ v)) := by
  obtain ⟨dv, hdv⟩ := Option.isSome_iff_exists.1 hv
  have e : (T.drop v).2 s = (T s).map fun e => (if e.1 = some v then dv.1 else e.1, e.2.flatMap fun c => if c = v then dv.2 else [c]) := by
    simp [Tree.drop, hdv, hne]
  unfold KinOf at h ⊢
  cases hs : T s with
  | none => rw [hs] at h; rw [e, hs, h]; rfl
  | some d =>
    rw [hs] at h
    rw [e, hs]
    exact Pre.drop hw hdv h
end Go.Proofs.Ytpghhaobcikdhaa
