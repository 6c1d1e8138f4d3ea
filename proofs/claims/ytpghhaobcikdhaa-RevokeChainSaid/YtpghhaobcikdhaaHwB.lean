/- Whatever order is drawn, a region's operations come to what they come to in one order. -/
import Derived.Test.YtpghhaobcikdhaaHwA
namespace Go.Hw
open Go

def Bef (L : List Nat) (a b : Nat) : Prop := ∀ l1 l2, L = l1 ++ b :: l2 → a ∈ l1

theorem Bef.trans {L : List Nat} {a b c : Nat} (h : Bef L a b) (h' : Bef L b c) : Bef L a c := by
  intro l1 l2 e
  have hb := h' l1 l2 e
  obtain ⟨m1, m2, rfl⟩ := List.append_of_mem hb
  exact List.mem_append_left _ (h m1 (m2 ++ c :: l2) (by simp [e]))

theorem split_unique {b : Nat} : ∀ {L l1 l2 m1 m2 : List Nat}, L.Nodup → L = l1 ++ b :: l2 → L = m1 ++ b :: m2 → l1 = m1 := by
  intro L l1
  induction l1 generalizing L with
  | nil =>
    intro l2 m1 m2 hn h1 h2
    cases m1 with
    | nil => rfl
    | cons x m1 =>
      subst h1
      simp only [List.nil_append, List.cons_append, List.cons.injEq] at h2
      obtain ⟨rfl, rfl⟩ := h2
      simp at hn
  | cons y l1 ih =>
    intro l2 m1 m2 hn h1 h2
    cases m1 with
    | nil =>
      subst h1
      simp only [List.nil_append, List.cons_append, List.cons.injEq] at h2
      obtain ⟨rfl, rfl⟩ := h2
      simp at hn
    | cons x m1 =>
      subst h1
      simp only [List.cons_append, List.cons.injEq] at h2
      obtain ⟨rfl, h2⟩ := h2
      rw [List.cons_append] at hn
      rw [ih (List.nodup_cons.1 hn).2 rfl h2]

theorem Bef.total {L : List Nat} (hn : L.Nodup) {a b : Nat} (ha : a ∈ L) (hb : b ∈ L) (hab : a ≠ b) : Bef L a b ∨ Bef L b a := by
  obtain ⟨l1, l2, e⟩ := List.append_of_mem hb
  by_cases h : a ∈ l1
  · exact .inl fun m1 m2 e' => split_unique hn e e' ▸ h
  · refine .inr fun m1 m2 e' => ?_
    have ha2 : a ∈ l2 := by
      rw [e] at ha
      simp at ha
      rcases ha with ha | ha | ha
      · exact absurd ha h
      · exact absurd ha hab
      · exact ha
    obtain ⟨k1, k2, rfl⟩ := List.append_of_mem ha2
    have := split_unique hn (l1 := l1 ++ b :: k1) (l2 := k2) (by simp [e]) e'
    rw [← this]
    simp

structure LinOk (ops : Array Oper) (L : List Nat) : Prop where
  nodup : L.Nodup
  mem : ∀ x, x ∈ L ↔ x < ops.size
  edge : ∀ i o, ops[i]? = some o → ∀ e ∈ o.after, Region.binds .any e = true → Bef L e.on i

def Topo (ops : Array Oper) : Prop := ∀ i o, ops[i]? = some o → ∀ e ∈ o.after, Region.binds .any e = true → e.on < i

def unl (ops : Array Oper) (listed : Array Bool) : List Nat := (List.range ops.size).filter fun x => !listed.getD x true

theorem mem_unl {ops : Array Oper} {listed : Array Bool} {x : Nat} : x ∈ unl ops listed ↔ x < ops.size ∧ listed.getD x true = false := by
  simp [unl]

theorem lin_go {ops : Array Oper} (topo : Topo ops) : ∀ (fuel t : Nat) (listed : Array Bool), listed.size = ops.size → (unl ops listed).length ≤ fuel →
    (Region.linearise.go .any ops fuel t listed []).Nodup ∧ (∀ x, x ∈ Region.linearise.go .any ops fuel t listed [] ↔ x ∈ unl ops listed) ∧
    (∀ r1 i r2, Region.linearise.go .any ops fuel t listed [] = r1 ++ i :: r2 → ∀ o, ops[i]? = some o → ∀ e ∈ o.after, Region.binds .any e = true →
      e.on ∈ r1 ∨ listed.getD e.on false = true) := by
  intro fuel
  induction fuel with
  | zero =>
    intro t listed hs hl
    have : unl ops listed = [] := List.length_eq_zero_iff.1 (by omega)
    simp [Region.linearise.go, this]
  | succ fuel ih =>
    intro t listed hs hl
    simp only [Region.linearise.go]
    change (match (Region.ready .any ops listed)[t % (Region.ready .any ops listed).length]? with
        | some i => Region.linearise.go .any ops fuel (t / (Region.ready .any ops listed).length) (listed.setIfInBounds i true) [i]
        | none => [].reverse).Nodup ∧ (∀ x, x ∈ (match (Region.ready .any ops listed)[t % (Region.ready .any ops listed).length]? with
        | some i => Region.linearise.go .any ops fuel (t / (Region.ready .any ops listed).length) (listed.setIfInBounds i true) [i]
        | none => [].reverse) ↔ x ∈ unl ops listed) ∧ (∀ r1 i r2, (match (Region.ready .any ops listed)[t % (Region.ready .any ops listed).length]? with
        | some i => Region.linearise.go .any ops fuel (t / (Region.ready .any ops listed).length) (listed.setIfInBounds i true) [i]
        | none => [].reverse) = r1 ++ i :: r2 → ∀ o, ops[i]? = some o → ∀ e ∈ o.after, Region.binds .any e = true →
      e.on ∈ r1 ∨ listed.getD e.on false = true)
    cases hi : (Region.ready .any ops listed)[t % (Region.ready .any ops listed).length]? with
    | none =>
      have hnil : Region.ready .any ops listed = [] := by
        cases hr : Region.ready .any ops listed with
        | nil => rfl
        | cons x xs =>
          rw [hr] at hi
          have hlt : t % (x :: xs).length < (x :: xs).length := Nat.mod_lt _ (by simp)
          simp at hi
          simp at hlt
          omega
      have hempty : ∀ n, n ∉ unl ops listed := by
        intro n
        induction n using Nat.strongRecOn with
        | _ n ihn =>
          intro hn
          obtain ⟨h1, h2⟩ := mem_unl.1 hn
          have : n ∈ Region.ready .any ops listed := by
            rw [mem_ready]
            refine ⟨h2, ops[n], by simp [h1], fun e he hb => ?_⟩
            have hlt := topo n ops[n] (by simp [h1]) e he hb
            have := ihn e.on hlt
            rw [mem_unl] at this
            have hsz : e.on < listed.size := by omega
            have h3 : ¬ listed.getD e.on true = false := fun x => this ⟨by omega, x⟩
            simp [hsz] at h3 ⊢
            exact h3
          rw [hnil] at this
          simp at this
      have : unl ops listed = [] := List.eq_nil_iff_forall_not_mem.2 hempty
      simp [this]
    | some i =>
      simp only []
      have hmem := List.mem_of_getElem? hi
      obtain ⟨h0, o, ho, hall⟩ := mem_ready.1 hmem
      have hil : i < ops.size := (Array.getElem?_eq_some_iff.1 ho).1
      rw [linearise_go_acc, List.reverse_singleton, List.singleton_append]
      have hun : ∀ x, x ∈ unl ops (listed.setIfInBounds i true) ↔ x ∈ unl ops listed ∧ x ≠ i := by
        intro x
        rw [mem_unl, mem_unl]
        by_cases hx : x = i
        · subst hx
          have : x < listed.size := by omega
          simp [this]
        · simp only [ne_eq, hx, not_false_eq_true, and_true]
          rw [getD_set_ne true (fun e => hx e.symm)]
      have hlen : (unl ops (listed.setIfInBounds i true)).length ≤ fuel := by
        have e1 : unl ops (listed.setIfInBounds i true) = (unl ops listed).filter (fun x => x != i) := by
          unfold unl
          rw [List.filter_filter]
          refine List.filter_congr fun x hx => ?_
          have hxs : x < listed.size := by
            have := List.mem_range.1 hx
            omega
          by_cases hxi : x = i
          · subst hxi
            simp [hxs]
          · rw [getD_set_ne true (fun e => hxi e.symm)]
            simp [hxi]
        rw [e1]
        have : ((unl ops listed).filter (fun x => x != i)).length < (unl ops listed).length := by
          rw [List.length_filter_lt_length_iff_exists]
          exact ⟨i, mem_unl.2 ⟨hil, h0⟩, by simp⟩
        omega
      obtain ⟨a1, a2, a3⟩ := ih (t / (Region.ready .any ops listed).length) (listed.setIfInBounds i true) (by simp [hs]) hlen
      refine ⟨?_, ?_, ?_⟩
      · rw [List.nodup_cons]
        exact ⟨fun h => ((hun i).1 ((a2 i).1 h)).2 rfl, a1⟩
      · intro x
        rw [List.mem_cons, a2, hun]
        constructor
        · rintro (rfl | h)
          · exact mem_unl.2 ⟨hil, h0⟩
          · exact h.1
        · intro h
          by_cases hx : x = i
          · exact .inl hx
          · exact .inr ⟨h, hx⟩
      · intro r1 j r2 he o' ho' e hea hb
        cases r1 with
        | nil =>
          simp only [List.nil_append, List.cons.injEq] at he
          obtain ⟨rfl, _⟩ := he
          rw [ho] at ho'
          obtain rfl := Option.some.inj ho'
          exact .inr (hall e hea hb)
        | cons y r1 =>
          simp only [List.cons_append, List.cons.injEq] at he
          obtain ⟨rfl, he⟩ := he
          rcases a3 r1 j r2 he o' ho' e hea hb with h | h
          · exact .inl (List.mem_cons.2 (.inr h))
          · by_cases hx : e.on = i
            · exact .inl (by rw [hx]; exact List.mem_cons.2 (.inl rfl))
            · rw [getD_set_ne false (fun e => hx e.symm)] at h
              exact .inr h

theorem lin_ok {ops : Array Oper} (topo : Topo ops) (t : Nat) : LinOk ops (Region.linearise .any ops t) := by
  have hun : ∀ x, x ∈ unl ops (Array.replicate ops.size false) ↔ x < ops.size := by
    intro x
    rw [mem_unl]
    constructor
    · exact fun h => h.1
    · exact fun h => ⟨h, by simp [h]⟩
  obtain ⟨a1, a2, a3⟩ := lin_go topo ops.size t (Array.replicate ops.size false) (by simp) (by
    unfold unl
    exact Nat.le_trans (List.length_filter_le _ _) (by simp))
  refine ⟨a1, fun x => (a2 x).trans (hun x), fun i o ho e he hb l1 l2 hl => ?_⟩
  rcases a3 l1 i l2 hl o ho e he hb with h | h
  · exact h
  · by_cases hx : e.on < ops.size
    · simp [hx] at h
    · simp [hx] at h

section
variable {P : Program} {ops : Array Oper} {E : List PanicEntry → World → Prop} {u : Nat → Nat → Bool} {K : Env → World → Prop} {N : Nat} {Q : Exit → Act → World → Prop}

theorem aStep_wp {f : Nat → Bool} {o : Oper} {i : Nat} {ρ : Env} {obs : Obs} {k : Obs → Value → World → Prop} {a : Act} {w : World} {next : Act → World → Prop} (hs : Sim N ρ a)
    (hE : ∀ ch w, E ch w → Q (.panic ch) a w) (hk : ∀ b v w, k b v w → next (a.put o.dst v) w) (h : aStep P E f o i ρ obs k w) : o.wp P a w next Q := by
  unfold Oper.wp
  rw [hs.eval]
  unfold aStep at h
  split at h
  · obtain ⟨v, hv, h⟩ := h
    rw [hv w]
    exact hk _ _ _ h
  · obtain ⟨v, hv, h⟩ := h
    rw [hv]
    exact hk _ _ _ h
  · exact upon_oper (fun v w h => hk _ _ _ h.2) hE h

theorem inOrder (hdst : ∀ (i : Nat) (o : Oper), ops[i]? = some o → ∀ t, o.dst = some t → t < N) (hK : ∀ ρ a w, Sim N ρ a → K ρ w → Q .normal a w) (hE : ∀ ch a w, a.defers = [] → E ch w → Q (.panic ch) a w) :
    ∀ (σ : List Nat) (obs : Obs) (ρ : Env) (a : Act) (w : World), Sim N ρ a → aOps P ops E u K σ obs ρ w → wpOps P ops Q σ a w
  | [], _, ρ, a, w, hs, h => hK ρ a w hs h
  | i :: σ, obs, ρ, a, w, hs, h => by
    simp only [aOps] at h
    simp only [wpOps]
    cases ho : ops[i]? with
    | none => rw [ho] at h; exact h.elim
    | some o =>
      rw [ho] at h
      simp only at h ⊢
      rw [hs.wanted]
      split
      · rename_i hw
        rw [if_pos hw] at h
        exact .inl (aStep_wp hs (fun ch w => hE ch a w hs.defers) (fun b v w h => inOrder hdst hK hE σ b _ _ _ (hs.put (hdst i o ho) v) h) h)
      · rename_i hw
        rw [if_neg hw] at h
        exact inOrder hdst hK hE σ obs _ _ _ (hs.put (hdst i o ho) undef) h

def Rel (P : Program) (ops : Array Oper) (O : Nat → List Nat) (j i : Nat) : Prop :=
  j ∈ O i ∨ ∃ oj oi, ops[j]? = some oj ∧ ops[i]? = some oi ∧ clsOf P oj.op ≠ .eff ∧ oi.apart ops oj = true

theorem bubble {L : List Nat} {O : Nat → List Nat} (hl : LinOk ops L) (hns : ∀ (j : Nat) (o : Oper) cs b, ops[j]? = some o → o.op ≠ .select cs b)
    (hdst : ∀ (i : Nat) (o : Oper), ops[i]? = some o → ∀ t, o.dst = some t → t < N) (hK : ∀ ρ a w, Sim N ρ a → K ρ w → Q .normal a w) (hE : ∀ ch a w, a.defers = [] → E ch w → Q (.panic ch) a w)
    (hO : ∀ i j, j ∈ O i → Bef L j i) (hu : ∀ i j, j ∉ O i → u i j = true) :
    ∀ (L2 done σ : List Nat) (obs : Obs) (ρ : Env) (a : Act) (w : World), L = done ++ L2 → σ.Nodup → (∀ x, x ∈ σ ↔ x ∈ L2) → σ.Pairwise (Rel P ops O) → Sim N ρ a →
      aOps P ops E u K σ obs ρ w → wpOps P ops Q L2 a w
  | [], done, σ, obs, ρ, a, w, _, _, hm, _, hs, h => by
    have : σ = [] := List.eq_nil_iff_forall_not_mem.2 fun x hx => by simpa using (hm x).1 hx
    subst this
    exact hK ρ a w hs h
  | i :: L', done, σ, obs, ρ, a, w, hL, hnd, hm, hp, hs, h => by
    have hiσ : i ∈ σ := (hm i).2 (List.mem_cons.2 (.inl rfl))
    obtain ⟨p, q, rfl⟩ := List.append_of_mem hiσ
    have hil : i < ops.size := (hl.mem i).1 (by rw [hL]; simp)
    have hio : ops[i]? = some ops[i] := by simp [hil]
    have hLn := hl.nodup
    rw [hL] at hLn
    have hpi : ∀ j ∈ p, Rel P ops O j i := fun j hj => (List.pairwise_append.1 hp).2.2 j hj i (List.mem_cons.2 (.inl rfl))
    have hjO : ∀ j ∈ p, j ∉ O i := by
      intro j hj hjO
      have hd : j ∈ done := hO i j hjO done L' hL
      have hj2 : j ∈ i :: L' := (hm j).1 (List.mem_append_left _ hj)
      exact (List.nodup_append.1 hLn).2.2 j hd j hj2 rfl
    have h' := moveFront hns hio p obs ρ w (fun j hj => by
      refine ⟨hu i j (hjO j hj), ?_⟩
      rcases hpi j hj with h | ⟨oj, oi, h1, h2, h3, h4⟩
      · exact absurd h (hjO j hj)
      · rw [hio] at h2
        obtain rfl := Option.some.inj h2
        exact ⟨oj, h1, h3, h4⟩) h
    have hnd2 : i ∉ p ++ q ∧ (p ++ q).Nodup := by
      have := (List.perm_middle (a := i) (l₁ := p) (l₂ := q)).nodup_iff.1 hnd
      exact List.nodup_cons.1 this
    have hm2 : ∀ x, x ∈ p ++ q ↔ x ∈ L' := by
      intro x
      have hx := hm x
      have hi2 : i ∉ L' := by
        have := (List.nodup_append.1 hLn).2.1
        exact (List.nodup_cons.1 this).1
      by_cases e : x = i
      · subst e
        exact ⟨fun h => absurd h hnd2.1, fun h => absurd h hi2⟩
      · simp only [List.mem_append, List.mem_cons, e, false_or] at hx ⊢
        exact hx
    have hp2 : (p ++ q).Pairwise (Rel P ops O) := by
      refine List.Pairwise.sublist ?_ hp
      exact List.Sublist.append_left (List.sublist_cons_self i q) p
    simp only [aOps, hio] at h'
    simp only [wpOps, hio]
    rw [hs.wanted]
    split
    · rename_i hw
      rw [if_pos hw] at h'
      exact .inl (aStep_wp hs (fun ch w => hE ch a w hs.defers) (fun b v w h => bubble hl hns hdst hK hE hO hu L' (done ++ [i]) (p ++ q) b _ _ _ (by simp [hL]) hnd2.2 hm2 hp2 (hs.put (hdst i _ hio) v) h) h')
    · rename_i hw
      rw [if_neg hw] at h'
      exact bubble hl hns hdst hK hE hO hu L' (done ++ [i]) (p ++ q) obs _ _ _ (by simp [hL]) hnd2.2 hm2 hp2 (hs.put (hdst i _ hio) undef) h'
end

end Go.Hw
