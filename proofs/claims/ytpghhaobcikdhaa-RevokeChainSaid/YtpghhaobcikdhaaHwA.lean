/- The ways through a region whose order is drawn, brought to one order: a region's operations, run over an environment of values. -/
import Derived.Orders
import Derived.Laws.Sem
import Derived.Laws.World
namespace Go.Hw
open Go

abbrev Env := Nat → Value

def Env.put (ρ : Env) (d : Option Nat) (v : Value) : Env :=
  match d with
  | some d => fun t => bif Nat.beq t d then v else ρ t
  | none => ρ

def Env.ev (ρ : Env) : Operand → Value
  | .tmp t => ρ t
  | .const v => v
  | .global g => .pointer (some ⟨g, 0, none⟩)
  | .func f => .func (.func f) #[] #[]

structure Sim (N : Nat) (ρ : Env) (a : Act) : Prop where
  size : a.tmps.size = N
  defers : a.defers = []
  get : ∀ t, a.tmps.getD t undef = ρ t

theorem Sim.eval {N : Nat} {ρ : Env} {a : Act} (h : Sim N ρ a) : a.eval = ρ.ev := by
  funext x
  cases x with
  | tmp t => exact h.get t
  | _ => rfl

theorem Sim.put {N : Nat} {ρ : Env} {a : Act} (h : Sim N ρ a) {d : Option Nat} (hd : ∀ t, d = some t → t < N) (v : Value) : Sim N (ρ.put d v) (a.put d v) := by
  cases d with
  | none => exact h
  | some d =>
    have hd := hd d rfl
    refine ⟨by simp [Act.put, h.size], h.defers, fun t => ?_⟩
    by_cases e : t = d
    · subst e
      simp [Act.put, Env.put, h.size, hd]
    · have e1 : Nat.beq t d = false := by
        cases hb : Nat.beq t d with
        | false => rfl
        | true => exact absurd (Nat.eq_of_beq_eq_true hb) e
      have e2 : d ≠ t := fun x => e x.symm
      have := h.get t
      simp only [Act.put, Env.put, e1, cond_false]
      rw [← this]
      simp [Array.getElem?_setIfInBounds_ne e2]

theorem Env.put_comm (ρ : Env) {x y : Option Nat} (v u : Value) (h : ∀ d, x = some d → y ≠ some d) : (ρ.put x v).put y u = (ρ.put y u).put x v := by
  cases x with
  | none => rfl
  | some d =>
    cases y with
    | none => rfl
    | some e =>
      have hne : d ≠ e := fun he => h d rfl (he ▸ rfl)
      funext t
      simp only [Env.put]
      cases h1 : Nat.beq t e <;> cases h2 : Nat.beq t d <;> simp
      exact absurd ((Nat.eq_of_beq_eq_true h2).symm.trans (Nat.eq_of_beq_eq_true h1)) hne

theorem Env.ev_put {ρ : Env} {dst : Option Nat} {v : Value} {x : Operand} (h : ∀ d, dst = some d → x ≠ .tmp d) : (ρ.put dst v).ev x = ρ.ev x := by
  cases dst with
  | none => rfl
  | some d =>
    cases x with
    | tmp t =>
      have hne : t ≠ d := fun e => h d rfl (e ▸ rfl)
      have e1 : Nat.beq t d = false := by
        cases hb : Nat.beq t d with
        | false => rfl
        | true => exact absurd (Nat.eq_of_beq_eq_true hb) hne
      simp [Env.ev, Env.put, e1]
    | _ => rfl

def gb (want : Bool) (v : Value) : Bool := match v with | .bool b => b == want | _ => false

def wantedE (ops : Array Oper) (o : Oper) (ρ : Env) : Bool :=
  match o.guard with
  | none => true
  | some (j, want) => match (ops[j]?).bind (·.dst) with
    | some t => gb want (ρ t)
    | none => false

theorem Sim.wanted {N : Nat} {ρ : Env} {a : Act} (h : Sim N ρ a) (ops : Array Oper) (o : Oper) : Region.wanted o (yielded ops a.tmps) = wantedE ops o ρ := by
  unfold Region.wanted wantedE
  cases o.guard with
  | none => rfl
  | some gw =>
    obtain ⟨g, want⟩ := gw
    simp only [yielded]
    cases ht : (ops[g]?).bind (·.dst) with
    | none => rfl
    | some t =>
      have hg := h.get t
      simp only [Option.bind_some]
      rw [Array.getD_eq_getD_getElem?] at hg
      cases hq : a.tmps[t]? with
      | none =>
        rw [hq] at hg
        simp only [Option.getD_none] at hg
        rw [← hg]
        simp [undef, gb]
      | some v =>
        rw [hq] at hg
        simp only [Option.getD_some] at hg
        rw [← hg]
        cases v <;> simp [gb]

inductive Cls | pure | read | eff
  deriving DecidableEq

def clsOf (P : Program) : Op → Cls
  | .move _ | .assign _ | .pick .. | .build .. | .nilCheck _ | .unOp .. | .makeInterface .. | .makeFunc .. | .fieldAddr .. | .field .. | .indexAddr .. | .index ..
  | .extract .. | .slice .. | .typeAssert .. => .pure
  | .binOp op t x y _ => match op with
    | .eql | .neq => bif (Region.isConst x || Region.isConst y) then .pure else match P.underlying t with
      | some (.int _) | some .bool | some .string => .pure
      | _ => .eff
    | _ => .pure
  | .convert s d _ => match P.underlying s, P.underlying d with
    | some (.int _), some (.int _) => .pure
    | some .string, some .string => .pure
    | _, _ => .eff
  | .load .. | .lookup .. => .read
  | .call { callee := .builtin b, .. } => match b with
    | .len | .cap | .min | .max => .read
    | _ => .eff
  | _ => .eff

def upon (P : Program) (E : List PanicEntry → World → Prop) (k : Value → World → Prop) : Result Next → Prop
  | .ok (.value v) w => k v w
  | .ok .skip w => k undef w
  | .ok (.enter f args) w => Calls P f args w fun
      | .returned v, w' => k v w'
      | .panicked ch, w' => E ch w'
      | .outgrown, _ => False
  | .halt (.panic v) w => E [{ v, recovered := false }] w
  | _ => False

theorem upon_mono {P : Program} {E : List PanicEntry → World → Prop} {k k' : Value → World → Prop} (h : ∀ v w, k v w → k' v w) {r : Result Next} (hu : upon P E k r) : upon P E k' r := by
  cases r with
  | ok n w =>
    cases n <;> simp only [upon] at hu ⊢ <;> first
      | exact h _ _ hu
      | exact Calls.mono hu fun e w' he => by cases e <;> first | exact h _ _ he | exact he
  | halt x w => cases x <;> simp only [upon] at hu ⊢ <;> exact hu

theorem upon_oper {P : Program} {E : List PanicEntry → World → Prop} {k : Value → World → Prop} {o : Oper} {a : Act} {next : Act → World → Prop} {Q : Exit → Act → World → Prop}
    (h : ∀ v w, k v w → next (a.put o.dst v) w) (hE : ∀ ch w, E ch w → Q (.panic ch) a w) {r : Result Next} (hu : upon P E k r) : o.upon P a next Q r := by
  cases r with
  | ok n w =>
    cases n <;> simp only [upon, Oper.upon] at hu ⊢ <;> first
      | exact h _ _ hu
      | exact Calls.mono hu fun e w' he => by cases e <;> first | exact h _ _ he | exact hE _ _ he | exact he.elim
  | halt x w => cases x <;> simp only [upon, Oper.upon] at hu ⊢ <;> first | exact hE _ _ hu | exact hu

abbrev Obs := List (Nat × (World → Prop))

def Obs.ok (obs : Obs) (u : Nat → Bool) (w : World) : Prop := ∀ ob ∈ obs, u ob.1 = true → ob.2 w

def aStep (P : Program) (E : List PanicEntry → World → Prop) (u : Nat → Bool) (o : Oper) (i : Nat) (ρ : Env) (obs : Obs) (k : Obs → Value → World → Prop) (w : World) : Prop :=
  match clsOf P o.op with
  | .pure => ∃ v, (∀ w, (execOp ρ.ev o).run P w = .ok (.value v) w) ∧ k obs v w
  | .read => ∃ v, (execOp ρ.ev o).run P w = .ok (.value v) w ∧ k ((i, fun w' => (execOp ρ.ev o).run P w' = .ok (.value v) w') :: obs) v w
  | .eff => upon P E (fun v w' => obs.ok u w' ∧ k obs v w') ((execOp ρ.ev o).run P w)

/-- The operations in an order; 'u e i': may the read i stand on either side of e? -/
def aOps (P : Program) (ops : Array Oper) (E : List PanicEntry → World → Prop) (u : Nat → Nat → Bool) (K : Env → World → Prop) : List Nat → Obs → Env → World → Prop
  | [], _, ρ, w => K ρ w
  | i :: σ, obs, ρ, w => match ops[i]? with
    | none => False
    | some o => if wantedE ops o ρ then aStep P E (u i) o i ρ obs (fun obs v w' => aOps P ops E u K σ obs (ρ.put o.dst v) w') w
      else aOps P ops E u K σ obs (ρ.put o.dst undef) w

section
variable {P : Program} {ops : Array Oper} {E : List PanicEntry → World → Prop} {u : Nat → Nat → Bool} {K : Env → World → Prop}

theorem Obs.ok_of_sub {obs obs' : Obs} {u : Nat → Bool} {w : World} (hs : ∀ x ∈ obs', x ∈ obs) (h : obs.ok u w) : obs'.ok u w := fun x hx hu => h x (hs x hx) hu

theorem aStep_mono {f : Nat → Bool} {o : Oper} {i : Nat} {ρ : Env} {obs obs' : Obs} {k k' : Obs → Value → World → Prop} {w : World} (hs : ∀ x ∈ obs', x ∈ obs)
    (hk : ∀ b b' v w, (∀ x ∈ b', x ∈ b) → k b v w → k' b' v w) (h : aStep P E f o i ρ obs k w) : aStep P E f o i ρ obs' k' w := by
  unfold aStep at *
  split
  · rename_i hc; rw [hc] at h; obtain ⟨v, h1, h2⟩ := h; exact ⟨v, h1, hk _ _ _ _ hs h2⟩
  · rename_i hc; rw [hc] at h; obtain ⟨v, h1, h2⟩ := h
    refine ⟨v, h1, hk _ _ _ _ (fun x hx => ?_) h2⟩
    rcases List.mem_cons.1 hx with h | h
    · exact List.mem_cons.2 (.inl h)
    · exact List.mem_cons.2 (.inr (hs _ h))
  · rename_i hc; rw [hc] at h
    exact upon_mono (fun v w' ⟨h1, h2⟩ => ⟨Obs.ok_of_sub hs h1, hk _ _ _ _ hs h2⟩) h

theorem aOps_obs : ∀ (σ : List Nat) (obs obs' : Obs) (ρ : Env) (w : World), (∀ x ∈ obs', x ∈ obs) → aOps P ops E u K σ obs ρ w → aOps P ops E u K σ obs' ρ w
  | [], _, _, _, _, _, h => h
  | i :: σ, obs, obs', ρ, w, hs, h => by
    simp only [aOps] at *
    split
    · rename_i ho; rw [ho] at h; exact h
    · rename_i o ho; rw [ho] at h; simp only at h
      split
      · rename_i hw; rw [if_pos hw] at h
        exact aStep_mono hs (fun b b' v w hb h => aOps_obs σ b b' _ _ hb h) h
      · rename_i hw; rw [if_neg hw] at h; exact aOps_obs σ obs obs' _ _ hs h

theorem aOps_cons_mono {i : Nat} {σ σ' : List Nat} (hσ : ∀ obs ρ w, aOps P ops E u K σ obs ρ w → aOps P ops E u K σ' obs ρ w) {obs : Obs} {ρ : Env} {w : World}
    (h : aOps P ops E u K (i :: σ) obs ρ w) : aOps P ops E u K (i :: σ') obs ρ w := by
  simp only [aOps] at *
  split
  · rename_i ho; rw [ho] at h; exact h
  · rename_i o ho; rw [ho] at h; simp only at h
    split
    · rename_i hw; rw [if_pos hw] at h
      exact aStep_mono (fun x hx => hx) (fun b b' v w hb h => aOps_obs σ' b b' _ _ hb (hσ _ _ _ h)) h
    · rename_i hw; rw [if_neg hw] at h; exact hσ _ _ _ h

theorem execOp_putE (o : Oper) (hs : ∀ cs b, o.op ≠ .select cs b) (ρ : Env) (dst : Option Nat) (v : Value) (h : ∀ d, dst = some d → d ∉ o.looksAt ops) :
    execOp (ρ.put dst v).ev o = execOp ρ.ev o :=
  execOp_congr o hs fun x hx => Env.ev_put fun d hd hxd => h d hd (by
    subst hxd
    exact List.mem_append_left _ (List.mem_filterMap.2 ⟨.tmp d, by simpa using hx, rfl⟩))

theorem wantedE_put (o : Oper) (ρ : Env) (dst : Option Nat) (v : Value) (h : ∀ d, dst = some d → d ∉ o.looksAt ops) :
    wantedE ops o (ρ.put dst v) = wantedE ops o ρ := by
  cases dst with
  | none => rfl
  | some d =>
    unfold wantedE
    cases hg : o.guard with
    | none => rfl
    | some gw =>
      obtain ⟨g, want⟩ := gw
      simp only
      cases ht : (ops[g]?).bind (·.dst) with
      | none => rfl
      | some t =>
        have hne : d ≠ t := fun e => h d rfl (by subst e; simp [Oper.looksAt, hg, ht])
        have e1 : Nat.beq t d = false := by
          cases hb : Nat.beq t d with
          | false => rfl
          | true => exact absurd (Nat.eq_of_beq_eq_true hb).symm hne
        simp [Env.put, e1]

theorem swap {i j : Nat} {σ : List Nat} {oi oj : Oper} (hi : ops[i]? = some oi) (hj : ops[j]? = some oj) (hap : oi.apart ops oj = true)
    (hsi : ∀ cs b, oi.op ≠ .select cs b) (hsj : ∀ cs b, oj.op ≠ .select cs b) (hc : clsOf P oj.op ≠ .eff) (hu : u i j = true) {obs : Obs} {ρ : Env} {w : World}
    (h : aOps P ops E u K (j :: i :: σ) obs ρ w) : aOps P ops E u K (i :: j :: σ) obs ρ w := by
  obtain ⟨h1, h2, h3⟩ := Oper.apart_spec hap
  -- j's value, and how it is read at a later world
  have key : ∃ (vj : Value) (obs' : Obs), aOps P ops E u K (i :: σ) obs' (ρ.put oj.dst vj) w ∧ (∀ x ∈ obs, x ∈ obs') ∧
      (∀ (ρ' : Env) (obs1 obs2 : Obs) (w' : World), execOp ρ'.ev oj = execOp ρ.ev oj → wantedE ops oj ρ' = wantedE ops oj ρ → (w' = w ∨ obs'.ok (u i) w') →
        (∀ x, x ∈ obs' → x ∈ obs ∨ x ∈ obs2) → (∀ x ∈ obs1, x ∈ obs2) → (∀ x ∈ obs, x ∈ obs2) → (aOps P ops E u K σ obs2 (ρ'.put oj.dst vj) w') → aOps P ops E u K (j :: σ) obs1 ρ' w') ∧
      (∀ b, (∀ x ∈ obs', x ∈ obs ∨ x ∈ b ++ obs') ) := by
    simp only [aOps, hj] at h
    by_cases hw : wantedE ops oj ρ = true
    · rw [if_pos hw] at h
      unfold aStep at h
      cases hcc : clsOf P oj.op with
      | eff => exact absurd hcc hc
      | pure =>
        rw [hcc] at h
        obtain ⟨v, hv, hk⟩ := h
        refine ⟨v, obs, ?_, fun x hx => hx, ?_, fun b x hx => .inl hx⟩
        · simp only [aOps]; exact hk
        · intro ρ' obs1 obs2 w' he hwe _ _ h12 h02 hA
          simp only [aOps, hj, hwe, hw, if_true]
          unfold aStep
          rw [hcc]
          exact ⟨v, by rw [he]; exact hv, aOps_obs _ _ _ _ _ h12 hA⟩
      | read =>
        rw [hcc] at h
        obtain ⟨v, hv, hk⟩ := h
        refine ⟨v, (j, fun w' => (execOp ρ.ev oj).run P w' = .ok (.value v) w') :: obs, ?_, fun x hx => List.mem_cons.2 (.inr hx), ?_, fun b x hx => .inr (List.mem_append_right _ hx)⟩
        · simp only [aOps]; exact hk
        · intro ρ' obs1 obs2 w' he hwe hww hin h12 h02 hA
          simp only [aOps, hj, hwe, hw, if_true]
          unfold aStep
          rw [hcc]
          have hv' : (execOp ρ.ev oj).run P w' = .ok (.value v) w' := by
            rcases hww with rfl | hok
            · exact hv
            · exact hok _ (List.mem_cons.2 (.inl rfl)) hu
          refine ⟨v, by rw [he]; exact hv', aOps_obs _ _ _ _ _ ?_ hA⟩
          intro x hx
          rcases List.mem_cons.1 hx with hx | hx
          · subst hx
            rw [he]
            rcases hin _ (List.mem_cons.2 (.inl rfl)) with h | h
            · exact h02 _ h
            · exact h
          · exact h12 _ hx
    · rw [if_neg hw] at h
      refine ⟨undef, obs, ?_, fun x hx => hx, ?_, fun b x hx => .inl hx⟩
      · simpa only [aOps] using h
      · intro ρ' obs1 obs2 w' he hwe _ _ h12 h02 hA
        simp only [aOps, hj, hwe]
        rw [if_neg hw]
        exact aOps_obs _ _ _ _ _ h12 hA
  obtain ⟨vj, obs', hA, hsub, hlater, _⟩ := key
  simp only [aOps, hi] at hA
  rw [wantedE_put oi ρ oj.dst vj h3] at hA
  rw [aOps, hi]
  simp only
  by_cases hw : wantedE ops oi ρ = true
  · rw [if_pos hw] at hA ⊢
    unfold aStep at hA ⊢
    rw [execOp_putE oi hsi ρ oj.dst vj h3] at hA
    cases hcc : clsOf P oi.op with
    | pure =>
      rw [hcc] at hA
      obtain ⟨v, hv, hk⟩ := hA
      refine ⟨v, hv, ?_⟩
      refine hlater _ _ obs' _ (execOp_putE oj hsj ρ oi.dst v h1) (wantedE_put oj ρ oi.dst v h1) (.inl rfl) (fun x hx => .inr hx) hsub hsub ?_
      rw [Env.put_comm ρ v vj h2]
      exact hk
    | read =>
      rw [hcc] at hA
      obtain ⟨v, hv, hk⟩ := hA
      refine ⟨v, hv, ?_⟩
      refine hlater _ _ ((i, fun w' => (execOp ρ.ev oi).run P w' = .ok (.value v) w') :: obs') _ (execOp_putE oj hsj ρ oi.dst v h1) (wantedE_put oj ρ oi.dst v h1) (.inl rfl)
        (fun x hx => .inr (List.mem_cons.2 (.inr hx))) ?_ (fun x hx => List.mem_cons.2 (.inr (hsub x hx))) ?_
      · intro x hx
        rcases List.mem_cons.1 hx with h | h
        · exact List.mem_cons.2 (.inl h)
        · exact List.mem_cons.2 (.inr (hsub x h))
      · rw [Env.put_comm ρ v vj h2]
        exact hk
    | eff =>
      rw [hcc] at hA
      refine upon_mono (fun v w' hk => ?_) hA
      obtain ⟨hok, hk⟩ := hk
      refine ⟨Obs.ok_of_sub hsub hok, ?_⟩
      refine hlater _ _ obs' _ (execOp_putE oj hsj ρ oi.dst v h1) (wantedE_put oj ρ oi.dst v h1) (.inr hok) (fun x hx => .inr hx) hsub hsub ?_
      rw [Env.put_comm ρ v vj h2]
      exact hk
  · rw [if_neg hw] at hA ⊢
    refine hlater _ _ obs' _ (execOp_putE oj hsj ρ oi.dst undef h1) (wantedE_put oj ρ oi.dst undef h1) (.inl rfl) (fun x hx => .inr hx) hsub hsub ?_
    rw [Env.put_comm ρ undef vj h2]
    exact hA

theorem moveFront (hns : ∀ (j : Nat) (o : Oper) cs b, ops[j]? = some o → o.op ≠ .select cs b) {i : Nat} {oi : Oper} (hi : ops[i]? = some oi) {q : List Nat} : ∀ (p : List Nat) (obs : Obs) (ρ : Env) (w : World),
    (∀ j ∈ p, u i j = true ∧ ∃ oj, ops[j]? = some oj ∧ clsOf P oj.op ≠ .eff ∧ oi.apart ops oj = true) →
    aOps P ops E u K (p ++ i :: q) obs ρ w → aOps P ops E u K (i :: (p ++ q)) obs ρ w
  | [], _, _, _, _, h => h
  | j :: p, obs, ρ, w, hp, h => by
    obtain ⟨hu, oj, hj, hc, hap⟩ := hp j (List.mem_cons.2 (.inl rfl))
    have h' : aOps P ops E u K (j :: i :: (p ++ q)) obs ρ w :=
      aOps_cons_mono (fun obs ρ w => moveFront hns hi p obs ρ w fun x hx => hp x (List.mem_cons.2 (.inr hx))) h
    exact swap hi hj hap (hns _ _ · · hi) (hns _ _ · · hj) hc hu h'
end

end Go.Hw
