/- A function's call comes to what the words say that its code comes to. -/
import Derived.Test.YtpghhaobcikdhaaHwC
namespace Go.Hw
open Go

inductive Plan
  | leaf (σ : List Nat) (O : List (List Nat))
  | split (x y : Nat) (a b : Plan)

def dPlan (P : Program) (ops : Array Oper) (E : List PanicEntry → World → Prop) (K : Env → World → Prop) (ρ : Env) (w : World) : Plan → Prop
  | .leaf σ O => dOps P ops E (fun e i => !(O.getD e []).contains i) K σ ob0 ρ w
  | .split _ _ a b => dPlan P ops E K ρ w a ∧ dPlan P ops E K ρ w b

def ordOk (ops : Array Oper) (X : List (Nat × Nat)) (O : List (List Nat)) (seen : List Nat) (i : Nat) : Bool :=
  (O.getD i []).all fun j =>
    (match ops[i]? with
      | some o => o.after.toList.any fun e => Region.binds .any e && seen.contains e.on && (e.on == j || (O.getD e.on []).contains j)
      | none => false) ||
    X.any fun p => p.2 == i && seen.contains p.1 && (p.1 == j || (O.getD p.1 []).contains j)

def relOk (P : Program) (ops : Array Oper) (O : List (List Nat)) (j i : Nat) : Bool :=
  (O.getD i []).contains j || (match ops[j]?, ops[i]? with
    | some oj, some oi => clsOf P oj.op != .eff && oi.apart ops oj
    | _, _ => false)

def leafGo (P : Program) (ops : Array Oper) (X : List (Nat × Nat)) (O : List (List Nat)) : List Nat → List Nat → Bool
  | [], _ => true
  | i :: σ, seen => ordOk ops X O seen i && (!seen.contains i && (seen.all (relOk P ops O · i) && leafGo P ops X O σ (i :: seen)))

def planOk (P : Program) (ops : Array Oper) : List (Nat × Nat) → Plan → Bool
  | X, .leaf σ O => (List.range ops.size).all (σ.contains ·) && (σ.all (· < ops.size) && ((List.range O.length).all (fun i => σ.contains i || (O.getD i []).isEmpty) && leafGo P ops X O σ []))
  | X, .split x y a b => x != y && (decide (x < ops.size) && (decide (y < ops.size) && (planOk P ops ((x, y) :: X) a && planOk P ops ((y, x) :: X) b)))

def topoOk (ops : Array Oper) : Bool := (List.range ops.size).all fun i => match ops[i]? with
  | some o => o.after.toList.all fun e => !Region.binds .any e || decide (e.on < i)
  | none => true

def opsOk (P : Program) (N : Nat) (ops : Array Oper) : Bool := ops.toList.all fun o => callsOk P o && ((match o.dst with | some d => decide (d < N) | none => true) && (match o.op with | .select .. => false | _ => true))

theorem topo_of {ops : Array Oper} (h : topoOk ops = true) : Topo ops := by
  intro i o ho e he hb
  unfold topoOk at h
  rw [List.all_eq_true] at h
  have := h i (List.mem_range.2 (Array.getElem?_eq_some_iff.1 ho).1)
  rw [ho] at this
  simp only at this
  rw [List.all_eq_true] at this
  have := this e (by simpa using he)
  simpa [hb] using this

theorem opsOk_of {P : Program} {N : Nat} {ops : Array Oper} (h : opsOk P N ops = true) (i : Nat) (o : Oper) (ho : ops[i]? = some o) :
    callsOk P o = true ∧ (∀ t, o.dst = some t → t < N) ∧ ∀ cs b, o.op ≠ .select cs b := by
  unfold opsOk at h
  rw [List.all_eq_true] at h
  have := h o (by simpa using Array.mem_of_getElem? ho)
  simp only [Bool.and_eq_true] at this
  obtain ⟨h1, h2, h3⟩ := this
  refine ⟨h1, fun t ht => ?_, fun cs b hc => ?_⟩
  · rw [ht] at h2; simpa using h2
  · rw [hc] at h3; simp at h3

section
variable {P : Program} {ops : Array Oper} {E : List PanicEntry → World → Prop} {K : Env → World → Prop} {N : Nat} {Q : Exit → Act → World → Prop}

theorem leafGo_ok {L : List Nat} {X : List (Nat × Nat)} {O : List (List Nat)} (hl : LinOk ops L) (hX : ∀ p ∈ X, Bef L p.1 p.2) :
    ∀ (σ seen : List Nat), leafGo P ops X O σ seen = true → (∀ s ∈ seen, ∀ j ∈ O.getD s [], Bef L j s) →
      (∀ s ∈ σ, ∀ j ∈ O.getD s [], Bef L j s) ∧ σ.Nodup ∧ (∀ s ∈ seen, s ∉ σ) ∧ σ.Pairwise (Rel P ops fun i => O.getD i []) ∧ ∀ s ∈ seen, ∀ i ∈ σ, Rel P ops (fun i => O.getD i []) s i
  | [], seen, _, _ => ⟨by simp, by simp, by simp, by simp, by simp⟩
  | i :: σ, seen, h, hs => by
    simp only [leafGo, Bool.and_eq_true, Bool.not_eq_true'] at h
    obtain ⟨h1, h2, h3, h4⟩ := h
    have hi : ∀ j ∈ O.getD i [], Bef L j i := by
      intro j hj
      unfold ordOk at h1
      rw [List.all_eq_true] at h1
      have := h1 j hj
      rw [Bool.or_eq_true] at this
      rcases this with h | h
      · cases ho : ops[i]? with
        | none => rw [ho] at h; simp at h
        | some o =>
          rw [ho] at h
          simp only [List.any_eq_true, Bool.and_eq_true, Bool.or_eq_true] at h
          obtain ⟨e, he, ⟨hb, hsn⟩, hj2⟩ := h
          have hB := hl.edge i o ho e (by simpa using he) hb
          rcases hj2 with hj2 | hj2
          · have : e.on = j := by simpa using hj2
            rw [← this]; exact hB
          · exact Bef.trans (hs e.on (by simpa using hsn) j (by simpa using hj2)) hB
      · simp only [List.any_eq_true, Bool.and_eq_true, Bool.or_eq_true] at h
        obtain ⟨p, hp, ⟨hb, hsn⟩, hj2⟩ := h
        have hB := hX p hp
        have e2 : p.2 = i := by simpa using hb
        rw [e2] at hB
        rcases hj2 with hj2 | hj2
        · have : p.1 = j := by simpa using hj2
          rw [← this]; exact hB
        · exact Bef.trans (hs p.1 (by simpa using hsn) j (by simpa using hj2)) hB
    obtain ⟨a1, a2, a3, a4, a5⟩ := leafGo_ok hl hX σ (i :: seen) h4 (fun s hs' => by
      rcases List.mem_cons.1 hs' with rfl | hs'
      · exact hi
      · exact hs s hs')
    have hrel : ∀ s ∈ seen, Rel P ops (fun i => O.getD i []) s i := by
      intro s hs'
      rw [List.all_eq_true] at h3
      have := h3 s hs'
      unfold relOk at this
      rw [Bool.or_eq_true] at this
      rcases this with h | h
      · exact .inl (by simpa using h)
      · cases hj : ops[s]? with
        | none => rw [hj] at h; simp at h
        | some oj =>
          cases hi : ops[i]? with
          | none => rw [hj, hi] at h; simp at h
          | some oi =>
            rw [hj, hi] at h
            simp only [Bool.and_eq_true, bne_iff_ne, ne_eq] at h
            exact .inr ⟨oj, oi, hj, hi, h.1, h.2⟩
    refine ⟨fun s hs' => ?_, ?_, fun s hs' hσ => ?_, ?_, fun s hs' x hx => ?_⟩
    · rcases List.mem_cons.1 hs' with rfl | hs'
      · exact hi
      · exact a1 s hs'
    · exact List.nodup_cons.2 ⟨a3 i (List.mem_cons.2 (.inl rfl)), a2⟩
    · rcases List.mem_cons.1 hσ with rfl | hσ
      · simp only [List.contains_eq_mem, decide_eq_false_iff_not] at h2
        exact h2 hs'
      · exact a3 s (List.mem_cons.2 (.inr hs')) hσ
    · exact List.pairwise_cons.2 ⟨fun x hx => a5 i (List.mem_cons.2 (.inl rfl)) x hx, a4⟩
    · rcases List.mem_cons.1 hx with rfl | hx
      · exact hrel s hs'
      · exact a5 s (List.mem_cons.2 (.inr hs')) x hx

theorem dPlan_wp {L : List Nat} (hl : LinOk ops L) (hok : opsOk P N ops = true) (hK : ∀ ρ a w, Sim N ρ a → K ρ w → Q .normal a w) (hE : ∀ ch a w, a.defers = [] → E ch w → Q (.panic ch) a w)
    {ρ : Env} {a : Act} {w : World} (hs : Sim N ρ a) : ∀ (p : Plan) (X : List (Nat × Nat)), (∀ p ∈ X, Bef L p.1 p.2) → planOk P ops X p = true → dPlan P ops E K ρ w p → wpOps P ops Q L a w
  | .leaf σ O, X, hX, hp, h => by
    simp only [planOk, Bool.and_eq_true] at hp
    obtain ⟨h1, h2, h3, h4⟩ := hp
    obtain ⟨a1, a2, _, a4, _⟩ := leafGo_ok hl hX σ [] h4 (by simp)
    have hmem : ∀ x, x ∈ σ ↔ x ∈ L := by
      intro x
      rw [hl.mem]
      rw [List.all_eq_true] at h1 h2
      constructor
      · intro hx; simpa using h2 x hx
      · intro hx; simpa using h1 x (List.mem_range.2 hx)
    have hO : ∀ i j, j ∈ O.getD i [] → Bef L j i := by
      intro i j hj
      by_cases hi : i ∈ σ
      · exact a1 i hi j hj
      · exfalso
        rw [List.all_eq_true] at h3
        by_cases hlt : i < O.length
        · have := h3 i (List.mem_range.2 hlt)
          rw [Bool.or_eq_true] at this
          rcases this with h | h
          · exact hi (by simpa using h)
          · have : O.getD i [] = [] := List.isEmpty_iff.1 h
            rw [this] at hj
            simp at hj
        · have : O[i]? = none := List.getElem?_eq_none (by omega)
          simp [List.getD, this] at hj
    refine bubble (u := fun e i => !(O.getD e []).contains i) hl (fun j o cs b ho => (opsOk_of hok j o ho).2.2 cs b) (fun i o ho => (opsOk_of hok i o ho).2.1) hK hE hO
      (fun i j hj => by simpa using hj) L [] σ [] ρ a w rfl a2 hmem a4 hs ?_
    exact dOps_aOps (fun i o ho => (opsOk_of hok i o ho).1) (fun i o ρ s _ hs => readSem_exec o ρ s hs) σ ob0 [] ρ w (fun f w r hr => ⟨by intro x hx; simp at hx, hr⟩) h
  | .split x y p q, X, hX, hp, h => by
    simp only [planOk, Bool.and_eq_true, bne_iff_ne, ne_eq, decide_eq_true_eq] at hp
    obtain ⟨h1, h2, h3, h4, h5⟩ := hp
    rcases Bef.total hl.nodup ((hl.mem x).2 h2) ((hl.mem y).2 h3) h1 with hb | hb
    · exact dPlan_wp hl hok hK hE hs p _ (fun r hr => by rcases List.mem_cons.1 hr with rfl | hr; exact hb; exact hX r hr) h4 h.1
    · exact dPlan_wp hl hok hK hE hs q _ (fun r hr => by rcases List.mem_cons.1 hr with rfl | hr; exact hb; exact hX r hr) h5 h.2
end

inductive Pl
  | leaf
  | reg (p : Plan)
  | seq (a b : Pl)
  | jseq (L A : List Nat) (a b : Pl)
  | cond (a b : Pl)
  | block (a : Pl)
  | loop (L A : List Nat) (a : Pl)

inductive DX
  | norm
  | exit (id : Nat)
  | ret

def DX.then (next : Env → World → Prop) (Q : DX → Env → World → Prop) (x : DX) (ρ : Env) (w : World) : Prop :=
  match x with
  | .norm => next ρ w
  | .exit id => Q (.exit id) ρ w
  | .ret => Q .ret ρ w

def DX.inBlock (id : Nat) (Q : DX → Env → World → Prop) (x : DX) (ρ : Env) (w : World) : Prop :=
  match x with
  | .norm => Q .norm ρ w
  | .exit id' => bif Nat.beq id' id then Q .norm ρ w else Q (.exit id') ρ w
  | .ret => Q .ret ρ w

def DX.toExit : DX → Exit
  | .norm => .normal
  | .exit id => .exit id
  | .ret => .ret

def St : List Nat → Type
  | [] => Unit
  | [_] => Value
  | _ :: y :: l => Value × St (y :: l)

def proj : (L : List Nat) → Env → St L
  | [], _ => ()
  | [x], ρ => ρ x
  | x :: y :: l, ρ => (ρ x, proj (y :: l) ρ)

def envOf : (L : List Nat) → St L → Env → Env
  | [], _, j => j
  | [x], v, j => j.put (some x) v
  | x :: y :: l, s, j => (envOf (y :: l) s.2 j).put (some x) s.1

/-- what a piece of code may have left in temporaries that nobody reads behind it -/
def mix (A : List Nat) (j ρ : Env) : Env := fun t => bif A.any (Nat.beq t) then j t else ρ t

def EP (R : Ending → World → Prop) : List PanicEntry → World → Prop := fun ch w => R (.panicked ch) w

theorem put_self (ρ : Env) (x : Nat) : ρ.put (some x) (ρ x) = ρ := by
  funext t
  simp only [Env.put]
  cases h : Nat.beq t x with
  | false => rfl
  | true => rw [Nat.eq_of_beq_eq_true h]; rfl

theorem envOf_proj : ∀ (L : List Nat) (ρ : Env), envOf L (proj L ρ) ρ = ρ
  | [], _ => rfl
  | [x], ρ => put_self ρ x
  | x :: y :: l, ρ => by
    show (envOf (y :: l) (proj (y :: l) ρ) ρ).put (some x) (ρ x) = ρ
    rw [envOf_proj (y :: l) ρ]
    exact put_self ρ x

def dCode (P : Program) (E : List PanicEntry → World → Prop) : Code → Pl → (DX → Env → World → Prop) → Env → World → Prop
  | .skip, _, Q, ρ, w => Q .norm ρ w
  | .label _, _, Q, ρ, w => Q .norm ρ w
  | .region _ ops draw, pl, Q, ρ, w => match draw, pl with
    | false, _ => dOps P ops E (fun _ _ => false) (Q .norm) (List.range ops.size) ob0 ρ w
    | true, .reg p => dPlan P ops E (Q .norm) ρ w.drew p
    | _, _ => False
  | .seq a b, pl, Q, ρ, w => match pl with
    | .seq pa pb => dCode P E a pa (DX.then (dCode P E b pb Q) Q) ρ w
    | .jseq L A pa pb => oJoin (σ := St L) (fun k => dCode P E a pa (DX.then (fun ρ w => k (proj L ρ) w) Q) ρ w) (fun j s w => dCode P E b pb Q (envOf L s (mix A j ρ)) w)
    | _ => False
  | .cond c a b, pl, Q, ρ, w => match pl with
    | .cond pa pb => oCond (ρ.ev c) (dCode P E a pa Q ρ w) (dCode P E b pb Q ρ w)
    | _ => False
  | .block id b, pl, Q, ρ, w => match pl with
    | .block pb => dCode P E b pb (DX.inBlock id Q) ρ w
    | _ => False
  | .loop b, pl, Q, ρ, w => match pl with
    | .loop L A pb => oLoop (σ := St L) (fun j s nxt w => dCode P E b pb (DX.then (fun ρ w => nxt (proj L ρ) w) Q) (envOf L s (mix A j ρ)) w) (proj L ρ) w
    | _ => False
  | .exit id, _, Q, ρ, w => Q (.exit id) ρ w
  | .ret, _, Q, ρ, w => Q .ret ρ w
  | _, _, _, _, _ => False

def inL (A : List Nat) (t : Nat) : Bool := A.any (Nat.beq t)

/-- the code assigns no temporary outside A -/
def within (A : List Nat) : Code → Pl → Bool
  | .region _ ops _, _ => ops.toList.all fun o => match o.dst with | some d => inL A d | none => true
  | .seq a b, pl => match pl with
    | .seq pa pb => within A a pa && within A b pb
    | .jseq L B pa pb => (B.all (inL A) && L.all (inL B)) && (within A a pa && within A b pb)
    | _ => true
  | .cond _ a b, pl => match pl with
    | .cond pa pb => within A a pa && within A b pb
    | _ => true
  | .block _ b, pl => match pl with
    | .block pb => within A b pb
    | _ => true
  | .loop b, pl => match pl with
    | .loop L B pb => (B.all (inL A) && L.all (inL B)) && within A b pb
    | _ => true
  | _, _ => true

def codeOk (P : Program) (N : Nat) : Code → Pl → Bool
  | .region _ ops draw, pl => opsOk P N ops && (match draw, pl with
    | true, .reg p => topoOk ops && planOk P ops [] p
    | _, _ => true)
  | .seq a b, pl => match pl with
    | .seq pa pb => codeOk P N a pa && codeOk P N b pb
    | .jseq L A pa pb => (L.all (inL A) && within A a pa) && (codeOk P N a pa && codeOk P N b pb)
    | _ => true
  | .cond _ a b, pl => match pl with
    | .cond pa pb => codeOk P N a pa && codeOk P N b pb
    | _ => true
  | .block _ b, pl => match pl with
    | .block pb => codeOk P N b pb
    | _ => true
  | .loop b, pl => match pl with
    | .loop L A pb => (L.all (inL A) && within A b pb) && codeOk P N b pb
    | _ => true
  | _, _ => true


/- a piece of code turns no temporary but those that it assigns -/
section
variable {P : Program} {E : List PanicEntry → World → Prop}

def OB.Mono (ob : OB) : Prop := ∀ f w (r r' : Prop), (r → r') → ob f w r → ob f w r'

theorem ob0_mono : OB.Mono ob0 := fun _ _ _ _ h hr => h hr

theorem addOb_mono {ob : OB} (h : OB.Mono ob) (i : Nat) (g : Bool) (s : Option (Sem Value)) (v : Value) : OB.Mono (addOb ob i g P s v) := by
  cases s with
  | none => exact h
  | some s =>
    intro f w r r' hr hh
    simp only [addOb] at hh ⊢
    cases hf : f i with
    | false => rw [hf] at hh; exact h _ _ _ _ hr hh
    | true => rw [hf] at hh; exact ⟨hh.1, h _ _ _ _ hr hh.2⟩

theorem oP_mono {s : Sem Value} {k k' : Value → World → Prop} {w : World} (hk : ∀ v w, k v w → k' v w) (h : oP P s k w) : oP P s k' w :=
  let ⟨v, h1, h2⟩ := h; ⟨v, h1, hk _ _ h2⟩
theorem oR_mono {s : Sem Value} {k k' : Value → World → Prop} {w : World} (hk : ∀ v w, k v w → k' v w) (h : oR P s k w) : oR P s k' w :=
  let ⟨v, h1, h2⟩ := h; ⟨v, h1, hk _ _ h2⟩
theorem oV_mono {s : Sem Value} {k k' : Value → World → Prop} {w : World} (hk : ∀ v w, k v w → k' v w) (h : oV P E s k w) : oV P E s k' w := by
  unfold oV at *
  split
  · rename_i hr; rw [hr] at h; exact hk _ _ h
  · rename_i hr; rw [hr] at h; exact h
  · rename_i h1 h2
    split at h
    · rename_i hr; exact absurd hr (h1 _ _)
    · rename_i hr; exact absurd hr (h2 _ _)
    · exact h
theorem oS_mono {s : Sem Unit} {k k' : Value → World → Prop} {w : World} (hk : ∀ v w, k v w → k' v w) (h : oS P E s k w) : oS P E s k' w := by
  unfold oS at *
  split
  · rename_i hr; rw [hr] at h; exact hk _ _ h
  · rename_i hr; rw [hr] at h; exact h
  · rename_i h1 h2
    split at h
    · rename_i hr; exact absurd hr (h1 _ _)
    · rename_i hr; exact absurd hr (h2 _ _)
    · exact h
theorem oX_mono {s : Sem Next} {k k' : Value → World → Prop} {w : World} (hk : ∀ v w, k v w → k' v w) (h : oX P E s k w) : oX P E s k' w := upon_mono hk h
theorem oPick_mono {c a b : Value} {k k' : Value → World → Prop} {w : World} (hk : ∀ v w, k v w → k' v w) (h : oPick c a b k w) : oPick c a b k' w := by
  cases c <;> first | exact hk _ _ h | exact h.elim
theorem oNil_mono {v : Value} {k k' : Value → World → Prop} {w : World} (hk : ∀ v w, k v w → k' v w) (h : oNil v k w) : oNil v k' w := by
  cases v with
  | pointer a => cases a <;> first | exact hk _ _ h | exact h.elim
  | func f x y => cases f <;> first | exact hk _ _ h | exact h.elim
  | _ => exact h.elim
theorem oCV_mono {fv : Value} {args : Array Value} {k k' : Value → World → Prop} {w : World} (hk : ∀ v w, k v w → k' v w) (h : oCV P E fv args k w) : oCV P E fv args k' w := by
  cases fv with
  | func f x y => cases f <;> first | exact ⟨h.1, oC_mono hk h.2⟩ | exact h.elim
  | _ => exact h.elim

theorem dF_mono {f : Nat → Bool} {ob : OB} (hob : OB.Mono ob) {o : Oper} {ρ : Env} {k k' : Value → World → Prop} {w : World} (hk : ∀ v w, k v w → k' v w) (h : dF P E f ob o ρ k w) : dF P E f ob o ρ k' w := by
  have hk2 : ∀ v w, ob f w (k v w) → ob f w (k' v w) := fun v w => hob _ _ _ _ (hk v w)
  obtain ⟨dst, op, ty, pos, after, guard⟩ := o
  unfold dF at h ⊢
  cases op
  case call c =>
    obtain ⟨callee, args, argTypes⟩ := c
    cases callee with
    | builtin b => cases b <;> first | exact oR_mono hk h | exact oV_mono hk2 h | exact oX_mono hk2 h
    | invoke r m => exact oX_mono hk2 h
    | value fv => cases fv <;> first | exact oC_mono hk2 h | exact oCV_mono hk2 h | exact oX_mono hk2 h
  case convert s d x =>
    simp only at h ⊢
    split at h
    · exact oP_mono hk h
    · exact oV_mono hk2 h
  case binOp b t x y yt =>
    simp only at h ⊢
    split at h
    · exact oP_mono hk h
    · exact oV_mono hk2 h
  all_goals first
    | exact hk _ _ h
    | exact oP_mono hk h
    | exact oR_mono hk h
    | exact oV_mono hk2 h
    | exact oS_mono hk2 h
    | exact oPick_mono hk h
    | exact oNil_mono hk h
    | exact h.elim

def Agree (A : List Nat) (ρ ρ' : Env) : Prop := ∀ t, A.any (Nat.beq t) = false → ρ' t = ρ t

theorem Agree.put {A : List Nat} {ρ ρ' : Env} (h : Agree A ρ ρ') {d : Option Nat} (hd : ∀ t, d = some t → A.any (Nat.beq t) = true) (v : Value) : Agree A ρ (ρ'.put d v) := by
  intro t ht
  cases d with
  | none => exact h t ht
  | some d =>
    simp only [Env.put]
    cases hb : Nat.beq t d with
    | false => exact h t ht
    | true =>
      have := hd d rfl
      rw [← Nat.eq_of_beq_eq_true hb, ht] at this
      cases this

theorem mix_of {A : List Nat} {ρ ρ' : Env} (h : Agree A ρ ρ') : mix A ρ' ρ = ρ' := by
  funext t
  simp only [mix]
  cases hb : A.any (Nat.beq t) with
  | true => rfl
  | false => exact (h t hb).symm

theorem dOps_frame {ops : Array Oper} {u : Nat → Nat → Bool} {K : Env → World → Prop} {A : List Nat} {ρ0 : Env} (hw : (ops.toList.all fun o => match o.dst with | some d => inL A d | none => true) = true) :
    ∀ (σ : List Nat) (ob : OB) (ρ : Env) (w : World), OB.Mono ob → Agree A ρ0 ρ → dOps P ops E u K σ ob ρ w → dOps P ops E u (fun ρ' w => K ρ' w ∧ Agree A ρ0 ρ') σ ob ρ w
  | [], _, _, _, _, ha, h => ⟨h, ha⟩
  | i :: σ, ob, ρ, w, hob, ha, h => by
    simp only [dOps] at h ⊢
    cases ho : ops[i]? with
    | none => rw [ho] at h; exact h
    | some o =>
      rw [ho] at h
      simp only at h ⊢
      have hd : ∀ t, o.dst = some t → A.any (Nat.beq t) = true := by
        intro t ht
        rw [List.all_eq_true] at hw
        have := hw o (by simpa using Array.mem_of_getElem? ho)
        rw [ht] at this
        exact this
      have hk : ∀ v w', dOps P ops E u K σ (addOb ob i (wantedE ops o ρ) P (readSem o.op o.type ρ.ev) v) (ρ.put o.dst v) w' →
          dOps P ops E u (fun ρ' w => K ρ' w ∧ Agree A ρ0 ρ') σ (addOb ob i (wantedE ops o ρ) P (readSem o.op o.type ρ.ev) v) (ρ.put o.dst v) w' :=
        fun v w' h => dOps_frame hw σ _ _ _ (addOb_mono hob _ _ _ _) (ha.put hd v) h
      cases hg : o.guard with
      | none => rw [hg] at h; exact dF_mono hob hk h
      | some gw =>
        rw [hg] at h
        simp only [gd, oGk] at h ⊢
        cases hw : wantedE ops o ρ with
        | true => rw [hw] at h hk; exact dF_mono hob hk h
        | false => rw [hw] at h hk; exact hk _ _ h

theorem dPlan_frame {ops : Array Oper} {K : Env → World → Prop} {A : List Nat} {ρ0 ρ : Env} {w : World} (hw : (ops.toList.all fun o => match o.dst with | some d => inL A d | none => true) = true) (ha : Agree A ρ0 ρ) :
    ∀ (p : Plan), dPlan P ops E K ρ w p → dPlan P ops E (fun ρ' w => K ρ' w ∧ Agree A ρ0 ρ') ρ w p
  | .leaf _ _, h => dOps_frame hw _ _ _ _ ob0_mono ha h
  | .split _ _ a b, h => ⟨dPlan_frame hw ha a h.1, dPlan_frame hw ha b h.2⟩

theorem dOps_kmono {ops : Array Oper} {u : Nat → Nat → Bool} {K K' : Env → World → Prop} (hK : ∀ ρ w, K ρ w → K' ρ w) :
    ∀ (σ : List Nat) (ob : OB) (ρ : Env) (w : World), OB.Mono ob → dOps P ops E u K σ ob ρ w → dOps P ops E u K' σ ob ρ w
  | [], _, _, _, _, h => hK _ _ h
  | i :: σ, ob, ρ, w, hob, h => by
    simp only [dOps] at h ⊢
    cases ho : ops[i]? with
    | none => rw [ho] at h; exact h
    | some o =>
      rw [ho] at h
      simp only at h ⊢
      have hk : ∀ v w', dOps P ops E u K σ (addOb ob i (wantedE ops o ρ) P (readSem o.op o.type ρ.ev) v) (ρ.put o.dst v) w' →
          dOps P ops E u K' σ (addOb ob i (wantedE ops o ρ) P (readSem o.op o.type ρ.ev) v) (ρ.put o.dst v) w' :=
        fun v w' h => dOps_kmono hK σ _ _ _ (addOb_mono hob _ _ _ _) h
      cases hg : o.guard with
      | none => rw [hg] at h; exact dF_mono hob hk h
      | some gw =>
        rw [hg] at h
        simp only [gd, oGk] at h ⊢
        cases hw : wantedE ops o ρ with
        | true => rw [hw] at h hk; exact dF_mono hob hk h
        | false => rw [hw] at h hk; exact hk _ _ h

theorem dPlan_kmono {ops : Array Oper} {K K' : Env → World → Prop} (hK : ∀ ρ w, K ρ w → K' ρ w) {ρ : Env} {w : World} : ∀ (p : Plan), dPlan P ops E K ρ w p → dPlan P ops E K' ρ w p
  | .leaf _ _, h => dOps_kmono hK _ _ _ _ ob0_mono h
  | .split _ _ a b, h => ⟨dPlan_kmono hK a h.1, dPlan_kmono hK b h.2⟩

theorem then_mono {n n' : Env → World → Prop} {Q Q' : DX → Env → World → Prop} (hn : ∀ ρ w, n ρ w → n' ρ w) (hQ : ∀ x ρ w, Q x ρ w → Q' x ρ w) (x : DX) (ρ : Env) (w : World) (h : DX.then n Q x ρ w) : DX.then n' Q' x ρ w := by
  cases x with
  | norm => exact hn _ _ h
  | exit id => exact hQ _ _ _ h
  | ret => exact hQ _ _ _ h

theorem dCode_mono : ∀ (c : Code) (pl : Pl) (Q Q' : DX → Env → World → Prop) (ρ : Env) (w : World), (∀ x ρ w, Q x ρ w → Q' x ρ w) → dCode P E c pl Q ρ w → dCode P E c pl Q' ρ w := by
  intro c
  induction c with
  | skip => intro pl Q Q' ρ w hQ h; exact hQ _ _ _ h
  | label l => intro pl Q Q' ρ w hQ h; exact hQ _ _ _ h
  | exit id => intro pl Q Q' ρ w hQ h; exact hQ _ _ _ h
  | ret => intro pl Q Q' ρ w hQ h; exact hQ _ _ _ h
  | region id ops draw =>
    intro pl Q Q' ρ w hQ h
    cases draw with
    | false => exact dOps_kmono (hQ .norm) _ _ _ _ ob0_mono h
    | true =>
      cases pl with
      | reg p => exact dPlan_kmono (hQ .norm) p h
      | _ => exact h
  | seq x y ihx ihy =>
    intro pl Q Q' ρ w hQ h
    cases pl with
    | seq pa pb => exact ihx pa _ _ ρ w (then_mono (fun ρ w h => ihy pb Q Q' ρ w hQ h) hQ) h
    | jseq L A pa pb =>
      obtain ⟨I, h1, h2⟩ := h
      exact ⟨I, ihx pa _ _ ρ w (then_mono (fun ρ w h => h) hQ) h1, fun j s w hI => ihy pb Q Q' _ w hQ (h2 j s w hI)⟩
    | _ => exact h
  | cond c x y ihx ihy =>
    intro pl Q Q' ρ w hQ h
    cases pl with
    | cond pa pb =>
      simp only [dCode, oCond] at h ⊢
      split
      · rename_i hc; rw [hc] at h; exact ihx pa Q Q' ρ w hQ h
      · rename_i hc; rw [hc] at h; exact ihy pb Q Q' ρ w hQ h
      · rename_i h1 h2
        split at h
        · rename_i hc; exact absurd hc h1
        · rename_i hc; exact absurd hc h2
        · exact h
    | _ => exact h
  | block id b ih =>
    intro pl Q Q' ρ w hQ h
    cases pl with
    | block pb =>
      refine ih pb _ _ ρ w (fun x ρ w h => ?_) h
      cases x with
      | norm => exact hQ _ _ _ h
      | exit id' =>
        simp only [DX.inBlock] at h ⊢
        cases hb : Nat.beq id' id with
        | true => rw [hb] at h; exact hQ _ _ _ h
        | false => rw [hb] at h; exact hQ _ _ _ h
      | ret => exact hQ _ _ _ h
    | _ => exact h
  | loop b ih =>
    intro pl Q Q' ρ w hQ h
    cases pl with
    | loop L A pb =>
      obtain ⟨I, μ, h1, h2⟩ := h
      exact ⟨I, μ, h1, fun j s w hI => ih pb _ _ _ w (then_mono (fun ρ w h => h) hQ) (h2 j s w hI)⟩
    | _ => exact h
  | rangeFunc => intro pl Q Q' ρ w hQ h; exact h
  | scope => intro pl Q Q' ρ w hQ h; exact h
  | goto => intro pl Q Q' ρ w hQ h; exact h
  | refuse => intro pl Q Q' ρ w hQ h; exact h

theorem envOf_other : ∀ (L : List Nat) (s : St L) (j : Env) (t : Nat), L.any (Nat.beq t) = false → envOf L s j t = j t
  | [], _, _, _, _ => rfl
  | [x], v, j, t, h => by
    simp only [List.any_cons, List.any_nil, Bool.or_false] at h
    simp only [envOf, Env.put, h]
    rfl
  | x :: y :: l, s, j, t, h => by
    rw [List.any_cons, Bool.or_eq_false_iff] at h
    show ((envOf (y :: l) s.2 j).put (some x) s.1) t = j t
    simp only [Env.put, h.1, cond_false]
    exact envOf_other (y :: l) s.2 j t h.2

theorem sub_any {A B : List Nat} (h : B.all (inL A) = true) {t : Nat} (ht : A.any (Nat.beq t) = false) : B.any (Nat.beq t) = false := by
  cases hb : B.any (Nat.beq t) with
  | false => rfl
  | true =>
    rw [List.any_eq_true] at hb
    obtain ⟨x, hx, hxt⟩ := hb
    rw [List.all_eq_true] at h
    have := h x hx
    rw [← Nat.eq_of_beq_eq_true hxt] at this
    unfold inL at this
    rw [ht] at this
    cases this

theorem Agree.mixed {A B L : List Nat} {ρ0 ρ : Env} (h : Agree A ρ0 ρ) (hB : B.all (inL A) = true) (hL : L.all (inL B) = true) (s : St L) (j : Env) : Agree A ρ0 (envOf L s (mix B j ρ)) := by
  intro t ht
  have h1 := sub_any hB ht
  rw [envOf_other L s _ t (sub_any hL h1)]
  simp only [mix, h1, cond_false]
  exact h t ht

theorem dCode_frame {A : List Nat} {ρ0 : Env} : ∀ (c : Code) (pl : Pl), within A c pl = true → ∀ (Q : DX → Env → World → Prop) (ρ : Env) (w : World), Agree A ρ0 ρ → dCode P E c pl Q ρ w →
    dCode P E c pl (fun x ρ' w => Q x ρ' w ∧ Agree A ρ0 ρ') ρ w := by
  intro c
  induction c with
  | skip => intro pl _ Q ρ w ha h; exact ⟨h, ha⟩
  | label l => intro pl _ Q ρ w ha h; exact ⟨h, ha⟩
  | exit id => intro pl _ Q ρ w ha h; exact ⟨h, ha⟩
  | ret => intro pl _ Q ρ w ha h; exact ⟨h, ha⟩
  | region id ops draw =>
    intro pl hw Q ρ w ha h
    cases draw with
    | false => exact dOps_frame hw _ _ _ _ ob0_mono ha h
    | true =>
      cases pl with
      | reg p => exact dPlan_frame hw ha p h
      | _ => exact h
  | seq x y ihx ihy =>
    intro pl hw Q ρ w ha h
    cases pl with
    | seq pa pb =>
      simp only [within, Bool.and_eq_true] at hw
      refine dCode_mono x pa _ _ ρ w (fun x ρ' w' hx => ?_) (ihx pa hw.1 _ ρ w ha h)
      obtain ⟨hx, ha'⟩ := hx
      cases x with
      | norm => exact ihy pb hw.2 Q ρ' w' ha' hx
      | exit id => exact ⟨hx, ha'⟩
      | ret => exact ⟨hx, ha'⟩
    | jseq L B pa pb =>
      simp only [within, Bool.and_eq_true] at hw
      obtain ⟨⟨hB, hL⟩, hwa, hwb⟩ := hw
      obtain ⟨I, h1, h2⟩ := h
      refine ⟨I, ?_, fun j s w hI => ihy pb hwb Q _ w (ha.mixed hB hL s j) (h2 j s w hI)⟩
      refine dCode_mono x pa _ _ ρ w (fun x ρ' w' hx => ?_) (ihx pa hwa _ ρ w ha h1)
      obtain ⟨hx, ha'⟩ := hx
      cases x with
      | norm => exact hx
      | exit id => exact ⟨hx, ha'⟩
      | ret => exact ⟨hx, ha'⟩
    | _ => exact h
  | cond c x y ihx ihy =>
    intro pl hw Q ρ w ha h
    cases pl with
    | cond pa pb =>
      simp only [within, Bool.and_eq_true] at hw
      simp only [dCode, oCond] at h ⊢
      split
      · rename_i hc; rw [hc] at h; exact ihx pa hw.1 Q ρ w ha h
      · rename_i hc; rw [hc] at h; exact ihy pb hw.2 Q ρ w ha h
      · rename_i h1 h2
        split at h
        · rename_i hc; exact absurd hc h1
        · rename_i hc; exact absurd hc h2
        · exact h
    | _ => exact h
  | block id b ih =>
    intro pl hw Q ρ w ha h
    cases pl with
    | block pb =>
      refine dCode_mono b pb _ _ ρ w (fun x ρ' w' hx => ?_) (ih pb hw _ ρ w ha h)
      obtain ⟨hx, ha'⟩ := hx
      cases x with
      | norm => exact ⟨hx, ha'⟩
      | exit id' =>
        simp only [DX.inBlock] at hx ⊢
        cases hb : Nat.beq id' id with
        | true => rw [hb] at hx; exact ⟨hx, ha'⟩
        | false => rw [hb] at hx; exact ⟨hx, ha'⟩
      | ret => exact ⟨hx, ha'⟩
    | _ => exact h
  | loop b ih =>
    intro pl hw Q ρ w ha h
    cases pl with
    | loop L B pb =>
      simp only [within, Bool.and_eq_true] at hw
      obtain ⟨⟨hB, hL⟩, hwb⟩ := hw
      obtain ⟨I, μ, h1, h2⟩ := h
      refine ⟨I, μ, h1, fun j s w hI => ?_⟩
      refine dCode_mono b pb _ _ _ w (fun x ρ' w' hx => ?_) (ih pb hwb _ _ w (ha.mixed hB hL s j) (h2 j s w hI))
      obtain ⟨hx, ha'⟩ := hx
      cases x with
      | norm => exact hx
      | exit id => exact ⟨hx, ha'⟩
      | ret => exact ⟨hx, ha'⟩
    | _ => exact h
  | rangeFunc => intro pl _ Q ρ w _ h; exact h
  | scope => intro pl _ Q ρ w _ h; exact h
  | goto => intro pl _ Q ρ w _ h; exact h
  | refuse => intro pl _ Q ρ w _ h; exact h

theorem Agree.refl (A : List Nat) (ρ : Env) : Agree A ρ ρ := fun _ _ => rfl
end

theorem dCode_wp {P : Program} (hm : P.follows .mixedOrders = true) {N : Nat} {E : List PanicEntry → World → Prop} : ∀ (c : Code) (pl : Pl), codeOk P N c pl = true →
    ∀ (Q : DX → Env → World → Prop) (Q' : Exit → Act → World → Prop), (∀ x ρ a w, Sim N ρ a → Q x ρ w → Q' x.toExit a w) → (∀ ch a w, a.defers = [] → E ch w → Q' (.panic ch) a w) →
    ∀ (ρ : Env) (a : Act) (w : World), Sim N ρ a → dCode P E c pl Q ρ w → c.wp P Q' a w := by
  intro c
  induction c with
  | skip => intro pl _ Q Q' hQ _ ρ a w hs h; exact wp_skip (hQ .norm ρ a w hs h)
  | label l => intro pl _ Q Q' hQ _ ρ a w hs h; exact wp_label (hQ .norm ρ a w hs h)
  | exit id => intro pl _ Q Q' hQ _ ρ a w hs h; exact wp_exit (hQ (.exit id) ρ a w hs h)
  | ret => intro pl _ Q Q' hQ _ ρ a w hs h; exact wp_ret (hQ .ret ρ a w hs h)
  | region id ops draw =>
    intro pl hok Q Q' hQ hE ρ a w hs h
    simp only [codeOk, Bool.and_eq_true] at hok
    obtain ⟨hok, hp⟩ := hok
    cases draw with
    | false =>
      have hA : aOps P ops E (fun _ _ => false) (Q .norm) (List.range ops.size) [] ρ w :=
        dOps_aOps (fun i o ho => (opsOk_of hok i o ho).1) (fun i o ρ s _ hs => readSem_exec o ρ s hs) _ ob0 [] ρ w (fun f w r hr => ⟨by intro x hx; simp at hx, hr⟩) h
      exact wp_region (inOrder (fun i o ho => (opsOk_of hok i o ho).2.1) (fun ρ a w hs h => hQ .norm ρ a w hs h) hE _ _ _ _ _ hs hA)
    | true =>
      cases pl with
      | reg p =>
        simp only [Bool.and_eq_true] at hp
        refine wp_region_draw fun t => ?_
        simp only [Region.schedule, hm, Bool.true_or, if_true]
        exact dPlan_wp (lin_ok (topo_of hp.1) t) hok (fun ρ a w hs h => hQ .norm ρ a w hs h) hE hs p [] (by simp) hp.2 h
      | _ => exact h.elim
  | seq x y ihx ihy =>
    intro pl hok Q Q' hQ hE ρ a w hs h
    cases pl with
    | seq pa pb =>
      simp only [codeOk, Bool.and_eq_true] at hok
      refine wp_seq ?_
      refine ihx pa hok.1 _ (Exit.then (y.wp P Q') Q') (fun x ρ a w hs h => ?_) (fun ch a w hd he => hE ch a w hd he) ρ a w hs h
      cases x with
      | norm => exact ihy pb hok.2 Q Q' hQ hE ρ a w hs h
      | exit id => exact hQ (.exit id) ρ a w hs h
      | ret => exact hQ .ret ρ a w hs h
    | jseq L B pa pb =>
      simp only [codeOk, Bool.and_eq_true] at hok
      obtain ⟨I, hI, hg⟩ := h
      refine wp_seq ?_
      refine ihx pa hok.2.1 _ (Exit.then (y.wp P Q') Q') (fun x ρ' a w hs h => ?_) (fun ch a w hd he => hE ch a w hd he) ρ a w hs (dCode_frame x pa hok.1.2 _ ρ w (Agree.refl B ρ) hI)
      obtain ⟨h, ha⟩ := h
      cases x with
      | norm =>
        have := hg ρ' _ w h
        simp only [mix_of ha, envOf_proj] at this
        exact ihy pb hok.2.2 Q Q' hQ hE ρ' a w hs this
      | exit id => exact hQ (.exit id) ρ' a w hs h
      | ret => exact hQ .ret ρ' a w hs h
    | _ => exact h.elim
  | cond c x y ihx ihy =>
    intro pl hok Q Q' hQ hE ρ a w hs h
    cases pl with
    | cond pa pb =>
      simp only [codeOk, Bool.and_eq_true] at hok
      simp only [dCode, oCond] at h
      split at h
      · rename_i hc; exact wp_cond_true (by rw [hs.eval]; exact hc) (ihx pa hok.1 Q Q' hQ hE ρ a w hs h)
      · rename_i hc; exact wp_cond_false (by rw [hs.eval]; exact hc) (ihy pb hok.2 Q Q' hQ hE ρ a w hs h)
      · exact h.elim
    | _ => exact h.elim
  | block id b ih =>
    intro pl hok Q Q' hQ hE ρ a w hs h
    cases pl with
    | block pb =>
      refine wp_block ?_
      refine ih pb hok _ (Exit.inBlock id Q') (fun x ρ a w hs h => ?_) (fun ch a w hd he => hE ch a w hd he) ρ a w hs h
      cases x with
      | norm => exact hQ .norm ρ a w hs h
      | exit id' =>
        simp only [DX.inBlock] at h
        simp only [DX.toExit, Exit.inBlock]
        by_cases e : id' = id
        · subst e
          have : Nat.beq id' id' = true := Nat.beq_refl id'
          rw [this] at h
          rw [if_pos rfl]
          exact hQ .norm ρ a w hs h
        · have : Nat.beq id' id = false := by
            cases hb : Nat.beq id' id with
            | false => rfl
            | true => exact absurd (Nat.eq_of_beq_eq_true hb) e
          rw [this] at h
          rw [if_neg e]
          exact hQ (.exit id') ρ a w hs h
      | ret => exact hQ .ret ρ a w hs h
    | _ => exact h.elim
  | loop b ih =>
    intro pl hok Q Q' hQ hE ρ a w hs h
    cases pl with
    | loop L B pb =>
      simp only [codeOk, Bool.and_eq_true] at hok
      obtain ⟨I, μ, h0, hround⟩ := h
      refine wp_loop (fun a w => ∃ ρ', Sim N ρ' a ∧ I (proj L ρ') w ∧ Agree B ρ ρ') (fun a w => μ (proj L fun t => a.tmps.getD t undef) w) ⟨ρ, hs, h0, Agree.refl B ρ⟩ ?_
      rintro a w ⟨ρ1, hs, hI, hag⟩
      have hb := hround ρ1 _ w hI
      simp only [mix_of hag, envOf_proj] at hb
      refine ih pb hok.2 _ (Exit.then (fun a' w' => (∃ ρ', Sim N ρ' a' ∧ I (proj L ρ') w' ∧ Agree B ρ ρ') ∧ μ (proj L fun t => a'.tmps.getD t undef) w' < μ (proj L fun t => a.tmps.getD t undef) w) Q')
        (fun x ρ' a' w' hs' h => ?_) (fun ch a w hd he => hE ch a w hd he) ρ1 a w hs (dCode_frame b pb hok.1.2 _ ρ1 w hag hb)
      obtain ⟨h, hag'⟩ := h
      cases x with
      | norm =>
        have e1 : (fun t => a'.tmps.getD t undef) = ρ' := funext hs'.get
        have e2 : (fun t => a.tmps.getD t undef) = ρ1 := funext hs.get
        refine ⟨⟨ρ', hs', h.1, hag'⟩, ?_⟩
        rw [e1, e2]
        exact h.2
      | exit id => exact hQ (.exit id) ρ' a' w' hs' h
      | ret => exact hQ .ret ρ' a' w' hs' h
    | _ => exact h.elim
  | rangeFunc => intro pl _ Q Q' hQ _ ρ a w hs h; exact h.elim
  | scope => intro pl _ Q Q' hQ _ ρ a w hs h; exact h.elim
  | goto => intro pl _ Q Q' hQ _ ρ a w hs h; exact h.elim
  | refuse => intro pl _ Q Q' hQ _ ρ a w hs h; exact h.elim

def finish : List Value → Value
  | [v] => v
  | vs => .tuple vs.toArray

def resSem (t : TypeId) (x : Value) : Sem Value := do loadVar t (← asAddr x)

def dRes (P : Program) (k : Value → World → Prop) (ρ : Env) : List ResultVar → (List Value → List Value) → World → Prop
  | [], acc, w => k (finish (acc [])) w
  | .tmp t :: rs, acc, w => dRes P k ρ rs (fun l => acc (ρ t :: l)) w
  | .cell a t :: rs, acc, w => oR P (resSem t (ρ a)) (fun v w => dRes P k ρ rs (fun l => acc (v :: l)) w) w

def env0 (args : List Value) : Env := fun t => args.getD t undef

def dFn (P : Program) (fn : Func) (pl : Pl) (R : Ending → World → Prop) (args : List Value) (w : World) : Prop :=
  match fn.body with
  | some c => dCode P (EP R) c pl (fun x ρ w => match x with
      | .exit _ => False
      | .norm => dRes P (fun v w => R (.returned v) w) ρ fn.results.toList id w
      | .ret => dRes P (fun v w => R (.returned v) w) ρ fn.results.toList id w) (env0 args) w
  | none => False

def fnOk (P : Program) (fn : Func) (pl : Pl) (n : Nat) : Bool :=
  decide (n ≤ fn.ntmps) && (match fn.body with
  | some c => codeOk P fn.ntmps c pl
  | none => false)

def resOne (tmps : Array Value) : ResultVar → Sem Value
  | .tmp t => pure (tmps.getD t undef)
  | .cell a t => do loadVar t (← asAddr (tmps.getD a undef))

theorem dRes_results {P : Program} {k : Value → World → Prop} {ρ : Env} {tmps : Array Value} (hg : ∀ t, tmps.getD t undef = ρ t) (w : World) : ∀ (rs : List ResultVar) (acc : List Value → List Value),
    dRes P k ρ rs acc w → ∃ vs : List Value, (rs.mapM (resOne tmps)).run P w = .ok vs w ∧ k (finish (acc vs)) w
  | [], acc, h => ⟨[], rfl, h⟩
  | .tmp t :: rs, acc, h => by
    obtain ⟨vs, h1, h2⟩ := dRes_results hg w rs _ h
    refine ⟨ρ t :: vs, ?_, h2⟩
    rw [List.mapM_cons]
    have e : resOne tmps (.tmp t) = Sem.pure (ρ t) := by rw [← hg]; rfl
    rw [e]
    simp only [Sem.run_bind]
    show ((Sem.run P (List.mapM (resOne tmps) rs) w).andThen _) = _
    rw [h1]
    rfl
  | .cell a t :: rs, acc, h => by
    obtain ⟨v, hv, h⟩ := h
    obtain ⟨vs, h1, h2⟩ := dRes_results hg w rs _ h
    refine ⟨v :: vs, ?_, h2⟩
    rw [List.mapM_cons]
    have e : resOne tmps (.cell a t) = resSem t (ρ a) := by rw [← hg]; rfl
    rw [e]
    simp only [Sem.run_bind]
    rw [hv]
    show ((Sem.run P (List.mapM (resOne tmps) rs) w).andThen _) = _
    rw [h1]
    rfl

theorem run_results {P : Program} {fn : Func} {tmps : Array Value} {w : World} {vs : List Value} (h : (fn.results.toList.mapM (resOne tmps)).run P w = .ok vs w) : (results fn tmps).run P w = .ok (finish vs) w := by
  unfold results
  have e : (fun | ResultVar.tmp t => pure (tmps.getD t undef) | .cell a t => do loadVar t (← asAddr (tmps.getD a undef)) : ResultVar → Sem Value) = resOne tmps := by
    funext r; cases r <;> rfl
  have e2 : (fn.results.mapM (resOne tmps) : Sem (Array Value)) = List.toArray <$> fn.results.toList.mapM (resOne tmps) := Array.mapM_eq_mapM_toList
  show Sem.run P (do let vs ← fn.results.mapM (fun | ResultVar.tmp t => pure (tmps.getD t undef) | .cell a t => do loadVar t (← asAddr (tmps.getD a undef)) : ResultVar → Sem Value); pure (if h : vs.size = 1 then vs[0] else .tuple vs)) w = _
  rw [e, e2, map_eq_pure_bind]
  simp only [Sem.run_bind, h]
  match vs with
  | [] => rfl
  | [v] => rfl
  | v :: u :: l =>
    show Result.ok _ w = Result.ok _ w
    simp [finish]

theorem calls_of_dFn {P : Program} (hm : P.follows .mixedOrders = true) {f : FuncId} {fn : Func} {pl : Pl} {args : List Value} {w : World} {R : Ending → World → Prop}
    (hf : P.funcs[f]? = some fn) (hok : fnOk P fn pl args.length = true) (h : dFn P fn pl R args w) : Calls P f args.toArray w R := by
  unfold fnOk at hok
  unfold dFn at h
  cases hb : fn.body with
  | none => rw [hb] at h; exact h.elim
  | some c =>
    rw [hb] at h hok
    simp only [Bool.and_eq_true, decide_eq_true_eq] at hok h
    refine calls_of_wp hf hb (dCode_wp hm c pl hok.2 _ _ ?_ ?_ (env0 args) _ w ?_ h)
    · intro x ρ a w hs hx
      have fin : dRes P (fun v w => R (.returned v) w) ρ fn.results.toList id w → a.defers = [] ∧ ∃ v, (results fn a.tmps).run P w = .ok v w ∧ R (.returned v) w := by
        intro hr
        obtain ⟨vs, h1, h2⟩ := dRes_results hs.get w _ _ hr
        exact ⟨hs.defers, _, run_results h1, h2⟩
      cases x with
      | norm => exact fin hx
      | ret => exact fin hx
      | exit id => exact hx.elim
    · intro ch a w hd he
      exact ⟨hd, he⟩
    · refine ⟨by simp; omega, rfl, fun t => ?_⟩
      simp only [env0]
      rw [Array.getD_eq_getD_getElem?]
      by_cases ht : t < args.length
      · rw [Array.getElem?_append_left (by simpa using ht)]
        simp [List.getD]
      · rw [Array.getElem?_append_right (by simpa using ht)]
        simp [List.getD, Array.getElem?_replicate]
        split
        · rw [List.getElem?_eq_none (by omega)]; rfl
        · rw [List.getElem?_eq_none (by omega)]

end Go.Hw
