/- What a function's code comes to, said without its temporaries' array: each operation by a word of its own. -/
import Derived.Test.YtpghhaobcikdhaaHwB
namespace Go.Hw
open Go

/- the words -/
def oP (P : Program) (s : Sem Value) (k : Value → World → Prop) (w : World) : Prop := ∃ v, (∀ w, s.run P w = .ok v w) ∧ k v w
def oR (P : Program) (s : Sem Value) (k : Value → World → Prop) (w : World) : Prop := ∃ v, s.run P w = .ok v w ∧ k v w
def oV (P : Program) (E : List PanicEntry → World → Prop) (s : Sem Value) (k : Value → World → Prop) (w : World) : Prop :=
  match s.run P w with
  | .ok v w' => k v w'
  | .halt (.panic v) w' => E [{ v, recovered := false }] w'
  | _ => False
def oS (P : Program) (E : List PanicEntry → World → Prop) (s : Sem Unit) (k : Value → World → Prop) (w : World) : Prop :=
  match s.run P w with
  | .ok _ w' => k undef w'
  | .halt (.panic v) w' => E [{ v, recovered := false }] w'
  | _ => False
def oC (P : Program) (E : List PanicEntry → World → Prop) (f : FuncId) (args : Array Value) (k : Value → World → Prop) (w : World) : Prop :=
  Calls P f args w fun
    | .returned v, w' => k v w'
    | .panicked ch, w' => E ch w'
    | .outgrown, _ => False
def oX (P : Program) (E : List PanicEntry → World → Prop) (s : Sem Next) (k : Value → World → Prop) (w : World) : Prop := upon P E k (s.run P w)
def oPick (c a b : Value) (k : Value → World → Prop) (w : World) : Prop :=
  match c with
  | .bool t => k (bif t then a else b) w
  | _ => False
def oNil (v : Value) (k : Value → World → Prop) (w : World) : Prop :=
  match v with
  | .pointer (some a) => k (.pointer (some a)) w
  | .func (.func f) first captured => k (.func (.func f) first captured) w
  | _ => False
def oCond (v : Value) (A B : Prop) : Prop :=
  match v with
  | .bool true => A
  | .bool false => B
  | _ => False
def oGk (g : Bool) (F : (Value → World → Prop) → World → Prop) (k : Value → World → Prop) (w : World) : Prop := cond g (F k w) (k undef w)
/-- behind a draw of an order -/
def oDraw (F : World → Prop) (w : World) : Prop := F w.drew
def oRd (g : Bool) (P : Program) (s : Sem Value) (v : Value) (w : World) : Prop := g = true → s.run P w = .ok v w
def oLoop {σ : Type} (body : Env → σ → (σ → World → Prop) → World → Prop) (s : σ) (w : World) : Prop :=
  ∃ (I : σ → World → Prop) (μ : σ → World → Nat), I s w ∧ ∀ j s w, I s w → body j s (fun s' w' => I s' w' ∧ μ s' w' < μ s w) w
def oJoin {σ : Type} (f : (σ → World → Prop) → Prop) (g : Env → σ → World → Prop) : Prop :=
  ∃ I : σ → World → Prop, f I ∧ ∀ j s w, I s w → g j s w

def evs (f : Operand → Value) (xs : Array Operand) : Array Value := (xs.toList.map f).toArray
def evp (f : Operand → Value) (ps : Array (Nat × Operand)) : Array (Nat × Value) := (ps.toList.map fun p => (p.1, f p.2)).toArray
def bsem (op : BinOp) (t : TypeId) (c : Bool) (a b : Value) : Sem Value := do
  eqGuard op t (bif c then .const undef else .tmp 0) (.tmp 0) a b
  binOp op t a b

theorem evs_eq (f : Operand → Value) (xs : Array Operand) : xs.map f = evs f xs := by
  cases xs; simp [evs]
theorem evp_eq (f : Operand → Value) (ps : Array (Nat × Operand)) : (ps.map fun (i, x) => (i, f x)) = evp f ps := by
  cases ps; simp [evp]
theorem eqGuard_eq (op : BinOp) (t : TypeId) (x y : Operand) (a b : Value) : eqGuard op t x y a b = eqGuard op t (bif (Region.isConst x || Region.isConst y) then .const undef else .tmp 0) (.tmp 0) a b := by
  cases x <;> cases y <;> rfl

def callable (P : Program) (f : FuncId) : Bool :=
  match P.funcs[f]? with
  | some fn => fn.name != "runtime.NumGoroutine" && fn.body.isSome
  | none => false

/-- a call of a value -/
def oCV (P : Program) (E : List PanicEntry → World → Prop) (fv : Value) (args : Array Value) (k : Value → World → Prop) (w : World) : Prop :=
  match fv with
  | .func (.func f) first captured => callable P f = true ∧ oC P E f (first ++ args ++ captured) k w
  | _ => False

def readSem (o : Op) (ty : TypeId) (ev : Operand → Value) : Option (Sem Value) :=
  match o with
  | .load t a => some (Instr.loadAt t (ev a))
  | .lookup t x ix ok => some (Instr.lookup t (ev x) (ev ix) ok)
  | .call { callee := .builtin .len, args, argTypes } => some (Builtin.len_ argTypes ty (evs ev args))
  | .call { callee := .builtin .cap, args, argTypes } => some (Builtin.cap_ argTypes ty (evs ev args))
  | .call { callee := .builtin .min, args, argTypes } => some (Builtin.min_ argTypes ty (evs ev args))
  | .call { callee := .builtin .max, args, argTypes } => some (Builtin.max_ argTypes ty (evs ev args))
  | _ => none

abbrev OB := (Nat → Bool) → World → Prop → Prop
def ob0 : OB := fun _ _ r => r
def addOb (ob : OB) (i : Nat) (g : Bool) (P : Program) (s : Option (Sem Value)) (v : Value) : OB :=
  match s with
  | some s => fun f w r => bif f i then (oRd g P s v w ∧ ob f w r) else ob f w r
  | none => ob

def isCall (o : Op) : Bool := match o with | .call { callee := .value (.func _), .. } => true | _ => false

/-- one operation -/
def dF (P : Program) (E : List PanicEntry → World → Prop) (f : Nat → Bool) (ob : OB) (o : Oper) (ρ : Env) (k : Value → World → Prop) (w : World) : Prop :=
  match o.op with
  | .move x | .assign x => k (ρ.ev x) w
  | .pick c a b => oPick (ρ.ev c) (ρ.ev a) (ρ.ev b) k w
  | .build t ps => oP P (Instr.build t (evp ρ.ev ps)) k w
  | .nilCheck x => oNil (ρ.ev x) k w
  | .binOp op t x y yt => match clsOf P (.binOp op t x y yt) with
    | .pure => oP P (bsem op t (Region.isConst x || Region.isConst y) (ρ.ev x) (ρ.ev y)) k w
    | _ => oV P E (bsem op t (Region.isConst x || Region.isConst y) (ρ.ev x) (ρ.ev y)) (fun v w' => ob f w' (k v w')) w
  | .unOp op _ x => oP P (Op.unary op (ρ.ev x)) k w
  | .makeInterface t x => oP P (Instr.makeInterface t (ρ.ev x)) k w
  | .makeFunc fn first captured => k (.func fn (evs ρ.ev first) (evs ρ.ev captured)) w
  | .fieldAddr t x i => oP P (Instr.fieldAt t (ρ.ev x) i) k w
  | .field t x i => oP P (Instr.field t (ρ.ev x) i) k w
  | .indexAddr t x i => oP P (Instr.indexAt t (ρ.ev x) (ρ.ev i)) k w
  | .index t x i => oP P (Instr.index t (ρ.ev x) (ρ.ev i)) k w
  | .extract x i => oP P (Instr.extract (ρ.ev x) i) k w
  | .slice t x l h m => oP P (Instr.sliceAt t (ρ.ev x) (l.map ρ.ev) (h.map ρ.ev) (m.map ρ.ev)) k w
  | .typeAssert x t a ok => oP P (Instr.typeAssert (ρ.ev x) t a ok) k w
  | .convert s d x => match clsOf P (.convert s d x) with
    | .pure => oP P (convert s d (ρ.ev x)) k w
    | _ => oV P E (convert s d (ρ.ev x)) (fun v w' => ob f w' (k v w')) w
  | .load t a => oR P (Instr.loadAt t (ρ.ev a)) k w
  | .lookup t x ix ok => oR P (Instr.lookup t (ρ.ev x) (ρ.ev ix) ok) k w
  | .alloc t => oV P E (Instr.alloc t true (.tuple #[])) (fun v w' => ob f w' (k v w')) w
  | .box t x => oV P E (Instr.box t (ρ.ev x)) (fun v w' => ob f w' (k v w')) w
  | .buildSlice t n ps => oV P E (Instr.buildSlice t n (evp ρ.ev ps)) (fun v w' => ob f w' (k v w')) w
  | .store t a x => oS P E (Instr.storeAt t (ρ.ev a) (ρ.ev x)) (fun v w' => ob f w' (k v w')) w
  | .makeMap t r => oV P E (Instr.makeMap t (r.map ρ.ev)) (fun v w' => ob f w' (k v w')) w
  | .makeSlice t l c => oV P E (Instr.makeSlice t (ρ.ev l) (ρ.ev c)) (fun v w' => ob f w' (k v w')) w
  | .mapUpdate t m x v => oS P E (Instr.mapUpdate t (ρ.ev m) (ρ.ev x) (ρ.ev v)) (fun v w' => ob f w' (k v w')) w
  | .insert t m x v => oS P E (Instr.mapUpdate t (ρ.ev m) (ρ.ev x) (ρ.ev v)) (fun v w' => ob f w' (k v w')) w
  | .mapEntry t m x => oV P E (Instr.mapEntry t (ρ.ev m) (ρ.ev x)) (fun v w' => ob f w' (k v w')) w
  | .entryStore t m s v => oS P E (Instr.entryStore t (ρ.ev m) (ρ.ev s) (ρ.ev v)) (fun v w' => ob f w' (k v w')) w
  | .range t x => oV P E (Instr.range t (ρ.ev x)) (fun v w' => ob f w' (k v w')) w
  | .next it s => oV P E (Instr.next (ρ.ev it) s o.type) (fun v w' => ob f w' (k v w')) w
  | .entry it => oV P E (Instr.entry (ρ.ev it)) (fun v w' => ob f w' (k v w')) w
  | .panic x => oV P E (Instr.panic (ρ.ev x)) (fun v w' => ob f w' (k v w')) w
  | .call { callee := .builtin .len, args, argTypes } => oR P (Builtin.len_ argTypes o.type (evs ρ.ev args)) k w
  | .call { callee := .builtin .cap, args, argTypes } => oR P (Builtin.cap_ argTypes o.type (evs ρ.ev args)) k w
  | .call { callee := .builtin .min, args, argTypes } => oR P (Builtin.min_ argTypes o.type (evs ρ.ev args)) k w
  | .call { callee := .builtin .max, args, argTypes } => oR P (Builtin.max_ argTypes o.type (evs ρ.ev args)) k w
  | .call { callee := .builtin .append, args, argTypes } => oV P E (Builtin.append_ argTypes o.type (evs ρ.ev args)) (fun v w' => ob f w' (k v w')) w
  | .call { callee := .builtin .copy, args, argTypes } => oV P E (Builtin.copy_ argTypes o.type (evs ρ.ev args)) (fun v w' => ob f w' (k v w')) w
  | .call { callee := .builtin .delete, args, argTypes } => oV P E (Builtin.delete_ argTypes o.type (evs ρ.ev args)) (fun v w' => ob f w' (k v w')) w
  | .call { callee := .builtin .clear, args, argTypes } => oV P E (Builtin.clear_ argTypes o.type (evs ρ.ev args)) (fun v w' => ob f w' (k v w')) w
  | .call { callee := .value (.func fn), args, .. } => oC P E fn (evs ρ.ev args) (fun v w' => ob f w' (k v w')) w
  | .call { callee := .value (.tmp t), args, .. } => oCV P E (ρ t) (evs ρ.ev args) (fun v w' => ob f w' (k v w')) w
  | .call c => oX P E (do let d ← resolve ρ.ev c o.type; invoke d.target d.args) (fun v w' => ob f w' (k v w')) w
  | _ => False

def gd (gu : Option (Nat × Bool)) (g : Bool) (F : (Value → World → Prop) → World → Prop) (k : Value → World → Prop) (w : World) : Prop :=
  match gu with
  | none => F k w
  | some _ => oGk g F k w

def dOps (P : Program) (ops : Array Oper) (E : List PanicEntry → World → Prop) (u : Nat → Nat → Bool) (K : Env → World → Prop) : List Nat → OB → Env → World → Prop
  | [], _, ρ, w => K ρ w
  | i :: σ, ob, ρ, w => match ops[i]? with
    | none => False
    | some o => gd o.guard (wantedE ops o ρ) (dF P E (u i) ob o ρ) (fun v w' => dOps P ops E u K σ (addOb ob i (wantedE ops o ρ) P (readSem o.op o.type ρ.ev) v) (ρ.put o.dst v) w') w

def callsOk (P : Program) (o : Oper) : Bool :=
  match o.op with
  | .call { callee := .value (.func f), .. } => callable P f
  | _ => true

theorem run_val {P : Program} (s : Sem Value) (w : World) : (do pure (.value (← s)) : Sem Next).run P w = match s.run P w with | .ok v w' => .ok (.value v) w' | .halt h w' => .halt h w' := by
  have := Sem.run_bind' P s (fun v => (Sem.pure (Next.value v) : Sem Next)) w
  show (s.bind fun v => Sem.pure (Next.value v)).run P w = _
  rw [this]
  cases s.run P w <;> rfl

theorem run_unit {P : Program} (s : Sem Unit) (w : World) : (do s; pure .skip : Sem Next).run P w = match s.run P w with | .ok _ w' => .ok .skip w' | .halt h w' => .halt h w' := by
  have := Sem.run_bind' P s (fun _ => (Sem.pure Next.skip : Sem Next)) w
  show (s.bind fun _ => Sem.pure Next.skip).run P w = _
  rw [this]
  cases s.run P w <;> rfl

section
variable {P : Program} {E : List PanicEntry → World → Prop}

theorem oP_exec {s : Sem Value} {x : Sem Next} {k : Value → World → Prop} {w : World} (hx : x = (do pure (.value (← s)))) (h : oP P s k w) :
    ∃ v, (∀ w, x.run P w = .ok (.value v) w) ∧ k v w := by
  obtain ⟨v, hv, hk⟩ := h
  subst hx
  exact ⟨v, fun w => by rw [run_val, hv w], hk⟩

theorem oR_exec {s : Sem Value} {x : Sem Next} {k : Value → World → Prop} {w : World} (hx : x = (do pure (.value (← s)))) (h : oR P s k w) :
    ∃ v, x.run P w = .ok (.value v) w ∧ s.run P w = .ok v w ∧ k v w := by
  obtain ⟨v, hv, hk⟩ := h
  subst hx
  exact ⟨v, by rw [run_val, hv], hv, hk⟩

theorem oV_exec {s : Sem Value} {x : Sem Next} {k k' : Value → World → Prop} {w : World} (hx : x = (do pure (.value (← s)))) (hk : ∀ v w, k v w → k' v w) (h : oV P E s k w) :
    upon P E k' (x.run P w) := by
  subst hx
  rw [run_val]
  unfold oV at h
  cases hr : s.run P w with
  | ok v w' => rw [hr] at h; exact hk _ _ h
  | halt e w' => rw [hr] at h; cases e <;> first | exact h | exact h.elim

theorem oS_exec {s : Sem Unit} {x : Sem Next} {k k' : Value → World → Prop} {w : World} (hx : x = (do s; pure .skip)) (hk : ∀ v w, k v w → k' v w) (h : oS P E s k w) :
    upon P E k' (x.run P w) := by
  subst hx
  rw [run_unit]
  unfold oS at h
  cases hr : s.run P w with
  | ok v w' => rw [hr] at h; exact hk _ _ h
  | halt e w' => rw [hr] at h; cases e <;> first | exact h | exact h.elim

theorem run_callFunc {f : FuncId} (hf : callable P f = true) (args : Array Value) (w : World) : (callFunc f args).run P w = .ok (.enter f args) w := by
  unfold callable at hf
  cases hfn : P.funcs[f]? with
  | none => rw [hfn] at hf; simp at hf
  | some fn =>
    rw [hfn] at hf
    simp only [Bool.and_eq_true, bne_iff_ne, ne_eq] at hf
    obtain ⟨h1, h2⟩ := hf
    have hb : fn.body.isNone = false := by
      cases hb : fn.body <;> simp [hb] at h2 ⊢
    unfold callFunc
    show (Sem.bind program _).run P w = _
    simp only [program, Sem.bind, Sem.run, hfn, hb]
    rw [if_neg (by simpa using h1)]
    rfl

theorem oC_mono {f : FuncId} {args : Array Value} {k k' : Value → World → Prop} {w : World} (hk : ∀ v w, k v w → k' v w) (h : oC P E f args k w) : oC P E f args k' w :=
  Calls.mono h fun e w' he => by cases e <;> first | exact hk _ _ he | exact he

end

section
variable {P : Program} {ops : Array Oper} {E : List PanicEntry → World → Prop} {u : Nat → Nat → Bool} {K : Env → World → Prop}

/-- what the words say of an operation, in the model's own words -/
theorem dF_aStep {f : Nat → Bool} {ob : OB} {obs : Obs} {o : Oper} {i : Nat} {ρ : Env} {k : Value → World → Prop} {k' : Obs → Value → World → Prop} {w : World} (hcall : callsOk P o = true)
    (hob : ∀ w r, ob f w r → obs.ok f w ∧ r)
    (hk : readSem o.op o.type ρ.ev = none → ∀ v w, k v w → k' obs v w)
    (hkr : ∀ s, readSem o.op o.type ρ.ev = some s → ∀ v w, s.run P w = .ok v w → k v w → k' ((i, fun w' => (execOp ρ.ev o).run P w' = .ok (.value v) w') :: obs) v w)
    (h : dF P E f ob o ρ k w) : aStep P E f o i ρ obs k' w := by
  obtain ⟨dst, op, ty, pos, after, guard⟩ := o
  have hkE : readSem op ty ρ.ev = none → ∀ v w, ob f w (k v w) → obs.ok f w ∧ k' obs v w := fun hn v w h => ⟨(hob _ _ h).1, hk hn _ _ (hob _ _ h).2⟩
  unfold dF at h
  unfold aStep
  cases op
  case move x => exact ⟨ρ.ev x, fun _ => rfl, hk rfl _ _ h⟩
  case assign x => exact ⟨ρ.ev x, fun _ => rfl, hk rfl _ _ h⟩
  case pick c a b =>
    simp only [oPick] at h
    simp only [clsOf]
    split at h
    · rename_i t hc
      refine ⟨bif t then ρ.ev a else ρ.ev b, fun w => ?_, hk rfl _ _ h⟩
      simp only [execOp, hc]
      cases t <;> rfl
    · exact h.elim
  case build t ps => obtain ⟨v, h1, h2⟩ := oP_exec (x := execOp ρ.ev ⟨dst, .build t ps, ty, pos, after, guard⟩) (by simp only [execOp]; rw [← evp_eq]) h; exact ⟨v, h1, hk rfl _ _ h2⟩
  case nilCheck x =>
    simp only [oNil] at h
    simp only [clsOf]
    split at h
    · rename_i a hc
      exact ⟨_, fun w => by simp only [execOp, hc]; rfl, hk rfl _ _ h⟩
    · rename_i fn first captured hc
      exact ⟨_, fun w => by simp only [execOp, hc]; rfl, hk rfl _ _ h⟩
    · exact h.elim
  case binOp b t x y yt =>
    simp only at h ⊢
    have e : execOp ρ.ev ⟨dst, .binOp b t x y yt, ty, pos, after, guard⟩ = (do pure (.value (← bsem b t (Region.isConst x || Region.isConst y) (ρ.ev x) (ρ.ev y)))) := by
      simp only [execOp, bsem]; rw [eqGuard_eq]
    cases hc : clsOf P (.binOp b t x y yt) with
    | pure =>
      rw [hc] at h
      obtain ⟨v, h1, h2⟩ := oP_exec e h
      exact ⟨v, h1, hk rfl _ _ h2⟩
    | read =>
      exfalso
      simp only [clsOf] at hc
      split at hc
      · cases hi : (Region.isConst x || Region.isConst y) <;> rw [hi] at hc
        · simp only [cond_false] at hc; split at hc <;> cases hc
        · cases hc
      · cases hi : (Region.isConst x || Region.isConst y) <;> rw [hi] at hc
        · simp only [cond_false] at hc; split at hc <;> cases hc
        · cases hc
      · cases hc
    | eff =>
      rw [hc] at h
      exact oV_exec e (hkE rfl) h
  case unOp b t x => obtain ⟨v, h1, h2⟩ := oP_exec (x := execOp ρ.ev ⟨dst, .unOp b t x, ty, pos, after, guard⟩) rfl h; exact ⟨v, h1, hk rfl _ _ h2⟩
  case makeInterface t x => obtain ⟨v, h1, h2⟩ := oP_exec (x := execOp ρ.ev ⟨dst, .makeInterface t x, ty, pos, after, guard⟩) rfl h; exact ⟨v, h1, hk rfl _ _ h2⟩
  case makeFunc fn first captured =>
    refine ⟨_, fun w => ?_, hk rfl _ _ h⟩
    simp only [execOp]
    rw [evs_eq, evs_eq]
    rfl
  case fieldAddr t x i => obtain ⟨v, h1, h2⟩ := oP_exec (x := execOp ρ.ev ⟨dst, .fieldAddr t x i, ty, pos, after, guard⟩) rfl h; exact ⟨v, h1, hk rfl _ _ h2⟩
  case field t x i => obtain ⟨v, h1, h2⟩ := oP_exec (x := execOp ρ.ev ⟨dst, .field t x i, ty, pos, after, guard⟩) rfl h; exact ⟨v, h1, hk rfl _ _ h2⟩
  case indexAddr t x i => obtain ⟨v, h1, h2⟩ := oP_exec (x := execOp ρ.ev ⟨dst, .indexAddr t x i, ty, pos, after, guard⟩) rfl h; exact ⟨v, h1, hk rfl _ _ h2⟩
  case index t x i => obtain ⟨v, h1, h2⟩ := oP_exec (x := execOp ρ.ev ⟨dst, .index t x i, ty, pos, after, guard⟩) rfl h; exact ⟨v, h1, hk rfl _ _ h2⟩
  case extract x i => obtain ⟨v, h1, h2⟩ := oP_exec (x := execOp ρ.ev ⟨dst, .extract x i, ty, pos, after, guard⟩) rfl h; exact ⟨v, h1, hk rfl _ _ h2⟩
  case slice t x l hh m => obtain ⟨v, h1, h2⟩ := oP_exec (x := execOp ρ.ev ⟨dst, .slice t x l hh m, ty, pos, after, guard⟩) rfl h; exact ⟨v, h1, hk rfl _ _ h2⟩
  case typeAssert x t a ok => obtain ⟨v, h1, h2⟩ := oP_exec (x := execOp ρ.ev ⟨dst, .typeAssert x t a ok, ty, pos, after, guard⟩) rfl h; exact ⟨v, h1, hk rfl _ _ h2⟩
  case convert s d x =>
    simp only at h ⊢
    cases hc : clsOf P (.convert s d x) with
    | pure =>
      rw [hc] at h
      obtain ⟨v, h1, h2⟩ := oP_exec (x := execOp ρ.ev ⟨dst, .convert s d x, ty, pos, after, guard⟩) rfl h
      exact ⟨v, h1, hk rfl _ _ h2⟩
    | read =>
      exfalso
      simp only [clsOf] at hc
      split at hc <;> cases hc
    | eff =>
      rw [hc] at h
      exact oV_exec (x := execOp ρ.ev ⟨dst, .convert s d x, ty, pos, after, guard⟩) rfl (hkE rfl) h
  case load t a => obtain ⟨v, h1, h3, h2⟩ := oR_exec (x := execOp ρ.ev ⟨dst, .load t a, ty, pos, after, guard⟩) rfl h; exact ⟨v, h1, hkr _ rfl _ _ h3 h2⟩
  case lookup t x ix ok => obtain ⟨v, h1, h3, h2⟩ := oR_exec (x := execOp ρ.ev ⟨dst, .lookup t x ix ok, ty, pos, after, guard⟩) rfl h; exact ⟨v, h1, hkr _ rfl _ _ h3 h2⟩
  case alloc t => exact oV_exec (x := execOp ρ.ev ⟨dst, .alloc t, ty, pos, after, guard⟩) rfl (hkE rfl) h
  case box t x => exact oV_exec (x := execOp ρ.ev ⟨dst, .box t x, ty, pos, after, guard⟩) rfl (hkE rfl) h
  case buildSlice t n ps => exact oV_exec (x := execOp ρ.ev ⟨dst, .buildSlice t n ps, ty, pos, after, guard⟩) (by simp only [execOp]; rw [← evp_eq]) (hkE rfl) h
  case store t a x => exact oS_exec (x := execOp ρ.ev ⟨dst, .store t a x, ty, pos, after, guard⟩) rfl (hkE rfl) h
  case makeMap t r => exact oV_exec (x := execOp ρ.ev ⟨dst, .makeMap t r, ty, pos, after, guard⟩) rfl (hkE rfl) h
  case makeSlice t l c => exact oV_exec (x := execOp ρ.ev ⟨dst, .makeSlice t l c, ty, pos, after, guard⟩) rfl (hkE rfl) h
  case mapUpdate t m x v => exact oS_exec (x := execOp ρ.ev ⟨dst, .mapUpdate t m x v, ty, pos, after, guard⟩) rfl (hkE rfl) h
  case insert t m x v => exact oS_exec (x := execOp ρ.ev ⟨dst, .insert t m x v, ty, pos, after, guard⟩) rfl (hkE rfl) h
  case mapEntry t m x => exact oV_exec (x := execOp ρ.ev ⟨dst, .mapEntry t m x, ty, pos, after, guard⟩) rfl (hkE rfl) h
  case entryStore t m s v => exact oS_exec (x := execOp ρ.ev ⟨dst, .entryStore t m s v, ty, pos, after, guard⟩) rfl (hkE rfl) h
  case range t x => exact oV_exec (x := execOp ρ.ev ⟨dst, .range t x, ty, pos, after, guard⟩) rfl (hkE rfl) h
  case next it s => exact oV_exec (x := execOp ρ.ev ⟨dst, .next it s, ty, pos, after, guard⟩) rfl (hkE rfl) h
  case entry it => exact oV_exec (x := execOp ρ.ev ⟨dst, .entry it, ty, pos, after, guard⟩) rfl (hkE rfl) h
  case panic x => exact oV_exec (x := execOp ρ.ev ⟨dst, .panic x, ty, pos, after, guard⟩) rfl (hkE rfl) h
  case call c =>
    obtain ⟨callee, args, argTypes⟩ := c
    cases callee with
    | builtin b =>
      cases b
      case len => obtain ⟨v, h1, h3, h2⟩ := oR_exec (x := execOp ρ.ev ⟨dst, .call ⟨.builtin .len, args, argTypes⟩, ty, pos, after, guard⟩) (by simp only [execOp, resolve]; rw [evs_eq]; rfl) h; exact ⟨v, h1, hkr _ rfl _ _ h3 h2⟩
      case cap => obtain ⟨v, h1, h3, h2⟩ := oR_exec (x := execOp ρ.ev ⟨dst, .call ⟨.builtin .cap, args, argTypes⟩, ty, pos, after, guard⟩) (by simp only [execOp, resolve]; rw [evs_eq]; rfl) h; exact ⟨v, h1, hkr _ rfl _ _ h3 h2⟩
      case min => obtain ⟨v, h1, h3, h2⟩ := oR_exec (x := execOp ρ.ev ⟨dst, .call ⟨.builtin .min, args, argTypes⟩, ty, pos, after, guard⟩) (by simp only [execOp, resolve]; rw [evs_eq]; rfl) h; exact ⟨v, h1, hkr _ rfl _ _ h3 h2⟩
      case max => obtain ⟨v, h1, h3, h2⟩ := oR_exec (x := execOp ρ.ev ⟨dst, .call ⟨.builtin .max, args, argTypes⟩, ty, pos, after, guard⟩) (by simp only [execOp, resolve]; rw [evs_eq]; rfl) h; exact ⟨v, h1, hkr _ rfl _ _ h3 h2⟩
      case append => exact oV_exec (x := execOp ρ.ev ⟨dst, .call ⟨.builtin .append, args, argTypes⟩, ty, pos, after, guard⟩) (by simp only [execOp, resolve]; rw [evs_eq]; rfl) (hkE rfl) h
      case copy => exact oV_exec (x := execOp ρ.ev ⟨dst, .call ⟨.builtin .copy, args, argTypes⟩, ty, pos, after, guard⟩) (by simp only [execOp, resolve]; rw [evs_eq]; rfl) (hkE rfl) h
      case delete => exact oV_exec (x := execOp ρ.ev ⟨dst, .call ⟨.builtin .delete, args, argTypes⟩, ty, pos, after, guard⟩) (by simp only [execOp, resolve]; rw [evs_eq]; rfl) (hkE rfl) h
      case clear => exact oV_exec (x := execOp ρ.ev ⟨dst, .call ⟨.builtin .clear, args, argTypes⟩, ty, pos, after, guard⟩) (by simp only [execOp, resolve]; rw [evs_eq]; rfl) (hkE rfl) h
      all_goals exact upon_mono (hkE rfl) h
    | invoke r m => exact upon_mono (hkE rfl) h
    | value fv =>
      cases fv with
      | func fn =>
        have hc : callable P fn = true := hcall
        have : (execOp ρ.ev ⟨dst, .call ⟨.value (.func fn), args, argTypes⟩, ty, pos, after, guard⟩) = callFunc fn (evs ρ.ev args) := by
          simp only [execOp, resolve]
          rw [evs_eq]
          show callFunc fn ((#[] ++ evs ρ.ev args) ++ #[]) = _
          simp
        simp only [clsOf]
        rw [this, run_callFunc hc]
        exact Calls.mono h fun e w' he => by cases e <;> first | exact hkE rfl _ _ he | exact he
      | tmp t =>
        simp only [oCV] at h
        split at h
        · rename_i f' first captured hv
          obtain ⟨hc, h⟩ := h
          have : (execOp ρ.ev ⟨dst, .call ⟨.value (.tmp t), args, argTypes⟩, ty, pos, after, guard⟩) = callFunc f' ((first ++ evs ρ.ev args) ++ captured) := by
            simp only [execOp, resolve, Env.ev, hv]
            rw [evs_eq]
            rfl
          simp only [clsOf]
          rw [this, run_callFunc hc]
          exact Calls.mono h fun e w' he => by cases e <;> first | exact hkE rfl _ _ he | exact he
        · exact h.elim
      | const v => exact upon_mono (hkE rfl) h
      | global g => exact upon_mono (hkE rfl) h
  all_goals exact h.elim

theorem dOps_aOps (hcall : ∀ (i : Nat) (o : Oper), ops[i]? = some o → callsOk P o = true) (hrd : ∀ (i : Nat) (o : Oper) (ρ : Env) s, ops[i]? = some o → readSem o.op o.type ρ.ev = some s → execOp ρ.ev o = (do pure (.value (← s)))) :
    ∀ (σ : List Nat) (ob : OB) (obs : Obs) (ρ : Env) (w : World), (∀ f w r, ob f w r → obs.ok f w ∧ r) → dOps P ops E u K σ ob ρ w → aOps P ops E u K σ obs ρ w
  | [], _, _, _, _, _, h => h
  | i :: σ, ob, obs, ρ, w, hob, h => by
    simp only [dOps] at h
    simp only [aOps]
    cases ho : ops[i]? with
    | none => rw [ho] at h; exact h.elim
    | some o =>
      rw [ho] at h
      simp only at h ⊢
      have main : dF P E (u i) ob o ρ (fun v w' => dOps P ops E u K σ (addOb ob i (wantedE ops o ρ) P (readSem o.op o.type ρ.ev) v) (ρ.put o.dst v) w') w → wantedE ops o ρ = true →
          aStep P E (u i) o i ρ obs (fun obs v w' => aOps P ops E u K σ obs (ρ.put o.dst v) w') w := by
        intro h hw
        refine dF_aStep (hcall i o ho) (fun w r hr => hob _ w r hr) (fun hn v w hd => ?_) (fun s hs v w hv hd => ?_) h
        · rw [hn] at hd
          exact dOps_aOps hcall hrd σ _ _ _ _ hob hd
        · rw [hs, hw] at hd
          refine dOps_aOps hcall hrd σ _ _ _ _ (fun f w' r hr => ?_) hd
          simp only [addOb] at hr
          cases hf : f i with
          | false =>
            rw [hf] at hr
            obtain ⟨h1, h2⟩ := hob _ _ _ hr
            refine ⟨fun x hx hfx => ?_, h2⟩
            rcases List.mem_cons.1 hx with rfl | hx
            · simp only at hfx; rw [hf] at hfx; cases hfx
            · exact h1 x hx hfx
          | true =>
            rw [hf] at hr
            obtain ⟨hr1, hr2⟩ := hr
            obtain ⟨h1, h2⟩ := hob _ _ _ hr2
            refine ⟨fun x hx hfx => ?_, h2⟩
            rcases List.mem_cons.1 hx with rfl | hx
            · simp only
              rw [hrd i o ρ s ho hs, run_val, hr1 rfl]
            · exact h1 x hx hfx
      cases hg : o.guard with
      | none =>
        have hw : wantedE ops o ρ = true := by simp [wantedE, hg]
        rw [hg] at h
        rw [if_pos hw]
        exact main h hw
      | some gw =>
        rw [hg] at h
        simp only [gd, oGk] at h
        cases hw : wantedE ops o ρ with
        | true =>
          rw [if_pos rfl]
          rw [hw] at h main
          exact main h rfl
        | false =>
          rw [if_neg (by simp)]
          rw [hw] at h
          simp only [cond_false] at h
          refine dOps_aOps hcall hrd σ _ _ _ _ (fun f w' r hr => ?_) h
          cases hs : readSem o.op o.type ρ.ev with
          | none => rw [hs] at hr; exact hob _ _ _ hr
          | some s =>
            rw [hs] at hr
            simp only [addOb] at hr
            cases hf : f i with
            | false => rw [hf] at hr; exact hob _ _ _ hr
            | true => rw [hf] at hr; exact hob _ _ _ hr.2

theorem readSem_exec (o : Oper) (ρ : Env) (s : Sem Value) (h : readSem o.op o.type ρ.ev = some s) : execOp ρ.ev o = (do pure (.value (← s))) := by
  obtain ⟨dst, op, ty, pos, after, guard⟩ := o
  cases op
  case load t a => cases h; rfl
  case lookup t x ix ok => cases h; rfl
  case call c =>
    obtain ⟨callee, args, argTypes⟩ := c
    cases callee with
    | builtin b =>
      cases b
      case len => cases h; simp only [execOp, resolve]; rw [evs_eq]; rfl
      case cap => cases h; simp only [execOp, resolve]; rw [evs_eq]; rfl
      case min => cases h; simp only [execOp, resolve]; rw [evs_eq]; rfl
      case max => cases h; simp only [execOp, resolve]; rw [evs_eq]; rfl
      all_goals cases h
    | invoke r m => cases h
    | value fv => cases h
  all_goals cases h
end

end Go.Hw
