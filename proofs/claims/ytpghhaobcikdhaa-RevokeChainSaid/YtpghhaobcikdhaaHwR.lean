/- The words, one rule each. -/
import Derived.Test.YtpghhaobcikdhaaHwS
namespace Go.Hw
open Go

/-- a call that returns -/
def Ret (Q : Value → World → Prop) : Ending → World → Prop
  | .returned v, W => Q v W
  | _, _ => False

section
variable {P : Program} {E : List PanicEntry → World → Prop} {k : Value → World → Prop} {W : World} {w0 : World} {Γ Γ' : List Chunk}

theorem r_call {f : FuncId} {args : Array Value} {Q : Value → World → Prop} (sp : Calls P f args W (Ret Q)) (hk : ∀ v W', Q v W' → k v W') : oC P E f args k W :=
  Calls.mono sp fun e W' he => by cases e <;> first | exact hk _ _ he | exact he.elim

theorem oP_run {s : Sem Value} {v : Value} (h : ∀ w, s.run P w = .ok v w) : oP P s k W = k v W :=
  propext ⟨fun ⟨u, hu, hk⟩ => by
    have := (h W).symm.trans (hu W)
    injection this with e _
    rw [e]; exact hk, fun hk => ⟨v, h, hk⟩⟩

theorem oV_run {s : Sem Value} {v : Value} {W' : World} (h : s.run P W = .ok v W') : oV P E s k W = k v W' := by
  unfold oV; rw [h]
theorem oR_run {s : Sem Value} {v : Value} (h : s.run P W = .ok v W) : oR P s k W = k v W :=
  propext ⟨fun ⟨u, hu, hk⟩ => by
    have := h.symm.trans hu
    injection this with e _
    rw [e]; exact hk, fun hk => ⟨v, h, hk⟩⟩
theorem oS_run {s : Sem Unit} {W' : World} (h : s.run P W = .ok () W') : oS P E s k W = k undef W' := by
  unfold oS; rw [h]

/- the words without memory -/
theorem oPick_b {t : Bool} {a b : Value} : oPick (.bool t) a b k W = k (bif t then a else b) W := rfl
theorem oNil_p {a : Addr} : oNil (.pointer (some a)) k W = k (.pointer (some a)) W := rfl
theorem oNil_f {f : FuncId} {x y : Array Value} : oNil (.func (.func f) x y) k W = k (.func (.func f) x y) W := rfl
theorem oCond_t {A B : Prop} : oCond (.bool true) A B = A := rfl
theorem oCond_f {A B : Prop} : oCond (.bool false) A B = B := rfl
theorem oGk_t {F : (Value → World → Prop) → World → Prop} : oGk true F k W = F k W := rfl
theorem oGk_f {F : (Value → World → Prop) → World → Prop} : oGk false F k W = k undef W := rfl
theorem gb_b {want b : Bool} : gb want (.bool b) = (b == want) := rfl
theorem gb_tt : gb true (.bool true) = true := rfl
theorem gb_tf : gb true (.bool false) = false := rfl
theorem gb_ft : gb false (.bool true) = false := rfl
theorem gb_ff : gb false (.bool false) = true := rfl
theorem oRd_f {s : Sem Value} {v : Value} : oRd false P s v W = True := by simp [oRd]
theorem oRd_t {s : Sem Value} {v : Value} : oRd true P s v W = (s.run P W = .ok v W) := by simp [oRd]

theorem eqG_other {op : BinOp} {t : TypeId} {x y : Operand} {a b : Value} (h : op ≠ .eql) (h' : op ≠ .neq) : eqGuard op t x y a b = pure () := by
  unfold eqGuard
  cases op <;> first | rfl | exact absurd rfl h | exact absurd rfl h'

theorem bsem_int {op : BinOp} {t : TypeId} {c : Bool} {q : IntKind} {a b : Int} : bsem op t c (.int q a) (.int q b) = binOp op t (.int q a) (.int q b) := by
  unfold bsem
  cases op <;> rfl

theorem b_add {t : TypeId} {c : Bool} {q : IntKind} {a b : Int} : oP P (bsem .add t c (.int q a) (.int q b)) k W = k (.int q (q.wrap (a + b))) W :=
  oP_run fun w => by rw [bsem_int]; simp [binOp, Op.intArith]
theorem b_sub {t : TypeId} {c : Bool} {q : IntKind} {a b : Int} : oP P (bsem .sub t c (.int q a) (.int q b)) k W = k (.int q (q.wrap (a - b))) W :=
  oP_run fun w => by rw [bsem_int]; simp [binOp, Op.intArith]
theorem b_mul {t : TypeId} {c : Bool} {q : IntKind} {a b : Int} : oP P (bsem .mul t c (.int q a) (.int q b)) k W = k (.int q (q.wrap (a * b))) W :=
  oP_run fun w => by rw [bsem_int]; simp [binOp, Op.intArith]
theorem b_lss {t : TypeId} {c : Bool} {q : IntKind} {a b : Int} : oP P (bsem .lss t c (.int q a) (.int q b)) k W = k (.bool (decide (a < b))) W :=
  oP_run fun w => by rw [bsem_int]; simp [binOp, Op.intCmp]
theorem b_leq {t : TypeId} {c : Bool} {q : IntKind} {a b : Int} : oP P (bsem .leq t c (.int q a) (.int q b)) k W = k (.bool (decide (a ≤ b))) W :=
  oP_run fun w => by rw [bsem_int]; simp [binOp, Op.intCmp]
theorem b_gtr {t : TypeId} {c : Bool} {q : IntKind} {a b : Int} : oP P (bsem .gtr t c (.int q a) (.int q b)) k W = k (.bool (decide (a > b))) W :=
  oP_run fun w => by rw [bsem_int]; simp [binOp, Op.intCmp]
theorem b_geq {t : TypeId} {c : Bool} {q : IntKind} {a b : Int} : oP P (bsem .geq t c (.int q a) (.int q b)) k W = k (.bool (decide (a ≥ b))) W :=
  oP_run fun w => by rw [bsem_int]; simp [binOp, Op.intCmp]
theorem b_eql {t : TypeId} {c : Bool} {q : IntKind} {a b : Int} : oP P (bsem .eql t c (.int q a) (.int q b)) k W = k (.bool (a == b)) W :=
  oP_run fun w => by rw [bsem_int]; simp [binOp, Op.intCmp]
theorem b_neq {t : TypeId} {c : Bool} {q : IntKind} {a b : Int} : oP P (bsem .neq t c (.int q a) (.int q b)) k W = k (.bool (a != b)) W :=
  oP_run fun w => by rw [bsem_int]; simp [binOp, Op.intCmp]
theorem b_shl {t : TypeId} {c : Bool} {q q' : IntKind} {a b : Int} (h : 0 ≤ b) : oP P (bsem .shl t c (.int q a) (.int q' b)) k W = k (.int q (q.wrap (a * 2 ^ (min b.toNat q.bits)))) W :=
  oP_run fun w => by
    have : ¬ b < 0 := by omega
    simp [bsem, eqG_other, binOp, Op.shift, this]
theorem b_shr {t : TypeId} {c : Bool} {q q' : IntKind} {a b : Int} (h : 0 ≤ b) : oP P (bsem .shr t c (.int q a) (.int q' b)) k W = k (.int q (a.fdiv (2 ^ (min b.toNat q.bits)))) W :=
  oP_run fun w => by
    have : ¬ b < 0 := by omega
    simp [bsem, eqG_other, binOp, Op.shift, this]
theorem b_and {t : TypeId} {c : Bool} {q : IntKind} {a b : Int} : oP P (bsem .and t c (.int q a) (.int q b)) k W = k (.int q (q.wrap (BitVec.ofInt q.bits a &&& BitVec.ofInt q.bits b).toNat)) W :=
  oP_run fun w => by rw [bsem_int]; simp [binOp, Op.intBits]
theorem b_or {t : TypeId} {c : Bool} {q : IntKind} {a b : Int} : oP P (bsem .or t c (.int q a) (.int q b)) k W = k (.int q (q.wrap (BitVec.ofInt q.bits a ||| BitVec.ofInt q.bits b).toNat)) W :=
  oP_run fun w => by rw [bsem_int]; simp [binOp, Op.intBits]
theorem b_andNot {t : TypeId} {c : Bool} {q : IntKind} {a b : Int} : oP P (bsem .andNot t c (.int q a) (.int q b)) k W = k (.int q (q.wrap (BitVec.ofInt q.bits a &&& ~~~ BitVec.ofInt q.bits b).toNat)) W :=
  oP_run fun w => by rw [bsem_int]; simp [binOp, Op.intBits]
theorem b_quo {t : TypeId} {c : Bool} {q : IntKind} {a b : Int} (h : b ≠ 0) : oP P (bsem .quo t c (.int q a) (.int q b)) k W = k (.int q (q.wrap (a.tdiv b))) W :=
  oP_run fun w => by rw [bsem_int]; simp [binOp, Op.intDiv, h]
theorem b_rem {t : TypeId} {c : Bool} {q : IntKind} {a b : Int} (h : b ≠ 0) : oP P (bsem .rem t c (.int q a) (.int q b)) k W = k (.int q (a.tmod b)) W :=
  oP_run fun w => by rw [bsem_int]; simp [binOp, Op.intDiv, h]
theorem b_not {b : Bool} : oP P (Op.unary .not (.bool b)) k W = k (.bool (!b)) W := oP_run fun _ => rfl
theorem x_0 {a : Value} {l : List Value} : oP P (Instr.extract (.tuple (List.toArray (a :: l))) 0) k W = k a W := oP_run fun _ => rfl
theorem x_1 {a b : Value} {l : List Value} : oP P (Instr.extract (.tuple (List.toArray (a :: b :: l))) 1) k W = k b W := oP_run fun _ => rfl
theorem x_2 {a b c : Value} {l : List Value} : oP P (Instr.extract (.tuple (List.toArray (a :: b :: c :: l))) 2) k W = k c W := oP_run fun _ => rfl
theorem x_3 {a b c d : Value} {l : List Value} : oP P (Instr.extract (.tuple (List.toArray (a :: b :: c :: d :: l))) 3) k W = k d W := oP_run fun _ => rfl

/- types -/
def isAggB (P : Program) (t : TypeId) : Bool := match P.underlying t with
  | some (.struct _) | some (.array _ _) => true
  | _ => false
def sizeB (P : Program) (t : TypeId) : Option Nat := (P.info? t).map (·.size)
def zeroB (P : Program) (t : TypeId) : Option Value := (P.info? t).bind (·.zero)
def elemB (P : Program) (t : TypeId) : Option TypeId := match P.underlying t with
  | some (.slice e) => some e
  | _ => none
def bytesB (P : Program) (t : TypeId) : Option Nat := (P.info? t).map (·.bytes)

theorem run_underlying {t : TypeId} {d : TypeDesc} (h : P.underlying t = some d) (w : World) : (underlying t).run P w = .ok d w := by
  unfold underlying
  show (Sem.bind program _).run P w = _
  simp only [program, Sem.bind, Sem.run, h]
  rfl
theorem run_typeInfo {t : TypeId} {d : TypeInfo} (h : P.info? t = some d) (w : World) : (typeInfo t).run P w = .ok d w := by
  unfold typeInfo
  show (Sem.bind program _).run P w = _
  simp only [program, Sem.bind, Sem.run, h]
  rfl
theorem run_sizeOf {t : TypeId} {n : Nat} (h : sizeB P t = some n) (w : World) : (sizeOf t).run P w = .ok n w := by
  unfold sizeB at h
  cases hi : P.info? t with
  | none => rw [hi] at h; cases h
  | some i =>
    rw [hi] at h
    unfold sizeOf
    simp only [Sem.run_bind, run_typeInfo hi]
    simp only [Option.map_some, Option.some.injEq] at h
    subst h
    rfl
theorem run_zeroValue {t : TypeId} {z : Value} (h : zeroB P t = some z) (w : World) : (zeroValue t).run P w = .ok z w := by
  unfold zeroB at h
  cases hi : P.info? t with
  | none => rw [hi] at h; cases h
  | some i =>
    rw [hi] at h
    unfold zeroValue
    simp only [Sem.run_bind, run_typeInfo hi]
    simp only [Option.bind_some] at h
    show (match i.zero with | some v => (pure v : Sem Value) | none => _).run P w = _
    rw [h]
    rfl
theorem run_load {b off : Nat} {c : Array Value} {T : TypeId} {fr : Nat × Nat} {v : Value} (hb : W.heap[b]? = some (.cells c T fr)) (hv : c[off]? = some v) : (load ⟨b, off, none⟩).run P W = .ok v W := by
  have : W.cell? ⟨b, off, none⟩ = some v := by simp [World.cell?, hb, hv]
  simp [load, Sem.run, this]

theorem addr_add (b off n : Nat) : Addr.add ⟨b, off, none⟩ n = ⟨b, off + n, none⟩ := by
  unfold Addr.add
  split
  · subst_vars; rfl
  · rfl

theorem run_loadCellsFrom {b off : Nat} {c : Array Value} {T : TypeId} {fr : Nat × Nat} (hb : W.heap[b]? = some (.cells c T fr)) :
    ∀ (n i : Nat) (acc : Array Value), off + i + n ≤ c.size → (loadCellsFrom ⟨b, off, none⟩ i n acc).run P W = .ok (acc ++ ((c.toList.drop (off + i)).take n).toArray) W
  | 0, i, acc, _ => by simp [loadCellsFrom, pure]
  | n + 1, i, acc, h => by
    have hlt : off + i < c.size := by omega
    have hv : c[off + i]? = some c[off + i] := by simp [hlt]
    unfold loadCellsFrom
    simp only [Sem.run_bind]
    rw [addr_add, run_load hb hv]
    show (loadCellsFrom ⟨b, off, none⟩ (i + 1) n (acc.push c[off + i])).run P W = _
    rw [run_loadCellsFrom hb n (i + 1) _ (by omega)]
    congr 1
    rw [show c.toList.drop (off + i) = c[off + i] :: c.toList.drop (off + (i + 1)) from by
      rw [← Nat.add_assoc]
      rw [List.drop_eq_getElem_cons (by simpa using hlt)]
      simp]
    simp

theorem run_loadVar1 {t : TypeId} {b off : Nat} {c : Array Value} {T : TypeId} {fr : Nat × Nat} {v : Value} (ha : isAggB P t = false) (hs : (P.underlying t).isSome = true)
    (hb : W.heap[b]? = some (.cells c T fr)) (hv : c[off]? = some v) : (loadVar t ⟨b, off, none⟩).run P W = .ok v W := by
  obtain ⟨d, hd⟩ := Option.isSome_iff_exists.1 hs
  have : (isAgg t).run P W = .ok false W := by
    unfold isAggB at ha
    rw [hd] at ha
    unfold isAgg
    simp only [Sem.run_bind, run_underlying hd]
    cases d <;> first | rfl | simp at ha
  unfold loadVar
  simp only [Sem.run_bind]
  rw [this]
  show (load ⟨b, off, none⟩).run P W = _
  exact run_load hb hv

theorem run_loadVarN {t : TypeId} {b off n : Nat} {c : Array Value} {T : TypeId} {fr : Nat × Nat} (ha : isAggB P t = true) (hs : sizeB P t = some n)
    (hb : W.heap[b]? = some (.cells c T fr)) (hlen : off + n ≤ c.size) : (loadVar t ⟨b, off, none⟩).run P W = .ok (.agg ((c.toList.drop off).take n).toArray) W := by
  have : (isAgg t).run P W = .ok true W := by
    unfold isAggB at ha
    cases hd : P.underlying t with
    | none => rw [hd] at ha; simp at ha
    | some d =>
      rw [hd] at ha
      unfold isAgg
      simp only [Sem.run_bind, run_underlying hd]
      cases d <;> first | rfl | simp at ha
  unfold loadVar
  simp only [Sem.run_bind]
  rw [this]
  show ((sizeOf t).bind fun x => (loadCells ⟨b, off, none⟩ x).bind fun y => Sem.pure (Value.agg y)).run P W = _
  rw [Sem.run_bind', run_sizeOf hs]
  show ((loadCells ⟨b, off, none⟩ n).bind fun y => Sem.pure (Value.agg y)).run P W = _
  rw [Sem.run_bind']
  unfold loadCells
  rw [run_loadCellsFrom hb n 0 #[] (by omega)]
  simp [Result.andThen, Sem.run]

/-- A one-cell variable is read. -/
theorem r_load1 {t : TypeId} {b off : Nat} {c : Array Value} {T : TypeId} {fr : Nat × Nat} {v : Value} (ha : isAggB P t = false) (hs : (P.underlying t).isSome = true) (h : S w0 Γ W)
    (hb : Knows Γ b (.cells c T fr)) (hv : c[off]? = some v) (hk : k v W) : oR P (Instr.loadAt t (.pointer (some ⟨b, off, none⟩))) k W :=
  ⟨v, run_loadVar1 ha hs (hb.get h) hv, hk⟩
theorem r_loadN {t : TypeId} {b off n : Nat} {c : Array Value} {T : TypeId} {fr : Nat × Nat} (ha : isAggB P t = true) (hs : sizeB P t = some n) (h : S w0 Γ W)
    (hb : Knows Γ b (.cells c T fr)) (hlen : off + n ≤ c.size) (hk : k (.agg ((c.toList.drop off).take n).toArray) W) : oR P (Instr.loadAt t (.pointer (some ⟨b, off, none⟩))) k W :=
  ⟨_, run_loadVarN ha hs (hb.get h) hlen, hk⟩
theorem r_res1 {t : TypeId} {b off : Nat} {c : Array Value} {T : TypeId} {fr : Nat × Nat} {v : Value} (ha : isAggB P t = false) (hs : (P.underlying t).isSome = true) (h : S w0 Γ W)
    (hb : Knows Γ b (.cells c T fr)) (hv : c[off]? = some v) (hk : k v W) : oR P (resSem t (.pointer (some ⟨b, off, none⟩))) k W :=
  ⟨v, run_loadVar1 ha hs (hb.get h) hv, hk⟩
theorem r_resN {t : TypeId} {b off n : Nat} {c : Array Value} {T : TypeId} {fr : Nat × Nat} (ha : isAggB P t = true) (hs : sizeB P t = some n) (h : S w0 Γ W)
    (hb : Knows Γ b (.cells c T fr)) (hlen : off + n ≤ c.size) (hk : k (.agg ((c.toList.drop off).take n).toArray) W) : oR P (resSem t (.pointer (some ⟨b, off, none⟩))) k W :=
  ⟨_, run_loadVarN ha hs (hb.get h) hlen, hk⟩

theorem Take.knows {b : Nat} {o : Obj} (t : Take (pts b o) Γ Γ') : Knows Γ b o := fun _ _ hh => let ⟨_, _, h1, _⟩ := t.hold hh; h1.1

theorem r_box {t : TypeId} {v : Value} (h : S w0 Γ W) (hk : ∀ b W', S w0 (pts b (.cells v.cells t (0, 0)) :: Γ) W' → k (.pointer (some ⟨b, 0, none⟩)) W') : oV P E (Instr.box t v) k W :=
  hk _ _ (h.alloc _)
theorem r_alloc {t : TypeId} {z : Value} (hz : zeroB P t = some z) (h : S w0 Γ W) (hk : ∀ b W', S w0 (pts b (.cells z.cells t (0, 0)) :: Γ) W' → k (.pointer (some ⟨b, 0, none⟩)) W') :
    oV P E (Instr.alloc t true (.tuple #[])) k W := by
  have : (Instr.alloc t true (.tuple #[])).run P W = .ok (.pointer (some ⟨W.heap.size, 0, none⟩)) (W.alloc (.cells z.cells t (0, 0))) := by
    unfold Instr.alloc
    simp only [Sem.run_bind, run_zeroValue hz]
    rfl
  rw [oV_run this]
  exact hk _ _ (h.alloc _)

/-- a row of cells, some of them anew -/
def putL (c : List Value) (off : Nat) (l : List Value) : List Value := c.take off ++ l ++ c.drop (off + l.length)

theorem run_storeCells {b off : Nat} {T : TypeId} : ∀ (l : List Value) (i : Nat) {c : Array Value} {W : World} {Γ : List Chunk}, S w0 (pts b (.cells c T (0, 0)) :: Γ) W → off + i + l.length ≤ c.size → l.all Value.oneCell' = true →
    ∃ W', (storeCells ⟨b, off, none⟩ l i).run P W = .ok () W' ∧ S w0 (pts b (.cells (putL c.toList (off + i) l).toArray T (0, 0)) :: Γ) W'
  | [], i, c, W, Γ, h, hl, _ => ⟨W, rfl, by
      have : putL c.toList (off + i) [] = c.toList := by simp [putL]
      rw [this]
      exact h⟩
  | v :: l, i, c, W, Γ, h, hl, ho => by
    simp only [List.all_cons, Bool.and_eq_true] at ho
    simp only [List.length_cons] at hl
    have hlt : off + i < c.size := by omega
    have hb := (Knows.head (b := b) (o := .cells c T (0, 0)) (Γ := Γ)).get h
    have hc : W.cell? ⟨b, off + i, none⟩ = some c[off + i] := by simp [World.cell?, hb, hlt]
    have hf : W.frozen? ⟨b, off + i, none⟩ = false := by simp [World.frozen?, hb]
    have h1 : (store ⟨b, off + i, none⟩ v).run P W = .ok () (W.setCell ⟨b, off + i, none⟩ v) := by
      unfold store
      have := ho.1
      cases v <;> first | (simp [Value.oneCell'] at this; done) | simp [Sem.run, hc, hf]
    obtain ⟨W', h2, h3⟩ := run_storeCells (off := off) l (i + 1) (h.setCell (off := off + i) v) (by simp; omega) ho.2
    refine ⟨W', ?_, ?_⟩
    · unfold storeCells
      simp only [Sem.run_bind]
      rw [addr_add, h1]
      exact h2
    · have e : putL (c.setIfInBounds (off + i) v).toList (off + (i + 1)) l = putL c.toList (off + i) (v :: l) := by
        unfold putL
        have e1 : (c.setIfInBounds (off + i) v).toList = c.toList.set (off + i) v := by simp
        rw [e1]
        have hlt' : off + i < c.toList.length := by simpa using hlt
        rw [← Nat.add_assoc, List.take_set, List.drop_set_of_lt (by omega)]
        rw [List.take_succ_eq_append_getElem hlt', List.set_append_right _ _ (by simp; omega)]
        have : off + i - (c.toList.take (off + i)).length = 0 := by simp; omega
        rw [this]
        simp [Nat.add_assoc, Nat.add_comm 1]
      rw [e] at h3
      exact h3

theorem r_store {t : TypeId} {b off n : Nat} {c : Array Value} {T : TypeId} {v : Value} (hs : sizeB P t = some n) (h : S w0 Γ W) (tk : Take (pts b (.cells c T (0, 0))) Γ Γ')
    (hv : v.cells.size = n) (ho : v.cells.toList.all Value.oneCell' = true) (hlen : off + n ≤ c.size)
    (hk : ∀ W', S w0 (pts b (.cells (putL c.toList off v.cells.toList).toArray T (0, 0)) :: Γ') W' → k undef W') : oS P E (Instr.storeAt t (.pointer (some ⟨b, off, none⟩)) v) k W := by
  obtain ⟨W', h1, h2⟩ := run_storeCells (P := P) (off := off) v.cells.toList 0 (h.take tk) (by simp [hv]; omega) ho
  have : (Instr.storeAt t (.pointer (some ⟨b, off, none⟩)) v).run P W = .ok () W' := by
    unfold Instr.storeAt
    show (storeVar t ⟨b, off, none⟩ v).run P W = _
    unfold storeVar
    simp only [Sem.run_bind, run_sizeOf hs]
    show (if v.cells.size ≠ n then _ else _ : Sem Unit).run P W = _
    rw [if_neg (by simp [hv])]
    exact h1
  rw [oS_run this]
  exact hk _ h2
theorem run_asIntOf {q : IntKind} {i : Int} (w : World) : (asIntOf (.int q i)).run P w = .ok (q, i) w := rfl

theorem ix_slice {t e : TypeId} {n b off len cap : Nat} {i : Int} {q : IntKind} (hu : P.underlying t = some (.slice e)) (hs : sizeB P e = some n) (hi : 0 ≤ i ∧ i < len) :
    oP P (Instr.indexAt t (.slice (some ⟨b, off, none⟩) len cap) (.int q i)) k W = k (.pointer (some ⟨b, off + i.toNat * n, none⟩)) W :=
  oP_run fun w => by
    unfold Instr.indexAt
    simp only [Sem.run_bind, run_asIntOf, run_underlying hu, Result.andThen]
    simp [hi, run_sizeOf hs, addr_add, Sem.run, pure]

theorem ix_array {t e : TypeId} {n b off len : Nat} {i : Int} {q : IntKind} (hu : P.underlying t = some (.array len e)) (hs : sizeB P e = some n) (hi : 0 ≤ i ∧ i < len) :
    oP P (Instr.indexAt t (.pointer (some ⟨b, off, none⟩)) (.int q i)) k W = k (.pointer (some ⟨b, off + i.toNat * n, none⟩)) W :=
  oP_run fun w => by
    unfold Instr.indexAt
    simp only [Sem.run_bind, run_asIntOf, run_underlying hu, Result.andThen]
    simp [hi, run_sizeOf hs, addr_add, Sem.run, pure, Instr.sureAddr]
/- the words with memory, their types' facts within -/
def oLd1 (P : Program) (t : TypeId) (p : Value) (k : Value → World → Prop) (w : World) : Prop :=
  isAggB P t = false → (P.underlying t).isSome = true → oR P (Instr.loadAt t p) k w
def oLdN (P : Program) (t : TypeId) (n : Nat) (p : Value) (k : Value → World → Prop) (w : World) : Prop :=
  isAggB P t = true → sizeB P t = some n → oR P (Instr.loadAt t p) k w
def oRs1 (P : Program) (t : TypeId) (p : Value) (k : Value → World → Prop) (w : World) : Prop :=
  isAggB P t = false → (P.underlying t).isSome = true → oR P (resSem t p) k w
def oRsN (P : Program) (t : TypeId) (n : Nat) (p : Value) (k : Value → World → Prop) (w : World) : Prop :=
  isAggB P t = true → sizeB P t = some n → oR P (resSem t p) k w
def oSt (P : Program) (E : List PanicEntry → World → Prop) (t : TypeId) (n : Nat) (p v : Value) (k : Value → World → Prop) (w : World) : Prop :=
  sizeB P t = some n → oS P E (Instr.storeAt t p v) k w
def oAl (P : Program) (E : List PanicEntry → World → Prop) (t : TypeId) (z : Value) (k : Value → World → Prop) (w : World) : Prop :=
  zeroB P t = some z → oV P E (Instr.alloc t true (.tuple #[])) k w
def oBx (P : Program) (E : List PanicEntry → World → Prop) (t : TypeId) (v : Value) (k : Value → World → Prop) (w : World) : Prop :=
  oV P E (Instr.box t v) k w
/-- reads at a later world, one cell or more -/
def oRd1 (g : Bool) (P : Program) (t : TypeId) (p v : Value) (w : World) : Prop := isAggB P t = false → (P.underlying t).isSome = true → oRd g P (Instr.loadAt t p) v w
def oRdN (g : Bool) (P : Program) (t : TypeId) (n : Nat) (p v : Value) (w : World) : Prop := isAggB P t = true → sizeB P t = some n → oRd g P (Instr.loadAt t p) v w

theorem ld1_of {t : TypeId} {p : Value} (h : isAggB P t = false) (h' : (P.underlying t).isSome = true) : oR P (Instr.loadAt t p) k W = oLd1 P t p k W := by simp [oLd1, h, h']
theorem ldN_of {t : TypeId} {n : Nat} {p : Value} (h : isAggB P t = true) (h' : sizeB P t = some n) : oR P (Instr.loadAt t p) k W = oLdN P t n p k W := by simp [oLdN, h, h']
theorem rs1_of {t : TypeId} {p : Value} (h : isAggB P t = false) (h' : (P.underlying t).isSome = true) : oR P (resSem t p) k W = oRs1 P t p k W := by simp [oRs1, h, h']
theorem rsN_of {t : TypeId} {n : Nat} {p : Value} (h : isAggB P t = true) (h' : sizeB P t = some n) : oR P (resSem t p) k W = oRsN P t n p k W := by simp [oRsN, h, h']
theorem st_of {t : TypeId} {n : Nat} {p v : Value} (h : sizeB P t = some n) : oS P E (Instr.storeAt t p v) k W = oSt P E t n p v k W := by simp [oSt, h]
theorem al_of {t : TypeId} {z : Value} (h : zeroB P t = some z) : oV P E (Instr.alloc t true (.tuple #[])) k W = oAl P E t z k W := by simp [oAl, h]
theorem bx_of {t : TypeId} {v : Value} : oV P E (Instr.box t v) k W = oBx P E t v k W := rfl
theorem rd1_of {g : Bool} {t : TypeId} {p v : Value} (h : isAggB P t = false) (h' : (P.underlying t).isSome = true) : oRd g P (Instr.loadAt t p) v W = oRd1 g P t p v W := by simp [oRd1, h, h']
theorem rdN_of {g : Bool} {t : TypeId} {n : Nat} {p v : Value} (h : isAggB P t = true) (h' : sizeB P t = some n) : oRd g P (Instr.loadAt t p) v W = oRdN g P t n p v W := by simp [oRdN, h, h']

theorem u_ld1 {t : TypeId} {b off : Nat} {c : Array Value} {T : TypeId} {fr : Nat × Nat} {v : Value} (h : S w0 Γ W)
    (hb : Knows Γ b (.cells c T fr)) (hv : c.toList[off]? = some v) (hk : k v W) : oLd1 P t (.pointer (some ⟨b, off, none⟩)) k W := fun f f' => r_load1 f f' h hb (by simpa using hv) hk
theorem u_ldN {t : TypeId} {b off n : Nat} {c : Array Value} {T : TypeId} {fr : Nat × Nat} (h : S w0 Γ W)
    (hb : Knows Γ b (.cells c T fr)) (hlen : off + n ≤ c.size) (hk : k (.agg ((c.toList.drop off).take n).toArray) W) : oLdN P t n (.pointer (some ⟨b, off, none⟩)) k W :=
  fun f f' => r_loadN f f' h hb hlen hk
theorem u_rs1 {t : TypeId} {b off : Nat} {c : Array Value} {T : TypeId} {fr : Nat × Nat} {v : Value} (h : S w0 Γ W)
    (hb : Knows Γ b (.cells c T fr)) (hv : c.toList[off]? = some v) (hk : k v W) : oRs1 P t (.pointer (some ⟨b, off, none⟩)) k W := fun f f' => r_res1 f f' h hb (by simpa using hv) hk
theorem u_rsN {t : TypeId} {b off n : Nat} {c : Array Value} {T : TypeId} {fr : Nat × Nat} (h : S w0 Γ W)
    (hb : Knows Γ b (.cells c T fr)) (hlen : off + n ≤ c.size) (hk : k (.agg ((c.toList.drop off).take n).toArray) W) : oRsN P t n (.pointer (some ⟨b, off, none⟩)) k W :=
  fun f f' => r_resN f f' h hb hlen hk
theorem u_st {t : TypeId} {b off n : Nat} {c : Array Value} {T : TypeId} {v : Value} (h : S w0 Γ W) (tk : Take (pts b (.cells c T (0, 0))) Γ Γ')
    (hv : v.cells.size = n) (ho : v.cells.toList.all Value.oneCell' = true) (hlen : off + n ≤ c.size)
    (hk : ∀ W', S w0 (pts b (.cells (putL c.toList off v.cells.toList).toArray T (0, 0)) :: Γ') W' → k undef W') : oSt P E t n (.pointer (some ⟨b, off, none⟩)) v k W :=
  fun f => r_store f h tk hv ho hlen hk
theorem u_bx {t : TypeId} {v : Value} (h : S w0 Γ W) (hk : ∀ b W', S w0 (pts b (.cells v.cells t (0, 0)) :: Γ) W' → k (.pointer (some ⟨b, 0, none⟩)) W') : oBx P E t v k W := r_box h hk
theorem u_al {t : TypeId} {z : Value} (h : S w0 Γ W) (hk : ∀ b W', S w0 (pts b (.cells z.cells t (0, 0)) :: Γ) W' → k (.pointer (some ⟨b, 0, none⟩)) W') : oAl P E t z k W :=
  fun f => r_alloc f h hk
theorem u_rd1 {g : Bool} {t : TypeId} {b off : Nat} {c : Array Value} {T : TypeId} {fr : Nat × Nat} {v : Value} (h : S w0 Γ W)
    (hb : Knows Γ b (.cells c T fr)) (hv : c.toList[off]? = some v) : oRd1 g P t (.pointer (some ⟨b, off, none⟩)) v W := fun f f' _ => run_loadVar1 f f' (hb.get h) (by simpa using hv)
theorem u_rdN {g : Bool} {t : TypeId} {b off n : Nat} {c : Array Value} {T : TypeId} {fr : Nat × Nat} {v : Value} (h : S w0 Γ W)
    (hb : Knows Γ b (.cells c T fr)) (hlen : off + n ≤ c.size) (hv : v = .agg ((c.toList.drop off).take n).toArray) : oRdN g P t n (.pointer (some ⟨b, off, none⟩)) v W :=
  fun f f' _ => by rw [hv]; exact run_loadVarN f f' (hb.get h) hlen

theorem u_draw {F : World → Prop} (h : S w0 Γ W) (hk : ∀ W', S w0 Γ W' → F W') : oDraw F W := hk _ h.drew

theorem oCond_split {b : Bool} {A B : Prop} (h1 : b = true → A) (h2 : b = false → B) : oCond (.bool b) A B := by
  cases b
  · exact h2 rfl
  · exact h1 rfl
theorem oGk_split {b : Bool} {want : Bool} {F : (Value → World → Prop) → World → Prop} (h1 : b = want → F k W) (h2 : b = (!want) → k undef W) : oGk (gb want (.bool b)) F k W := by
  cases b <;> cases want <;> first | exact h1 rfl | exact h2 rfl
theorem oJoin_inl {σ : Type} {f : (σ → World → Prop) → Prop} {g : Env → σ → World → Prop} (h : f (fun s w => ∀ j, g j s w)) : oJoin f g := ⟨_, h, fun j _ _ hg => hg j⟩
theorem all_env {p : Prop} : (∀ _ : Env, p) = p := by simp

theorem cells_agg {cs : Array Value} : (Value.agg cs).cells = cs := rfl
theorem cells_int {q : IntKind} {n : Int} : (Value.int q n).cells = #[.int q n] := rfl
theorem cells_bool {b : Bool} : (Value.bool b).cells = #[.bool b] := rfl
theorem cells_ptr {a : Option Addr} : (Value.pointer a).cells = #[.pointer a] := rfl
theorem cells_slice {a : Option Addr} {l c : Nat} : (Value.slice a l c).cells = #[.slice a l c] := rfl
theorem cells_map {a : Option Nat} : (Value.map a).cells = #[.map a] := rfl
theorem cells_str {s : ByteArray} : (Value.string s).cells = #[.string s] := rfl

/- a rewrite looks at a word's own operands, and not behind it -/
theorem oP_c {s s' : Sem Value} (h : s = s') : oP P s k W = oP P s' k W := by rw [h]
theorem oR_c {s s' : Sem Value} (h : s = s') : oR P s k W = oR P s' k W := by rw [h]
theorem oV_c {s s' : Sem Value} (h : s = s') : oV P E s k W = oV P E s' k W := by rw [h]
theorem oS_c {s s' : Sem Unit} (h : s = s') : oS P E s k W = oS P E s' k W := by rw [h]
theorem oX_c {s s' : Sem Next} (h : s = s') : oX P E s k W = oX P E s' k W := by rw [h]
theorem oC_c {f : FuncId} {a a' : Array Value} (h : a = a') : oC P E f a k W = oC P E f a' k W := by rw [h]
theorem oCV_c {f f' : Value} {a a' : Array Value} (h : f = f') (h' : a = a') : oCV P E f a k W = oCV P E f' a' k W := by rw [h, h']
theorem oCond_c {v v' : Value} {A B : Prop} (h : v = v') : oCond v A B = oCond v' A B := by rw [h]
theorem oGk_c {g g' : Bool} {F : (Value → World → Prop) → World → Prop} (h : g = g') : oGk g F k W = oGk g' F k W := by rw [h]
theorem oPick_c {c c' a a' b b' : Value} (h : c = c') (h2 : a = a') (h3 : b = b') : oPick c a b k W = oPick c' a' b' k W := by rw [h, h2, h3]
theorem oNil_c {c c' : Value} (h : c = c') : oNil c k W = oNil c' k W := by rw [h]
theorem oLd1_c {t : TypeId} {p p' : Value} (h : p = p') : oLd1 P t p k W = oLd1 P t p' k W := by rw [h]
theorem oLdN_c {t : TypeId} {n : Nat} {p p' : Value} (h : p = p') : oLdN P t n p k W = oLdN P t n p' k W := by rw [h]
theorem oRs1_c {t : TypeId} {p p' : Value} (h : p = p') : oRs1 P t p k W = oRs1 P t p' k W := by rw [h]
theorem oRsN_c {t : TypeId} {n : Nat} {p p' : Value} (h : p = p') : oRsN P t n p k W = oRsN P t n p' k W := by rw [h]
theorem oSt_c {t : TypeId} {n : Nat} {p p' v v' : Value} (h : p = p') (h' : v = v') : oSt P E t n p v k W = oSt P E t n p' v' k W := by rw [h, h']
theorem oAl_c {t : TypeId} {z : Value} : oAl P E t z k W = oAl P E t z k W := rfl
theorem oBx_c {t : TypeId} {v v' : Value} (h : v = v') : oBx P E t v k W = oBx P E t v' k W := by rw [h]
theorem oLoop_c {σ : Type} {body : Env → σ → (σ → World → Prop) → World → Prop} {s s' : σ} {w : World} (h : s = s') : oLoop body s w = oLoop body s' w := by rw [h]
theorem oDraw_c {F : World → Prop} : oDraw F W = oDraw F W := rfl
theorem oJoin_c {σ : Type} {f : (σ → World → Prop) → Prop} {g : Env → σ → World → Prop} : oJoin f g = oJoin f g := rfl
end

attribute [congr] oP_c oR_c oV_c oS_c oX_c oC_c oCV_c oCond_c oGk_c oPick_c oNil_c oLd1_c oLdN_c oRs1_c oRsN_c oSt_c oAl_c oBx_c oLoop_c oDraw_c oJoin_c

end Go.Hw
