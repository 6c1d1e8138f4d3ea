/- RevokeTells. -/
import Derived.Test.YtpghhaobcikdhaaC7
namespace Go.Proofs.Ytpghhaobcikdhaa
open Go Go.Hw
set_option linter.unusedSimpArgs false
set_option linter.unusedVariables false
set_option maxRecDepth 100000

def MInts (es : List (Cap × Value × Nat)) : Prop := (es.map (·.1)).Nodup ∧ ∀ e ∈ es, ∃ n : Int, e.2.1 = .int .i64 n
theorem MInts.get {es : List (Cap × Value × Nat)} (h : MInts es) (k : Cap) : ∃ n : Int, (mGet k es).getD (.int .i64 0) = .int .i64 n := by
  unfold mGet
  cases hf : es.find? fun e => decide (k = e.1) with
  | none => exact ⟨0, rfl⟩
  | some e => exact h.2 e (List.mem_of_find?_eq_some hf)
theorem MInts.store {es : List (Cap × Value × Nat)} (h : MInts es) (i : Nat) (n : Int) : MInts (es.modify i fun e => (e.1, .int .i64 n, e.2.2)) := by
  have e1 : (es.modify i fun e => (e.1, Value.int .i64 n, e.2.2)).map (·.1) = es.map (·.1) := by
    apply List.ext_getElem?
    intro x
    simp only [List.getElem?_map, List.getElem?_modify]
    by_cases hx : i = x
    · subst hx
      cases es[i]? <;> simp
    · simp [hx]
  refine ⟨by rw [e1]; exact h.1, fun e he => ?_⟩
  obtain ⟨x, hx⟩ := List.getElem?_of_mem he
  rw [List.getElem?_modify] at hx
  cases hq : es[x]? with
  | none => rw [hq] at hx; cases hx
  | some q =>
    rw [hq] at hx
    simp only [Option.map_eq_map, Option.map_some, Option.some.injEq] at hx
    split at hx
    · exact ⟨n, by rw [← hx]⟩
    · rw [← hx]; exact h.2 q (List.mem_of_getElem? hq)

theorem capsS_snoc {v : Value} {l : List Cap} {p : Cap} : slc T_api_Cap 6 v (l.length + 1) (l.flatMap Cap.cells ++ p.cells) = capsS v (l ++ [p]) := by
  unfold capsS
  rw [List.flatMap_append, List.length_append]
  simp
theorem capsS_append {v : Value} {l m : List Cap} : slc T_api_Cap 6 v (l.length + m.length) (l.flatMap Cap.cells ++ m.flatMap Cap.cells) = capsS v (l ++ m) := by
  unfold capsS
  rw [List.flatMap_append, List.length_append]
theorem capsCells_one (l : List Cap) : (l.flatMap Cap.cells).all Value.oneCell' = true := by
  induction l with
  | nil => rfl
  | cons c l ih => rw [List.flatMap_cons, List.all_append, ih]; rfl

section
variable {w0 : World} {Γ Γ' : List Chunk} {W : World} {c s t k : Nat} {X : Caps}

theorem Run.ts_len {st : St} {way : List Slot} {a : Slot} {r : Out} (h : Run st way a r) (hok : st.X.Ok) (w : Way st.X way a) (hn : 0 ≤ st.n) : (r.st.ts.length : Int) + r.st.n ≤ st.ts.length + st.n ∧ 0 ≤ r.st.n :=
  (h.keeps2 (J := fun s => (s.ts.length : Int) + s.n ≤ st.ts.length + st.n ∧ 0 ≤ s.n) (fun s v hok hv hz hj => by
    rw [St.step_ts hv, St.step_n, List.length_append]
    have : (if s.X.final v = true then [s.X.s.cap v] else []).length ≤ 1 := by split <;> simp
    omega) hok w ⟨by omega, hn⟩).1

theorem row_cell {l r : List Value} {o m j : Nat} (h : (l.drop o).take m = r) (hj : j < m) : l[o + j]? = r[j]? := by
  rw [← h, List.getElem?_take, if_pos hj, List.getElem?_drop]
theorem told_succ {ts : List Cap} {q : Nat} (hq : q < ts.length) (k o : Int) : Told (ts.take (q + 1)) k o = Told (ts.take q) k o + if ts[q].kind = k ∧ ts[q].object = o then 1 else 0 := by
  rw [List.take_succ_eq_append_getElem hq, told_append]
  congr 1
  unfold Told
  by_cases h : ts[q].kind = k ∧ ts[q].object = o
  · rw [if_pos h]; simp [h.1, h.2]
  · rw [if_neg h]
    have : (ts[q].kind == k && ts[q].object == o) = false := by
      rw [Bool.eq_false_iff]
      simpa using h
    simp [this]

theorem steps_nat5 (x : Int) : ∃ st : Nat, 1 ≤ st ∧ st ≤ 5 ∧ IntKind.i64.wrap (1 + IntKind.i64.wrap ((IntKind.u64.wrap x).tmod 5)) = (st : Int) := by
  have hb := modI_bound x (m := 5) (by omega)
  unfold modI at hb
  refine ⟨(1 + (IntKind.u64.wrap x).tmod 5).toNat, by omega, by omega, ?_⟩
  rw [wrap_i64 (n := (IntKind.u64.wrap x).tmod 5) (by omega), wrap_i64 (by omega)]
  omega

set_option maxHeartbeats 2000000 in
theorem lRevokeTells {x : Value} {l : List Act} {a : Slot} {steps : Int} {all : Bool} (hx : Rd w0 19 Act.cells x l) (h : S w0 (init w0 :: Γ) W) :
    Calls Try.prog F_donjonlaw11_RevokeTells #[x, slotV a, .int .i64 steps, .bool all] W (Ret fun v W' => v = .bool true ∧ S w0 (init w0 :: Γ) W') := by
  refine c_donjonlaw11_RevokeTells ?_
  unfold h_donjonlaw11_RevokeTells slotV
  repeat (first
    | simp only [↓cv3_54, ↓cv54_3, ↓fa63_0, ↓fa60_0, ↓ld58, ↓rd58, ↓ld66, ↓rd66, ↓al68, ↓st68, ↓fa68_0, ↓ld3, ↓rd3, ↓len72, ↓ia72, ↓fa68_1, ↓bd68_0_1, ↓ld68, ↓rd68, ↓bs69_1_0, ↓ap69, ↓len69, ↓ia69, ↓eqneq4_bfalse, ↓GG, NN, Nat.reduceAdd]
    | refine a_ld1 h ?_
    | refine a_ldN h ?_
    | refine a_rs1 h ?_
    | refine a_rsN h ?_
    | (refine u_draw h ?_; clear h; intro W h)
    | refine a_rd1 h ?_
    | refine a_rdN h ?_
    | (refine u_nr h ?_; clear h; intro b W h)
    | (refine u_bx h ?_; clear h; intro b W h)
    | (refine u_al h ?_; clear h; intro b W h)
    | (refine a_st h ?_; clear h; intro W h))
  obtain ⟨pb, hpb⟩ : ∃ x, x = b := ⟨_, rfl⟩
  subst hpb
  refine r_call (lWorks h) ?_
  clear h
  rintro v W ⟨rfl, h⟩
  repeat (first
    | simp only [↓cv3_54, ↓cv54_3, ↓fa63_0, ↓fa60_0, ↓ld58, ↓rd58, ↓ld66, ↓rd66, ↓al68, ↓st68, ↓fa68_0, ↓ld3, ↓rd3, ↓len72, ↓ia72, ↓fa68_1, ↓bd68_0_1, ↓ld68, ↓rd68, ↓bs69_1_0, ↓ap69, ↓len69, ↓ia69, ↓eqneq4_bfalse, ↓GG, NN, Nat.reduceAdd]
    | refine a_ld1 h ?_
    | refine a_ldN h ?_
    | refine a_rs1 h ?_
    | refine a_rsN h ?_
    | (refine u_draw h ?_; clear h; intro W h)
    | refine a_rd1 h ?_
    | refine a_rdN h ?_
    | (refine u_nr h ?_; clear h; intro b W h)
    | (refine u_bx h ?_; clear h; intro b W h)
    | (refine u_al h ?_; clear h; intro b W h)
    | (refine a_st h ?_; clear h; intro W h))
  refine r_call (lMade hx h.takeA) ?_
  clear h
  rintro v W ⟨c, rfl, h⟩
  repeat (first
    | simp only [↓cv3_54, ↓cv54_3, ↓fa63_0, ↓fa60_0, ↓ld58, ↓rd58, ↓ld66, ↓rd66, ↓al68, ↓st68, ↓fa68_0, ↓ld3, ↓rd3, ↓len72, ↓ia72, ↓fa68_1, ↓bd68_0_1, ↓ld68, ↓rd68, ↓bs69_1_0, ↓ap69, ↓len69, ↓ia69, ↓eqneq4_bfalse, ↓GG, NN, Nat.reduceAdd]
    | refine a_ld1 h ?_
    | refine a_ldN h ?_
    | refine a_rs1 h ?_
    | refine a_rsN h ?_
    | (refine u_draw h ?_; clear h; intro W h)
    | refine a_rd1 h ?_
    | refine a_rdN h ?_
    | (refine u_nr h ?_; clear h; intro b W h)
    | (refine u_bx h ?_; clear h; intro b W h)
    | (refine u_al h ?_; clear h; intro b W h)
    | (refine a_st h ?_; clear h; intro W h))
  refine r_call (lMade hx h.takeA) ?_
  clear h
  rintro v W ⟨c', rfl, h⟩
  obtain ⟨hX, hX3⟩ := madeX_inv l
  obtain ⟨X, hXe⟩ : ∃ X, X = madeX l := ⟨_, rfl⟩
  rw [← hXe] at h hX hX3
  obtain ⟨st, hst1, hst5, hst⟩ := steps_nat5 steps
  obtain ⟨Δ, hΔ, h'⟩ := S.frame (c := capsC c X) h (.tail (.tail .head))
  clear h
  have h := h'
  clear h'
  have kpb : Knows Δ pb (.cells #[.int .i64 a.1, .int .i64 a.2] 66 (0, 0)) := by rw [← hΔ]; exact Take.knows (by repeat (first | exact Take.head | apply Take.tail))
  repeat (first
    | simp only [↓cv3_54, ↓cv54_3, ↓fa63_0, ↓fa60_0, ↓ld58, ↓rd58, ↓ld66, ↓rd66, ↓al68, ↓st68, ↓fa68_0, ↓ld3, ↓rd3, ↓len72, ↓ia72, ↓fa68_1, ↓bd68_0_1, ↓ld68, ↓rd68, ↓bs69_1_0, ↓ap69, ↓len69, ↓ia69, ↓eqneq4_bfalse, ↓GG, NN, Nat.reduceAdd]
    | rw [b_rem (by decide)]
    | refine a_ld1 h ?_
    | refine a_ldN h ?_
    | refine a_rs1 h ?_
    | refine a_rsN h ?_
    | (refine u_draw h ?_; clear h; intro W h)
    | refine a_rd1 h ?_
    | refine a_rdN h ?_
    | (refine u_nr h ?_; clear h; intro b W h)
    | (refine u_bx h ?_; clear h; intro b W h)
    | (refine u_al h ?_; clear h; intro b W h)
    | (refine a_st h ?_; clear h; intro W h))
  rw [hst]
  repeat (first
    | simp only [↓cv3_54, ↓cv54_3, ↓fa63_0, ↓fa60_0, ↓ld58, ↓rd58, ↓ld66, ↓rd66, ↓al68, ↓st68, ↓fa68_0, ↓ld3, ↓rd3, ↓len72, ↓ia72, ↓fa68_1, ↓bd68_0_1, ↓ld68, ↓rd68, ↓bs69_1_0, ↓ap69, ↓len69, ↓ia69, ↓eqneq4_bfalse, ↓GG, NN, Nat.reduceAdd]
    | refine a_ld1 h ?_
    | refine a_ldN h ?_
    | refine a_rs1 h ?_
    | refine a_rsN h ?_
    | (refine u_draw h ?_; clear h; intro W h)
    | refine a_rd1 h ?_
    | refine a_rdN h ?_
    | (refine u_nr h ?_; clear h; intro b W h)
    | (refine u_bx h ?_; clear h; intro b W h)
    | (refine u_al h ?_; clear h; intro b W h)
    | (refine a_st h ?_; clear h; intro W h))
  refine u_join (fun v w => ∃ k, v = (.pointer (some ⟨k, 0, none⟩), .int .i64 (X.s.geta a).2) ∧ S w0 (pts k (.cells (X.s.geta a).1.cells.toArray 68 (0, 0)) :: capsC c X :: Δ) w) ?_ ?_
  · obtain ⟨s, t, h'⟩ := caps_open h
    clear h
    have h := h'
    clear h'
    repeat (first
    | simp only [↓cv3_54, ↓cv54_3, ↓fa63_0, ↓fa60_0, ↓ld58, ↓rd58, ↓ld66, ↓rd66, ↓al68, ↓st68, ↓fa68_0, ↓ld3, ↓rd3, ↓len72, ↓ia72, ↓fa68_1, ↓bd68_0_1, ↓ld68, ↓rd68, ↓bs69_1_0, ↓ap69, ↓len69, ↓ia69, ↓eqneq4_bfalse, ↓GG, NN, Nat.reduceAdd]
    | refine a_ld1 h ?_
    | refine a_ldN h ?_
    | refine a_rs1 h ?_
    | refine a_rsN h ?_
    | (refine u_draw h ?_; clear h; intro W h)
    | refine a_rd1 h ?_
    | refine a_rdN h ?_
    | (refine u_nr h ?_; clear h; intro b W h)
    | (refine u_bx h ?_; clear h; intro b W h)
    | (refine u_al h ?_; clear h; intro b W h)
    | (refine a_st h ?_; clear h; intro W h))
    constructor
    · repeat (first
    | simp only [↓cv3_54, ↓cv54_3, ↓fa63_0, ↓fa60_0, ↓ld58, ↓rd58, ↓ld66, ↓rd66, ↓al68, ↓st68, ↓fa68_0, ↓ld3, ↓rd3, ↓len72, ↓ia72, ↓fa68_1, ↓bd68_0_1, ↓ld68, ↓rd68, ↓bs69_1_0, ↓ap69, ↓len69, ↓ia69, ↓eqneq4_bfalse, ↓GG, NN, Nat.reduceAdd]
    | (refine u_ldN h (by repeat (first | exact kpb | apply Knows.tail)) (Nat.le_of_ble_eq_true rfl) ?_)
    | (refine And.intro (u_rdN h (by repeat (first | exact kpb | apply Knows.tail)) (Nat.le_of_ble_eq_true rfl) (by rfl)) ?_)
    | refine a_ld1 h ?_
    | refine a_ldN h ?_
    | refine a_rs1 h ?_
    | refine a_rsN h ?_
    | (refine u_draw h ?_; clear h; intro W h)
    | refine a_rd1 h ?_
    | refine a_rdN h ?_
    | (refine u_nr h ?_; clear h; intro b W h)
    | (refine u_bx h ?_; clear h; intro b W h)
    | (refine u_al h ?_; clear h; intro b W h)
    | (refine a_st h ?_; clear h; intro W h))
      refine r_call (sGet (at_ := a) h.takeA) ?_
      clear h
      rintro v W ⟨rfl, h⟩
      repeat (first
    | simp only [↓cv3_54, ↓cv54_3, ↓fa63_0, ↓fa60_0, ↓ld58, ↓rd58, ↓ld66, ↓rd66, ↓al68, ↓st68, ↓fa68_0, ↓ld3, ↓rd3, ↓len72, ↓ia72, ↓fa68_1, ↓bd68_0_1, ↓ld68, ↓rd68, ↓bs69_1_0, ↓ap69, ↓len69, ↓ia69, ↓eqneq4_bfalse, ↓GG, NN, Nat.reduceAdd]
    | refine a_ld1 h ?_
    | refine a_ldN h ?_
    | refine a_rs1 h ?_
    | refine a_rsN h ?_
    | (refine u_draw h ?_; clear h; intro W h)
    | refine a_rd1 h ?_
    | refine a_rdN h ?_
    | (refine u_nr h ?_; clear h; intro b W h)
    | (refine u_bx h ?_; clear h; intro b W h)
    | (refine u_al h ?_; clear h; intro b W h)
    | (refine a_st h ?_; clear h; intro W h))
      exact ⟨_, rfl, (S.get2 (c1 := pts _ (.cells (X.s.geta a).1.cells.toArray 68 (0, 0))) (c2 := capsC c X) (caps_shut h (by repeat (first | exact Take.head | apply Take.tail)) (by repeat (first | exact Take.head | apply Take.tail)) (by repeat (first | exact Take.head | apply Take.tail))) (by repeat (first | exact Take.head | apply Take.tail)) (by repeat (first | exact Take.head | apply Take.tail))).subA⟩
    · repeat (first
    | simp only [↓cv3_54, ↓cv54_3, ↓fa63_0, ↓fa60_0, ↓ld58, ↓rd58, ↓ld66, ↓rd66, ↓al68, ↓st68, ↓fa68_0, ↓ld3, ↓rd3, ↓len72, ↓ia72, ↓fa68_1, ↓bd68_0_1, ↓ld68, ↓rd68, ↓bs69_1_0, ↓ap69, ↓len69, ↓ia69, ↓eqneq4_bfalse, ↓GG, NN, Nat.reduceAdd]
    | (refine u_ldN h (by repeat (first | exact kpb | apply Knows.tail)) (Nat.le_of_ble_eq_true rfl) ?_)
    | (refine And.intro (u_rdN h (by repeat (first | exact kpb | apply Knows.tail)) (Nat.le_of_ble_eq_true rfl) (by rfl)) ?_)
    | refine a_ld1 h ?_
    | refine a_ldN h ?_
    | refine a_rs1 h ?_
    | refine a_rsN h ?_
    | (refine u_draw h ?_; clear h; intro W h)
    | refine a_rd1 h ?_
    | refine a_rdN h ?_
    | (refine u_nr h ?_; clear h; intro b W h)
    | (refine u_bx h ?_; clear h; intro b W h)
    | (refine u_al h ?_; clear h; intro b W h)
    | (refine a_st h ?_; clear h; intro W h))
      refine r_call (sGet (at_ := a) h.takeA) ?_
      clear h
      rintro v W ⟨rfl, h⟩
      repeat (first
    | simp only [↓cv3_54, ↓cv54_3, ↓fa63_0, ↓fa60_0, ↓ld58, ↓rd58, ↓ld66, ↓rd66, ↓al68, ↓st68, ↓fa68_0, ↓ld3, ↓rd3, ↓len72, ↓ia72, ↓fa68_1, ↓bd68_0_1, ↓ld68, ↓rd68, ↓bs69_1_0, ↓ap69, ↓len69, ↓ia69, ↓eqneq4_bfalse, ↓GG, NN, Nat.reduceAdd]
    | refine a_ld1 h ?_
    | refine a_ldN h ?_
    | refine a_rs1 h ?_
    | refine a_rsN h ?_
    | (refine u_draw h ?_; clear h; intro W h)
    | refine a_rd1 h ?_
    | refine a_rdN h ?_
    | (refine u_nr h ?_; clear h; intro b W h)
    | (refine u_bx h ?_; clear h; intro b W h)
    | (refine u_al h ?_; clear h; intro b W h)
    | (refine a_st h ?_; clear h; intro W h))
      exact ⟨_, rfl, (S.get2 (c1 := pts _ (.cells (X.s.geta a).1.cells.toArray 68 (0, 0))) (c2 := capsC c X) (caps_shut h (by repeat (first | exact Take.head | apply Take.tail)) (by repeat (first | exact Take.head | apply Take.tail)) (by repeat (first | exact Take.head | apply Take.tail))) (by repeat (first | exact Take.head | apply Take.tail)) (by repeat (first | exact Take.head | apply Take.tail))).subA⟩
  · clear h
    rintro j v W ⟨kb, rfl, h⟩
    simp only [Cap.cells] at h
    by_cases he : (X.s.geta a).2 = 0
    case neg =>
      have d1 : ((X.s.geta a).2 != 0) = true := by simp [he]
      repeat (first
    | simp only [d1, ↓cv3_54, ↓cv54_3, ↓fa63_0, ↓fa60_0, ↓ld58, ↓rd58, ↓ld66, ↓rd66, ↓al68, ↓st68, ↓fa68_0, ↓ld3, ↓rd3, ↓len72, ↓ia72, ↓fa68_1, ↓bd68_0_1, ↓ld68, ↓rd68, ↓bs69_1_0, ↓ap69, ↓len69, ↓ia69, ↓eqneq4_bfalse, ↓GG, NN, Nat.reduceAdd]
    | refine a_ld1 h ?_
    | refine a_ldN h ?_
    | refine a_rs1 h ?_
    | refine a_rsN h ?_
    | (refine u_draw h ?_; clear h; intro W h)
    | refine a_rd1 h ?_
    | refine a_rdN h ?_
    | (refine u_nr h ?_; clear h; intro b W h)
    | (refine u_bx h ?_; clear h; intro b W h)
    | (refine u_al h ?_; clear h; intro b W h)
    | (refine a_st h ?_; clear h; intro W h))
      subst hΔ
      exact ⟨rfl, h.subA⟩
    have d1 : ((X.s.geta a).2 != 0) = false := by simp [he]
    by_cases hk : (X.s.geta a).1.kind = 0
    · have d2 : ((X.s.geta a).1.kind == 0) = true := by simp [hk]
      repeat (first
    | simp only [d1, d2, ↓cv3_54, ↓cv54_3, ↓fa63_0, ↓fa60_0, ↓ld58, ↓rd58, ↓ld66, ↓rd66, ↓al68, ↓st68, ↓fa68_0, ↓ld3, ↓rd3, ↓len72, ↓ia72, ↓fa68_1, ↓bd68_0_1, ↓ld68, ↓rd68, ↓bs69_1_0, ↓ap69, ↓len69, ↓ia69, ↓eqneq4_bfalse, ↓GG, NN, Nat.reduceAdd]
    | refine a_ld1 h ?_
    | refine a_ldN h ?_
    | refine a_rs1 h ?_
    | refine a_rsN h ?_
    | (refine u_draw h ?_; clear h; intro W h)
    | refine a_rd1 h ?_
    | refine a_rdN h ?_
    | (refine u_nr h ?_; clear h; intro b W h)
    | (refine u_bx h ?_; clear h; intro b W h)
    | (refine u_al h ?_; clear h; intro b W h)
    | (refine a_st h ?_; clear h; intro W h))
      subst hΔ
      exact ⟨rfl, h.subA⟩
    have d2 : ((X.s.geta a).1.kind == 0) = false := by simp [hk]
    have hfa : X.s.fl a := hk
    obtain ⟨lk, hlk⟩ := Tree.kin_of hX.ok.t a
    obtain ⟨s, t, h'⟩ := caps_open (h.takeA (c := capsC c X))
    clear h
    have h := h'
    clear h'
    repeat (first
    | simp only [d1, d2, ↓cv3_54, ↓cv54_3, ↓fa63_0, ↓fa60_0, ↓ld58, ↓rd58, ↓ld66, ↓rd66, ↓al68, ↓st68, ↓fa68_0, ↓ld3, ↓rd3, ↓len72, ↓ia72, ↓fa68_1, ↓bd68_0_1, ↓ld68, ↓rd68, ↓bs69_1_0, ↓ap69, ↓len69, ↓ia69, ↓eqneq4_bfalse, ↓GG, NN, Nat.reduceAdd]
    | refine a_ld1 h ?_
    | refine a_ldN h ?_
    | refine a_rs1 h ?_
    | refine a_rsN h ?_
    | (refine u_draw h ?_; clear h; intro W h)
    | refine a_rd1 h ?_
    | refine a_rdN h ?_
    | (refine u_nr h ?_; clear h; intro b W h)
    | (refine u_bx h ?_; clear h; intro b W h)
    | (refine u_al h ?_; clear h; intro b W h)
    | (refine a_st h ?_; clear h; intro W h))
    refine r_call (Store_Full_spec (h.takeA (c := storeC s X.s))) ?_
    clear h
    intro v W h
    have hfa' : a ∈ X.s.full := (Store.full_iff hX.ok.s).2 hfa
    have hfull48 := three_len hX.ok.s hX3 (Store.full_nodup hX.ok.s.wf) fun y hy => (Store.full_iff hX.ok.s).1 hy
    obtain ⟨fg, fcap, fcur, rfl, h', hfs, hft⟩ := slc_pts (List.length_pos_of_mem hfa') h
    clear h
    have h := caps_shut (X := X) h' (by repeat (first | exact Take.head | apply Take.tail)) (by repeat (first | exact Take.head | apply Take.tail)) (by repeat (first | exact Take.head | apply Take.tail))
    clear h'
    refine r_makeMap (enc := Cap.v) h ?_
    clear h
    intro mp W h
    obtain ⟨Δ2, hΔ2, h'⟩ := S.frame2 (c1 := capsC c X) (c2 := pts mp (mapO Cap.v [] 0)) h
    clear h
    have h := h'
    clear h'
    have kfg : Knows Δ2 fg (.cells fcur T_api_Slot (0, 0)) := by rw [← hΔ2]; exact Take.knows (by repeat (first | exact Take.head | apply Take.tail))
    obtain ⟨ls, hls⟩ : ∃ ls, ls = X.s.full := ⟨_, rfl⟩
    rw [← hls] at hfs hft hfull48 ⊢
    refine u_loop (fun s' w => ∃ (i : Nat) (kv : Value) (ks : List Cap) (es : List (Cap × Value × Nat)) (clock : Nat), i ≤ ls.length ∧ ks.length ≤ i ∧ s' = (kv, .int .i64 i) ∧ MInts es ∧ (∀ κ ∈ ks, X.s.count κ.kind κ.object ≠ 0) ∧
      S w0 (capsS kv ks :: capsC c X :: pts mp (mapO Cap.v es clock) :: Δ2) w) (fun s' _ => ls.length - (vInt s'.2).toNat) ⟨0, _, [], [], 0, by omega, by simp, rfl, ⟨by simp, fun e he => (by cases he)⟩, fun κ hκ => (by cases hκ), S.nilSlice T_api_Cap 6 h⟩ ?_
    clear h
    rintro j iv W ⟨i, kv, ks, es, clock, hi, hki, hs, hmi, hks, h⟩
    cases hs
    by_cases hlt : i < ls.length
    · have d1' : decide ((i : Int) < (ls.length : Int)) = true := by simp; omega
      have hrow := row_at slotCells_len hft hfs hlt
      have hfi : X.s.fl ls[i] := (Store.full_iff hX.ok.s).1 (by rw [← hls]; exact List.getElem_mem hlt)
      repeat (first
    | simp only [d1', ↓cv3_54, ↓cv54_3, ↓fa63_0, ↓fa60_0, ↓ld58, ↓rd58, ↓ld66, ↓rd66, ↓al68, ↓st68, ↓fa68_0, ↓ld3, ↓rd3, ↓len72, ↓ia72, ↓fa68_1, ↓bd68_0_1, ↓ld68, ↓rd68, ↓bs69_1_0, ↓ap69, ↓len69, ↓ia69, ↓eqneq4_bfalse, ↓GG, NN, Nat.reduceAdd]
    | refine a_ld1 h ?_
    | refine a_ldN h ?_
    | refine a_rs1 h ?_
    | refine a_rsN h ?_
    | (refine u_draw h ?_; clear h; intro W h)
    | refine a_rd1 h ?_
    | refine a_rdN h ?_
    | (refine u_nr h ?_; clear h; intro b W h)
    | (refine u_bx h ?_; clear h; intro b W h)
    | (refine u_al h ?_; clear h; intro b W h)
    | (refine a_st h ?_; clear h; intro W h))
      refine u_join (fun v w => ∃ k, v = .pointer (some ⟨k, 0, none⟩) ∧ S w0 (pts k (.cells (X.s.geta ls[i]).1.cells.toArray 68 (0, 0)) :: capsS kv ks :: capsC c X :: pts mp (mapO Cap.v es clock) :: Δ2) w) ?_ ?_
      · obtain ⟨s, t, h'⟩ := caps_open (h.takeA (c := capsC c X))
        clear h
        have h := h'
        clear h'
        repeat (first
    | simp only [↓cv3_54, ↓cv54_3, ↓fa63_0, ↓fa60_0, ↓ld58, ↓rd58, ↓ld66, ↓rd66, ↓al68, ↓st68, ↓fa68_0, ↓ld3, ↓rd3, ↓len72, ↓ia72, ↓fa68_1, ↓bd68_0_1, ↓ld68, ↓rd68, ↓bs69_1_0, ↓ap69, ↓len69, ↓ia69, ↓eqneq4_bfalse, ↓GG, NN, Nat.reduceAdd]
    | refine a_ld1 h ?_
    | refine a_ldN h ?_
    | refine a_rs1 h ?_
    | refine a_rsN h ?_
    | (refine u_draw h ?_; clear h; intro W h)
    | refine a_rd1 h ?_
    | refine a_rdN h ?_
    | (refine u_nr h ?_; clear h; intro b W h)
    | (refine u_bx h ?_; clear h; intro b W h)
    | (refine u_al h ?_; clear h; intro b W h)
    | (refine a_st h ?_; clear h; intro W h))
        constructor
        · repeat (first
    | simp only [↓cv3_54, ↓cv54_3, ↓fa63_0, ↓fa60_0, ↓ld58, ↓rd58, ↓ld66, ↓rd66, ↓al68, ↓st68, ↓fa68_0, ↓ld3, ↓rd3, ↓len72, ↓ia72, ↓fa68_1, ↓bd68_0_1, ↓ld68, ↓rd68, ↓bs69_1_0, ↓ap69, ↓len69, ↓ia69, ↓eqneq4_bfalse, ↓GG, NN, Nat.reduceAdd]
    | rw [ia72 (by omega)]
    | (refine u_ldN h (by repeat (first | exact kfg | apply Knows.tail)) hrow.2 ?_; rw [hrow.1]; simp only [slotCells])
    | (refine And.intro (u_rdN h (by repeat (first | exact kfg | apply Knows.tail)) hrow.2 (by rw [hrow.1]; rfl)) ?_)
    | refine a_ld1 h ?_
    | refine a_ldN h ?_
    | refine a_rs1 h ?_
    | refine a_rsN h ?_
    | (refine u_draw h ?_; clear h; intro W h)
    | refine a_rd1 h ?_
    | refine a_rdN h ?_
    | (refine u_nr h ?_; clear h; intro b W h)
    | (refine u_bx h ?_; clear h; intro b W h)
    | (refine u_al h ?_; clear h; intro b W h)
    | (refine a_st h ?_; clear h; intro W h))
          refine r_call (sGet (at_ := ls[i]) h.takeA) ?_
          clear h
          rintro v W ⟨rfl, h⟩
          repeat (first
    | simp only [↓cv3_54, ↓cv54_3, ↓fa63_0, ↓fa60_0, ↓ld58, ↓rd58, ↓ld66, ↓rd66, ↓al68, ↓st68, ↓fa68_0, ↓ld3, ↓rd3, ↓len72, ↓ia72, ↓fa68_1, ↓bd68_0_1, ↓ld68, ↓rd68, ↓bs69_1_0, ↓ap69, ↓len69, ↓ia69, ↓eqneq4_bfalse, ↓GG, NN, Nat.reduceAdd]
    | refine a_ld1 h ?_
    | refine a_ldN h ?_
    | refine a_rs1 h ?_
    | refine a_rsN h ?_
    | (refine u_draw h ?_; clear h; intro W h)
    | refine a_rd1 h ?_
    | refine a_rdN h ?_
    | (refine u_nr h ?_; clear h; intro b W h)
    | (refine u_bx h ?_; clear h; intro b W h)
    | (refine u_al h ?_; clear h; intro b W h)
    | (refine a_st h ?_; clear h; intro W h))
          exact ⟨_, rfl, (S.get4 (c1 := pts _ (.cells (X.s.geta ls[i]).1.cells.toArray 68 (0, 0))) (c2 := capsS kv ks) (c3 := capsC c X) (c4 := pts mp (mapO Cap.v es clock)) (caps_shut h (by repeat (first | exact Take.head | apply Take.tail)) (by repeat (first | exact Take.head | apply Take.tail)) (by repeat (first | exact Take.head | apply Take.tail))) (by repeat (first | exact Take.head | apply Take.tail)) (by repeat (first | exact Take.head | apply Take.tail)) (by repeat (first | exact Take.head | apply Take.tail)) (by repeat (first | exact Take.head | apply Take.tail))).subA⟩
        · repeat (first
    | simp only [↓cv3_54, ↓cv54_3, ↓fa63_0, ↓fa60_0, ↓ld58, ↓rd58, ↓ld66, ↓rd66, ↓al68, ↓st68, ↓fa68_0, ↓ld3, ↓rd3, ↓len72, ↓ia72, ↓fa68_1, ↓bd68_0_1, ↓ld68, ↓rd68, ↓bs69_1_0, ↓ap69, ↓len69, ↓ia69, ↓eqneq4_bfalse, ↓GG, NN, Nat.reduceAdd]
    | rw [ia72 (by omega)]
    | (refine u_ldN h (by repeat (first | exact kfg | apply Knows.tail)) hrow.2 ?_; rw [hrow.1]; simp only [slotCells])
    | (refine And.intro (u_rdN h (by repeat (first | exact kfg | apply Knows.tail)) hrow.2 (by rw [hrow.1]; rfl)) ?_)
    | refine a_ld1 h ?_
    | refine a_ldN h ?_
    | refine a_rs1 h ?_
    | refine a_rsN h ?_
    | (refine u_draw h ?_; clear h; intro W h)
    | refine a_rd1 h ?_
    | refine a_rdN h ?_
    | (refine u_nr h ?_; clear h; intro b W h)
    | (refine u_bx h ?_; clear h; intro b W h)
    | (refine u_al h ?_; clear h; intro b W h)
    | (refine a_st h ?_; clear h; intro W h))
          refine r_call (sGet (at_ := ls[i]) h.takeA) ?_
          clear h
          rintro v W ⟨rfl, h⟩
          repeat (first
    | simp only [↓cv3_54, ↓cv54_3, ↓fa63_0, ↓fa60_0, ↓ld58, ↓rd58, ↓ld66, ↓rd66, ↓al68, ↓st68, ↓fa68_0, ↓ld3, ↓rd3, ↓len72, ↓ia72, ↓fa68_1, ↓bd68_0_1, ↓ld68, ↓rd68, ↓bs69_1_0, ↓ap69, ↓len69, ↓ia69, ↓eqneq4_bfalse, ↓GG, NN, Nat.reduceAdd]
    | refine a_ld1 h ?_
    | refine a_ldN h ?_
    | refine a_rs1 h ?_
    | refine a_rsN h ?_
    | (refine u_draw h ?_; clear h; intro W h)
    | refine a_rd1 h ?_
    | refine a_rdN h ?_
    | (refine u_nr h ?_; clear h; intro b W h)
    | (refine u_bx h ?_; clear h; intro b W h)
    | (refine u_al h ?_; clear h; intro b W h)
    | (refine a_st h ?_; clear h; intro W h))
          exact ⟨_, rfl, (S.get4 (c1 := pts _ (.cells (X.s.geta ls[i]).1.cells.toArray 68 (0, 0))) (c2 := capsS kv ks) (c3 := capsC c X) (c4 := pts mp (mapO Cap.v es clock)) (caps_shut h (by repeat (first | exact Take.head | apply Take.tail)) (by repeat (first | exact Take.head | apply Take.tail)) (by repeat (first | exact Take.head | apply Take.tail))) (by repeat (first | exact Take.head | apply Take.tail)) (by repeat (first | exact Take.head | apply Take.tail)) (by repeat (first | exact Take.head | apply Take.tail)) (by repeat (first | exact Take.head | apply Take.tail))).subA⟩
      · clear h
        rintro j v W ⟨k, rfl, h⟩
        simp only [Cap.cells] at h
        obtain ⟨κ, hκ⟩ : ∃ κ : Cap, κ = ⟨(X.s.geta ls[i]).1.kind, (X.s.geta ls[i]).1.object, 0, 0, 0, 0⟩ := ⟨_, rfl⟩
        have hcκ : X.s.count κ.kind κ.object ≠ 0 := by rw [hκ, Store.count_pos hX.ok.s]; exact ⟨ls[i], hfi, rfl, rfl⟩
        repeat (first
    | simp only [putL, List.length_cons, List.length_nil, List.nil_append, List.append_nil, List.cons_append, ↓cv3_54, ↓cv54_3, ↓fa63_0, ↓fa60_0, ↓ld58, ↓rd58, ↓ld66, ↓rd66, ↓al68, ↓st68, ↓fa68_0, ↓ld3, ↓rd3, ↓len72, ↓ia72, ↓fa68_1, ↓bd68_0_1, ↓ld68, ↓rd68, ↓bs69_1_0, ↓ap69, ↓len69, ↓ia69, ↓eqneq4_bfalse, ↓GG, NN, Nat.reduceAdd]
    | refine a_ld1 h ?_
    | refine a_ldN h ?_
    | refine a_rs1 h ?_
    | refine a_rsN h ?_
    | (refine u_draw h ?_; clear h; intro W h)
    | refine a_rd1 h ?_
    | refine a_rdN h ?_
    | (refine u_nr h ?_; clear h; intro b W h)
    | (refine u_bx h ?_; clear h; intro b W h)
    | (refine u_al h ?_; clear h; intro b W h)
    | (refine a_st h ?_; clear h; intro W h))
        obtain ⟨q, hq⟩ : ∃ q, q = b := ⟨_, rfl⟩
        subst hq
        have h2 : S w0 (pts q (.cells κ.cells.toArray 68 (0, 0)) :: capsS kv ks :: capsC c X :: pts mp (mapO Cap.v es clock) :: Δ2) W := by rw [hκ]; exact h.subA
        clear h
        have h := h2
        clear h2
        simp only [Cap.cells] at h
        refine u_join (fun v w => ∃ ks' : List Cap, ks'.length ≤ i + 1 ∧ (∀ κ ∈ ks', X.s.count κ.kind κ.object ≠ 0) ∧ S w0 (capsS v ks' :: pts q (.cells κ.cells.toArray 68 (0, 0)) :: capsC c X :: pts mp (mapO Cap.v es clock) :: Δ2) w) ?_ ?_
        · repeat (first
    | simp only [↓cv3_54, ↓cv54_3, ↓fa63_0, ↓fa60_0, ↓ld58, ↓rd58, ↓ld66, ↓rd66, ↓al68, ↓st68, ↓fa68_0, ↓ld3, ↓rd3, ↓len72, ↓ia72, ↓fa68_1, ↓bd68_0_1, ↓ld68, ↓rd68, ↓bs69_1_0, ↓ap69, ↓len69, ↓ia69, ↓eqneq4_bfalse, ↓GG, NN, Nat.reduceAdd]
    | refine a_ld1 h ?_
    | refine a_ldN h ?_
    | refine a_rs1 h ?_
    | refine a_rsN h ?_
    | (refine u_draw h ?_; clear h; intro W h)
    | refine a_rd1 h ?_
    | refine a_rdN h ?_
    | (refine u_nr h ?_; clear h; intro b W h)
    | (refine u_bx h ?_; clear h; intro b W h)
    | (refine u_al h ?_; clear h; intro b W h)
    | (refine a_st h ?_; clear h; intro W h))
          refine r_lookup (enc := Cap.v) keyC (by kernel_rfl) (by kernel_rfl : zeroB Try.prog 3 = some (.int .i64 0)) h (Take.knows (by repeat (first | exact Take.head | apply Take.tail))) κ ?_
          obtain ⟨n, hn⟩ := hmi.get κ
          rw [hn]
          by_cases hn0 : n = 0
          · have d3 : (n == 0) = true := by simp [hn0]
            repeat (first
    | simp only [d3, ↓cv3_54, ↓cv54_3, ↓fa63_0, ↓fa60_0, ↓ld58, ↓rd58, ↓ld66, ↓rd66, ↓al68, ↓st68, ↓fa68_0, ↓ld3, ↓rd3, ↓len72, ↓ia72, ↓fa68_1, ↓bd68_0_1, ↓ld68, ↓rd68, ↓bs69_1_0, ↓ap69, ↓len69, ↓ia69, ↓eqneq4_bfalse, ↓GG, NN, Nat.reduceAdd]
    | refine a_ld1 h ?_
    | refine a_ldN h ?_
    | refine a_rs1 h ?_
    | refine a_rsN h ?_
    | (refine u_draw h ?_; clear h; intro W h)
    | refine a_rd1 h ?_
    | refine a_rdN h ?_
    | (refine u_nr h ?_; clear h; intro b W h)
    | (refine u_bx h ?_; clear h; intro b W h)
    | (refine u_al h ?_; clear h; intro b W h)
    | (refine a_st h ?_; clear h; intro W h))
            refine u_ap h (e := T_api_Cap) (xs := ks.flatMap Cap.cells) (by repeat (first | exact Take.head | apply Take.tail)) (Take.knows (by repeat (first | exact Take.head | apply Take.tail))) (Nat.le_of_ble_eq_true rfl) (by rfl) (by omega) (by decide) ?_
            clear h
            intro v W h
            have h1 := h.takeA (c := slc T_api_Cap 6 v (ks.length + 1) (ks.flatMap Cap.cells ++ κ.cells))
            rw [capsS_snoc] at h1
            refine ⟨ks ++ [κ], by simp; omega, fun κ' hκ' => ?_, (S.get4 (c1 := capsS v (ks ++ [κ])) (c2 := pts q (.cells κ.cells.toArray 68 (0, 0))) (c3 := capsC c X) (c4 := pts mp (mapO Cap.v es clock)) h1 (by repeat (first | exact Take.head | apply Take.tail)) (by repeat (first | exact Take.head | apply Take.tail)) (by repeat (first | exact Take.head | apply Take.tail)) (by repeat (first | exact Take.head | apply Take.tail))).subA⟩
            rcases List.mem_append.1 hκ' with hm | hm
            · exact hks κ' hm
            · rw [List.mem_singleton.1 hm]; exact hcκ
          · have d3 : (n == 0) = false := by simp [hn0]
            repeat (first
    | simp only [d3, ↓cv3_54, ↓cv54_3, ↓fa63_0, ↓fa60_0, ↓ld58, ↓rd58, ↓ld66, ↓rd66, ↓al68, ↓st68, ↓fa68_0, ↓ld3, ↓rd3, ↓len72, ↓ia72, ↓fa68_1, ↓bd68_0_1, ↓ld68, ↓rd68, ↓bs69_1_0, ↓ap69, ↓len69, ↓ia69, ↓eqneq4_bfalse, ↓GG, NN, Nat.reduceAdd]
    | refine a_ld1 h ?_
    | refine a_ldN h ?_
    | refine a_rs1 h ?_
    | refine a_rsN h ?_
    | (refine u_draw h ?_; clear h; intro W h)
    | refine a_rd1 h ?_
    | refine a_rdN h ?_
    | (refine u_nr h ?_; clear h; intro b W h)
    | (refine u_bx h ?_; clear h; intro b W h)
    | (refine u_al h ?_; clear h; intro b W h)
    | (refine a_st h ?_; clear h; intro W h))
            exact ⟨ks, by omega, hks, (S.get4 (c1 := capsS kv ks) (c2 := pts q (.cells κ.cells.toArray 68 (0, 0))) (c3 := capsC c X) (c4 := pts mp (mapO Cap.v es clock)) h (by repeat (first | exact Take.head | apply Take.tail)) (by repeat (first | exact Take.head | apply Take.tail)) (by repeat (first | exact Take.head | apply Take.tail)) (by repeat (first | exact Take.head | apply Take.tail))).subA⟩
        · clear h
          rintro j v W ⟨ks', hl', hks', h⟩
          simp only [Cap.cells] at h
          repeat (first
    | simp only [↓cv3_54, ↓cv54_3, ↓fa63_0, ↓fa60_0, ↓ld58, ↓rd58, ↓ld66, ↓rd66, ↓al68, ↓st68, ↓fa68_0, ↓ld3, ↓rd3, ↓len72, ↓ia72, ↓fa68_1, ↓bd68_0_1, ↓ld68, ↓rd68, ↓bs69_1_0, ↓ap69, ↓len69, ↓ia69, ↓eqneq4_bfalse, ↓GG, NN, Nat.reduceAdd]
    | refine a_ld1 h ?_
    | refine a_ldN h ?_
    | refine a_rs1 h ?_
    | refine a_rsN h ?_
    | (refine u_draw h ?_; clear h; intro W h)
    | refine a_rd1 h ?_
    | refine a_rdN h ?_
    | (refine u_nr h ?_; clear h; intro b W h)
    | (refine u_bx h ?_; clear h; intro b W h)
    | (refine u_al h ?_; clear h; intro b W h)
    | (refine a_st h ?_; clear h; intro W h))
          refine r_lookup (enc := Cap.v) keyC (by kernel_rfl) (by kernel_rfl : zeroB Try.prog 3 = some (.int .i64 0)) h (Take.knows (by repeat (first | exact Take.head | apply Take.tail))) κ ?_
          obtain ⟨n, hn⟩ := hmi.get κ
          rw [hn]
          repeat (first
    | simp only [↓cv3_54, ↓cv54_3, ↓fa63_0, ↓fa60_0, ↓ld58, ↓rd58, ↓ld66, ↓rd66, ↓al68, ↓st68, ↓fa68_0, ↓ld3, ↓rd3, ↓len72, ↓ia72, ↓fa68_1, ↓bd68_0_1, ↓ld68, ↓rd68, ↓bs69_1_0, ↓ap69, ↓len69, ↓ia69, ↓eqneq4_bfalse, ↓GG, NN, Nat.reduceAdd]
    | refine a_ld1 h ?_
    | refine a_ldN h ?_
    | refine a_rs1 h ?_
    | refine a_rsN h ?_
    | (refine u_draw h ?_; clear h; intro W h)
    | refine a_rd1 h ?_
    | refine a_rdN h ?_
    | (refine u_nr h ?_; clear h; intro b W h)
    | (refine u_bx h ?_; clear h; intro b W h)
    | (refine u_al h ?_; clear h; intro b W h)
    | (refine a_st h ?_; clear h; intro W h))
          refine r_mapEntry (enc := Cap.v) keyC (by kernel_rfl) (by kernel_rfl : zeroB Try.prog 3 = some (.int .i64 0)) h (by repeat (first | exact Take.head | apply Take.tail)) hmi.1 κ ?_
          clear h
          intro es' clock' stamp W hex hsame hnd hin h
          have hmi' : MInts es' := ⟨hnd, fun e he => (hin e he).elim (hmi.2 e) fun hz => ⟨0, hz⟩⟩
          rw [hn] at hsame ⊢
          refine ⟨fun _ => ?_, ?_⟩
          · have hb := (Take.knows (b := mp) (o := mapO Cap.v es' clock') (by exact .head)).get h
            have := run_lookup (P := Try.prog) (enc := Cap.v) keyC (T := 85) (by kernel_rfl) (by kernel_rfl : zeroB Try.prog 3 = some (.int .i64 0)) hb κ false
            rw [hsame] at this
            exact this
          · repeat (first
    | simp only [↓cv3_54, ↓cv54_3, ↓fa63_0, ↓fa60_0, ↓ld58, ↓rd58, ↓ld66, ↓rd66, ↓al68, ↓st68, ↓fa68_0, ↓ld3, ↓rd3, ↓len72, ↓ia72, ↓fa68_1, ↓bd68_0_1, ↓ld68, ↓rd68, ↓bs69_1_0, ↓ap69, ↓len69, ↓ia69, ↓eqneq4_bfalse, ↓GG, NN, Nat.reduceAdd]
    | refine a_ld1 h ?_
    | refine a_ldN h ?_
    | refine a_rs1 h ?_
    | refine a_rsN h ?_
    | (refine u_draw h ?_; clear h; intro W h)
    | refine a_rd1 h ?_
    | refine a_rdN h ?_
    | (refine u_nr h ?_; clear h; intro b W h)
    | (refine u_bx h ?_; clear h; intro b W h)
    | (refine u_al h ?_; clear h; intro b W h)
    | (refine a_st h ?_; clear h; intro W h))
            refine r_entryStore h (by repeat (first | exact Take.head | apply Take.tail)) hex ?_
            clear h
            intro ii W h
            repeat (first
    | simp only [↓cv3_54, ↓cv54_3, ↓fa63_0, ↓fa60_0, ↓ld58, ↓rd58, ↓ld66, ↓rd66, ↓al68, ↓st68, ↓fa68_0, ↓ld3, ↓rd3, ↓len72, ↓ia72, ↓fa68_1, ↓bd68_0_1, ↓ld68, ↓rd68, ↓bs69_1_0, ↓ap69, ↓len69, ↓ia69, ↓eqneq4_bfalse, ↓GG, NN, Nat.reduceAdd]
    | refine a_ld1 h ?_
    | refine a_ldN h ?_
    | refine a_rs1 h ?_
    | refine a_rsN h ?_
    | (refine u_draw h ?_; clear h; intro W h)
    | refine a_rd1 h ?_
    | refine a_rdN h ?_
    | (refine u_nr h ?_; clear h; intro b W h)
    | (refine u_bx h ?_; clear h; intro b W h)
    | (refine u_al h ?_; clear h; intro b W h)
    | (refine a_st h ?_; clear h; intro W h))
            rw [wrap_succ (by omega)]
            refine ⟨⟨i + 1, _, ks', _, clock', by omega, hl', rfl, hmi'.store ii _, hks', (S.get3 (c1 := capsS v ks') (c2 := capsC c X) (c3 := pts mp _) h (by repeat (first | exact Take.head | apply Take.tail)) (by repeat (first | exact Take.head | apply Take.tail)) (by repeat (first | exact Take.head | apply Take.tail))).subA⟩, ?_⟩
            simp only [vInt]
            omega
    · have d1' : decide ((i : Int) < (ls.length : Int)) = false := by simp; omega
      have : i = ls.length := by omega
      subst this
      repeat (first
    | simp only [d1', ↓cv3_54, ↓cv54_3, ↓fa63_0, ↓fa60_0, ↓ld58, ↓rd58, ↓ld66, ↓rd66, ↓al68, ↓st68, ↓fa68_0, ↓ld3, ↓rd3, ↓len72, ↓ia72, ↓fa68_1, ↓bd68_0_1, ↓ld68, ↓rd68, ↓bs69_1_0, ↓ap69, ↓len69, ↓ia69, ↓eqneq4_bfalse, ↓GG, NN, Nat.reduceAdd]
    | refine a_ld1 h ?_
    | refine a_ldN h ?_
    | refine a_rs1 h ?_
    | refine a_rsN h ?_
    | (refine u_draw h ?_; clear h; intro W h)
    | refine a_rd1 h ?_
    | refine a_rdN h ?_
    | (refine u_nr h ?_; clear h; intro b W h)
    | (refine u_bx h ?_; clear h; intro b W h)
    | (refine u_al h ?_; clear h; intro b W h)
    | (refine a_st h ?_; clear h; intro W h))
      subst hΔ2 hΔ
      obtain ⟨ck, h1, knks, _⟩ := slc_fix h
      clear h
      have h := h1
      clear h1
      obtain ⟨Δ3, hΔ3, h'⟩ := S.frame2 (c1 := capsC c X) (c2 := capsC c' X) h
      clear h
      have h := h'
      clear h'
      have kpb3 : Knows Δ3 pb (.cells #[.int .i64 a.1, .int .i64 a.2] 66 (0, 0)) := by rw [← hΔ3]; exact Take.knows (by repeat (first | exact Take.head | apply Take.tail))
      have knks3 : Kn Δ3 kv 6 (ks.flatMap Cap.cells) ks.length := by rw [← hΔ3]; repeat (first | exact knks _ | apply Kn.tail)
      refine u_join (fun sv w => ∃ (Xf : Caps) (ts : List Cap), Fin all X a lk Xf ts ∧ ts.length ≤ 1000 ∧ S w0 (capsS sv ts :: capsC c Xf :: capsC c' X :: Δ3) w) ?_ ?_
      · refine u_loop (fun s' w => ∃ (i : Nat) (Xi : Caps) (ts : List Cap) (tv : Value), s' = (tv, .int .i64 i) ∧ Few all X a lk st i Xi ts ∧ ts.length ≤ 5 * i ∧ S w0 (capsS tv ts :: capsC c Xi :: capsC c' X :: Δ3) w) (fun s' _ => 100 - (vInt s'.2).toNat)
          ⟨0, X, [], _, rfl, Few.start hX hX3 hfa hlk, by simp, S.nilSlice T_api_Cap 6 h⟩ ?_
        clear h
        rintro j iv W ⟨i, Xi, ts, tv, hs, hfew, hts, h⟩
        cases hs
        have hi48 := hfew.i hst1
        have d4 : decide ((i : Int) < 100) = true := by simp; omega
        repeat (first
    | simp only [d4, ↓cv3_54, ↓cv54_3, ↓fa63_0, ↓fa60_0, ↓ld58, ↓rd58, ↓ld66, ↓rd66, ↓al68, ↓st68, ↓fa68_0, ↓ld3, ↓rd3, ↓len72, ↓ia72, ↓fa68_1, ↓bd68_0_1, ↓ld68, ↓rd68, ↓bs69_1_0, ↓ap69, ↓len69, ↓ia69, ↓eqneq4_bfalse, ↓GG, NN, Nat.reduceAdd]
    | refine a_ld1 h ?_
    | refine a_ldN h ?_
    | refine a_rs1 h ?_
    | refine a_rsN h ?_
    | (refine u_draw h ?_; clear h; intro W h)
    | refine a_rd1 h ?_
    | refine a_rdN h ?_
    | (refine u_nr h ?_; clear h; intro b W h)
    | (refine u_bx h ?_; clear h; intro b W h)
    | (refine u_al h ?_; clear h; intro b W h)
    | (refine a_st h ?_; clear h; intro W h))
        refine u_join (fun sv w => ∃ (us : List Cap) (Xn : Caps) (e : Int), sv.1 = .int .i64 e ∧ us.length ≤ 5 ∧ (e = 11 ∧ Few all X a lk st (i + 1) Xn (ts ++ us) ∨ e ≠ 11 ∧ Fin all X a lk Xn (ts ++ us)) ∧
          S w0 (capsS sv.2 us :: capsS tv ts :: capsC c Xn :: capsC c' X :: Δ3) w) ?_ ?_
        · cases all with
          | true =>
            obtain ⟨l2, hm2, hf2, hk2, hts0, hfew2⟩ := hfew.rev
            repeat (first
    | simp only [↓cv3_54, ↓cv54_3, ↓fa63_0, ↓fa60_0, ↓ld58, ↓rd58, ↓ld66, ↓rd66, ↓al68, ↓st68, ↓fa68_0, ↓ld3, ↓rd3, ↓len72, ↓ia72, ↓fa68_1, ↓bd68_0_1, ↓ld68, ↓rd68, ↓bs69_1_0, ↓ap69, ↓len69, ↓ia69, ↓eqneq4_bfalse, ↓GG, NN, Nat.reduceAdd]
    | (refine u_ldN h (by repeat (first | exact kpb3 | apply Knows.tail)) (Nat.le_of_ble_eq_true rfl) ?_)
    | (refine And.intro (u_rdN h (by repeat (first | exact kpb3 | apply Knows.tail)) (Nat.le_of_ble_eq_true rfl) (by rfl)) ?_)
    | refine a_ld1 h ?_
    | refine a_ldN h ?_
    | refine a_rs1 h ?_
    | refine a_rsN h ?_
    | (refine u_draw h ?_; clear h; intro W h)
    | refine a_rd1 h ?_
    | refine a_rdN h ?_
    | (refine u_nr h ?_; clear h; intro b W h)
    | (refine u_bx h ?_; clear h; intro b W h)
    | (refine u_al h ?_; clear h; intro b W h)
    | (refine a_st h ?_; clear h; intro W h))
            refine r_call (lRevoke (X := Xi) (a := a) (n := st) hm2 hf2 hk2 hst1 (by omega) (h.takeA (c := capsC c Xi))) ?_
            clear h
            rintro v W ⟨tv2, rfl, h⟩
            rw [revO_ts] at h
            cases hr : revO Xi l2 st [] with
            | ok s2 =>
              rw [hr] at h hfew2
              simp only [Out.st, outV] at h ⊢
              repeat (first
    | simp only [↓cv3_54, ↓cv54_3, ↓fa63_0, ↓fa60_0, ↓ld58, ↓rd58, ↓ld66, ↓rd66, ↓al68, ↓st68, ↓fa68_0, ↓ld3, ↓rd3, ↓len72, ↓ia72, ↓fa68_1, ↓bd68_0_1, ↓ld68, ↓rd68, ↓bs69_1_0, ↓ap69, ↓len69, ↓ia69, ↓eqneq4_bfalse, ↓GG, NN, Nat.reduceAdd]
    | refine a_ld1 h ?_
    | refine a_ldN h ?_
    | refine a_rs1 h ?_
    | refine a_rsN h ?_
    | (refine u_draw h ?_; clear h; intro W h)
    | refine a_rd1 h ?_
    | refine a_rdN h ?_
    | (refine u_nr h ?_; clear h; intro b W h)
    | (refine u_bx h ?_; clear h; intro b W h)
    | (refine u_al h ?_; clear h; intro b W h)
    | (refine a_st h ?_; clear h; intro W h))
              exact ⟨[], s2.X, 0, rfl, by simp, .inr ⟨by omega, by rw [hts0]; exact hfew2⟩, (S.get4 (c1 := capsS tv2 []) (c2 := capsS tv ts) (c3 := capsC c s2.X) (c4 := capsC c' X) h (by repeat (first | exact Take.head | apply Take.tail)) (by repeat (first | exact Take.head | apply Take.tail)) (by repeat (first | exact Take.head | apply Take.tail)) (by repeat (first | exact Take.head | apply Take.tail))).subA⟩
            | spent s2 =>
              rw [hr] at h hfew2
              simp only [Out.st, outV] at h ⊢
              repeat (first
    | simp only [↓cv3_54, ↓cv54_3, ↓fa63_0, ↓fa60_0, ↓ld58, ↓rd58, ↓ld66, ↓rd66, ↓al68, ↓st68, ↓fa68_0, ↓ld3, ↓rd3, ↓len72, ↓ia72, ↓fa68_1, ↓bd68_0_1, ↓ld68, ↓rd68, ↓bs69_1_0, ↓ap69, ↓len69, ↓ia69, ↓eqneq4_bfalse, ↓GG, NN, Nat.reduceAdd]
    | refine a_ld1 h ?_
    | refine a_ldN h ?_
    | refine a_rs1 h ?_
    | refine a_rsN h ?_
    | (refine u_draw h ?_; clear h; intro W h)
    | refine a_rd1 h ?_
    | refine a_rdN h ?_
    | (refine u_nr h ?_; clear h; intro b W h)
    | (refine u_bx h ?_; clear h; intro b W h)
    | (refine u_al h ?_; clear h; intro b W h)
    | (refine a_st h ?_; clear h; intro W h))
              exact ⟨[], s2.X, 11, rfl, by simp, .inl ⟨rfl, by rw [hts0]; exact hfew2⟩, (S.get4 (c1 := capsS tv2 []) (c2 := capsS tv ts) (c3 := capsC c s2.X) (c4 := capsC c' X) h (by repeat (first | exact Take.head | apply Take.tail)) (by repeat (first | exact Take.head | apply Take.tail)) (by repeat (first | exact Take.head | apply Take.tail)) (by repeat (first | exact Take.head | apply Take.tail))).subA⟩
          | false =>
            obtain ⟨hf2, hok2, hlen2, _⟩ := id hfew
            obtain ⟨r, hr⟩ := Run.exists st (st := ⟨Xi, st, []⟩) hok2 (Way.one hf2) rfl
            have htl := hr.ts_len hok2 (Way.one hf2) (by simp only; omega)
            have hfew2 := hfew.del hr
            repeat (first
    | simp only [↓cv3_54, ↓cv54_3, ↓fa63_0, ↓fa60_0, ↓ld58, ↓rd58, ↓ld66, ↓rd66, ↓al68, ↓st68, ↓fa68_0, ↓ld3, ↓rd3, ↓len72, ↓ia72, ↓fa68_1, ↓bd68_0_1, ↓ld68, ↓rd68, ↓bs69_1_0, ↓ap69, ↓len69, ↓ia69, ↓eqneq4_bfalse, ↓GG, NN, Nat.reduceAdd]
    | (refine u_ldN h (by repeat (first | exact kpb3 | apply Knows.tail)) (Nat.le_of_ble_eq_true rfl) ?_)
    | (refine And.intro (u_rdN h (by repeat (first | exact kpb3 | apply Knows.tail)) (Nat.le_of_ble_eq_true rfl) (by rfl)) ?_)
    | refine a_ld1 h ?_
    | refine a_ldN h ?_
    | refine a_rs1 h ?_
    | refine a_rsN h ?_
    | (refine u_draw h ?_; clear h; intro W h)
    | refine a_rd1 h ?_
    | refine a_rdN h ?_
    | (refine u_nr h ?_; clear h; intro b W h)
    | (refine u_bx h ?_; clear h; intro b W h)
    | (refine u_al h ?_; clear h; intro b W h)
    | (refine a_st h ?_; clear h; intro W h))
            refine r_call (lDelete (X := Xi) (a := a) (n := st) hok2 hf2 (by omega) (by omega) hr (h.takeA (c := capsC c Xi))) ?_
            clear h
            rintro v W ⟨tv2, rfl, h⟩
            cases r with
            | ok s2 =>
              simp only [Out.st, outV, List.length_nil] at h htl ⊢
              repeat (first
    | simp only [↓cv3_54, ↓cv54_3, ↓fa63_0, ↓fa60_0, ↓ld58, ↓rd58, ↓ld66, ↓rd66, ↓al68, ↓st68, ↓fa68_0, ↓ld3, ↓rd3, ↓len72, ↓ia72, ↓fa68_1, ↓bd68_0_1, ↓ld68, ↓rd68, ↓bs69_1_0, ↓ap69, ↓len69, ↓ia69, ↓eqneq4_bfalse, ↓GG, NN, Nat.reduceAdd]
    | refine a_ld1 h ?_
    | refine a_ldN h ?_
    | refine a_rs1 h ?_
    | refine a_rsN h ?_
    | (refine u_draw h ?_; clear h; intro W h)
    | refine a_rd1 h ?_
    | refine a_rdN h ?_
    | (refine u_nr h ?_; clear h; intro b W h)
    | (refine u_bx h ?_; clear h; intro b W h)
    | (refine u_al h ?_; clear h; intro b W h)
    | (refine a_st h ?_; clear h; intro W h))
              exact ⟨s2.ts, s2.X, 0, rfl, by omega, .inr ⟨by omega, hfew2⟩, (S.get4 (c1 := capsS tv2 s2.ts) (c2 := capsS tv ts) (c3 := capsC c s2.X) (c4 := capsC c' X) h (by repeat (first | exact Take.head | apply Take.tail)) (by repeat (first | exact Take.head | apply Take.tail)) (by repeat (first | exact Take.head | apply Take.tail)) (by repeat (first | exact Take.head | apply Take.tail))).subA⟩
            | spent s2 =>
              simp only [Out.st, outV, List.length_nil] at h htl ⊢
              repeat (first
    | simp only [↓cv3_54, ↓cv54_3, ↓fa63_0, ↓fa60_0, ↓ld58, ↓rd58, ↓ld66, ↓rd66, ↓al68, ↓st68, ↓fa68_0, ↓ld3, ↓rd3, ↓len72, ↓ia72, ↓fa68_1, ↓bd68_0_1, ↓ld68, ↓rd68, ↓bs69_1_0, ↓ap69, ↓len69, ↓ia69, ↓eqneq4_bfalse, ↓GG, NN, Nat.reduceAdd]
    | refine a_ld1 h ?_
    | refine a_ldN h ?_
    | refine a_rs1 h ?_
    | refine a_rsN h ?_
    | (refine u_draw h ?_; clear h; intro W h)
    | refine a_rd1 h ?_
    | refine a_rdN h ?_
    | (refine u_nr h ?_; clear h; intro b W h)
    | (refine u_bx h ?_; clear h; intro b W h)
    | (refine u_al h ?_; clear h; intro b W h)
    | (refine a_st h ?_; clear h; intro W h))
              exact ⟨s2.ts, s2.X, 11, rfl, by omega, .inl ⟨rfl, hfew2⟩, (S.get4 (c1 := capsS tv2 s2.ts) (c2 := capsS tv ts) (c3 := capsC c s2.X) (c4 := capsC c' X) h (by repeat (first | exact Take.head | apply Take.tail)) (by repeat (first | exact Take.head | apply Take.tail)) (by repeat (first | exact Take.head | apply Take.tail)) (by repeat (first | exact Take.head | apply Take.tail))).subA⟩
        · clear h
          rintro j ⟨ev, tv2⟩ W ⟨us, Xn, e, hev, hus, hor, h⟩
          simp only at hev h
          subst hev
          obtain ⟨cu, h1, knu, _⟩ := slc_fix h
          clear h
          have h := h1
          clear h1
          repeat (first
    | simp only [↓cv3_54, ↓cv54_3, ↓fa63_0, ↓fa60_0, ↓ld58, ↓rd58, ↓ld66, ↓rd66, ↓al68, ↓st68, ↓fa68_0, ↓ld3, ↓rd3, ↓len72, ↓ia72, ↓fa68_1, ↓bd68_0_1, ↓ld68, ↓rd68, ↓bs69_1_0, ↓ap69, ↓len69, ↓ia69, ↓eqneq4_bfalse, ↓GG, NN, Nat.reduceAdd]
    | refine a_ld1 h ?_
    | refine a_ldN h ?_
    | refine a_rs1 h ?_
    | refine a_rsN h ?_
    | (refine u_draw h ?_; clear h; intro W h)
    | refine a_rd1 h ?_
    | refine a_rdN h ?_
    | (refine u_nr h ?_; clear h; intro b W h)
    | (refine u_bx h ?_; clear h; intro b W h)
    | (refine u_al h ?_; clear h; intro b W h)
    | (refine a_st h ?_; clear h; intro W h))
          refine u_apK h (e := T_api_Cap) (xs := ts.flatMap Cap.cells) (n := ts.length) (m := us.length) (by repeat (first | exact Take.head | apply Take.tail)) (knu _) (capsCells_one us) (by omega) (by decide) ?_
          clear h
          intro v W h
          have h1 := h.takeA (c := slc T_api_Cap 6 v (ts.length + us.length) (ts.flatMap Cap.cells ++ us.flatMap Cap.cells))
          rw [capsS_append] at h1
          clear h
          have h := h1
          clear h1
          rcases hor with ⟨he11, hfew'⟩ | ⟨he11, hfin⟩
          · have d5 : (e != 11) = false := by simp [he11]
            repeat (first
    | simp only [d5, ↓cv3_54, ↓cv54_3, ↓fa63_0, ↓fa60_0, ↓ld58, ↓rd58, ↓ld66, ↓rd66, ↓al68, ↓st68, ↓fa68_0, ↓ld3, ↓rd3, ↓len72, ↓ia72, ↓fa68_1, ↓bd68_0_1, ↓ld68, ↓rd68, ↓bs69_1_0, ↓ap69, ↓len69, ↓ia69, ↓eqneq4_bfalse, ↓GG, NN, Nat.reduceAdd]
    | refine a_ld1 h ?_
    | refine a_ldN h ?_
    | refine a_rs1 h ?_
    | refine a_rsN h ?_
    | (refine u_draw h ?_; clear h; intro W h)
    | refine a_rd1 h ?_
    | refine a_rdN h ?_
    | (refine u_nr h ?_; clear h; intro b W h)
    | (refine u_bx h ?_; clear h; intro b W h)
    | (refine u_al h ?_; clear h; intro b W h)
    | (refine a_st h ?_; clear h; intro W h))
            rw [wrap_succ (by omega)]
            refine ⟨⟨i + 1, Xn, ts ++ us, v, rfl, hfew', by rw [List.length_append]; omega, (S.get3 (c1 := capsS v (ts ++ us)) (c2 := capsC c Xn) (c3 := capsC c' X) h (by repeat (first | exact Take.head | apply Take.tail)) (by repeat (first | exact Take.head | apply Take.tail)) (by repeat (first | exact Take.head | apply Take.tail))).subA⟩, ?_⟩
            simp only [vInt]
            omega
          · have d5 : (e != 11) = true := by simp [he11]
            repeat (first
    | simp only [d5, ↓cv3_54, ↓cv54_3, ↓fa63_0, ↓fa60_0, ↓ld58, ↓rd58, ↓ld66, ↓rd66, ↓al68, ↓st68, ↓fa68_0, ↓ld3, ↓rd3, ↓len72, ↓ia72, ↓fa68_1, ↓bd68_0_1, ↓ld68, ↓rd68, ↓bs69_1_0, ↓ap69, ↓len69, ↓ia69, ↓eqneq4_bfalse, ↓GG, NN, Nat.reduceAdd]
    | refine a_ld1 h ?_
    | refine a_ldN h ?_
    | refine a_rs1 h ?_
    | refine a_rsN h ?_
    | (refine u_draw h ?_; clear h; intro W h)
    | refine a_rd1 h ?_
    | refine a_rdN h ?_
    | (refine u_nr h ?_; clear h; intro b W h)
    | (refine u_bx h ?_; clear h; intro b W h)
    | (refine u_al h ?_; clear h; intro b W h)
    | (refine a_st h ?_; clear h; intro W h))
            exact ⟨Xn, ts ++ us, hfin, by rw [List.length_append]; omega, (S.get3 (c1 := capsS v (ts ++ us)) (c2 := capsC c Xn) (c3 := capsC c' X) h (by repeat (first | exact Take.head | apply Take.tail)) (by repeat (first | exact Take.head | apply Take.tail)) (by repeat (first | exact Take.head | apply Take.tail))).subA⟩
      · clear h
        rintro j tv W ⟨Xf, ts, hfin, hts, h⟩
        refine u_join (fun sv w => ∃ (Xg : Caps) (us : List Cap), Fin all X a lk Xg us ∧ S w0 (capsS sv us :: capsS tv ts :: capsC c Xf :: capsC c' Xg :: Δ3) w) ?_ ?_
        · cases all with
          | true =>
            obtain ⟨s2, hr, hs2, hfin2⟩ := once_rev hX hX3 hfa hlk
            repeat (first
    | simp only [↓cv3_54, ↓cv54_3, ↓fa63_0, ↓fa60_0, ↓ld58, ↓rd58, ↓ld66, ↓rd66, ↓al68, ↓st68, ↓fa68_0, ↓ld3, ↓rd3, ↓len72, ↓ia72, ↓fa68_1, ↓bd68_0_1, ↓ld68, ↓rd68, ↓bs69_1_0, ↓ap69, ↓len69, ↓ia69, ↓eqneq4_bfalse, ↓GG, NN, Nat.reduceAdd]
    | (refine u_ldN h (by repeat (first | exact kpb3 | apply Knows.tail)) (Nat.le_of_ble_eq_true rfl) ?_)
    | (refine And.intro (u_rdN h (by repeat (first | exact kpb3 | apply Knows.tail)) (Nat.le_of_ble_eq_true rfl) (by rfl)) ?_)
    | refine a_ld1 h ?_
    | refine a_ldN h ?_
    | refine a_rs1 h ?_
    | refine a_rsN h ?_
    | (refine u_draw h ?_; clear h; intro W h)
    | refine a_rd1 h ?_
    | refine a_rdN h ?_
    | (refine u_nr h ?_; clear h; intro b W h)
    | (refine u_bx h ?_; clear h; intro b W h)
    | (refine u_al h ?_; clear h; intro b W h)
    | (refine a_st h ?_; clear h; intro W h))
            refine r_call (lRevoke (X := X) (a := a) (n := 1000) hX hfa hlk (by omega) (by omega) (h.takeA (c := capsC c' X))) ?_
            clear h
            rintro v W ⟨tv2, rfl, h⟩
            rw [hr] at h ⊢
            simp only [Out.st, outV] at h ⊢
            rw [hs2] at h
            repeat (first
    | simp only [↓cv3_54, ↓cv54_3, ↓fa63_0, ↓fa60_0, ↓ld58, ↓rd58, ↓ld66, ↓rd66, ↓al68, ↓st68, ↓fa68_0, ↓ld3, ↓rd3, ↓len72, ↓ia72, ↓fa68_1, ↓bd68_0_1, ↓ld68, ↓rd68, ↓bs69_1_0, ↓ap69, ↓len69, ↓ia69, ↓eqneq4_bfalse, ↓GG, NN, Nat.reduceAdd]
    | refine a_ld1 h ?_
    | refine a_ldN h ?_
    | refine a_rs1 h ?_
    | refine a_rsN h ?_
    | (refine u_draw h ?_; clear h; intro W h)
    | refine a_rd1 h ?_
    | refine a_rdN h ?_
    | (refine u_nr h ?_; clear h; intro b W h)
    | (refine u_bx h ?_; clear h; intro b W h)
    | (refine u_al h ?_; clear h; intro b W h)
    | (refine a_st h ?_; clear h; intro W h))
            exact ⟨s2.X, [], hfin2, (S.get4 (c1 := capsS tv2 []) (c2 := capsS tv ts) (c3 := capsC c Xf) (c4 := capsC c' s2.X) h (by repeat (first | exact Take.head | apply Take.tail)) (by repeat (first | exact Take.head | apply Take.tail)) (by repeat (first | exact Take.head | apply Take.tail)) (by repeat (first | exact Take.head | apply Take.tail))).subA⟩
          | false =>
            obtain ⟨s2, hr, hfin2⟩ := once_del (lk := lk) hX hX3 hfa
            repeat (first
    | simp only [↓cv3_54, ↓cv54_3, ↓fa63_0, ↓fa60_0, ↓ld58, ↓rd58, ↓ld66, ↓rd66, ↓al68, ↓st68, ↓fa68_0, ↓ld3, ↓rd3, ↓len72, ↓ia72, ↓fa68_1, ↓bd68_0_1, ↓ld68, ↓rd68, ↓bs69_1_0, ↓ap69, ↓len69, ↓ia69, ↓eqneq4_bfalse, ↓GG, NN, Nat.reduceAdd]
    | (refine u_ldN h (by repeat (first | exact kpb3 | apply Knows.tail)) (Nat.le_of_ble_eq_true rfl) ?_)
    | (refine And.intro (u_rdN h (by repeat (first | exact kpb3 | apply Knows.tail)) (Nat.le_of_ble_eq_true rfl) (by rfl)) ?_)
    | refine a_ld1 h ?_
    | refine a_ldN h ?_
    | refine a_rs1 h ?_
    | refine a_rsN h ?_
    | (refine u_draw h ?_; clear h; intro W h)
    | refine a_rd1 h ?_
    | refine a_rdN h ?_
    | (refine u_nr h ?_; clear h; intro b W h)
    | (refine u_bx h ?_; clear h; intro b W h)
    | (refine u_al h ?_; clear h; intro b W h)
    | (refine a_st h ?_; clear h; intro W h))
            refine r_call (lDelete (X := X) (a := a) (n := 1000) hX.ok hfa (by omega) (by omega) hr (h.takeA (c := capsC c' X))) ?_
            clear h
            rintro v W ⟨tv2, rfl, h⟩
            simp only [Out.st, outV] at h ⊢
            repeat (first
    | simp only [↓cv3_54, ↓cv54_3, ↓fa63_0, ↓fa60_0, ↓ld58, ↓rd58, ↓ld66, ↓rd66, ↓al68, ↓st68, ↓fa68_0, ↓ld3, ↓rd3, ↓len72, ↓ia72, ↓fa68_1, ↓bd68_0_1, ↓ld68, ↓rd68, ↓bs69_1_0, ↓ap69, ↓len69, ↓ia69, ↓eqneq4_bfalse, ↓GG, NN, Nat.reduceAdd]
    | refine a_ld1 h ?_
    | refine a_ldN h ?_
    | refine a_rs1 h ?_
    | refine a_rsN h ?_
    | (refine u_draw h ?_; clear h; intro W h)
    | refine a_rd1 h ?_
    | refine a_rdN h ?_
    | (refine u_nr h ?_; clear h; intro b W h)
    | (refine u_bx h ?_; clear h; intro b W h)
    | (refine u_al h ?_; clear h; intro b W h)
    | (refine a_st h ?_; clear h; intro W h))
            exact ⟨s2.X, s2.ts, hfin2, (S.get4 (c1 := capsS tv2 s2.ts) (c2 := capsS tv ts) (c3 := capsC c Xf) (c4 := capsC c' s2.X) h (by repeat (first | exact Take.head | apply Take.tail)) (by repeat (first | exact Take.head | apply Take.tail)) (by repeat (first | exact Take.head | apply Take.tail)) (by repeat (first | exact Take.head | apply Take.tail))).subA⟩
        · clear h
          rintro j sv W ⟨Xg, us, hfin2, h⟩
          obtain ⟨rfl, rfl⟩ := hfin.same hfin2
          clear hfin2
          obtain ⟨cs1, h1, knsv, _⟩ := slc_fix h
          clear h
          obtain ⟨cs2, h2, kntv, _⟩ := slc_fix (h1.takeA (c := capsS tv ts))
          clear h1
          obtain ⟨s, t, h'⟩ := caps_open (h2.takeA (c := capsC c Xf))
          clear h2
          obtain ⟨s', t', h⟩ := caps_open (h'.takeA (c := capsC c' Xf))
          clear h'
          repeat (first
    | simp only [↓cv3_54, ↓cv54_3, ↓fa63_0, ↓fa60_0, ↓ld58, ↓rd58, ↓ld66, ↓rd66, ↓al68, ↓st68, ↓fa68_0, ↓ld3, ↓rd3, ↓len72, ↓ia72, ↓fa68_1, ↓bd68_0_1, ↓ld68, ↓rd68, ↓bs69_1_0, ↓ap69, ↓len69, ↓ia69, ↓eqneq4_bfalse, ↓GG, NN, Nat.reduceAdd]
    | refine a_ld1 h ?_
    | refine a_ldN h ?_
    | refine a_rs1 h ?_
    | refine a_rsN h ?_
    | (refine u_draw h ?_; clear h; intro W h)
    | refine a_rd1 h ?_
    | refine a_rdN h ?_
    | (refine u_nr h ?_; clear h; intro b W h)
    | (refine u_bx h ?_; clear h; intro b W h)
    | (refine u_al h ?_; clear h; intro b W h)
    | (refine a_st h ?_; clear h; intro W h))
          refine r_call (lSameCaps (xs := ts) (ys := ts) h (by repeat (first | exact kntv _ | apply Kn.tail)) (by repeat (first | exact knsv _ | apply Kn.tail)) (by omega) (by omega)) ?_
          clear h
          rintro v W ⟨rfl, h⟩
          have d4 : decide (ts = ts) = true := by simp
          repeat (first
    | simp only [d4, ↓cv3_54, ↓cv54_3, ↓fa63_0, ↓fa60_0, ↓ld58, ↓rd58, ↓ld66, ↓rd66, ↓al68, ↓st68, ↓fa68_0, ↓ld3, ↓rd3, ↓len72, ↓ia72, ↓fa68_1, ↓bd68_0_1, ↓ld68, ↓rd68, ↓bs69_1_0, ↓ap69, ↓len69, ↓ia69, ↓eqneq4_bfalse, ↓GG, NN, Nat.reduceAdd]
    | refine a_ld1 h ?_
    | refine a_ldN h ?_
    | refine a_rs1 h ?_
    | refine a_rsN h ?_
    | (refine u_draw h ?_; clear h; intro W h)
    | refine a_rd1 h ?_
    | refine a_rdN h ?_
    | (refine u_nr h ?_; clear h; intro b W h)
    | (refine u_bx h ?_; clear h; intro b W h)
    | (refine u_al h ?_; clear h; intro b W h)
    | (refine a_st h ?_; clear h; intro W h))
          refine r_call (Store_Full_spec (h.takeA (c := storeC s Xf.s))) ?_
          clear h
          intro v W h
          obtain ⟨fv, hfv⟩ : ∃ y, y = v := ⟨_, rfl⟩
          subst hfv
          repeat (first
    | simp only [d4, ↓cv3_54, ↓cv54_3, ↓fa63_0, ↓fa60_0, ↓ld58, ↓rd58, ↓ld66, ↓rd66, ↓al68, ↓st68, ↓fa68_0, ↓ld3, ↓rd3, ↓len72, ↓ia72, ↓fa68_1, ↓bd68_0_1, ↓ld68, ↓rd68, ↓bs69_1_0, ↓ap69, ↓len69, ↓ia69, ↓eqneq4_bfalse, ↓GG, NN, Nat.reduceAdd]
    | refine a_ld1 h ?_
    | refine a_ldN h ?_
    | refine a_rs1 h ?_
    | refine a_rsN h ?_
    | (refine u_draw h ?_; clear h; intro W h)
    | refine a_rd1 h ?_
    | refine a_rdN h ?_
    | (refine u_nr h ?_; clear h; intro b W h)
    | (refine u_bx h ?_; clear h; intro b W h)
    | (refine u_al h ?_; clear h; intro b W h)
    | (refine a_st h ?_; clear h; intro W h))
          refine r_call (Store_Full_spec (h.takeA (c := storeC s' Xf.s))) ?_
          clear h
          intro v W h
          obtain ⟨cf1, h1, knf1, _⟩ := slc_fix h
          clear h
          obtain ⟨cf2, h, knf2, _⟩ := slc_fix (h1.takeA (c := slotsC fv Xf.s.full))
          clear h1
          have hfl := Store.fullTo_len Xf.s 64
          have hfl' : Xf.s.full.length ≤ 1024 := hfl
          refine r_call (lSameSlots (xs := Xf.s.full) (ys := Xf.s.full) h (by repeat (first | exact knf2 _ | apply Kn.tail)) (by repeat (first | exact knf1 _ | apply Kn.tail)) (by omega) (by omega)) ?_
          clear h
          rintro v W ⟨rfl, h⟩
          have d5 : decide (Xf.s.full = Xf.s.full) = true := by simp
          repeat (first
    | simp only [d5, ↓cv3_54, ↓cv54_3, ↓fa63_0, ↓fa60_0, ↓ld58, ↓rd58, ↓ld66, ↓rd66, ↓al68, ↓st68, ↓fa68_0, ↓ld3, ↓rd3, ↓len72, ↓ia72, ↓fa68_1, ↓bd68_0_1, ↓ld68, ↓rd68, ↓bs69_1_0, ↓ap69, ↓len69, ↓ia69, ↓eqneq4_bfalse, ↓GG, NN, Nat.reduceAdd]
    | refine a_ld1 h ?_
    | refine a_ldN h ?_
    | refine a_rs1 h ?_
    | refine a_rsN h ?_
    | (refine u_draw h ?_; clear h; intro W h)
    | refine a_rd1 h ?_
    | refine a_rdN h ?_
    | (refine u_nr h ?_; clear h; intro b W h)
    | (refine u_bx h ?_; clear h; intro b W h)
    | (refine u_al h ?_; clear h; intro b W h)
    | (refine a_st h ?_; clear h; intro W h))
          obtain ⟨Δ4, hΔ4, h'⟩ := S.frame (c := capsC c Xf) (caps_shut (s := s) (t := t) (X := Xf) h (by repeat (first | exact Take.head | apply Take.tail)) (by repeat (first | exact Take.head | apply Take.tail)) (by repeat (first | exact Take.head | apply Take.tail))) .head
          clear h
          have h := h'
          clear h'
          have knks4 : Kn Δ4 kv 6 (ks.flatMap Cap.cells) ks.length := by rw [← hΔ4]; repeat (first | exact knks3 | apply Kn.tail)
          have kntv4 : Kn Δ4 tv 6 (ts.flatMap Cap.cells) ts.length := by rw [← hΔ4]; repeat (first | exact kntv _ | apply Kn.tail)
          obtain ⟨ka, kc, rfl⟩ := knks4.shape
          obtain ⟨ta, tc, rfl⟩ := kntv4.shape
          refine u_loop (fun s' w => ∃ i : Nat, i ≤ ks.length ∧ s' = .int .i64 i ∧ S w0 (capsC c Xf :: Δ4) w) (fun s' _ => ks.length - (vInt s').toNat) ⟨0, by omega, rfl, h⟩ ?_
          clear h
          rintro j iv W ⟨i, hi, hs, h⟩
          cases hs
          by_cases hlt : i < ks.length
          · have d6 : decide ((i : Int) < (ks.length : Int)) = true := by simp; omega
            have hks48 : ks.length ≤ 48 := by omega
            repeat (first
    | simp only [d6, ↓cv3_54, ↓cv54_3, ↓fa63_0, ↓fa60_0, ↓ld58, ↓rd58, ↓ld66, ↓rd66, ↓al68, ↓st68, ↓fa68_0, ↓ld3, ↓rd3, ↓len72, ↓ia72, ↓fa68_1, ↓bd68_0_1, ↓ld68, ↓rd68, ↓bs69_1_0, ↓ap69, ↓len69, ↓ia69, ↓eqneq4_bfalse, ↓GG, NN, Nat.reduceAdd]
    | refine a_ld1 h ?_
    | refine a_ldN h ?_
    | refine a_rs1 h ?_
    | refine a_rsN h ?_
    | (refine u_draw h ?_; clear h; intro W h)
    | refine a_rd1 h ?_
    | refine a_rdN h ?_
    | (refine u_nr h ?_; clear h; intro b W h)
    | (refine u_bx h ?_; clear h; intro b W h)
    | (refine u_al h ?_; clear h; intro b W h)
    | (refine a_st h ?_; clear h; intro W h))
            refine u_loop (fun s' w => ∃ q : Nat, q ≤ ts.length ∧ s' = (.int .i64 (Told (ts.take q) ks[i].kind ks[i].object : Nat), .int .i64 q) ∧ S w0 (capsC c Xf :: Δ4) w) (fun s' _ => ts.length - (vInt s'.2).toNat) ⟨0, by omega, rfl, h⟩ ?_
            clear h
            rintro j2 iv2 W ⟨q, hq, hs, h⟩
            cases hs
            have htl : Told (ts.take q) ks[i].kind ks[i].object ≤ 1000 := by
              unfold Told
              exact Nat.le_trans (List.length_filter_le _ _) (by rw [List.length_take]; omega)
            by_cases hql : q < ts.length
            · have d7 : decide ((q : Int) < (ts.length : Int)) = true := by simp; omega
              have hsucc := told_succ hql ks[i].kind ks[i].object
              repeat (first
    | simp only [d7, ↓cv3_54, ↓cv54_3, ↓fa63_0, ↓fa60_0, ↓ld58, ↓rd58, ↓ld66, ↓rd66, ↓al68, ↓st68, ↓fa68_0, ↓ld3, ↓rd3, ↓len72, ↓ia72, ↓fa68_1, ↓bd68_0_1, ↓ld68, ↓rd68, ↓bs69_1_0, ↓ap69, ↓len69, ↓ia69, ↓eqneq4_bfalse, ↓GG, NN, Nat.reduceAdd]
    | refine a_ld1 h ?_
    | refine a_ldN h ?_
    | refine a_rs1 h ?_
    | refine a_rsN h ?_
    | (refine u_draw h ?_; clear h; intro W h)
    | refine a_rd1 h ?_
    | refine a_rdN h ?_
    | (refine u_nr h ?_; clear h; intro b W h)
    | (refine u_bx h ?_; clear h; intro b W h)
    | (refine u_al h ?_; clear h; intro b W h)
    | (refine a_st h ?_; clear h; intro W h))
              refine u_join (fun sv w => sv = .int .i64 (Told (ts.take (q + 1)) ks[i].kind ks[i].object : Nat) ∧ S w0 (capsC c Xf :: Δ4) w) ?_ ?_
              · repeat (first
    | simp only [↓cv3_54, ↓cv54_3, ↓fa63_0, ↓fa60_0, ↓ld58, ↓rd58, ↓ld66, ↓rd66, ↓al68, ↓st68, ↓fa68_0, ↓ld3, ↓rd3, ↓len72, ↓ia72, ↓fa68_1, ↓bd68_0_1, ↓ld68, ↓rd68, ↓bs69_1_0, ↓ap69, ↓len69, ↓ia69, ↓eqneq4_bfalse, ↓GG, NN, Nat.reduceAdd]
    | refine a_ld1 h ?_
    | refine a_ldN h ?_
    | refine a_rs1 h ?_
    | refine a_rsN h ?_
    | (refine u_draw h ?_; clear h; intro W h)
    | refine a_rd1 h ?_
    | refine a_rdN h ?_
    | (refine u_nr h ?_; clear h; intro b W h)
    | (refine u_bx h ?_; clear h; intro b W h)
    | (refine u_al h ?_; clear h; intro b W h)
    | (refine a_st h ?_; clear h; intro W h))
                obtain ⟨kg, koff, kcap, kcur, kT, kfr, hkv, hkg, hkr, hksz⟩ := Kn.read capCells_len h knks4.tail hlt
                obtain ⟨tg, toff, tcap, tcur, tT, tfr, htv, htg, htr, htsz⟩ := Kn.read capCells_len h kntv4.tail hql
                injection hkv with e1 e2 e3
                subst e1 e3
                injection htv with e1 e2 e3
                subst e1 e3
                have ei : (i : Int).toNat = i := by omega
                have eq : (q : Int).toNat = q := by omega
                have hk0 := row_cell (j := 0) hkr (by omega)
                have hk1 := row_cell (j := 1) hkr (by omega)
                have ht0 := row_cell (j := 0) htr (by omega)
                have ht1 := row_cell (j := 1) htr (by omega)
                simp only [Cap.cells, Nat.add_zero] at hk0 hk1 ht0 ht1
                by_cases hkk : ts[q].kind = ks[i].kind
                · have d8 : (ts[q].kind == ks[i].kind) = true := by simp [hkk]
                  by_cases hoo : ts[q].object = ks[i].object
                  · have d9 : (ts[q].object == ks[i].object) = true := by simp [hoo]
                    repeat (first
    | simp only [d8, d9, ei, eq, ↓cv3_54, ↓cv54_3, ↓fa63_0, ↓fa60_0, ↓ld58, ↓rd58, ↓ld66, ↓rd66, ↓al68, ↓st68, ↓fa68_0, ↓ld3, ↓rd3, ↓len72, ↓ia72, ↓fa68_1, ↓bd68_0_1, ↓ld68, ↓rd68, ↓bs69_1_0, ↓ap69, ↓len69, ↓ia69, ↓eqneq4_bfalse, ↓GG, NN, Nat.reduceAdd]
    | rw [ia69 (by omega)]
    | (refine v_ld1 hkg hk0 ?_)
    | (refine v_ld1 hkg hk1 ?_)
    | (refine v_ld1 htg ht0 ?_)
    | (refine v_ld1 htg ht1 ?_)
    | refine a_ld1 h ?_
    | refine a_ldN h ?_
    | refine a_rs1 h ?_
    | refine a_rsN h ?_
    | (refine u_draw h ?_; clear h; intro W h)
    | refine a_rd1 h ?_
    | refine a_rdN h ?_
    | (refine u_nr h ?_; clear h; intro b W h)
    | (refine u_bx h ?_; clear h; intro b W h)
    | (refine u_al h ?_; clear h; intro b W h)
    | (refine a_st h ?_; clear h; intro W h))
                    rw [hsucc, if_pos ⟨hkk, hoo⟩, wrap_succ (by omega)]
                    exact ⟨rfl, h⟩
                  · have d9 : (ts[q].object == ks[i].object) = false := by simp [hoo]
                    repeat (first
    | simp only [d8, d9, ei, eq, ↓cv3_54, ↓cv54_3, ↓fa63_0, ↓fa60_0, ↓ld58, ↓rd58, ↓ld66, ↓rd66, ↓al68, ↓st68, ↓fa68_0, ↓ld3, ↓rd3, ↓len72, ↓ia72, ↓fa68_1, ↓bd68_0_1, ↓ld68, ↓rd68, ↓bs69_1_0, ↓ap69, ↓len69, ↓ia69, ↓eqneq4_bfalse, ↓GG, NN, Nat.reduceAdd]
    | rw [ia69 (by omega)]
    | (refine v_ld1 hkg hk0 ?_)
    | (refine v_ld1 hkg hk1 ?_)
    | (refine v_ld1 htg ht0 ?_)
    | (refine v_ld1 htg ht1 ?_)
    | refine a_ld1 h ?_
    | refine a_ldN h ?_
    | refine a_rs1 h ?_
    | refine a_rsN h ?_
    | (refine u_draw h ?_; clear h; intro W h)
    | refine a_rd1 h ?_
    | refine a_rdN h ?_
    | (refine u_nr h ?_; clear h; intro b W h)
    | (refine u_bx h ?_; clear h; intro b W h)
    | (refine u_al h ?_; clear h; intro b W h)
    | (refine a_st h ?_; clear h; intro W h))
                    rw [hsucc, if_neg (fun e => hoo e.2)]
                    exact ⟨rfl, h⟩
                · have d8 : (ts[q].kind == ks[i].kind) = false := by simp [hkk]
                  repeat (first
    | simp only [d8, ei, eq, ↓cv3_54, ↓cv54_3, ↓fa63_0, ↓fa60_0, ↓ld58, ↓rd58, ↓ld66, ↓rd66, ↓al68, ↓st68, ↓fa68_0, ↓ld3, ↓rd3, ↓len72, ↓ia72, ↓fa68_1, ↓bd68_0_1, ↓ld68, ↓rd68, ↓bs69_1_0, ↓ap69, ↓len69, ↓ia69, ↓eqneq4_bfalse, ↓GG, NN, Nat.reduceAdd]
    | rw [ia69 (by omega)]
    | (refine v_ld1 hkg hk0 ?_)
    | (refine v_ld1 hkg hk1 ?_)
    | (refine v_ld1 htg ht0 ?_)
    | (refine v_ld1 htg ht1 ?_)
    | refine a_ld1 h ?_
    | refine a_ldN h ?_
    | refine a_rs1 h ?_
    | refine a_rsN h ?_
    | (refine u_draw h ?_; clear h; intro W h)
    | refine a_rd1 h ?_
    | refine a_rdN h ?_
    | (refine u_nr h ?_; clear h; intro b W h)
    | (refine u_bx h ?_; clear h; intro b W h)
    | (refine u_al h ?_; clear h; intro b W h)
    | (refine a_st h ?_; clear h; intro W h))
                  rw [hsucc, if_neg (fun e => hkk e.1)]
                  exact ⟨rfl, h⟩
              · clear h
                rintro j3 sv W ⟨rfl, h⟩
                repeat (first
    | simp only [↓cv3_54, ↓cv54_3, ↓fa63_0, ↓fa60_0, ↓ld58, ↓rd58, ↓ld66, ↓rd66, ↓al68, ↓st68, ↓fa68_0, ↓ld3, ↓rd3, ↓len72, ↓ia72, ↓fa68_1, ↓bd68_0_1, ↓ld68, ↓rd68, ↓bs69_1_0, ↓ap69, ↓len69, ↓ia69, ↓eqneq4_bfalse, ↓GG, NN, Nat.reduceAdd]
    | refine a_ld1 h ?_
    | refine a_ldN h ?_
    | refine a_rs1 h ?_
    | refine a_rsN h ?_
    | (refine u_draw h ?_; clear h; intro W h)
    | refine a_rd1 h ?_
    | refine a_rdN h ?_
    | (refine u_nr h ?_; clear h; intro b W h)
    | (refine u_bx h ?_; clear h; intro b W h)
    | (refine u_al h ?_; clear h; intro b W h)
    | (refine a_st h ?_; clear h; intro W h))
                rw [wrap_succ (by omega)]
                exact ⟨⟨q + 1, by omega, rfl, h⟩, by simp only [vInt]; omega⟩
            · have d7 : decide ((q : Int) < (ts.length : Int)) = false := by simp; omega
              have : q = ts.length := by omega
              subst this
              rw [List.take_length] at htl ⊢
              obtain ⟨f1, f2⟩ := hfin.told hX hfa hlk (hks _ (List.getElem_mem hlt))
              repeat (first
    | simp only [d7, ↓cv3_54, ↓cv54_3, ↓fa63_0, ↓fa60_0, ↓ld58, ↓rd58, ↓ld66, ↓rd66, ↓al68, ↓st68, ↓fa68_0, ↓ld3, ↓rd3, ↓len72, ↓ia72, ↓fa68_1, ↓bd68_0_1, ↓ld68, ↓rd68, ↓bs69_1_0, ↓ap69, ↓len69, ↓ia69, ↓eqneq4_bfalse, ↓GG, NN, Nat.reduceAdd]
    | refine a_ld1 h ?_
    | refine a_ldN h ?_
    | refine a_rs1 h ?_
    | refine a_rsN h ?_
    | (refine u_draw h ?_; clear h; intro W h)
    | refine a_rd1 h ?_
    | refine a_rdN h ?_
    | (refine u_nr h ?_; clear h; intro b W h)
    | (refine u_bx h ?_; clear h; intro b W h)
    | (refine u_al h ?_; clear h; intro b W h)
    | (refine a_st h ?_; clear h; intro W h))
              obtain ⟨s2, t2, h'⟩ := caps_open h
              clear h
              have h := h'
              clear h'
              repeat (first
    | simp only [↓cv3_54, ↓cv54_3, ↓fa63_0, ↓fa60_0, ↓ld58, ↓rd58, ↓ld66, ↓rd66, ↓al68, ↓st68, ↓fa68_0, ↓ld3, ↓rd3, ↓len72, ↓ia72, ↓fa68_1, ↓bd68_0_1, ↓ld68, ↓rd68, ↓bs69_1_0, ↓ap69, ↓len69, ↓ia69, ↓eqneq4_bfalse, ↓GG, NN, Nat.reduceAdd]
    | refine a_ld1 h ?_
    | refine a_ldN h ?_
    | refine a_rs1 h ?_
    | refine a_rsN h ?_
    | (refine u_draw h ?_; clear h; intro W h)
    | refine a_rd1 h ?_
    | refine a_rdN h ?_
    | (refine u_nr h ?_; clear h; intro b W h)
    | (refine u_bx h ?_; clear h; intro b W h)
    | (refine u_al h ?_; clear h; intro b W h)
    | (refine a_st h ?_; clear h; intro W h))
              obtain ⟨kg, koff, kcap, kcur, kT, kfr, hkv, hkg, hkr, hksz⟩ := Kn.read capCells_len h knks4.tail.tail.tail hlt
              injection hkv with e1 e2 e3
              subst e1 e3
              have ei : (i : Int).toNat = i := by omega
              have hk0 := row_cell (j := 0) hkr (by omega)
              have hk1 := row_cell (j := 1) hkr (by omega)
              simp only [Cap.cells, Nat.add_zero] at hk0 hk1
              repeat (first
    | simp only [ei, ↓cv3_54, ↓cv54_3, ↓fa63_0, ↓fa60_0, ↓ld58, ↓rd58, ↓ld66, ↓rd66, ↓al68, ↓st68, ↓fa68_0, ↓ld3, ↓rd3, ↓len72, ↓ia72, ↓fa68_1, ↓bd68_0_1, ↓ld68, ↓rd68, ↓bs69_1_0, ↓ap69, ↓len69, ↓ia69, ↓eqneq4_bfalse, ↓GG, NN, Nat.reduceAdd]
    | rw [ia69 (by omega)]
    | (refine v_ld1 hkg hk0 ?_)
    | (refine v_ld1 hkg hk1 ?_)
    | refine a_ld1 h ?_
    | refine a_ldN h ?_
    | refine a_rs1 h ?_
    | refine a_rsN h ?_
    | (refine u_draw h ?_; clear h; intro W h)
    | refine a_rd1 h ?_
    | refine a_rdN h ?_
    | (refine u_nr h ?_; clear h; intro b W h)
    | (refine u_bx h ?_; clear h; intro b W h)
    | (refine u_al h ?_; clear h; intro b W h)
    | (refine a_st h ?_; clear h; intro W h))
              refine r_call (sCount (kind := ks[i].kind) (object := ks[i].object) (h.takeA (c := storeC s2 Xf.s))) ?_
              clear h
              rintro v W ⟨rfl, h⟩
              have e8 : ((Told ts ks[i].kind ks[i].object : Int) == 1) = ((Xf.s.count ks[i].kind ks[i].object : Int) == 0) := by
                rw [Bool.eq_iff_iff, beq_iff_eq, beq_iff_eq]
                constructor
                · intro h; have := f1.1 (by omega); omega
                · intro h; have := f1.2 (by omega); omega
              have d8 : (!(((Told ts ks[i].kind ks[i].object : Int) == 1) == ((Xf.s.count ks[i].kind ks[i].object : Int) == 0))) = false := by rw [e8]; simp
              have d9 : decide ((Told ts ks[i].kind ks[i].object : Int) > 1) = false := by simp; omega
              repeat (first
    | simp only [d8, d9, ↓cv3_54, ↓cv54_3, ↓fa63_0, ↓fa60_0, ↓ld58, ↓rd58, ↓ld66, ↓rd66, ↓al68, ↓st68, ↓fa68_0, ↓ld3, ↓rd3, ↓len72, ↓ia72, ↓fa68_1, ↓bd68_0_1, ↓ld68, ↓rd68, ↓bs69_1_0, ↓ap69, ↓len69, ↓ia69, ↓eqneq4_bfalse, ↓GG, NN, Nat.reduceAdd]
    | refine a_ld1 h ?_
    | refine a_ldN h ?_
    | refine a_rs1 h ?_
    | refine a_rsN h ?_
    | (refine u_draw h ?_; clear h; intro W h)
    | refine a_rd1 h ?_
    | refine a_rdN h ?_
    | (refine u_nr h ?_; clear h; intro b W h)
    | (refine u_bx h ?_; clear h; intro b W h)
    | (refine u_al h ?_; clear h; intro b W h)
    | (refine a_st h ?_; clear h; intro W h))
              rw [wrap_succ (by omega)]
              exact ⟨⟨i + 1, by omega, rfl, (caps_shut (s := s2) (t := t2) (X := Xf) h (by repeat (first | exact Take.head | apply Take.tail)) (by repeat (first | exact Take.head | apply Take.tail)) (by repeat (first | exact Take.head | apply Take.tail))).subA⟩, by simp only [vInt]; omega⟩
          · have d6 : decide ((i : Int) < (ks.length : Int)) = false := by simp; omega
            repeat (first
    | simp only [d6, ↓cv3_54, ↓cv54_3, ↓fa63_0, ↓fa60_0, ↓ld58, ↓rd58, ↓ld66, ↓rd66, ↓al68, ↓st68, ↓fa68_0, ↓ld3, ↓rd3, ↓len72, ↓ia72, ↓fa68_1, ↓bd68_0_1, ↓ld68, ↓rd68, ↓bs69_1_0, ↓ap69, ↓len69, ↓ia69, ↓eqneq4_bfalse, ↓GG, NN, Nat.reduceAdd]
    | refine a_ld1 h ?_
    | refine a_ldN h ?_
    | refine a_rs1 h ?_
    | refine a_rsN h ?_
    | (refine u_draw h ?_; clear h; intro W h)
    | refine a_rd1 h ?_
    | refine a_rdN h ?_
    | (refine u_nr h ?_; clear h; intro b W h)
    | (refine u_bx h ?_; clear h; intro b W h)
    | (refine u_al h ?_; clear h; intro b W h)
    | (refine a_st h ?_; clear h; intro W h))
            subst hΔ4 hΔ3
            exact ⟨rfl, h.subA⟩
end
end Go.Proofs.Ytpghhaobcikdhaa
