/- Revoke: step. -/
import Derived.Test.YtpghhaobcikdhaaA17
namespace Go.Proofs.Ytpghhaobcikdhaa
open Go Go.Hw
set_option linter.unusedSimpArgs false
set_option linter.unusedVariables false
set_option maxRecDepth 100000

/-- a call that returns, or panics -/
def RetP (Q : Value → World → Prop) (F : List PanicEntry → World → Prop) : Ending → World → Prop
  | .returned v, W => Q v W
  | .panicked ch, W => F ch W
  | .outgrown, _ => False
theorem r_callP {P : Program} {E : List PanicEntry → World → Prop} {k : Value → World → Prop} {W : World} {f : FuncId} {args : Array Value} {Q : Value → World → Prop} {F : List PanicEntry → World → Prop}
    (sp : Calls P f args W (RetP Q F)) (hk : ∀ v W', Q v W' → k v W') (he : ∀ ch W', F ch W' → E ch W') : oC P E f args k W :=
  Calls.mono sp fun e W' h => by cases e <;> first | exact hk _ _ h | exact he _ _ h | exact h.elim

def spentCh : List PanicEntry := [{ v := .iface 180 (.agg #[]), recovered := false }]

structure St where
  X : Caps
  n : Int
  ts : List Cap
def St.step (st : St) (a : Slot) : St :=
  if st.X.final a then
    ⟨if (st.X.take a).1.1.kind = 2 then ((st.X.take a).2.clear (st.X.take a).1.1.object).2 else (st.X.take a).2, st.n - 1, st.ts ++ [(st.X.take a).1.1]⟩
  else ⟨(st.X.take a).2, st.n - 1, st.ts⟩

section
variable {w0 : World} {Γ Γ' : List Chunk} {W : World} {c s t k : Nat} {X : Caps} {σ : Store} {n : Int} {ts : List Cap}
/-- the two pieces of who takes away -/
abbrev stC (k c : Nat) (st : St) (Γ : List Chunk) : List Chunk := takC k c st.n st.ts :: capsC c st.X :: Γ

theorem panic_spent {E : List PanicEntry → World → Prop} {kk : Value → World → Prop} (h : E spentCh W) : oV Try.prog E (Instr.panic (.iface 180 (.agg #[]))) kk W := by
  have : (Instr.panic (.iface 180 (.agg #[]))).run Try.prog W = .halt (.panic (.iface 180 (.agg #[]))) W := by kernel_rfl
  unfold oV
  rw [this]
  exact h

theorem kStep {st : St} {sa : Slot} (hw : st.X.t.Wf) (hn : 0 ≤ st.n ∧ st.n ≤ 1000) (ht : st.ts.length ≤ 100000) (h : S w0 (stC k c st Γ) W) :
    Calls Try.prog F_revoke_taker_step #[.pointer (some ⟨k, 0, none⟩), slotV sa] W
    (RetP (fun v W' => st.n ≠ 0 ∧ v = .tuple #[] ∧ S w0 (stC k c (st.step sa) Γ) W') (fun ch W' => st.n = 0 ∧ ch = spentCh ∧ S w0 (stC k c st Γ) W')) := by
  obtain ⟨tv, h⟩ := tak_open h
  refine c_revoke_taker_step ?_
  unfold h_revoke_taker_step
  rw [slotV]
  by_cases hz : st.n = 0
  · have d1 : (st.n == 0) = true := by simp [hz]
    repeat (first
    | simp only [d1, ↓fa143_1, ↓ld3, ↓rd3, ↓bd180_, ↓mi180, ↓st3, ↓fa143_0, ↓ld55, ↓rd55, ↓ld66, ↓rd66, ↓al68, ↓st68, ↓fa143_2, ↓ld69, ↓rd69, ↓ld68, ↓rd68, ↓bs69_1_0, ↓ap69, ↓st69, ↓fa68_0, ↓fa63_0, ↓ld60, ↓rd60, ↓fa68_1, ↓GG, NN, Nat.reduceAdd]
    | refine a_ld1 h ?_
    | refine a_ldN h ?_
    | refine a_rs1 h ?_
    | refine a_rsN h ?_
    | (refine u_draw h ?_; clear h; intro W h)
    | refine a_rd1 h ?_
    | refine a_rdN h ?_
    | (refine u_nr h ?_; clear h; intro b W h)
    | (refine u_bx h ?_; clear h; intro b W h)
    | (refine u_al h ?_; clear h; intro b W h)
    | (refine a_st h ?_; clear h; intro W h)
    | refine oJoin_inl ?_)
    refine panic_spent ?_
    exact ⟨hz, rfl, (S.get2 (tak_shut (ts := st.ts) h (by repeat (first | exact Take.head | apply Take.tail)) (by repeat (first | exact Take.head | apply Take.tail))) (by repeat (first | exact Take.head | apply Take.tail)) (by repeat (first | exact Take.head | apply Take.tail))).subA⟩
  · have d1 : (st.n == 0) = false := by simp [hz]
    have d2 : IntKind.i64.wrap (st.n - 1) = st.n - 1 := wrap_i64 (by omega)
    repeat (first
    | simp only [d1, d2, ↓fa143_1, ↓ld3, ↓rd3, ↓bd180_, ↓mi180, ↓st3, ↓fa143_0, ↓ld55, ↓rd55, ↓ld66, ↓rd66, ↓al68, ↓st68, ↓fa143_2, ↓ld69, ↓rd69, ↓ld68, ↓rd68, ↓bs69_1_0, ↓ap69, ↓st69, ↓fa68_0, ↓fa63_0, ↓ld60, ↓rd60, ↓fa68_1, ↓GG, NN, Nat.reduceAdd]
    | refine a_ld1 h ?_
    | refine a_ldN h ?_
    | refine a_rs1 h ?_
    | refine a_rsN h ?_
    | (refine u_draw h ?_; clear h; intro W h)
    | refine a_rd1 h ?_
    | refine a_rdN h ?_
    | (refine u_nr h ?_; clear h; intro b W h)
    | (refine u_bx h ?_; clear h; intro b W h)
    | (refine u_al h ?_; clear h; intro b W h)
    | (refine a_st h ?_; clear h; intro W h)
    | refine oJoin_inl ?_)
    obtain ⟨pb, hpb⟩ : ∃ x, x = b := ⟨_, rfl⟩
    subst hpb
    refine r_call (mFinal (sa := sa) (h.take (c := capsC c st.X) (by repeat (first | exact Take.head | apply Take.tail)))) ?_
    clear h
    rintro v W ⟨rfl, h⟩
    refine u_join (fun v w => ∃ q, v = .pointer (some ⟨q, 0, none⟩) ∧ S w0 (pts q (.cells (st.X.take sa).1.1.cells.toArray 68 (0, 0)) :: pts k (.cells #[.pointer (some ⟨c, 0, none⟩), .int .i64 (st.n - 1), tv] T_revoke_taker (0, 0)) :: capsS tv st.ts :: capsC c (st.X.take sa).2 :: Γ) w) ?_ ?_
    · repeat (first
    | simp only [↓fa143_1, ↓ld3, ↓rd3, ↓bd180_, ↓mi180, ↓st3, ↓fa143_0, ↓ld55, ↓rd55, ↓ld66, ↓rd66, ↓al68, ↓st68, ↓fa143_2, ↓ld69, ↓rd69, ↓ld68, ↓rd68, ↓bs69_1_0, ↓ap69, ↓st69, ↓fa68_0, ↓fa63_0, ↓ld60, ↓rd60, ↓fa68_1, ↓GG, NN, Nat.reduceAdd]
    | refine a_ld1 h ?_
    | refine a_ldN h ?_
    | refine a_rs1 h ?_
    | refine a_rsN h ?_
    | (refine u_draw h ?_; clear h; intro W h)
    | refine a_rd1 h ?_
    | refine a_rdN h ?_
    | (refine u_nr h ?_; clear h; intro b W h)
    | (refine u_bx h ?_; clear h; intro b W h)
    | (refine u_al h ?_; clear h; intro b W h)
    | (refine a_st h ?_; clear h; intro W h))
      constructor
      · repeat (first
    | simp only [↓fa143_1, ↓ld3, ↓rd3, ↓bd180_, ↓mi180, ↓st3, ↓fa143_0, ↓ld55, ↓rd55, ↓ld66, ↓rd66, ↓al68, ↓st68, ↓fa143_2, ↓ld69, ↓rd69, ↓ld68, ↓rd68, ↓bs69_1_0, ↓ap69, ↓st69, ↓fa68_0, ↓fa63_0, ↓ld60, ↓rd60, ↓fa68_1, ↓GG, NN, Nat.reduceAdd]
    | refine a_ld1 h ?_
    | refine a_ldN h ?_
    | refine a_rs1 h ?_
    | refine a_rsN h ?_
    | (refine u_draw h ?_; clear h; intro W h)
    | refine a_rd1 h ?_
    | refine a_rdN h ?_
    | (refine u_nr h ?_; clear h; intro b W h)
    | (refine u_bx h ?_; clear h; intro b W h)
    | (refine u_al h ?_; clear h; intro b W h)
    | (refine a_st h ?_; clear h; intro W h))
        refine r_call (mTake (sa := sa) hw (h.take (c := capsC c st.X) (by repeat (first | exact Take.head | apply Take.tail)))) ?_
        clear h
        rintro v W ⟨rfl, h⟩
        repeat (first
    | simp only [↓fa143_1, ↓ld3, ↓rd3, ↓bd180_, ↓mi180, ↓st3, ↓fa143_0, ↓ld55, ↓rd55, ↓ld66, ↓rd66, ↓al68, ↓st68, ↓fa143_2, ↓ld69, ↓rd69, ↓ld68, ↓rd68, ↓bs69_1_0, ↓ap69, ↓st69, ↓fa68_0, ↓fa63_0, ↓ld60, ↓rd60, ↓fa68_1, ↓GG, NN, Nat.reduceAdd]
    | refine a_ld1 h ?_
    | refine a_ldN h ?_
    | refine a_rs1 h ?_
    | refine a_rsN h ?_
    | (refine u_draw h ?_; clear h; intro W h)
    | refine a_rd1 h ?_
    | refine a_rdN h ?_
    | (refine u_nr h ?_; clear h; intro b W h)
    | (refine u_bx h ?_; clear h; intro b W h)
    | (refine u_al h ?_; clear h; intro b W h)
    | (refine a_st h ?_; clear h; intro W h))
        exact ⟨_, rfl, (S.get4 (c1 := pts _ (.cells (st.X.take sa).1.1.cells.toArray 68 (0, 0))) (c2 := pts k (.cells #[.pointer (some ⟨c, 0, none⟩), .int .i64 (st.n - 1), tv] T_revoke_taker (0, 0))) (c3 := capsS tv st.ts) (c4 := capsC c (st.X.take sa).2) h (by repeat (first | exact Take.head | apply Take.tail)) (by repeat (first | exact Take.head | apply Take.tail)) (by repeat (first | exact Take.head | apply Take.tail)) (by repeat (first | exact Take.head | apply Take.tail))).subA⟩
      · repeat (first
    | simp only [↓fa143_1, ↓ld3, ↓rd3, ↓bd180_, ↓mi180, ↓st3, ↓fa143_0, ↓ld55, ↓rd55, ↓ld66, ↓rd66, ↓al68, ↓st68, ↓fa143_2, ↓ld69, ↓rd69, ↓ld68, ↓rd68, ↓bs69_1_0, ↓ap69, ↓st69, ↓fa68_0, ↓fa63_0, ↓ld60, ↓rd60, ↓fa68_1, ↓GG, NN, Nat.reduceAdd]
    | refine a_ld1 h ?_
    | refine a_ldN h ?_
    | refine a_rs1 h ?_
    | refine a_rsN h ?_
    | (refine u_draw h ?_; clear h; intro W h)
    | refine a_rd1 h ?_
    | refine a_rdN h ?_
    | (refine u_nr h ?_; clear h; intro b W h)
    | (refine u_bx h ?_; clear h; intro b W h)
    | (refine u_al h ?_; clear h; intro b W h)
    | (refine a_st h ?_; clear h; intro W h))
        refine r_call (mTake (sa := sa) hw (h.take (c := capsC c st.X) (by repeat (first | exact Take.head | apply Take.tail)))) ?_
        clear h
        rintro v W ⟨rfl, h⟩
        repeat (first
    | simp only [↓fa143_1, ↓ld3, ↓rd3, ↓bd180_, ↓mi180, ↓st3, ↓fa143_0, ↓ld55, ↓rd55, ↓ld66, ↓rd66, ↓al68, ↓st68, ↓fa143_2, ↓ld69, ↓rd69, ↓ld68, ↓rd68, ↓bs69_1_0, ↓ap69, ↓st69, ↓fa68_0, ↓fa63_0, ↓ld60, ↓rd60, ↓fa68_1, ↓GG, NN, Nat.reduceAdd]
    | refine a_ld1 h ?_
    | refine a_ldN h ?_
    | refine a_rs1 h ?_
    | refine a_rsN h ?_
    | (refine u_draw h ?_; clear h; intro W h)
    | refine a_rd1 h ?_
    | refine a_rdN h ?_
    | (refine u_nr h ?_; clear h; intro b W h)
    | (refine u_bx h ?_; clear h; intro b W h)
    | (refine u_al h ?_; clear h; intro b W h)
    | (refine a_st h ?_; clear h; intro W h))
        exact ⟨_, rfl, (S.get4 (c1 := pts _ (.cells (st.X.take sa).1.1.cells.toArray 68 (0, 0))) (c2 := pts k (.cells #[.pointer (some ⟨c, 0, none⟩), .int .i64 (st.n - 1), tv] T_revoke_taker (0, 0))) (c3 := capsS tv st.ts) (c4 := capsC c (st.X.take sa).2) h (by repeat (first | exact Take.head | apply Take.tail)) (by repeat (first | exact Take.head | apply Take.tail)) (by repeat (first | exact Take.head | apply Take.tail)) (by repeat (first | exact Take.head | apply Take.tail))).subA⟩
    · clear h
      rintro j v W ⟨q, rfl, h⟩
      simp only [Cap.cells] at h
      cases hfin : st.X.final sa
      · repeat (first
    | simp only [↓fa143_1, ↓ld3, ↓rd3, ↓bd180_, ↓mi180, ↓st3, ↓fa143_0, ↓ld55, ↓rd55, ↓ld66, ↓rd66, ↓al68, ↓st68, ↓fa143_2, ↓ld69, ↓rd69, ↓ld68, ↓rd68, ↓bs69_1_0, ↓ap69, ↓st69, ↓fa68_0, ↓fa63_0, ↓ld60, ↓rd60, ↓fa68_1, ↓GG, NN, Nat.reduceAdd]
    | refine a_ld1 h ?_
    | refine a_ldN h ?_
    | refine a_rs1 h ?_
    | refine a_rsN h ?_
    | (refine u_draw h ?_; clear h; intro W h)
    | refine a_rd1 h ?_
    | refine a_rdN h ?_
    | (refine u_nr h ?_; clear h; intro b W h)
    | (refine u_bx h ?_; clear h; intro b W h)
    | (refine u_al h ?_; clear h; intro b W h)
    | (refine a_st h ?_; clear h; intro W h))
        have e : st.step sa = ⟨(st.X.take sa).2, st.n - 1, st.ts⟩ := by simp [St.step, hfin]
        rw [e]
        exact ⟨hz, rfl, (S.get2 (c1 := takC k c (st.n - 1) st.ts) (c2 := capsC c (st.X.take sa).2) (tak_shut (ts := st.ts) h (by repeat (first | exact Take.head | apply Take.tail)) (by repeat (first | exact Take.head | apply Take.tail))) (by repeat (first | exact Take.head | apply Take.tail)) (by repeat (first | exact Take.head | apply Take.tail))).subA⟩
      · repeat (first
    | simp only [↓fa143_1, ↓ld3, ↓rd3, ↓bd180_, ↓mi180, ↓st3, ↓fa143_0, ↓ld55, ↓rd55, ↓ld66, ↓rd66, ↓al68, ↓st68, ↓fa143_2, ↓ld69, ↓rd69, ↓ld68, ↓rd68, ↓bs69_1_0, ↓ap69, ↓st69, ↓fa68_0, ↓fa63_0, ↓ld60, ↓rd60, ↓fa68_1, ↓GG, NN, Nat.reduceAdd]
    | refine a_ld1 h ?_
    | refine a_ldN h ?_
    | refine a_rs1 h ?_
    | refine a_rsN h ?_
    | (refine u_draw h ?_; clear h; intro W h)
    | refine a_rd1 h ?_
    | refine a_rdN h ?_
    | (refine u_nr h ?_; clear h; intro b W h)
    | (refine u_bx h ?_; clear h; intro b W h)
    | (refine u_al h ?_; clear h; intro b W h)
    | (refine a_st h ?_; clear h; intro W h))
        refine u_ap h (e := T_api_Cap) (xs := st.ts.flatMap Cap.cells) (by repeat (first | exact Take.head | apply Take.tail)) (Take.knows (by repeat (first | exact Take.head | apply Take.tail))) (Nat.le_of_ble_eq_true rfl) (by rfl) (by omega) (by decide) ?_
        clear h
        intro v W h
        obtain ⟨va, vc, rfl⟩ := slc_shape h .head
        have ecap : ∀ (x : Cap) (w : Value), slc T_api_Cap 6 w (st.ts.length + 1) (st.ts.flatMap Cap.cells ++ x.cells) = capsS w (st.ts ++ [x]) := by
          intro x w
          show _ = slc T_api_Cap 6 w (st.ts ++ [x]).length ((st.ts ++ [x]).flatMap Cap.cells)
          rw [List.flatMap_append, List.length_append]
          simp
        have h1 := h.take (c := slc T_api_Cap 6 (.slice va (st.ts.length + 1) vc) (st.ts.length + 1) (st.ts.flatMap Cap.cells ++ (st.X.take sa).1.1.cells)) (by repeat (first | exact Take.head | apply Take.tail))
        rw [ecap] at h1
        clear h
        have h := h1
        clear h1
        by_cases hk : (st.X.take sa).1.1.kind = 2
        · have d3 : ((st.X.take sa).1.1.kind == 2) = true := by simp [hk]
          obtain ⟨s, t, h'⟩ := caps_open (h.take (c := capsC c (st.X.take sa).2) (by repeat (first | exact Take.head | apply Take.tail)))
          clear h
          have h := h'
          clear h'
          repeat (first
    | simp only [d3, ↓fa143_1, ↓ld3, ↓rd3, ↓bd180_, ↓mi180, ↓st3, ↓fa143_0, ↓ld55, ↓rd55, ↓ld66, ↓rd66, ↓al68, ↓st68, ↓fa143_2, ↓ld69, ↓rd69, ↓ld68, ↓rd68, ↓bs69_1_0, ↓ap69, ↓st69, ↓fa68_0, ↓fa63_0, ↓ld60, ↓rd60, ↓fa68_1, ↓GG, NN, Nat.reduceAdd]
    | refine a_ld1 h ?_
    | refine a_ldN h ?_
    | refine a_rs1 h ?_
    | refine a_rsN h ?_
    | (refine u_draw h ?_; clear h; intro W h)
    | refine a_rd1 h ?_
    | refine a_rdN h ?_
    | (refine u_nr h ?_; clear h; intro b W h)
    | (refine u_bx h ?_; clear h; intro b W h)
    | (refine u_al h ?_; clear h; intro b W h)
    | (refine a_st h ?_; clear h; intro W h))
          refine r_call (mClear (id := (st.X.take sa).1.1.object) (h.take (c := storeC s (st.X.take sa).2.s) (by repeat (first | exact Take.head | apply Take.tail)))) ?_
          clear h
          rintro v W ⟨rfl, h⟩
          have e : st.step sa = ⟨((st.X.take sa).2.clear (st.X.take sa).1.1.object).2, st.n - 1, st.ts ++ [(st.X.take sa).1.1]⟩ := by simp [St.step, hfin, hk]
          rw [e]
          have h2 := caps_shut (X := ((st.X.take sa).2.clear (st.X.take sa).1.1.object).2) h (by repeat (first | exact Take.head | apply Take.tail)) (by repeat (first | exact Take.head | apply Take.tail)) (by repeat (first | exact Take.head | apply Take.tail))
          exact ⟨hz, rfl, (S.get2 (c1 := takC k c (st.n - 1) (st.ts ++ [(st.X.take sa).1.1])) (c2 := capsC c ((st.X.take sa).2.clear (st.X.take sa).1.1.object).2) (tak_shut (ts := st.ts ++ [(st.X.take sa).1.1]) h2 (by repeat (first | exact Take.head | apply Take.tail)) (by repeat (first | exact Take.head | apply Take.tail))) (by repeat (first | exact Take.head | apply Take.tail)) (by repeat (first | exact Take.head | apply Take.tail))).subA⟩
        · have d3 : ((st.X.take sa).1.1.kind == 2) = false := by simp [hk]
          repeat (first
    | simp only [d3, ↓fa143_1, ↓ld3, ↓rd3, ↓bd180_, ↓mi180, ↓st3, ↓fa143_0, ↓ld55, ↓rd55, ↓ld66, ↓rd66, ↓al68, ↓st68, ↓fa143_2, ↓ld69, ↓rd69, ↓ld68, ↓rd68, ↓bs69_1_0, ↓ap69, ↓st69, ↓fa68_0, ↓fa63_0, ↓ld60, ↓rd60, ↓fa68_1, ↓GG, NN, Nat.reduceAdd]
    | refine a_ld1 h ?_
    | refine a_ldN h ?_
    | refine a_rs1 h ?_
    | refine a_rsN h ?_
    | (refine u_draw h ?_; clear h; intro W h)
    | refine a_rd1 h ?_
    | refine a_rdN h ?_
    | (refine u_nr h ?_; clear h; intro b W h)
    | (refine u_bx h ?_; clear h; intro b W h)
    | (refine u_al h ?_; clear h; intro b W h)
    | (refine a_st h ?_; clear h; intro W h))
          have e : st.step sa = ⟨(st.X.take sa).2, st.n - 1, st.ts ++ [(st.X.take sa).1.1]⟩ := by simp [St.step, hfin, hk]
          rw [e]
          exact ⟨hz, rfl, (S.get2 (c1 := takC k c (st.n - 1) (st.ts ++ [(st.X.take sa).1.1])) (c2 := capsC c (st.X.take sa).2) (tak_shut (ts := st.ts ++ [(st.X.take sa).1.1]) h (by repeat (first | exact Take.head | apply Take.tail)) (by repeat (first | exact Take.head | apply Take.tail))) (by repeat (first | exact Take.head | apply Take.tail)) (by repeat (first | exact Take.head | apply Take.tail))).subA⟩
end
end Go.Proofs.Ytpghhaobcikdhaa
