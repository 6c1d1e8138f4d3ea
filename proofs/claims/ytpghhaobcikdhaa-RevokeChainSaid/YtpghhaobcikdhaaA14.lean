/- What is done with slots: Child, Move, Take. -/
import Derived.Test.YtpghhaobcikdhaaA13
namespace Go.Proofs.Ytpghhaobcikdhaa
open Go Go.Hw
set_option linter.unusedSimpArgs false
set_option linter.unusedVariables false
set_option maxRecDepth 100000

section
variable {w0 : World} {Γ Γ' : List Chunk} {W : World} {c s t : Nat} {X : Caps}

theorem mChild {so sa : Slot} {x : Cap} (hc : X.t.Cl) (h : S w0 (capsC c X :: Γ) W) : Calls Try.prog F_moves_Caps_Child #[.pointer (some ⟨c, 0, none⟩), slotV so, slotV sa, x.v] W
    (Ret fun v W' => v = .int .i64 (X.child so sa x).1 ∧ S w0 (capsC c (X.child so sa x).2 :: Γ) W') := by
  refine c_moves_Caps_Child ?_
  unfold h_moves_Caps_Child
  simp only [slotV, Cap.v]
  repeat (first
    | simp only [↓ld66, ↓rd66, ↓al68, ↓st68, ↓fa63_0, ↓fa60_0, ↓ld58, ↓rd58, ↓ld68, ↓rd68, ↓fa63_1, ↓ld61, ↓rd61, ↓GG, NN, Nat.reduceAdd]
    | refine a_ld1 h ?_
    | refine a_ldN h ?_
    | refine a_rs1 h ?_
    | refine a_rsN h ?_
    | (refine u_draw h ?_; clear h; intro W h)
    | refine a_rd1 h ?_
    | refine a_rdN h ?_
    | (refine u_nr h ?_; clear h; intro b W h)
    | (refine u_bx h ?_; clear h; intro b W h)
    | (refine u_al h ?_; clear h; intro b W h)
    | (refine a_st h ?_; clear h; intro W h))
  refine r_call (mBoth (sa := so) (sb := sa) (h.take (by repeat (first | exact Take.head | apply Take.tail)))) ?_
  clear h
  rintro v W ⟨rfl, h⟩
  simp only [Cap.v]
  by_cases he : (X.both so sa).2 = 0
  · have d1 : ((X.both so sa).2 != 0) = false := by simp [he]
    obtain ⟨s, t, h'⟩ := caps_open h
    clear h
    have h := h'
    clear h'
    repeat (first
    | simp only [d1, ↓ld66, ↓rd66, ↓al68, ↓st68, ↓fa63_0, ↓fa60_0, ↓ld58, ↓rd58, ↓ld68, ↓rd68, ↓fa63_1, ↓ld61, ↓rd61, ↓GG, NN, Nat.reduceAdd]
    | refine a_ld1 h ?_
    | refine a_ldN h ?_
    | refine a_rs1 h ?_
    | refine a_rsN h ?_
    | (refine u_draw h ?_; clear h; intro W h)
    | refine a_rd1 h ?_
    | refine a_rdN h ?_
    | (refine u_nr h ?_; clear h; intro b W h)
    | (refine u_bx h ?_; clear h; intro b W h)
    | (refine u_al h ?_; clear h; intro b W h)
    | (refine a_st h ?_; clear h; intro W h))
    refine r_call (sPut (at_ := sa) (c := x) (h.take (by repeat (first | exact Take.head | apply Take.tail)))) ?_
    clear h
    rintro v W ⟨rfl, h⟩
    by_cases hp : (X.s.put sa x).1 = 0
    · have d2 : ((X.s.put sa x).1 == 0) = true := by simp [hp]
      repeat (first
    | simp only [d2, ↓ld66, ↓rd66, ↓al68, ↓st68, ↓fa63_0, ↓fa60_0, ↓ld58, ↓rd58, ↓ld68, ↓rd68, ↓fa63_1, ↓ld61, ↓rd61, ↓GG, NN, Nat.reduceAdd]
    | refine a_ld1 h ?_
    | refine a_ldN h ?_
    | refine a_rs1 h ?_
    | refine a_rsN h ?_
    | (refine u_draw h ?_; clear h; intro W h)
    | refine a_rd1 h ?_
    | refine a_rdN h ?_
    | (refine u_nr h ?_; clear h; intro b W h)
    | (refine u_bx h ?_; clear h; intro b W h)
    | (refine u_al h ?_; clear h; intro b W h)
    | (refine a_st h ?_; clear h; intro W h))
      refine r_call (tChild (of := so) (s := sa) hc (h.take (by repeat (first | exact Take.head | apply Take.tail)))) ?_
      clear h
      rintro v W ⟨rfl, h⟩
      refine ⟨by simp [Caps.child, he], ?_⟩
      have e : (X.child so sa x).2 = ⟨(X.s.put sa x).2, (X.t.child so sa).2⟩ := by simp [Caps.child, he, hp]
      rw [e]
      exact (caps_shut (X := ⟨(X.s.put sa x).2, (X.t.child so sa).2⟩) h (by repeat (first | exact Take.head | apply Take.tail)) (by repeat (first | exact Take.head | apply Take.tail)) (by repeat (first | exact Take.head | apply Take.tail))).subA
    · have d2 : ((X.s.put sa x).1 == 0) = false := by simp [hp]
      repeat (first
    | simp only [d2, ↓ld66, ↓rd66, ↓al68, ↓st68, ↓fa63_0, ↓fa60_0, ↓ld58, ↓rd58, ↓ld68, ↓rd68, ↓fa63_1, ↓ld61, ↓rd61, ↓GG, NN, Nat.reduceAdd]
    | refine a_ld1 h ?_
    | refine a_ldN h ?_
    | refine a_rs1 h ?_
    | refine a_rsN h ?_
    | (refine u_draw h ?_; clear h; intro W h)
    | refine a_rd1 h ?_
    | refine a_rdN h ?_
    | (refine u_nr h ?_; clear h; intro b W h)
    | (refine u_bx h ?_; clear h; intro b W h)
    | (refine u_al h ?_; clear h; intro b W h)
    | (refine a_st h ?_; clear h; intro W h))
      refine ⟨by simp [Caps.child, he], ?_⟩
      have e : (X.child so sa x).2 = ⟨(X.s.put sa x).2, X.t⟩ := by simp [Caps.child, he, hp]
      rw [e]
      exact (caps_shut (X := ⟨(X.s.put sa x).2, X.t⟩) h (by repeat (first | exact Take.head | apply Take.tail)) (by repeat (first | exact Take.head | apply Take.tail)) (by repeat (first | exact Take.head | apply Take.tail))).subA
  · have d1 : ((X.both so sa).2 != 0) = true := by simp [he]
    repeat (first
    | simp only [d1, ↓ld66, ↓rd66, ↓al68, ↓st68, ↓fa63_0, ↓fa60_0, ↓ld58, ↓rd58, ↓ld68, ↓rd68, ↓fa63_1, ↓ld61, ↓rd61, ↓GG, NN, Nat.reduceAdd]
    | refine a_ld1 h ?_
    | refine a_ldN h ?_
    | refine a_rs1 h ?_
    | refine a_rsN h ?_
    | (refine u_draw h ?_; clear h; intro W h)
    | refine a_rd1 h ?_
    | refine a_rdN h ?_
    | (refine u_nr h ?_; clear h; intro b W h)
    | (refine u_bx h ?_; clear h; intro b W h)
    | (refine u_al h ?_; clear h; intro b W h)
    | (refine a_st h ?_; clear h; intro W h))
    have e : X.child so sa x = ((X.both so sa).2, X) := by simp [Caps.child, he]
    rw [e]
    exact ⟨rfl, h.subA⟩

theorem mCarry {sa sb : Slot} {x : Cap} (hc : X.t.Cl) (h : S w0 (capsC c X :: Γ) W) : Calls Try.prog F_moves_Caps_carry #[.pointer (some ⟨c, 0, none⟩), slotV sa, slotV sb, x.v] W
    (Ret fun v W' => S w0 (capsC c (X.carry sa sb x) :: Γ) W') := by
  refine c_moves_Caps_carry ?_
  unfold h_moves_Caps_carry
  simp only [slotV, Cap.v]
  obtain ⟨s, t, h'⟩ := caps_open h
  clear h
  have h := h'
  clear h'
  repeat (first
    | simp only [↓fa63_0, ↓fa60_0, ↓ld58, ↓rd58, ↓ld66, ↓rd66, ↓ld68, ↓rd68, ↓fa63_1, ↓ld61, ↓rd61, ↓GG, NN, Nat.reduceAdd]
    | refine a_ld1 h ?_
    | refine a_ldN h ?_
    | refine a_rs1 h ?_
    | refine a_rsN h ?_
    | (refine u_draw h ?_; clear h; intro W h)
    | refine a_rd1 h ?_
    | refine a_rdN h ?_
    | (refine u_nr h ?_; clear h; intro b W h)
    | (refine u_bx h ?_; clear h; intro b W h)
    | (refine u_al h ?_; clear h; intro b W h)
    | (refine a_st h ?_; clear h; intro W h))
  refine r_call (sTake (at_ := sa) (h.take (by repeat (first | exact Take.head | apply Take.tail)))) ?_
  clear h
  rintro v W ⟨rfl, h⟩
  repeat (first
    | simp only [↓fa63_0, ↓fa60_0, ↓ld58, ↓rd58, ↓ld66, ↓rd66, ↓ld68, ↓rd68, ↓fa63_1, ↓ld61, ↓rd61, ↓GG, NN, Nat.reduceAdd]
    | refine a_ld1 h ?_
    | refine a_ldN h ?_
    | refine a_rs1 h ?_
    | refine a_rsN h ?_
    | (refine u_draw h ?_; clear h; intro W h)
    | refine a_rd1 h ?_
    | refine a_rdN h ?_
    | (refine u_nr h ?_; clear h; intro b W h)
    | (refine u_bx h ?_; clear h; intro b W h)
    | (refine u_al h ?_; clear h; intro b W h)
    | (refine a_st h ?_; clear h; intro W h))
  refine r_call (sPut (at_ := sb) (c := x) (h.take (by repeat (first | exact Take.head | apply Take.tail)))) ?_
  clear h
  rintro v W ⟨rfl, h⟩
  repeat (first
    | simp only [↓fa63_0, ↓fa60_0, ↓ld58, ↓rd58, ↓ld66, ↓rd66, ↓ld68, ↓rd68, ↓fa63_1, ↓ld61, ↓rd61, ↓GG, NN, Nat.reduceAdd]
    | refine a_ld1 h ?_
    | refine a_ldN h ?_
    | refine a_rs1 h ?_
    | refine a_rsN h ?_
    | (refine u_draw h ?_; clear h; intro W h)
    | refine a_rd1 h ?_
    | refine a_rdN h ?_
    | (refine u_nr h ?_; clear h; intro b W h)
    | (refine u_bx h ?_; clear h; intro b W h)
    | (refine u_al h ?_; clear h; intro b W h)
    | (refine a_st h ?_; clear h; intro W h))
  refine r_call (tMove (sa := sa) (sb := sb) hc (h.take (by repeat (first | exact Take.head | apply Take.tail)))) ?_
  clear h
  rintro v W ⟨rfl, h⟩
  exact (caps_shut (X := X.carry sa sb x) h (by repeat (first | exact Take.head | apply Take.tail)) (by repeat (first | exact Take.head | apply Take.tail)) (by repeat (first | exact Take.head | apply Take.tail))).subA

theorem mMove {sa sb : Slot} (hc : X.t.Cl) (h : S w0 (capsC c X :: Γ) W) : Calls Try.prog F_moves_Caps_Move #[.pointer (some ⟨c, 0, none⟩), slotV sa, slotV sb] W
    (Ret fun v W' => v = .int .i64 (X.move sa sb).1 ∧ S w0 (capsC c (X.move sa sb).2 :: Γ) W') := by
  refine c_moves_Caps_Move ?_
  unfold h_moves_Caps_Move
  simp only [slotV]
  repeat (first
    | simp only [↓ld66, ↓rd66, ↓al68, ↓st68, ↓ld68, ↓rd68, ↓GG, NN, Nat.reduceAdd]
    | refine a_ld1 h ?_
    | refine a_ldN h ?_
    | refine a_rs1 h ?_
    | refine a_rsN h ?_
    | (refine u_draw h ?_; clear h; intro W h)
    | refine a_rd1 h ?_
    | refine a_rdN h ?_
    | (refine u_nr h ?_; clear h; intro b W h)
    | (refine u_bx h ?_; clear h; intro b W h)
    | (refine u_al h ?_; clear h; intro b W h)
    | (refine a_st h ?_; clear h; intro W h))
  refine r_call (mBoth (sa := sa) (sb := sb) (h.take (by repeat (first | exact Take.head | apply Take.tail)))) ?_
  clear h
  rintro v W ⟨rfl, h⟩
  simp only [Cap.v]
  by_cases he : (X.both sa sb).2 = 0
  · have d1 : ((X.both sa sb).2 == 0) = true := by simp [he]
    repeat (first
    | simp only [d1, ↓ld66, ↓rd66, ↓al68, ↓st68, ↓ld68, ↓rd68, ↓GG, NN, Nat.reduceAdd]
    | refine a_ld1 h ?_
    | refine a_ldN h ?_
    | refine a_rs1 h ?_
    | refine a_rsN h ?_
    | (refine u_draw h ?_; clear h; intro W h)
    | refine a_rd1 h ?_
    | refine a_rdN h ?_
    | (refine u_nr h ?_; clear h; intro b W h)
    | (refine u_bx h ?_; clear h; intro b W h)
    | (refine u_al h ?_; clear h; intro b W h)
    | (refine a_st h ?_; clear h; intro W h))
    refine r_call (mCarry (sa := sa) (sb := sb) (x := (X.both sa sb).1) hc (h.take (by repeat (first | exact Take.head | apply Take.tail)))) ?_
    clear h
    intro v W h
    have e : X.move sa sb = (0, X.carry sa sb (X.both sa sb).1) := by simp [Caps.move, he]
    rw [e, he]
    exact ⟨rfl, h.subA⟩
  · have d1 : ((X.both sa sb).2 == 0) = false := by simp [he]
    repeat (first
    | simp only [d1, ↓ld66, ↓rd66, ↓al68, ↓st68, ↓ld68, ↓rd68, ↓GG, NN, Nat.reduceAdd]
    | refine a_ld1 h ?_
    | refine a_ldN h ?_
    | refine a_rs1 h ?_
    | refine a_rsN h ?_
    | (refine u_draw h ?_; clear h; intro W h)
    | refine a_rd1 h ?_
    | refine a_rdN h ?_
    | (refine u_nr h ?_; clear h; intro b W h)
    | (refine u_bx h ?_; clear h; intro b W h)
    | (refine u_al h ?_; clear h; intro b W h)
    | (refine a_st h ?_; clear h; intro W h))
    have e : X.move sa sb = ((X.both sa sb).2, X) := by simp [Caps.move, he]
    rw [e]
    exact ⟨rfl, h.subA⟩

theorem mTake {sa : Slot} (hw : X.t.Wf) (h : S w0 (capsC c X :: Γ) W) : Calls Try.prog F_moves_Caps_Take #[.pointer (some ⟨c, 0, none⟩), slotV sa] W
    (Ret fun v W' => v = .tuple #[(X.take sa).1.1.v, .int .i64 (X.take sa).1.2] ∧ S w0 (capsC c (X.take sa).2 :: Γ) W') := by
  obtain ⟨s, t, h⟩ := caps_open h
  refine c_moves_Caps_Take ?_
  unfold h_moves_Caps_Take
  rw [slotV]
  repeat (first
    | simp only [↓rs68, ↓al68, ↓fa63_0, ↓fa60_0, ↓ld58, ↓rd58, ↓ld66, ↓rd66, ↓st68, ↓fa63_1, ↓ld61, ↓rd61, ↓ld68, ↓rd68, ↓GG, NN, Nat.reduceAdd]
    | refine a_ld1 h ?_
    | refine a_ldN h ?_
    | refine a_rs1 h ?_
    | refine a_rsN h ?_
    | (refine u_draw h ?_; clear h; intro W h)
    | refine a_rd1 h ?_
    | refine a_rdN h ?_
    | (refine u_nr h ?_; clear h; intro b W h)
    | (refine u_bx h ?_; clear h; intro b W h)
    | (refine u_al h ?_; clear h; intro b W h)
    | (refine a_st h ?_; clear h; intro W h))
  obtain ⟨rb, hrb⟩ : ∃ x, x = b := ⟨_, rfl⟩
  subst hrb
  obtain ⟨qb, hqb⟩ : ∃ x, x = b := ⟨_, rfl⟩
  subst hqb
  refine u_join (fun v w => ∃ k, v = (.pointer (some ⟨k, 0, none⟩), .int .i64 (X.s.takeOut sa).1.2) ∧ S w0 (pts k (.cells (X.s.takeOut sa).1.1.cells.toArray 68 (0, 0)) :: pts rb (.cells zeroCells6 68 (0, 0)) :: capsC c ⟨(X.s.takeOut sa).2, X.t⟩ :: pts qb (.cells #[.int .i64 sa.1, .int .i64 sa.2] 66 (0, 0)) :: Γ) w) ?_ ?_
  · repeat (first
    | simp only [↓rs68, ↓al68, ↓fa63_0, ↓fa60_0, ↓ld58, ↓rd58, ↓ld66, ↓rd66, ↓st68, ↓fa63_1, ↓ld61, ↓rd61, ↓ld68, ↓rd68, ↓GG, NN, Nat.reduceAdd]
    | refine a_ld1 h ?_
    | refine a_ldN h ?_
    | refine a_rs1 h ?_
    | refine a_rsN h ?_
    | (refine u_draw h ?_; clear h; intro W h)
    | refine a_rd1 h ?_
    | refine a_rdN h ?_
    | (refine u_nr h ?_; clear h; intro b W h)
    | (refine u_bx h ?_; clear h; intro b W h)
    | (refine u_al h ?_; clear h; intro b W h)
    | (refine a_st h ?_; clear h; intro W h))
    constructor
    · repeat (first
    | simp only [↓rs68, ↓al68, ↓fa63_0, ↓fa60_0, ↓ld58, ↓rd58, ↓ld66, ↓rd66, ↓st68, ↓fa63_1, ↓ld61, ↓rd61, ↓ld68, ↓rd68, ↓GG, NN, Nat.reduceAdd]
    | refine a_ld1 h ?_
    | refine a_ldN h ?_
    | refine a_rs1 h ?_
    | refine a_rsN h ?_
    | (refine u_draw h ?_; clear h; intro W h)
    | refine a_rd1 h ?_
    | refine a_rdN h ?_
    | (refine u_nr h ?_; clear h; intro b W h)
    | (refine u_bx h ?_; clear h; intro b W h)
    | (refine u_al h ?_; clear h; intro b W h)
    | (refine a_st h ?_; clear h; intro W h))
      refine r_call (sTake (at_ := sa) (h.take (by repeat (first | exact Take.head | apply Take.tail)))) ?_
      clear h
      rintro v W ⟨rfl, h⟩
      repeat (first
    | simp only [↓rs68, ↓al68, ↓fa63_0, ↓fa60_0, ↓ld58, ↓rd58, ↓ld66, ↓rd66, ↓st68, ↓fa63_1, ↓ld61, ↓rd61, ↓ld68, ↓rd68, ↓GG, NN, Nat.reduceAdd]
    | refine a_ld1 h ?_
    | refine a_ldN h ?_
    | refine a_rs1 h ?_
    | refine a_rsN h ?_
    | (refine u_draw h ?_; clear h; intro W h)
    | refine a_rd1 h ?_
    | refine a_rdN h ?_
    | (refine u_nr h ?_; clear h; intro b W h)
    | (refine u_bx h ?_; clear h; intro b W h)
    | (refine u_al h ?_; clear h; intro b W h)
    | (refine a_st h ?_; clear h; intro W h))
      exact ⟨_, rfl, (S.get4 (c1 := pts _ (.cells (X.s.takeOut sa).1.1.cells.toArray 68 (0, 0))) (c2 := pts rb (.cells zeroCells6 68 (0, 0))) (c3 := capsC c ⟨(X.s.takeOut sa).2, X.t⟩) (c4 := pts qb (.cells #[.int .i64 sa.1, .int .i64 sa.2] 66 (0, 0))) (caps_shut (X := ⟨(X.s.takeOut sa).2, X.t⟩) h (by repeat (first | exact Take.head | apply Take.tail)) (by repeat (first | exact Take.head | apply Take.tail)) (by repeat (first | exact Take.head | apply Take.tail))) (by repeat (first | exact Take.head | apply Take.tail)) (by repeat (first | exact Take.head | apply Take.tail)) (by repeat (first | exact Take.head | apply Take.tail)) (by repeat (first | exact Take.head | apply Take.tail))).subA⟩
    · repeat (first
    | simp only [↓rs68, ↓al68, ↓fa63_0, ↓fa60_0, ↓ld58, ↓rd58, ↓ld66, ↓rd66, ↓st68, ↓fa63_1, ↓ld61, ↓rd61, ↓ld68, ↓rd68, ↓GG, NN, Nat.reduceAdd]
    | refine a_ld1 h ?_
    | refine a_ldN h ?_
    | refine a_rs1 h ?_
    | refine a_rsN h ?_
    | (refine u_draw h ?_; clear h; intro W h)
    | refine a_rd1 h ?_
    | refine a_rdN h ?_
    | (refine u_nr h ?_; clear h; intro b W h)
    | (refine u_bx h ?_; clear h; intro b W h)
    | (refine u_al h ?_; clear h; intro b W h)
    | (refine a_st h ?_; clear h; intro W h))
      refine r_call (sTake (at_ := sa) (h.take (by repeat (first | exact Take.head | apply Take.tail)))) ?_
      clear h
      rintro v W ⟨rfl, h⟩
      repeat (first
    | simp only [↓rs68, ↓al68, ↓fa63_0, ↓fa60_0, ↓ld58, ↓rd58, ↓ld66, ↓rd66, ↓st68, ↓fa63_1, ↓ld61, ↓rd61, ↓ld68, ↓rd68, ↓GG, NN, Nat.reduceAdd]
    | refine a_ld1 h ?_
    | refine a_ldN h ?_
    | refine a_rs1 h ?_
    | refine a_rsN h ?_
    | (refine u_draw h ?_; clear h; intro W h)
    | refine a_rd1 h ?_
    | refine a_rdN h ?_
    | (refine u_nr h ?_; clear h; intro b W h)
    | (refine u_bx h ?_; clear h; intro b W h)
    | (refine u_al h ?_; clear h; intro b W h)
    | (refine a_st h ?_; clear h; intro W h))
      exact ⟨_, rfl, (S.get4 (c1 := pts _ (.cells (X.s.takeOut sa).1.1.cells.toArray 68 (0, 0))) (c2 := pts rb (.cells zeroCells6 68 (0, 0))) (c3 := capsC c ⟨(X.s.takeOut sa).2, X.t⟩) (c4 := pts qb (.cells #[.int .i64 sa.1, .int .i64 sa.2] 66 (0, 0))) (caps_shut (X := ⟨(X.s.takeOut sa).2, X.t⟩) h (by repeat (first | exact Take.head | apply Take.tail)) (by repeat (first | exact Take.head | apply Take.tail)) (by repeat (first | exact Take.head | apply Take.tail))) (by repeat (first | exact Take.head | apply Take.tail)) (by repeat (first | exact Take.head | apply Take.tail)) (by repeat (first | exact Take.head | apply Take.tail)) (by repeat (first | exact Take.head | apply Take.tail))).subA⟩
  · clear h
    rintro j v W ⟨k, rfl, h⟩
    simp only [Cap.cells, zeroCells6] at h
    obtain ⟨s, t, h'⟩ := caps_open (h.take (c := capsC c ⟨(X.s.takeOut sa).2, X.t⟩) (by repeat (first | exact Take.head | apply Take.tail)))
    clear h
    have h := h'
    clear h'
    by_cases he : (X.s.takeOut sa).1.2 = 0
    · have d1 : ((X.s.takeOut sa).1.2 == 0) = true := by simp [he]
      repeat (first
    | simp only [d1, ↓rs68, ↓al68, ↓fa63_0, ↓fa60_0, ↓ld58, ↓rd58, ↓ld66, ↓rd66, ↓st68, ↓fa63_1, ↓ld61, ↓rd61, ↓ld68, ↓rd68, ↓GG, NN, Nat.reduceAdd]
    | refine a_ld1 h ?_
    | refine a_ldN h ?_
    | refine a_rs1 h ?_
    | refine a_rsN h ?_
    | (refine u_draw h ?_; clear h; intro W h)
    | refine a_rd1 h ?_
    | refine a_rdN h ?_
    | (refine u_nr h ?_; clear h; intro b W h)
    | (refine u_bx h ?_; clear h; intro b W h)
    | (refine u_al h ?_; clear h; intro b W h)
    | (refine a_st h ?_; clear h; intro W h)
    | refine oJoin_inl ?_)
      refine r_call (tDrop (sa := sa) hw (h.take (by repeat (first | exact Take.head | apply Take.tail)))) ?_
      clear h
      rintro v W ⟨rfl, h⟩
      repeat (first
    | simp only [d1, ↓rs68, ↓al68, ↓fa63_0, ↓fa60_0, ↓ld58, ↓rd58, ↓ld66, ↓rd66, ↓st68, ↓fa63_1, ↓ld61, ↓rd61, ↓ld68, ↓rd68, ↓GG, NN, Nat.reduceAdd]
    | refine a_ld1 h ?_
    | refine a_ldN h ?_
    | refine a_rs1 h ?_
    | refine a_rsN h ?_
    | (refine u_draw h ?_; clear h; intro W h)
    | refine a_rd1 h ?_
    | refine a_rdN h ?_
    | (refine u_nr h ?_; clear h; intro b W h)
    | (refine u_bx h ?_; clear h; intro b W h)
    | (refine u_al h ?_; clear h; intro b W h)
    | (refine a_st h ?_; clear h; intro W h)
    | refine oJoin_inl ?_)
      have e : X.take sa = ((X.s.takeOut sa).1, ⟨(X.s.takeOut sa).2, (X.t.drop sa).2⟩) := by simp [Caps.take, he]
      rw [e]
      refine ⟨by simp [Cap.v, putL], ?_⟩
      exact (caps_shut (X := ⟨(X.s.takeOut sa).2, (X.t.drop sa).2⟩) h (by repeat (first | exact Take.head | apply Take.tail)) (by repeat (first | exact Take.head | apply Take.tail)) (by repeat (first | exact Take.head | apply Take.tail))).subA
    · have d1 : ((X.s.takeOut sa).1.2 == 0) = false := by simp [he]
      repeat (first
    | simp only [d1, ↓rs68, ↓al68, ↓fa63_0, ↓fa60_0, ↓ld58, ↓rd58, ↓ld66, ↓rd66, ↓st68, ↓fa63_1, ↓ld61, ↓rd61, ↓ld68, ↓rd68, ↓GG, NN, Nat.reduceAdd]
    | refine a_ld1 h ?_
    | refine a_ldN h ?_
    | refine a_rs1 h ?_
    | refine a_rsN h ?_
    | (refine u_draw h ?_; clear h; intro W h)
    | refine a_rd1 h ?_
    | refine a_rdN h ?_
    | (refine u_nr h ?_; clear h; intro b W h)
    | (refine u_bx h ?_; clear h; intro b W h)
    | (refine u_al h ?_; clear h; intro b W h)
    | (refine a_st h ?_; clear h; intro W h)
    | refine oJoin_inl ?_)
      have e : X.take sa = ((X.s.takeOut sa).1, ⟨(X.s.takeOut sa).2, X.t⟩) := by simp [Caps.take, he]
      rw [e]
      refine ⟨by simp [Cap.v, putL], ?_⟩
      exact (caps_shut (X := ⟨(X.s.takeOut sa).2, X.t⟩) h (by repeat (first | exact Take.head | apply Take.tail)) (by repeat (first | exact Take.head | apply Take.tail)) (by repeat (first | exact Take.head | apply Take.tail))).subA
end
end Go.Proofs.Ytpghhaobcikdhaa
