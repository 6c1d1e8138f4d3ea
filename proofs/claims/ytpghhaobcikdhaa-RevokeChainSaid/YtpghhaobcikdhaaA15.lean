/- A capability that is made of another one; Mint, Copy. -/
import Derived.Test.YtpghhaobcikdhaaA14
namespace Go.Proofs.Ytpghhaobcikdhaa
open Go Go.Hw
set_option linter.unusedSimpArgs false
set_option linter.unusedVariables false
set_option maxRecDepth 100000

def maskI (a b : Int) : Int := if rightsOk a && rightsOk b then IntKind.i64.wrap (BitVec.ofInt IntKind.i64.bits a &&& BitVec.ofInt IntKind.i64.bits b).toNat else 0

def Cap.derive (c : Cap) (r badge guard n : Int) : Cap × Int :=
  if c.check ≠ 0 then (Cap.zero, c.check)
  else if c.kind = 0 then (Cap.zero, 3)
  else if c.kind = 1 ∨ c.kind = 10 ∨ c.kind = 11 then (Cap.zero, 2)
  else if rightsOk r = false then (Cap.zero, 5)
  else if c.kind = 6 then ({ c with rights := maskI c.rights r }, 0)
  else if c.kind = 2 then if fitsB guard n = false then (Cap.zero, 10) else ({ c with guard := guard, bits := n }, 0)
  else if c.kind = 4 ∨ c.kind = 5 then
    if badge ≠ 0 then
      if c.badge ≠ 0 then (Cap.zero, 8)
      else if shr64 badge 28 ≠ 0 then (Cap.zero, 10) else ({ c with rights := maskI c.rights r, badge := badge }, 0)
    else if shr64 c.badge 28 ≠ 0 then (Cap.zero, 10) else ({ c with rights := maskI c.rights r }, 0)
  else (c, 0)

section
variable {w0 : World} {Γ Γ' : List Chunk} {W : World} {c s t : Nat} {X : Caps}

theorem rights_Mask_spec {a b : Int} (h : S w0 Γ W) : Calls Try.prog F_rights_Mask #[.int .i64 a, .int .i64 b] W (Ret fun v W' => v = .int .i64 (maskI a b) ∧ W' = W) := by
  refine c_rights_Mask ?_
  unfold h_rights_Mask
  refine r_call (rights_Check_spec h) ?_
  rintro v W' ⟨rfl, rfl⟩
  cases ha : rightsOk a
  · repeat (first
    | simp only [↓GG, NN, Nat.reduceAdd]
    | refine a_ld1 h ?_
    | refine a_ldN h ?_
    | refine a_rs1 h ?_
    | refine a_rsN h ?_
    | (refine u_draw h ?_; clear h; intro W h)
    | refine a_rd1 h ?_
    | refine a_rdN h ?_
    | (refine u_nr h ?_; clear h; intro b W h)
    | (refine u_bx h ?_; clear h; intro b W h)
    | (refine u_al h ?_; clear h; intro b W h)
    | (refine a_st h ?_; clear h; intro W h))
    exact ⟨by simp [maskI, ha], rfl⟩
  · repeat (first
    | simp only [↓GG, NN, Nat.reduceAdd]
    | refine a_ld1 h ?_
    | refine a_ldN h ?_
    | refine a_rs1 h ?_
    | refine a_rsN h ?_
    | (refine u_draw h ?_; clear h; intro W h)
    | refine a_rd1 h ?_
    | refine a_rdN h ?_
    | (refine u_nr h ?_; clear h; intro b W h)
    | (refine u_bx h ?_; clear h; intro b W h)
    | (refine u_al h ?_; clear h; intro b W h)
    | (refine a_st h ?_; clear h; intro W h))
    refine r_call (rights_Check_spec h) ?_
    rintro v W' ⟨rfl, rfl⟩
    cases hb : rightsOk b
    · repeat (first
    | simp only [↓GG, NN, Nat.reduceAdd]
    | refine a_ld1 h ?_
    | refine a_ldN h ?_
    | refine a_rs1 h ?_
    | refine a_rsN h ?_
    | (refine u_draw h ?_; clear h; intro W h)
    | refine a_rd1 h ?_
    | refine a_rdN h ?_
    | (refine u_nr h ?_; clear h; intro b W h)
    | (refine u_bx h ?_; clear h; intro b W h)
    | (refine u_al h ?_; clear h; intro b W h)
    | (refine a_st h ?_; clear h; intro W h))
      exact ⟨by simp [maskI, hb], rfl⟩
    · repeat (first
    | simp only [↓GG, NN, Nat.reduceAdd]
    | refine a_ld1 h ?_
    | refine a_ldN h ?_
    | refine a_rs1 h ?_
    | refine a_rsN h ?_
    | (refine u_draw h ?_; clear h; intro W h)
    | refine a_rd1 h ?_
    | refine a_rdN h ?_
    | (refine u_nr h ?_; clear h; intro b W h)
    | (refine u_bx h ?_; clear h; intro b W h)
    | (refine u_al h ?_; clear h; intro b W h)
    | (refine a_st h ?_; clear h; intro W h))
      exact ⟨by simp [maskI, ha, hb], rfl⟩

set_option maxHeartbeats 4000000 in
theorem cap_Derive_spec {x : Cap} {r badge guard n : Int} (h : S w0 Γ W) : Calls Try.prog F_cap_Derive #[x.v, .int .i64 r, .int .u64 badge, .int .u64 guard, .int .i64 n] W
    (Ret fun v W' => v = .tuple #[(x.derive r badge guard n).1.v, .int .i64 (x.derive r badge guard n).2] ∧ S w0 Γ W') := by
  refine c_cap_Derive ?_
  unfold h_cap_Derive
  rw [Cap.v]
  repeat' (first
    | simp only [*, ↓rs68, ↓al68, ↓ld68, ↓rd68, ↓bd68_, ↓st68, ↓fa68_0, ↓ld3, ↓rd3, ↓fa68_2, ↓st3, ↓fa68_4, ↓st54, ↓fa68_5, ↓fa68_3, ↓ld54, ↓rd54, ↓GG, NN, Nat.reduceAdd]
    | (refine r_call (cap_Check_spec (c := x) h) ?_; clear h; rintro v W ⟨rfl, h⟩)
    | (refine r_call (rights_Check_spec h) ?_; rintro v W' ⟨rfl, rfl⟩)
    | (refine r_call (rights_Mask_spec h) ?_; rintro v W' ⟨rfl, rfl⟩)
    | (refine r_call (cap_fits_spec h) ?_; rintro v W' ⟨rfl, rfl⟩)
    | rw [b_shr (by omega)]
    | refine a_ld1 h ?_
    | refine a_ldN h ?_
    | refine a_rs1 h ?_
    | refine a_rsN h ?_
    | (refine u_draw h ?_; clear h; intro W h)
    | refine a_rd1 h ?_
    | refine a_rdN h ?_
    | (refine u_nr h ?_; clear h; intro b W h)
    | (refine u_bx h ?_; clear h; intro b W h)
    | (refine u_al h ?_; clear h; intro b W h)
    | (refine a_st h ?_; clear h; intro W h)
    | refine oJoin_inl ?_
    | (refine oCond_split ?_ ?_ <;> intro d)
    | (refine oGk_split ?_ ?_ <;> intro d))
  all_goals
    refine ⟨?_, h.subA⟩
    clear h
    simp only [Bool.not_true, Bool.not_false, Bool.not_eq_true', Bool.not_eq_false', beq_iff_eq, beq_eq_false_iff_ne, bne_iff_ne, bne_eq_false_iff_eq] at *
    simp_all [Cap.derive, shr64, Cap.v, Cap.zero, putL, Value.cells]

def Caps.mint (X : Caps) (a b : Slot) (r badge guard n : Int) : Int × Caps :=
  if (X.both a b).2 ≠ 0 then ((X.both a b).2, X)
  else if ((X.both a b).1.derive r badge guard n).2 ≠ 0 then (((X.both a b).1.derive r badge guard n).2, X)
  else X.child a b ((X.both a b).1.derive r badge guard n).1
def Caps.copy (X : Caps) (a b : Slot) (r : Int) : Int × Caps := X.mint a b r 0 (X.s.geta a).1.guard (X.s.geta a).1.bits

theorem mMint {sa sb : Slot} {r badge guard n : Int} (hc : X.t.Cl) (h : S w0 (capsC c X :: Γ) W) :
    Calls Try.prog F_moves_Caps_Mint #[.pointer (some ⟨c, 0, none⟩), slotV sa, slotV sb, .int .i64 r, .int .u64 badge, .int .u64 guard, .int .i64 n] W
    (Ret fun v W' => v = .int .i64 (X.mint sa sb r badge guard n).1 ∧ S w0 (capsC c (X.mint sa sb r badge guard n).2 :: Γ) W') := by
  refine c_moves_Caps_Mint ?_
  unfold h_moves_Caps_Mint
  simp only [slotV]
  repeat (first
    | simp only [↓ld66, ↓rd66, ↓al68, ↓st68, ↓ld68, ↓rd68, ↓GG, NN, Nat.reduceAdd]
    | refine a_ld1 h ?_
    | refine a_ldN h ?_
    | refine a_rs1 h ?_
    | refine a_rsN h ?_
    | (refine u_draw h ?_; clear h; intro W h)
    | refine a_rd1 h ?_
    | refine a_rdN h ?_
    | (refine u_nr h ?_; clear h; intro b W h)
    | (refine u_bx h ?_; clear h; intro b W h)
    | (refine u_al h ?_; clear h; intro b W h)
    | (refine a_st h ?_; clear h; intro W h))
  refine r_call (mBoth (sa := sa) (sb := sb) (h.take (by repeat (first | exact Take.head | apply Take.tail)))) ?_
  clear h
  rintro v W ⟨rfl, h⟩
  simp only [Cap.v]
  by_cases he : (X.both sa sb).2 = 0
  · have d1 : ((X.both sa sb).2 != 0) = false := by simp [he]
    repeat (first
    | simp only [d1, ↓ld66, ↓rd66, ↓al68, ↓st68, ↓ld68, ↓rd68, ↓GG, NN, Nat.reduceAdd]
    | refine a_ld1 h ?_
    | refine a_ldN h ?_
    | refine a_rs1 h ?_
    | refine a_rsN h ?_
    | (refine u_draw h ?_; clear h; intro W h)
    | refine a_rd1 h ?_
    | refine a_rdN h ?_
    | (refine u_nr h ?_; clear h; intro b W h)
    | (refine u_bx h ?_; clear h; intro b W h)
    | (refine u_al h ?_; clear h; intro b W h)
    | (refine a_st h ?_; clear h; intro W h))
    refine r_call (cap_Derive_spec (x := (X.both sa sb).1) (r := r) (badge := badge) (guard := guard) (n := n) h) ?_
    clear h
    rintro v W ⟨rfl, h⟩
    simp only [Cap.v]
    by_cases hd : ((X.both sa sb).1.derive r badge guard n).2 = 0
    · have d2 : (((X.both sa sb).1.derive r badge guard n).2 != 0) = false := by simp [hd]
      repeat (first
    | simp only [d2, ↓ld66, ↓rd66, ↓al68, ↓st68, ↓ld68, ↓rd68, ↓GG, NN, Nat.reduceAdd]
    | refine a_ld1 h ?_
    | refine a_ldN h ?_
    | refine a_rs1 h ?_
    | refine a_rsN h ?_
    | (refine u_draw h ?_; clear h; intro W h)
    | refine a_rd1 h ?_
    | refine a_rdN h ?_
    | (refine u_nr h ?_; clear h; intro b W h)
    | (refine u_bx h ?_; clear h; intro b W h)
    | (refine u_al h ?_; clear h; intro b W h)
    | (refine a_st h ?_; clear h; intro W h))
      refine r_call (mChild (so := sa) (sa := sb) (x := ((X.both sa sb).1.derive r badge guard n).1) hc (h.take (by repeat (first | exact Take.head | apply Take.tail)))) ?_
      clear h
      rintro v W ⟨rfl, h⟩
      have e : X.mint sa sb r badge guard n = X.child sa sb ((X.both sa sb).1.derive r badge guard n).1 := by simp [Caps.mint, he, hd]
      rw [e]
      exact ⟨rfl, h.subA⟩
    · have d2 : (((X.both sa sb).1.derive r badge guard n).2 != 0) = true := by simp [hd]
      repeat (first
    | simp only [d2, ↓ld66, ↓rd66, ↓al68, ↓st68, ↓ld68, ↓rd68, ↓GG, NN, Nat.reduceAdd]
    | refine a_ld1 h ?_
    | refine a_ldN h ?_
    | refine a_rs1 h ?_
    | refine a_rsN h ?_
    | (refine u_draw h ?_; clear h; intro W h)
    | refine a_rd1 h ?_
    | refine a_rdN h ?_
    | (refine u_nr h ?_; clear h; intro b W h)
    | (refine u_bx h ?_; clear h; intro b W h)
    | (refine u_al h ?_; clear h; intro b W h)
    | (refine a_st h ?_; clear h; intro W h))
      have e : X.mint sa sb r badge guard n = (((X.both sa sb).1.derive r badge guard n).2, X) := by simp [Caps.mint, he, hd]
      rw [e]
      exact ⟨rfl, h.subA⟩
  · have d1 : ((X.both sa sb).2 != 0) = true := by simp [he]
    repeat (first
    | simp only [d1, ↓ld66, ↓rd66, ↓al68, ↓st68, ↓ld68, ↓rd68, ↓GG, NN, Nat.reduceAdd]
    | refine a_ld1 h ?_
    | refine a_ldN h ?_
    | refine a_rs1 h ?_
    | refine a_rsN h ?_
    | (refine u_draw h ?_; clear h; intro W h)
    | refine a_rd1 h ?_
    | refine a_rdN h ?_
    | (refine u_nr h ?_; clear h; intro b W h)
    | (refine u_bx h ?_; clear h; intro b W h)
    | (refine u_al h ?_; clear h; intro b W h)
    | (refine a_st h ?_; clear h; intro W h))
    have e : X.mint sa sb r badge guard n = ((X.both sa sb).2, X) := by simp [Caps.mint, he]
    rw [e]
    exact ⟨rfl, h.subA⟩

theorem mCopy {sa sb : Slot} {r : Int} (hc : X.t.Cl) (h : S w0 (capsC c X :: Γ) W) :
    Calls Try.prog F_moves_Caps_Copy #[.pointer (some ⟨c, 0, none⟩), slotV sa, slotV sb, .int .i64 r] W
    (Ret fun v W' => v = .int .i64 (X.copy sa sb r).1 ∧ S w0 (capsC c (X.copy sa sb r).2 :: Γ) W') := by
  obtain ⟨s, t, h⟩ := caps_open h
  refine c_moves_Caps_Copy ?_
  unfold h_moves_Caps_Copy
  simp only [slotV]
  repeat (first
    | simp only [↓fa63_0, ↓fa60_0, ↓ld58, ↓rd58, ↓ld66, ↓rd66, ↓al68, ↓st68, ↓fa68_4, ↓ld54, ↓rd54, ↓fa68_5, ↓ld3, ↓rd3, ↓GG, NN, Nat.reduceAdd]
    | refine a_ld1 h ?_
    | refine a_ldN h ?_
    | refine a_rs1 h ?_
    | refine a_rsN h ?_
    | (refine u_draw h ?_; clear h; intro W h)
    | refine a_rd1 h ?_
    | refine a_rdN h ?_
    | (refine u_nr h ?_; clear h; intro b W h)
    | (refine u_bx h ?_; clear h; intro b W h)
    | (refine u_al h ?_; clear h; intro b W h)
    | (refine a_st h ?_; clear h; intro W h))
  obtain ⟨qb, hqb⟩ : ∃ x, x = b := ⟨_, rfl⟩
  subst hqb
  obtain ⟨pb, hpb⟩ : ∃ x, x = b := ⟨_, rfl⟩
  subst hpb
  refine u_join (fun v w => ∃ k, v = .pointer (some ⟨k, 0, none⟩) ∧ S w0 (pts k (.cells (X.s.geta sa).1.cells.toArray 68 (0, 0)) :: capsC c X :: pts pb (.cells #[.int .i64 sa.1, .int .i64 sa.2] 66 (0, 0)) :: pts qb (.cells #[.int .i64 sb.1, .int .i64 sb.2] 66 (0, 0)) :: Γ) w) ?_ ?_
  · repeat (first
    | simp only [↓fa63_0, ↓fa60_0, ↓ld58, ↓rd58, ↓ld66, ↓rd66, ↓al68, ↓st68, ↓fa68_4, ↓ld54, ↓rd54, ↓fa68_5, ↓ld3, ↓rd3, ↓GG, NN, Nat.reduceAdd]
    | refine a_ld1 h ?_
    | refine a_ldN h ?_
    | refine a_rs1 h ?_
    | refine a_rsN h ?_
    | (refine u_draw h ?_; clear h; intro W h)
    | refine a_rd1 h ?_
    | refine a_rdN h ?_
    | (refine u_nr h ?_; clear h; intro b W h)
    | (refine u_bx h ?_; clear h; intro b W h)
    | (refine u_al h ?_; clear h; intro b W h)
    | (refine a_st h ?_; clear h; intro W h))
    constructor
    · repeat (first
    | simp only [↓fa63_0, ↓fa60_0, ↓ld58, ↓rd58, ↓ld66, ↓rd66, ↓al68, ↓st68, ↓fa68_4, ↓ld54, ↓rd54, ↓fa68_5, ↓ld3, ↓rd3, ↓GG, NN, Nat.reduceAdd]
    | refine a_ld1 h ?_
    | refine a_ldN h ?_
    | refine a_rs1 h ?_
    | refine a_rsN h ?_
    | (refine u_draw h ?_; clear h; intro W h)
    | refine a_rd1 h ?_
    | refine a_rdN h ?_
    | (refine u_nr h ?_; clear h; intro b W h)
    | (refine u_bx h ?_; clear h; intro b W h)
    | (refine u_al h ?_; clear h; intro b W h)
    | (refine a_st h ?_; clear h; intro W h))
      refine r_call (sGet (at_ := sa) (h.take (by repeat (first | exact Take.head | apply Take.tail)))) ?_
      clear h
      rintro v W ⟨rfl, h⟩
      repeat (first
    | simp only [↓fa63_0, ↓fa60_0, ↓ld58, ↓rd58, ↓ld66, ↓rd66, ↓al68, ↓st68, ↓fa68_4, ↓ld54, ↓rd54, ↓fa68_5, ↓ld3, ↓rd3, ↓GG, NN, Nat.reduceAdd]
    | refine a_ld1 h ?_
    | refine a_ldN h ?_
    | refine a_rs1 h ?_
    | refine a_rsN h ?_
    | (refine u_draw h ?_; clear h; intro W h)
    | refine a_rd1 h ?_
    | refine a_rdN h ?_
    | (refine u_nr h ?_; clear h; intro b W h)
    | (refine u_bx h ?_; clear h; intro b W h)
    | (refine u_al h ?_; clear h; intro b W h)
    | (refine a_st h ?_; clear h; intro W h))
      exact ⟨_, rfl, (S.get4 (c1 := pts _ (.cells (X.s.geta sa).1.cells.toArray 68 (0, 0))) (c2 := capsC c X) (c3 := pts pb (.cells #[.int .i64 sa.1, .int .i64 sa.2] 66 (0, 0))) (c4 := pts qb (.cells #[.int .i64 sb.1, .int .i64 sb.2] 66 (0, 0))) (caps_shut h (by repeat (first | exact Take.head | apply Take.tail)) (by repeat (first | exact Take.head | apply Take.tail)) (by repeat (first | exact Take.head | apply Take.tail))) (by repeat (first | exact Take.head | apply Take.tail)) (by repeat (first | exact Take.head | apply Take.tail)) (by repeat (first | exact Take.head | apply Take.tail)) (by repeat (first | exact Take.head | apply Take.tail))).subA⟩
    · repeat (first
    | simp only [↓fa63_0, ↓fa60_0, ↓ld58, ↓rd58, ↓ld66, ↓rd66, ↓al68, ↓st68, ↓fa68_4, ↓ld54, ↓rd54, ↓fa68_5, ↓ld3, ↓rd3, ↓GG, NN, Nat.reduceAdd]
    | refine a_ld1 h ?_
    | refine a_ldN h ?_
    | refine a_rs1 h ?_
    | refine a_rsN h ?_
    | (refine u_draw h ?_; clear h; intro W h)
    | refine a_rd1 h ?_
    | refine a_rdN h ?_
    | (refine u_nr h ?_; clear h; intro b W h)
    | (refine u_bx h ?_; clear h; intro b W h)
    | (refine u_al h ?_; clear h; intro b W h)
    | (refine a_st h ?_; clear h; intro W h))
      refine r_call (sGet (at_ := sa) (h.take (by repeat (first | exact Take.head | apply Take.tail)))) ?_
      clear h
      rintro v W ⟨rfl, h⟩
      repeat (first
    | simp only [↓fa63_0, ↓fa60_0, ↓ld58, ↓rd58, ↓ld66, ↓rd66, ↓al68, ↓st68, ↓fa68_4, ↓ld54, ↓rd54, ↓fa68_5, ↓ld3, ↓rd3, ↓GG, NN, Nat.reduceAdd]
    | refine a_ld1 h ?_
    | refine a_ldN h ?_
    | refine a_rs1 h ?_
    | refine a_rsN h ?_
    | (refine u_draw h ?_; clear h; intro W h)
    | refine a_rd1 h ?_
    | refine a_rdN h ?_
    | (refine u_nr h ?_; clear h; intro b W h)
    | (refine u_bx h ?_; clear h; intro b W h)
    | (refine u_al h ?_; clear h; intro b W h)
    | (refine a_st h ?_; clear h; intro W h))
      exact ⟨_, rfl, (S.get4 (c1 := pts _ (.cells (X.s.geta sa).1.cells.toArray 68 (0, 0))) (c2 := capsC c X) (c3 := pts pb (.cells #[.int .i64 sa.1, .int .i64 sa.2] 66 (0, 0))) (c4 := pts qb (.cells #[.int .i64 sb.1, .int .i64 sb.2] 66 (0, 0))) (caps_shut h (by repeat (first | exact Take.head | apply Take.tail)) (by repeat (first | exact Take.head | apply Take.tail)) (by repeat (first | exact Take.head | apply Take.tail))) (by repeat (first | exact Take.head | apply Take.tail)) (by repeat (first | exact Take.head | apply Take.tail)) (by repeat (first | exact Take.head | apply Take.tail)) (by repeat (first | exact Take.head | apply Take.tail))).subA⟩
  · clear h
    rintro j v W ⟨k, rfl, h⟩
    simp only [Cap.cells] at h
    repeat (first
    | simp only [↓fa63_0, ↓fa60_0, ↓ld58, ↓rd58, ↓ld66, ↓rd66, ↓al68, ↓st68, ↓fa68_4, ↓ld54, ↓rd54, ↓fa68_5, ↓ld3, ↓rd3, ↓GG, NN, Nat.reduceAdd]
    | refine a_ld1 h ?_
    | refine a_ldN h ?_
    | refine a_rs1 h ?_
    | refine a_rsN h ?_
    | (refine u_draw h ?_; clear h; intro W h)
    | refine a_rd1 h ?_
    | refine a_rdN h ?_
    | (refine u_nr h ?_; clear h; intro b W h)
    | (refine u_bx h ?_; clear h; intro b W h)
    | (refine u_al h ?_; clear h; intro b W h)
    | (refine a_st h ?_; clear h; intro W h))
    refine r_call (mMint (sa := sa) (sb := sb) (r := r) (badge := 0) (guard := (X.s.geta sa).1.guard) (n := (X.s.geta sa).1.bits) hc (h.take (by repeat (first | exact Take.head | apply Take.tail)))) ?_
    clear h
    rintro v W ⟨rfl, h⟩
    exact ⟨rfl, h.subA⟩
end
end Go.Proofs.Ytpghhaobcikdhaa
