/- Revoke: Delete and Revoke. -/
import Derived.Test.YtpghhaobcikdhaaA21
namespace Go.Proofs.Ytpghhaobcikdhaa
open Go Go.Hw
set_option linter.unusedSimpArgs false
set_option linter.unusedVariables false
set_option maxRecDepth 100000

section
variable {w0 : World} {Γ Γ' : List Chunk} {W : World} {c s t k : Nat} {X : Caps} {σ : Store} {n : Int} {ts : List Cap}

/-- what a Delete or a Revoke tells -/
def outV (r : Out) (told : Value) : Value := match r with
  | .ok _ => .tuple #[told, .bool true, .int .i64 0]
  | .spent _ => .tuple #[told, .bool false, .int .i64 11]

theorem cDelete_bad {sa : Slot} (he : X.check sa n ≠ 0) (h : S w0 (capsC c X :: Γ) W) : Calls Try.prog F_revoke_Delete #[.pointer (some ⟨c, 0, none⟩), slotV sa, .int .i64 n] W
    (Ret fun v W' => v = .tuple #[.slice none 0 0, .bool false, .int .i64 (X.check sa n)] ∧ S w0 (capsC c X :: Γ) W') := by
  refine c_revoke_Delete ?_
  unfold h_revoke_Delete
  rw [slotV]
  repeat (first
    | simp only [↓ld66, ↓rd66, ↓bd143_0_1, ↓al141, ↓st141, ↓ld141, ↓rd141, ↓fa143_2, ↓ld69, ↓rd69, ↓GG, NN, Nat.reduceAdd]
    | refine a_ld1 h ?_
    | refine a_ldN h ?_
    | refine a_rs1 h ?_
    | refine a_rsN h ?_
    | (refine u_draw h ?_; clear h; intro W h)
    | refine a_rd1 h ?_
    | refine a_rdN h ?_
    | (refine u_nr h ?_; clear h; intro b W h)
    | (refine u_bx h ?_; clear h; intro b W h)
    | (refine u_al h ?_; clear h; intro b W h)
    | (refine a_st h ?_; clear h; intro W h))
  refine r_call (kCheck (sa := sa) (n := n) (h.take (c := capsC c X) (by repeat (first | exact Take.head | apply Take.tail)))) ?_
  clear h
  rintro v W ⟨rfl, h⟩
  have d1 : (X.check sa n != 0) = true := by simp [he]
  repeat (first
    | simp only [d1, ↓ld66, ↓rd66, ↓bd143_0_1, ↓al141, ↓st141, ↓ld141, ↓rd141, ↓fa143_2, ↓ld69, ↓rd69, ↓GG, NN, Nat.reduceAdd]
    | refine a_ld1 h ?_
    | refine a_ldN h ?_
    | refine a_rs1 h ?_
    | refine a_rsN h ?_
    | (refine u_draw h ?_; clear h; intro W h)
    | refine a_rd1 h ?_
    | refine a_rdN h ?_
    | (refine u_nr h ?_; clear h; intro b W h)
    | (refine u_bx h ?_; clear h; intro b W h)
    | (refine u_al h ?_; clear h; intro b W h)
    | (refine a_st h ?_; clear h; intro W h))
  exact ⟨rfl, h.subA⟩

theorem cDelete {G : St → Prop} (hG : Good G) {m : Nat} {sa : Slot} {r : Out} (hm : 1 + m ≤ 100000) (hg : G ⟨X, n, []⟩) (hl : Loop m ⟨X, n, []⟩ [sa] sa r) (he : X.check sa n = 0) (h : S w0 (capsC c X :: Γ) W) :
    Calls Try.prog F_revoke_Delete #[.pointer (some ⟨c, 0, none⟩), slotV sa, .int .i64 n] W
    (Ret fun v W' => ∃ tv, v = outV r tv ∧ S w0 (capsS tv r.st.ts :: capsC c r.st.X :: Γ) W') := by
  refine c_revoke_Delete ?_
  unfold h_revoke_Delete
  rw [slotV]
  repeat (first
    | simp only [↓ld66, ↓rd66, ↓bd143_0_1, ↓al141, ↓st141, ↓ld141, ↓rd141, ↓fa143_2, ↓ld69, ↓rd69, ↓GG, NN, Nat.reduceAdd]
    | refine a_ld1 h ?_
    | refine a_ldN h ?_
    | refine a_rs1 h ?_
    | refine a_rsN h ?_
    | (refine u_draw h ?_; clear h; intro W h)
    | refine a_rd1 h ?_
    | refine a_rdN h ?_
    | (refine u_nr h ?_; clear h; intro b W h)
    | (refine u_bx h ?_; clear h; intro b W h)
    | (refine u_al h ?_; clear h; intro b W h)
    | (refine a_st h ?_; clear h; intro W h))
  refine r_call (kCheck (sa := sa) (n := n) (h.take (c := capsC c X) (by repeat (first | exact Take.head | apply Take.tail)))) ?_
  clear h
  rintro v W ⟨rfl, h⟩
  have d1 : (X.check sa n != 0) = false := by simp [he]
  repeat (first
    | simp only [d1, ↓ld66, ↓rd66, ↓bd143_0_1, ↓al141, ↓st141, ↓ld141, ↓rd141, ↓fa143_2, ↓ld69, ↓rd69, ↓GG, NN, Nat.reduceAdd]
    | refine a_ld1 h ?_
    | refine a_ldN h ?_
    | refine a_rs1 h ?_
    | refine a_rsN h ?_
    | (refine u_draw h ?_; clear h; intro W h)
    | refine a_rd1 h ?_
    | refine a_rdN h ?_
    | (refine u_nr h ?_; clear h; intro b W h)
    | (refine u_bx h ?_; clear h; intro b W h)
    | (refine u_al h ?_; clear h; intro b W h)
    | (refine a_st h ?_; clear h; intro W h))
  obtain ⟨pb, hpb⟩ : ∃ x, x = b := ⟨_, rfl⟩
  subst hpb
  obtain ⟨kb, hkb⟩ : ∃ x, x = b := ⟨_, rfl⟩
  subst hkb
  obtain ⟨qb, hqb⟩ : ∃ x, x = b := ⟨_, rfl⟩
  subst hqb
  have h0 := S.nilSlice T_api_Cap 6 h
  have h1 := tak_shut (k := kb) (c := c) (n := n) (ts := []) h0 (by repeat (first | exact Take.head | apply Take.tail)) (by repeat (first | exact Take.head | apply Take.tail))
  have h2 := S.get4 (c1 := takC kb c n []) (c2 := capsC c X) (c3 := pts pb (.cells #[.pointer (some ⟨kb, 0, none⟩)] 141 (0, 0))) (c4 := pts qb (.cells #[.int .i64 sa.1, .int .i64 sa.2] 66 (0, 0))) h1 (by repeat (first | exact Take.head | apply Take.tail)) (by repeat (first | exact Take.head | apply Take.tail)) (by repeat (first | exact Take.head | apply Take.tail)) (by repeat (first | exact Take.head | apply Take.tail))
  clear h h0 h1
  refine r_call (kRun (st := ⟨X, n, []⟩) (k := kb) (c := c) (r := r) (f := 50) (by kernel_rfl) h2 ?_) ?_
  · intro d e W' h
    exact kDelete1 hG (m := m) (st := ⟨X, n, []⟩) (sa := sa) (Take.knows (by repeat (first | exact Take.head | apply Take.tail))) (Take.knows (by repeat (first | exact Take.head | apply Take.tail))) hm hg hl h
  · clear h2
    rintro v W ⟨rfl, h⟩
    obtain ⟨tv, h1⟩ := tak_open h
    clear h
    have h := h1
    clear h1
    obtain ⟨ta, tc, rfl⟩ := slc_shape h (.tail .head)
    cases r with
    | ok st =>
      simp only [runV]
      repeat (first
    | simp only [↓ld66, ↓rd66, ↓bd143_0_1, ↓al141, ↓st141, ↓ld141, ↓rd141, ↓fa143_2, ↓ld69, ↓rd69, ↓GG, NN, Nat.reduceAdd]
    | refine a_ld1 h ?_
    | refine a_ldN h ?_
    | refine a_rs1 h ?_
    | refine a_rsN h ?_
    | (refine u_draw h ?_; clear h; intro W h)
    | refine a_rd1 h ?_
    | refine a_rdN h ?_
    | (refine u_nr h ?_; clear h; intro b W h)
    | (refine u_bx h ?_; clear h; intro b W h)
    | (refine u_al h ?_; clear h; intro b W h)
    | (refine a_st h ?_; clear h; intro W h))
      exact ⟨_, rfl, (S.get2 (c1 := capsS _ st.ts) (c2 := capsC c st.X) h (by repeat (first | exact Take.head | apply Take.tail)) (by repeat (first | exact Take.head | apply Take.tail))).subA⟩
    | spent st =>
      simp only [runV]
      repeat (first
    | simp only [↓ld66, ↓rd66, ↓bd143_0_1, ↓al141, ↓st141, ↓ld141, ↓rd141, ↓fa143_2, ↓ld69, ↓rd69, ↓GG, NN, Nat.reduceAdd]
    | refine a_ld1 h ?_
    | refine a_ldN h ?_
    | refine a_rs1 h ?_
    | refine a_rsN h ?_
    | (refine u_draw h ?_; clear h; intro W h)
    | refine a_rd1 h ?_
    | refine a_rdN h ?_
    | (refine u_nr h ?_; clear h; intro b W h)
    | (refine u_bx h ?_; clear h; intro b W h)
    | (refine u_al h ?_; clear h; intro b W h)
    | (refine a_st h ?_; clear h; intro W h))
      exact ⟨_, rfl, (S.get2 (c1 := capsS _ st.ts) (c2 := capsC c st.X) h (by repeat (first | exact Take.head | apply Take.tail)) (by repeat (first | exact Take.head | apply Take.tail))).subA⟩

theorem cRevoke_bad {sa : Slot} (he : X.check sa n ≠ 0) (h : S w0 (capsC c X :: Γ) W) : Calls Try.prog F_revoke_Revoke #[.pointer (some ⟨c, 0, none⟩), slotV sa, .int .i64 n] W
    (Ret fun v W' => v = .tuple #[.slice none 0 0, .bool false, .int .i64 (X.check sa n)] ∧ S w0 (capsC c X :: Γ) W') := by
  refine c_revoke_Revoke ?_
  unfold h_revoke_Revoke
  rw [slotV]
  repeat (first
    | simp only [↓ld55, ↓rd55, ↓ld66, ↓rd66, ↓bd143_0_1, ↓al141, ↓st141, ↓ld141, ↓rd141, ↓fa143_2, ↓ld69, ↓rd69, ↓GG, NN, Nat.reduceAdd]
    | refine a_ld1 h ?_
    | refine a_ldN h ?_
    | refine a_rs1 h ?_
    | refine a_rsN h ?_
    | (refine u_draw h ?_; clear h; intro W h)
    | refine a_rd1 h ?_
    | refine a_rdN h ?_
    | (refine u_nr h ?_; clear h; intro b W h)
    | (refine u_bx h ?_; clear h; intro b W h)
    | (refine u_al h ?_; clear h; intro b W h)
    | (refine a_st h ?_; clear h; intro W h))
  refine r_call (kCheck (sa := sa) (n := n) (h.take (c := capsC c X) (by repeat (first | exact Take.head | apply Take.tail)))) ?_
  clear h
  rintro v W ⟨rfl, h⟩
  have d1 : (X.check sa n != 0) = true := by simp [he]
  repeat (first
    | simp only [d1, ↓ld55, ↓rd55, ↓ld66, ↓rd66, ↓bd143_0_1, ↓al141, ↓st141, ↓ld141, ↓rd141, ↓fa143_2, ↓ld69, ↓rd69, ↓GG, NN, Nat.reduceAdd]
    | refine a_ld1 h ?_
    | refine a_ldN h ?_
    | refine a_rs1 h ?_
    | refine a_rsN h ?_
    | (refine u_draw h ?_; clear h; intro W h)
    | refine a_rd1 h ?_
    | refine a_rdN h ?_
    | (refine u_nr h ?_; clear h; intro b W h)
    | (refine u_bx h ?_; clear h; intro b W h)
    | (refine u_al h ?_; clear h; intro b W h)
    | (refine a_st h ?_; clear h; intro W h))
  exact ⟨rfl, h.subA⟩

theorem cRevoke {G : St → Prop} (hG : Good G) {m : Nat} {sa : Slot} {r : Out} (hm : 1 + m ≤ 100000) (hg : G ⟨X, n, []⟩) (hl : RLoop m ⟨X, n, []⟩ sa r) (he : X.check sa n = 0) (h : S w0 (capsC c X :: Γ) W) :
    Calls Try.prog F_revoke_Revoke #[.pointer (some ⟨c, 0, none⟩), slotV sa, .int .i64 n] W
    (Ret fun v W' => ∃ tv, v = outV r tv ∧ S w0 (capsS tv r.st.ts :: capsC c r.st.X :: Γ) W') := by
  refine c_revoke_Revoke ?_
  unfold h_revoke_Revoke
  rw [slotV]
  repeat (first
    | simp only [↓ld55, ↓rd55, ↓ld66, ↓rd66, ↓bd143_0_1, ↓al141, ↓st141, ↓ld141, ↓rd141, ↓fa143_2, ↓ld69, ↓rd69, ↓GG, NN, Nat.reduceAdd]
    | refine a_ld1 h ?_
    | refine a_ldN h ?_
    | refine a_rs1 h ?_
    | refine a_rsN h ?_
    | (refine u_draw h ?_; clear h; intro W h)
    | refine a_rd1 h ?_
    | refine a_rdN h ?_
    | (refine u_nr h ?_; clear h; intro b W h)
    | (refine u_bx h ?_; clear h; intro b W h)
    | (refine u_al h ?_; clear h; intro b W h)
    | (refine a_st h ?_; clear h; intro W h))
  refine r_call (kCheck (sa := sa) (n := n) (h.take (c := capsC c X) (by repeat (first | exact Take.head | apply Take.tail)))) ?_
  clear h
  rintro v W ⟨rfl, h⟩
  have d1 : (X.check sa n != 0) = false := by simp [he]
  repeat (first
    | simp only [d1, ↓ld55, ↓rd55, ↓ld66, ↓rd66, ↓bd143_0_1, ↓al141, ↓st141, ↓ld141, ↓rd141, ↓fa143_2, ↓ld69, ↓rd69, ↓GG, NN, Nat.reduceAdd]
    | refine a_ld1 h ?_
    | refine a_ldN h ?_
    | refine a_rs1 h ?_
    | refine a_rsN h ?_
    | (refine u_draw h ?_; clear h; intro W h)
    | refine a_rd1 h ?_
    | refine a_rdN h ?_
    | (refine u_nr h ?_; clear h; intro b W h)
    | (refine u_bx h ?_; clear h; intro b W h)
    | (refine u_al h ?_; clear h; intro b W h)
    | (refine a_st h ?_; clear h; intro W h))
  obtain ⟨pb, hpb⟩ : ∃ x, x = b := ⟨_, rfl⟩
  subst hpb
  obtain ⟨kb, hkb⟩ : ∃ x, x = b := ⟨_, rfl⟩
  subst hkb
  obtain ⟨qb, hqb⟩ : ∃ x, x = b := ⟨_, rfl⟩
  subst hqb
  obtain ⟨ob, hob⟩ : ∃ x, x = b := ⟨_, rfl⟩
  subst hob
  have h0 := S.nilSlice T_api_Cap 6 h
  have h1 := tak_shut (k := kb) (c := c) (n := n) (ts := []) h0 (by repeat (first | exact Take.head | apply Take.tail)) (by repeat (first | exact Take.head | apply Take.tail))
  have h2 := S.get4 (c1 := takC kb c n []) (c2 := capsC c X) (c3 := pts pb (.cells #[.pointer (some ⟨kb, 0, none⟩)] 141 (0, 0))) (c4 := pts qb (.cells #[.int .i64 sa.1, .int .i64 sa.2] 66 (0, 0))) h1 (by repeat (first | exact Take.head | apply Take.tail)) (by repeat (first | exact Take.head | apply Take.tail)) (by repeat (first | exact Take.head | apply Take.tail)) (by repeat (first | exact Take.head | apply Take.tail))
  clear h h0 h1
  refine r_call (kRun (st := ⟨X, n, []⟩) (k := kb) (c := c) (r := r) (f := 53) (by kernel_rfl) h2 ?_) ?_
  · intro d e W' h
    exact kRevoke1 hG (m := m) (st := ⟨X, n, []⟩) (sa := sa) (Take.knows (by repeat (first | exact Take.head | apply Take.tail))) (Take.knows (by repeat (first | exact Take.head | apply Take.tail))) (Take.knows (by repeat (first | exact Take.head | apply Take.tail))) hm hg hl h
  · clear h2
    rintro v W ⟨rfl, h⟩
    obtain ⟨tv, h1⟩ := tak_open h
    clear h
    have h := h1
    clear h1
    obtain ⟨ta, tc, rfl⟩ := slc_shape h (.tail .head)
    cases r with
    | ok st =>
      simp only [runV]
      repeat (first
    | simp only [↓ld55, ↓rd55, ↓ld66, ↓rd66, ↓bd143_0_1, ↓al141, ↓st141, ↓ld141, ↓rd141, ↓fa143_2, ↓ld69, ↓rd69, ↓GG, NN, Nat.reduceAdd]
    | refine a_ld1 h ?_
    | refine a_ldN h ?_
    | refine a_rs1 h ?_
    | refine a_rsN h ?_
    | (refine u_draw h ?_; clear h; intro W h)
    | refine a_rd1 h ?_
    | refine a_rdN h ?_
    | (refine u_nr h ?_; clear h; intro b W h)
    | (refine u_bx h ?_; clear h; intro b W h)
    | (refine u_al h ?_; clear h; intro b W h)
    | (refine a_st h ?_; clear h; intro W h))
      exact ⟨_, rfl, (S.get2 (c1 := capsS _ st.ts) (c2 := capsC c st.X) h (by repeat (first | exact Take.head | apply Take.tail)) (by repeat (first | exact Take.head | apply Take.tail))).subA⟩
    | spent st =>
      simp only [runV]
      repeat (first
    | simp only [↓ld55, ↓rd55, ↓ld66, ↓rd66, ↓bd143_0_1, ↓al141, ↓st141, ↓ld141, ↓rd141, ↓fa143_2, ↓ld69, ↓rd69, ↓GG, NN, Nat.reduceAdd]
    | refine a_ld1 h ?_
    | refine a_ldN h ?_
    | refine a_rs1 h ?_
    | refine a_rsN h ?_
    | (refine u_draw h ?_; clear h; intro W h)
    | refine a_rd1 h ?_
    | refine a_rdN h ?_
    | (refine u_nr h ?_; clear h; intro b W h)
    | (refine u_bx h ?_; clear h; intro b W h)
    | (refine u_al h ?_; clear h; intro b W h)
    | (refine a_st h ?_; clear h; intro W h))
      exact ⟨_, rfl, (S.get2 (c1 := capsS _ st.ts) (c2 := capsC c st.X) h (by repeat (first | exact Take.head | apply Take.tail)) (by repeat (first | exact Take.head | apply Take.tail))).subA⟩
end
end Go.Proofs.Ytpghhaobcikdhaa
