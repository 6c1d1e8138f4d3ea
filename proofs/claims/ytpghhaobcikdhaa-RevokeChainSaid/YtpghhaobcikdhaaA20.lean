/- Revoke: what Delete and Revoke have run. -/
import Derived.Test.YtpghhaobcikdhaaA19
namespace Go.Proofs.Ytpghhaobcikdhaa
open Go Go.Hw
set_option linter.unusedSimpArgs false
set_option linter.unusedVariables false
set_option maxRecDepth 100000

/-- all that comes of a slot taken away, in so many turns -/
inductive RLoop : Nat → St → Slot → Out → Prop
  | empty {m : Nat} {st : St} {a : Slot} (h : (st.X.s.geta a).1.kind = 0) : RLoop m st a (.ok st)
  | nokin {m : Nat} {st : St} {a : Slot} (h : (st.X.s.geta a).1.kind ≠ 0) (hk : KinOf st.X.t a []) : RLoop m st a (.ok st)
  | go {m m' : Nat} {st st' : St} {a g : Slot} {l : List Slot} {r : Out} (h : (st.X.s.geta a).1.kind ≠ 0) (hk : KinOf st.X.t a (l ++ [g])) (hl : l.length ≤ 90000) (h1 : Loop m st [g] g (.ok st')) (h2 : RLoop m' st' a r) : RLoop (m + m' + 1) st a r
  | spent {m : Nat} {st st' : St} {a g : Slot} {l : List Slot} (h : (st.X.s.geta a).1.kind ≠ 0) (hk : KinOf st.X.t a (l ++ [g])) (hl : l.length ≤ 90000) (h1 : Loop m st [g] g (.spent st')) : RLoop (m + 1) st a (.spent st')

theorem RLoop.good {G : St → Prop} (hG : Good G) {m : Nat} {st : St} {a : Slot} {r : Out} (h : RLoop m st a r) : G st → ∀ st', r = .ok st' → G st' := by
  induction h with
  | empty h => intro hg st' hr; cases hr; exact hg
  | nokin h hk => intro hg st' hr; cases hr; exact hg
  | go h hk hl h1 h2 ih => exact fun hg st' hr => ih (h1.good hG hg _ rfl) st' hr
  | spent h hk hl h1 => exact fun hg st' hr => by cases hr

section
variable {w0 : World} {Γ Γ' : List Chunk} {W : World} {c s t k : Nat} {X : Caps} {σ : Store} {n : Int} {ts : List Cap}

def outQ (w0 : World) (k c : Nat) (Γ : List Chunk) (r : Out) : Ending → World → Prop :=
  RetP (fun v W' => ∃ st', r = .ok st' ∧ v = .tuple #[] ∧ S w0 (stC k c st' Γ) W') (fun ch W' => ∃ st', r = .spent st' ∧ ch = spentCh ∧ S w0 (stC k c st' Γ) W')

theorem kDelete1 {G : St → Prop} (hG : Good G) {m p q : Nat} {st : St} {sa : Slot} {r : Out} {fr fr' : Nat × Nat} (hp : Knows Γ p (.cells #[.pointer (some ⟨k, 0, none⟩)] 141 fr)) (hq : Knows Γ q (.cells #[.int .i64 sa.1, .int .i64 sa.2] 66 fr'))
    (hm : 1 + m ≤ 100000) (hg : G st) (hl : Loop m st [sa] sa r) (h : S w0 (stC k c st Γ) W) :
    Calls Try.prog F_revoke_Delete_1 #[.pointer (some ⟨p, 0, none⟩), .pointer (some ⟨q, 0, none⟩)] W (outQ w0 k c Γ r) := by
  refine c_revoke_Delete_1 ?_
  unfold h_revoke_Delete_1
  simp only [↓ld141, ↓rd141, ↓ld66, ↓rd66, ↓GG, NN, Nat.reduceAdd]
  refine u_ld1 h (hp.tail.tail) (by rfl) ?_
  refine u_ldN h (hq.tail.tail) (Nat.le_of_ble_eq_true rfl) ?_
  simp only [↓ld141, ↓rd141, ↓ld66, ↓rd66, ↓GG, NN, Nat.reduceAdd]
  refine r_callP (kAway hG m (of := []) (sa := sa) (.inl ⟨rfl, rfl, rfl⟩) (by simpa using hm) hg hl h) ?_ ?_
  · rintro v W ⟨st', hr, rfl, h⟩
    exact ⟨st', hr, rfl, h⟩
  · rintro ch W ⟨st', hr, rfl, h⟩
    exact ⟨st', hr, rfl, h⟩

theorem kRevoke1 {G : St → Prop} (hG : Good G) {m p q o : Nat} {st : St} {sa : Slot} {r : Out} {fr fr' fr'' : Nat × Nat} (hp : Knows Γ p (.cells #[.pointer (some ⟨k, 0, none⟩)] 141 fr)) (hq : Knows Γ q (.cells #[.int .i64 sa.1, .int .i64 sa.2] 66 fr'))
    (ho : Knows Γ o (.cells #[.pointer (some ⟨c, 0, none⟩)] 55 fr'')) (hm : 1 + m ≤ 100000) (hg : G st) (hl : RLoop m st sa r) (h : S w0 (stC k c st Γ) W) :
    Calls Try.prog F_revoke_Revoke_1 #[.pointer (some ⟨p, 0, none⟩), .pointer (some ⟨q, 0, none⟩), .pointer (some ⟨o, 0, none⟩)] W (outQ w0 k c Γ r) := by
  refine c_revoke_Revoke_1 ?_
  unfold h_revoke_Revoke_1
  refine u_loopN (fun m' _ w => ∃ st', m' ≤ m ∧ G st' ∧ RLoop m' st' sa r ∧ S w0 (stC k c st' Γ) w) ⟨m, st, Nat.le_refl _, hg, hl, h⟩ ?_
  clear h
  rintro j m' _ W ⟨st', hm', hg', hl', h⟩
  simp only [↓ld141, ↓rd141, ↓ld66, ↓rd66, ↓fl68_0, ↓ld55, ↓rd55, ↓len72, ↓ia72, ↓GG, NN, Nat.reduceAdd]
  refine u_ld1 h (hp.tail.tail) (by rfl) ?_
  refine u_ldN h (hq.tail.tail) (Nat.le_of_ble_eq_true rfl) ?_
  simp only [↓ld141, ↓rd141, ↓ld66, ↓rd66, ↓fl68_0, ↓ld55, ↓rd55, ↓len72, ↓ia72, ↓GG, NN, Nat.reduceAdd]
  refine r_call (kGet (sa := sa) h) ?_
  clear h
  rintro v W ⟨rfl, h⟩
  simp only [Cap.v]
  by_cases hz : (st'.X.s.geta sa).1.kind = 0
  · have d1 : ((st'.X.s.geta sa).1.kind != 0) = false := by simp [hz]
    repeat (first
    | simp only [d1, ↓ld141, ↓rd141, ↓ld66, ↓rd66, ↓fl68_0, ↓ld55, ↓rd55, ↓len72, ↓ia72, ↓GG, NN, Nat.reduceAdd]
    | refine a_ld1 h ?_
    | refine a_ldN h ?_
    | refine a_rs1 h ?_
    | refine a_rsN h ?_
    | (refine u_draw h ?_; clear h; intro W h)
    | refine a_rd1 h ?_
    | refine a_rdN h ?_
    | (refine u_nr h ?_; clear h; intro b W h)
    | (refine u_bx h ?_; clear h; intro b W h)
    | (refine u_al h ?_; clear h; intro b W h)
    | (refine a_st h ?_; clear h; intro W h))
    cases hl' with
    | empty _ => exact ⟨st', rfl, rfl, h⟩
    | nokin h1 _ => exact absurd hz h1
    | go h1 _ _ _ _ => exact absurd hz h1
    | spent h1 _ _ _ => exact absurd hz h1
  · have d1 : ((st'.X.s.geta sa).1.kind != 0) = true := by simp [hz]
    repeat (first
    | simp only [d1, ↓ld141, ↓rd141, ↓ld66, ↓rd66, ↓fl68_0, ↓ld55, ↓rd55, ↓len72, ↓ia72, ↓GG, NN, Nat.reduceAdd]
    | refine a_ld1 h ?_
    | refine a_ldN h ?_
    | refine a_rs1 h ?_
    | refine a_rsN h ?_
    | (refine u_draw h ?_; clear h; intro W h)
    | refine a_rd1 h ?_
    | refine a_rdN h ?_
    | (refine u_nr h ?_; clear h; intro b W h)
    | (refine u_bx h ?_; clear h; intro b W h)
    | (refine u_al h ?_; clear h; intro b W h)
    | (refine a_st h ?_; clear h; intro W h))
    refine u_ld1 h (ho.tail.tail) (by rfl) ?_
    refine u_ldN h (hq.tail.tail) (Nat.le_of_ble_eq_true rfl) ?_
    have hcl := (hG.wf _ hg').toCl
    have fin : ∀ {l : List Slot}, KinOf st'.X.t sa l → l.length ≤ 90001 → ∀ {kk : Value → World → Prop}, (∀ v W, S w0 (slotsC v l :: stC k c st' Γ) W → kk v W) → oC Try.prog (EP (outQ w0 k c Γ r)) 32 #[.pointer (some ⟨c, 0, none⟩), .agg #[.int .i64 sa.1, .int .i64 sa.2]] kk W := by
      intro l hk hl kk hkk
      refine r_call (mKin (sa := sa) hcl hk (by omega) (h.take (c := capsC c st'.X) (by repeat (first | exact Take.head | apply Take.tail)))) ?_
      intro v W h
      exact hkk v W ((S.get3 (c1 := slotsC v l) (c2 := takC k c st'.n st'.ts) (c3 := capsC c st'.X) h (by repeat (first | exact Take.head | apply Take.tail)) (by repeat (first | exact Take.head | apply Take.tail)) (by repeat (first | exact Take.head | apply Take.tail))).subA)
    have full : ∀ {l : List Slot} {g : Slot}, KinOf st'.X.t sa (l ++ [g]) → l.length ≤ 90000 → True := fun _ _ => trivial
    simp only [List.toList_toArray, List.drop_zero, List.take_succ_cons, List.take_zero]
    cases hl' with
    | empty h1 => exact absurd h1 hz
    | nokin _ hk =>
      refine fin hk (by simp) ?_
      clear fin h
      intro v W h
      obtain ⟨va, vc, rfl⟩ := slc_shape h .head
      repeat (first
    | simp only [↓ld141, ↓rd141, ↓ld66, ↓rd66, ↓fl68_0, ↓ld55, ↓rd55, ↓len72, ↓ia72, ↓GG, NN, Nat.reduceAdd]
    | refine a_ld1 h ?_
    | refine a_ldN h ?_
    | refine a_rs1 h ?_
    | refine a_rsN h ?_
    | (refine u_draw h ?_; clear h; intro W h)
    | refine a_rd1 h ?_
    | refine a_rdN h ?_
    | (refine u_nr h ?_; clear h; intro b W h)
    | (refine u_bx h ?_; clear h; intro b W h)
    | (refine u_al h ?_; clear h; intro b W h)
    | (refine a_st h ?_; clear h; intro W h))
      exact ⟨st', rfl, rfl, h.drop⟩
    | @go m1 m2 _ st2 _ g l _ _ hk hl h2 h3 =>
      refine fin hk (by simp; omega) ?_
      clear fin h
      intro v W h
      have hlen : (l ++ [g]).length = l.length + 1 := by rw [List.length_append]; rfl
      obtain ⟨va, vc, rfl⟩ := slc_shape h .head
      have d2 : (((l ++ [g]).length : Int) == 0) = false := by rw [hlen, beq_eq_false_iff_ne]; omega
      have d3 : IntKind.i64.wrap (((l ++ [g]).length : Int) - 1) = ((l.length : Nat) : Int) := by rw [wrap_i64 (by omega)]; omega
      have hgl : (l ++ [g])[l.length]'(by omega) = g := by simp
      simp only [len72]
      repeat (first
    | simp only [d2, ↓ld141, ↓rd141, ↓ld66, ↓rd66, ↓fl68_0, ↓ld55, ↓rd55, ↓len72, ↓ia72, ↓GG, NN, Nat.reduceAdd]
    | refine a_ld1 h ?_
    | refine a_ldN h ?_
    | refine a_rs1 h ?_
    | refine a_rsN h ?_
    | (refine u_draw h ?_; clear h; intro W h)
    | refine a_rd1 h ?_
    | refine a_rdN h ?_
    | (refine u_nr h ?_; clear h; intro b W h)
    | (refine u_bx h ?_; clear h; intro b W h)
    | (refine u_al h ?_; clear h; intro b W h)
    | (refine a_st h ?_; clear h; intro W h))
      refine u_ld1 h (hp.tail.tail.tail) (by rfl) ?_
      repeat (first
    | simp only [d3, ↓ld141, ↓rd141, ↓ld66, ↓rd66, ↓fl68_0, ↓ld55, ↓rd55, ↓len72, ↓ia72, ↓GG, NN, Nat.reduceAdd]
    | refine a_ld1 h ?_
    | refine a_ldN h ?_
    | refine a_rs1 h ?_
    | refine a_rsN h ?_
    | (refine u_draw h ?_; clear h; intro W h)
    | refine a_rd1 h ?_
    | refine a_rdN h ?_
    | (refine u_nr h ?_; clear h; intro b W h)
    | (refine u_bx h ?_; clear h; intro b W h)
    | (refine u_al h ?_; clear h; intro b W h)
    | (refine a_st h ?_; clear h; intro W h))
      obtain ⟨ga, cap, cur, hv, hgb, hrd, hsz⟩ := row_read slotCells_len h .head (i := l.length) (by omega)
      rw [hgl] at hrd
      injection hv with u1 u2 u3
      subst u1 u3
      rw [ia72 (by omega)]
      refine v_ldN hgb ?_ ?_
      · simpa using hsz
      rw [show (0 + (l.length : Int).toNat * 2) = l.length * 2 by omega, hrd]
      simp only [slotCells]
      have h := h.drop
      refine r_callP (kAway hG m1 (of := []) (sa := g) (.inl ⟨rfl, rfl, rfl⟩) (by simp only [List.length_nil]; omega) hg' h2 h) ?_ ?_
      · rintro v W ⟨st3, hr, rfl, h⟩
        cases hr
        exact least_lt (m' := m2) ⟨st2, by omega, h2.good hG hg' _ rfl, h3, h⟩ (by omega)
      · rintro ch W ⟨st3, hr, rfl, h⟩
        cases hr
    | @spent m1 _ st2 _ g l _ hk hl h2 =>
      refine fin hk (by simp; omega) ?_
      clear fin h
      intro v W h
      have hlen : (l ++ [g]).length = l.length + 1 := by rw [List.length_append]; rfl
      obtain ⟨va, vc, rfl⟩ := slc_shape h .head
      have d2 : (((l ++ [g]).length : Int) == 0) = false := by rw [hlen, beq_eq_false_iff_ne]; omega
      have d3 : IntKind.i64.wrap (((l ++ [g]).length : Int) - 1) = ((l.length : Nat) : Int) := by rw [wrap_i64 (by omega)]; omega
      have hgl : (l ++ [g])[l.length]'(by omega) = g := by simp
      simp only [len72]
      repeat (first
    | simp only [d2, ↓ld141, ↓rd141, ↓ld66, ↓rd66, ↓fl68_0, ↓ld55, ↓rd55, ↓len72, ↓ia72, ↓GG, NN, Nat.reduceAdd]
    | refine a_ld1 h ?_
    | refine a_ldN h ?_
    | refine a_rs1 h ?_
    | refine a_rsN h ?_
    | (refine u_draw h ?_; clear h; intro W h)
    | refine a_rd1 h ?_
    | refine a_rdN h ?_
    | (refine u_nr h ?_; clear h; intro b W h)
    | (refine u_bx h ?_; clear h; intro b W h)
    | (refine u_al h ?_; clear h; intro b W h)
    | (refine a_st h ?_; clear h; intro W h))
      refine u_ld1 h (hp.tail.tail.tail) (by rfl) ?_
      repeat (first
    | simp only [d3, ↓ld141, ↓rd141, ↓ld66, ↓rd66, ↓fl68_0, ↓ld55, ↓rd55, ↓len72, ↓ia72, ↓GG, NN, Nat.reduceAdd]
    | refine a_ld1 h ?_
    | refine a_ldN h ?_
    | refine a_rs1 h ?_
    | refine a_rsN h ?_
    | (refine u_draw h ?_; clear h; intro W h)
    | refine a_rd1 h ?_
    | refine a_rdN h ?_
    | (refine u_nr h ?_; clear h; intro b W h)
    | (refine u_bx h ?_; clear h; intro b W h)
    | (refine u_al h ?_; clear h; intro b W h)
    | (refine a_st h ?_; clear h; intro W h))
      obtain ⟨ga, cap, cur, hv, hgb, hrd, hsz⟩ := row_read slotCells_len h .head (i := l.length) (by omega)
      rw [hgl] at hrd
      injection hv with u1 u2 u3
      subst u1 u3
      rw [ia72 (by omega)]
      refine v_ldN hgb ?_ ?_
      · simpa using hsz
      rw [show (0 + (l.length : Int).toNat * 2) = l.length * 2 by omega, hrd]
      simp only [slotCells]
      have h := h.drop
      refine r_callP (kAway hG m1 (of := []) (sa := g) (.inl ⟨rfl, rfl, rfl⟩) (by simp only [List.length_nil]; omega) hg' h2 h) ?_ ?_
      · rintro v W ⟨st3, hr, rfl, h⟩
        cases hr
      · rintro ch W ⟨st3, hr, rfl, h⟩
        cases hr
        exact ⟨st2, rfl, rfl, h⟩
end
end Go.Proofs.Ytpghhaobcikdhaa
