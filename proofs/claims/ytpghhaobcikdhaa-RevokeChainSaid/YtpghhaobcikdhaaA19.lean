/- Revoke: away. -/
import Derived.Test.YtpghhaobcikdhaaA18
namespace Go.Proofs.Ytpghhaobcikdhaa
open Go Go.Hw
set_option linter.unusedSimpArgs false
set_option linter.unusedVariables false
set_option maxRecDepth 100000

theorem exists_least {p : Nat → Prop} : ∀ n, p n → ∃ n, p n ∧ ∀ m, p m → n ≤ m := by
  intro n
  induction n using Nat.strongRecOn with
  | _ n ih =>
    intro hn
    by_cases h : ∃ m, m < n ∧ p m
    · obtain ⟨m, hm, hp⟩ := h
      exact ih m hm hp
    · refine ⟨n, hn, fun m hp => ?_⟩
      rcases Nat.lt_or_ge m n with hlt | hge
      · exact absurd ⟨m, hlt, hp⟩ h
      · exact hge
open Classical in
noncomputable def least (p : Nat → Prop) : Nat := if h : ∃ n, p n then Classical.choose (exists_least _ (Classical.choose_spec h)) else 0
theorem least_spec {p : Nat → Prop} (h : ∃ n, p n) : p (least p) := by
  unfold least
  rw [dif_pos h]
  exact (Classical.choose_spec (exists_least _ (Classical.choose_spec h))).1
theorem least_lt {p : Nat → Prop} {m m' : Nat} (h : p m') (hm : m' < m) : (∃ x, p x) ∧ least p < m := by
  refine ⟨⟨m', h⟩, ?_⟩
  unfold least
  rw [dif_pos ⟨m', h⟩]
  have := (Classical.choose_spec (exists_least _ (Classical.choose_spec (⟨m', h⟩ : ∃ n, p n)))).2 m' h
  omega
/-- a loop whose measure is not the state's -/
theorem u_loopN {σ : Type} {body : Env → σ → (σ → World → Prop) → World → Prop} {s : σ} {w : World} (J : Nat → σ → World → Prop) (h0 : ∃ m, J m s w)
    (hr : ∀ j m s w, J m s w → body j s (fun s' w' => (∃ x, J x s' w') ∧ least (fun x => J x s' w') < m) w) : oLoop body s w :=
  ⟨fun s w => ∃ m, J m s w, fun s w => least fun x => J x s w, h0, fun j s w h => hr j _ s w (least_spec h)⟩

inductive Out
  | ok (st : St)
  | spent (st : St)
/-- the slot within that goes first -/
def St.goes (st : St) (way : List Slot) (a : Slot) : Option Slot :=
  if (st.X.s.geta a).1.kind = 2 ∧ st.X.final a = true then st.X.inner (st.X.s.geta a).1.object way else none
def St.stepO (st : St) (a : Slot) : Out := if st.n = 0 then .spent st else .ok (st.step a)

/-- a slot's capability taken away, in so many turns -/
inductive Loop : Nat → St → List Slot → Slot → Out → Prop
  | stop {m : Nat} {st : St} {way : List Slot} {a : Slot} (h : st.goes way a = none) : Loop m st way a (st.stepO a)
  | go {m m' : Nat} {st st' : St} {way : List Slot} {a s : Slot} {r : Out} (h : st.goes way a = some s) (h1 : Loop m st (way ++ [s]) s (.ok st')) (h2 : Loop m' st' way a r) : Loop (m + m' + 1) st way a r
  | spent {m : Nat} {st st' : St} {way : List Slot} {a s : Slot} (h : st.goes way a = some s) (h1 : Loop m st (way ++ [s]) s (.spent st')) : Loop (m + 1) st way a (.spent st')

structure Good (G : St → Prop) : Prop where
  wf : ∀ st, G st → st.X.t.Wf
  n : ∀ st, G st → 0 ≤ st.n ∧ st.n ≤ 1000
  ts : ∀ st, G st → st.ts.length ≤ 100000
  step : ∀ st a, G st → st.n ≠ 0 → G (st.step a)

theorem Loop.good {G : St → Prop} (hG : Good G) {m : Nat} {st : St} {way : List Slot} {a : Slot} {r : Out} (h : Loop m st way a r) : G st → ∀ st', r = .ok st' → G st' := by
  induction h with
  | stop h =>
    intro hg st' hr
    unfold St.stepO at hr
    split at hr
    · cases hr
    · injection hr with hr
      exact hr ▸ hG.step _ _ hg (by assumption)
  | go h h1 h2 ih1 ih2 => exact fun hg st' hr => ih2 (ih1 hg _ rfl) st' hr
  | spent h h1 ih => exact fun hg st' hr => by cases hr

section
variable {w0 : World} {Γ Γ' : List Chunk} {W : World} {c s t k : Nat} {X : Caps} {σ : Store} {n : Int} {ts : List Cap}

theorem kAway {G : St → Prop} (hG : Good G) : ∀ (m : Nat) {st : St} {of : List Slot} {sa : Slot} {x : Value} {r : Out} {Γ : List Chunk} {W : World} (hx : Kn Γ x 2 (of.flatMap slotCells) of.length) (hm : of.length + 1 + m ≤ 100000)
    (hg : G st) (hl : Loop m st (of ++ [sa]) sa r) (h : S w0 (stC k c st Γ) W),
    Calls Try.prog F_revoke_taker_away #[.pointer (some ⟨k, 0, none⟩), slotV sa, x] W
    (RetP (fun v W' => ∃ st', r = .ok st' ∧ v = .tuple #[] ∧ S w0 (stC k c st' Γ) W') (fun ch W' => ∃ st', r = .spent st' ∧ ch = spentCh ∧ S w0 (stC k c st' Γ) W')) := by
  intro m
  induction m using Nat.strongRecOn with
  | _ m ih =>
  intro st of sa x r Γ W hx hm hg hl h
  refine c_revoke_taker_away ?_
  unfold h_revoke_taker_away
  rw [slotV]
  repeat (first
    | simp only [↓ld66, ↓rd66, ↓bs72_1_0, ↓ap72, ↓fl68_0, ↓fa143_0, ↓ld55, ↓rd55, ↓fl68_1, ↓al66, ↓st66, ↓GG, NN, Nat.reduceAdd]
    | refine a_ld1 h ?_
    | refine a_ldN h ?_
    | refine a_rs1 h ?_
    | refine a_rsN h ?_
    | (refine u_draw h ?_; clear h; intro W h)
    | refine a_rd1 h ?_
    | refine a_rdN h ?_
    | (refine u_nr h ?_; clear h; intro b W h)
    | (refine u_bx h ?_; clear h; intro b W h)
    | (refine u_al h ?_; clear h; intro b W h)
    | (refine a_st h ?_; clear h; intro W h))
  obtain ⟨pb, hpb⟩ : ∃ x, x = b := ⟨_, rfl⟩
  subst hpb
  refine u_join (fun v w => S w0 (stC k c st (slotsC v (of ++ [sa]) :: pts pb (.cells #[.int .i64 sa.1, .int .i64 sa.2] 66 (0, 0)) :: Γ)) w) ?_ ?_
  · repeat (first
    | simp only [↓ld66, ↓rd66, ↓bs72_1_0, ↓ap72, ↓fl68_0, ↓fa143_0, ↓ld55, ↓rd55, ↓fl68_1, ↓al66, ↓st66, ↓GG, NN, Nat.reduceAdd]
    | refine a_ld1 h ?_
    | refine a_ldN h ?_
    | refine a_rs1 h ?_
    | refine a_rsN h ?_
    | (refine u_draw h ?_; clear h; intro W h)
    | refine a_rd1 h ?_
    | refine a_rdN h ?_
    | (refine u_nr h ?_; clear h; intro b W h)
    | (refine u_bx h ?_; clear h; intro b W h)
    | (refine u_al h ?_; clear h; intro b W h)
    | (refine a_st h ?_; clear h; intro W h))
    constructor
    · repeat (first
    | simp only [↓ld66, ↓rd66, ↓bs72_1_0, ↓ap72, ↓fl68_0, ↓fa143_0, ↓ld55, ↓rd55, ↓fl68_1, ↓al66, ↓st66, ↓GG, NN, Nat.reduceAdd]
    | refine a_ld1 h ?_
    | refine a_ldN h ?_
    | refine a_rs1 h ?_
    | refine a_rsN h ?_
    | (refine u_draw h ?_; clear h; intro W h)
    | refine a_rd1 h ?_
    | refine a_rdN h ?_
    | (refine u_nr h ?_; clear h; intro b W h)
    | (refine u_bx h ?_; clear h; intro b W h)
    | (refine u_al h ?_; clear h; intro b W h)
    | (refine a_st h ?_; clear h; intro W h))
      refine r_call (Clone_slot_spec h (by repeat (first | exact hx | apply Kn.tail)) (by omega)) ?_
      clear h
      intro v W h
      repeat (first
    | simp only [↓ld66, ↓rd66, ↓bs72_1_0, ↓ap72, ↓fl68_0, ↓fa143_0, ↓ld55, ↓rd55, ↓fl68_1, ↓al66, ↓st66, ↓GG, NN, Nat.reduceAdd]
    | refine a_ld1 h ?_
    | refine a_ldN h ?_
    | refine a_rs1 h ?_
    | refine a_rsN h ?_
    | (refine u_draw h ?_; clear h; intro W h)
    | refine a_rd1 h ?_
    | refine a_rdN h ?_
    | (refine u_nr h ?_; clear h; intro b W h)
    | (refine u_bx h ?_; clear h; intro b W h)
    | (refine u_al h ?_; clear h; intro b W h)
    | (refine a_st h ?_; clear h; intro W h))
      refine u_ap h (e := T_api_Slot) (xs := of.flatMap slotCells) (by repeat (first | exact Take.head | apply Take.tail)) (Take.knows (by repeat (first | exact Take.head | apply Take.tail))) (Nat.le_of_ble_eq_true rfl) (by rfl) (by omega) (by decide) ?_
      clear h
      intro v W h
      have h1 := h.take (c := slc T_api_Slot 2 v (of.length + 1) (of.flatMap slotCells ++ slotCells sa)) (by repeat (first | exact Take.head | apply Take.tail))
      rw [slotsC_snoc] at h1
      exact (S.get4 (c1 := takC k c st.n st.ts) (c2 := capsC c st.X) (c3 := slotsC v (of ++ [sa])) (c4 := pts pb (.cells #[.int .i64 sa.1, .int .i64 sa.2] 66 (0, 0))) h1 (by repeat (first | exact Take.head | apply Take.tail)) (by repeat (first | exact Take.head | apply Take.tail)) (by repeat (first | exact Take.head | apply Take.tail)) (by repeat (first | exact Take.head | apply Take.tail))).subA
    · repeat (first
    | simp only [↓ld66, ↓rd66, ↓bs72_1_0, ↓ap72, ↓fl68_0, ↓fa143_0, ↓ld55, ↓rd55, ↓fl68_1, ↓al66, ↓st66, ↓GG, NN, Nat.reduceAdd]
    | refine a_ld1 h ?_
    | refine a_ldN h ?_
    | refine a_rs1 h ?_
    | refine a_rsN h ?_
    | (refine u_draw h ?_; clear h; intro W h)
    | refine a_rd1 h ?_
    | refine a_rdN h ?_
    | (refine u_nr h ?_; clear h; intro b W h)
    | (refine u_bx h ?_; clear h; intro b W h)
    | (refine u_al h ?_; clear h; intro b W h)
    | (refine a_st h ?_; clear h; intro W h))
      refine r_call (Clone_slot_spec h (by repeat (first | exact hx | apply Kn.tail)) (by omega)) ?_
      clear h
      intro v W h
      repeat (first
    | simp only [↓ld66, ↓rd66, ↓bs72_1_0, ↓ap72, ↓fl68_0, ↓fa143_0, ↓ld55, ↓rd55, ↓fl68_1, ↓al66, ↓st66, ↓GG, NN, Nat.reduceAdd]
    | refine a_ld1 h ?_
    | refine a_ldN h ?_
    | refine a_rs1 h ?_
    | refine a_rsN h ?_
    | (refine u_draw h ?_; clear h; intro W h)
    | refine a_rd1 h ?_
    | refine a_rdN h ?_
    | (refine u_nr h ?_; clear h; intro b W h)
    | (refine u_bx h ?_; clear h; intro b W h)
    | (refine u_al h ?_; clear h; intro b W h)
    | (refine a_st h ?_; clear h; intro W h))
      refine u_ap h (e := T_api_Slot) (xs := of.flatMap slotCells) (by repeat (first | exact Take.head | apply Take.tail)) (Take.knows (by repeat (first | exact Take.head | apply Take.tail))) (Nat.le_of_ble_eq_true rfl) (by rfl) (by omega) (by decide) ?_
      clear h
      intro v W h
      have h1 := h.take (c := slc T_api_Slot 2 v (of.length + 1) (of.flatMap slotCells ++ slotCells sa)) (by repeat (first | exact Take.head | apply Take.tail))
      rw [slotsC_snoc] at h1
      exact (S.get4 (c1 := takC k c st.n st.ts) (c2 := capsC c st.X) (c3 := slotsC v (of ++ [sa])) (c4 := pts pb (.cells #[.int .i64 sa.1, .int .i64 sa.2] 66 (0, 0))) h1 (by repeat (first | exact Take.head | apply Take.tail)) (by repeat (first | exact Take.head | apply Take.tail)) (by repeat (first | exact Take.head | apply Take.tail)) (by repeat (first | exact Take.head | apply Take.tail))).subA
  · clear h
    rintro j wv W h
    obtain ⟨cw, h1, knw, backw⟩ := slc_fix (h.take (c := slotsC wv (of ++ [sa])) (by repeat (first | exact Take.head | apply Take.tail)))
    clear h
    obtain ⟨way, hway⟩ : ∃ way, way = of ++ [sa] := ⟨_, rfl⟩
    have hwl : way.length = of.length + 1 := by rw [hway, List.length_append]; rfl
    rw [← hway] at knw hl
    have h := S.get4 (c1 := takC k c st.n st.ts) (c2 := capsC c st.X) (c3 := cw) (c4 := pts pb (.cells #[.int .i64 sa.1, .int .i64 sa.2] 66 (0, 0))) h1 (by repeat (first | exact Take.head | apply Take.tail)) (by repeat (first | exact Take.head | apply Take.tail)) (by repeat (first | exact Take.head | apply Take.tail)) (by repeat (first | exact Take.head | apply Take.tail))
    clear h1
    refine u_join (fun _ w => ∃ m' st', m' ≤ m ∧ G st' ∧ r = st'.stepO sa ∧ S w0 (stC k c st' (cw :: pts pb (.cells #[.int .i64 sa.1, .int .i64 sa.2] 66 (0, 0)) :: Γ)) w) ?_ ?_
    · refine u_loopN (fun m' _ w => ∃ st', m' ≤ m ∧ G st' ∧ Loop m' st' way sa r ∧ S w0 (stC k c st' (cw :: pts pb (.cells #[.int .i64 sa.1, .int .i64 sa.2] 66 (0, 0)) :: Γ)) w) ⟨m, st, Nat.le_refl _, hg, hl, h⟩ ?_
      clear h
      rintro j m' _ W ⟨st', hm', hg', hl', h⟩
      have hstop : st'.goes way sa = none → r = st'.stepO sa := by
        intro hn
        cases hl' with
        | stop h => rfl
        | go h _ _ => rw [hn] at h; cases h
        | spent h _ => rw [hn] at h; cases h
      repeat (first
    | simp only [↓ld66, ↓rd66, ↓bs72_1_0, ↓ap72, ↓fl68_0, ↓fa143_0, ↓ld55, ↓rd55, ↓fl68_1, ↓al66, ↓st66, ↓GG, NN, Nat.reduceAdd]
    | refine a_ld1 h ?_
    | refine a_ldN h ?_
    | refine a_rs1 h ?_
    | refine a_rsN h ?_
    | (refine u_draw h ?_; clear h; intro W h)
    | refine a_rd1 h ?_
    | refine a_rdN h ?_
    | (refine u_nr h ?_; clear h; intro b W h)
    | (refine u_bx h ?_; clear h; intro b W h)
    | (refine u_al h ?_; clear h; intro b W h)
    | (refine a_st h ?_; clear h; intro W h))
      refine r_call (kGet (sa := sa) h) ?_
      clear h
      rintro v W ⟨rfl, h⟩
      simp only [Cap.v]
      by_cases hk2 : (st'.X.s.geta sa).1.kind = 2
      · have d1 : ((st'.X.s.geta sa).1.kind == 2) = true := by simp [hk2]
        obtain ⟨tv, h1⟩ := tak_open h
        clear h
        have h := h1
        clear h1
        repeat (first
    | simp only [d1, ↓ld66, ↓rd66, ↓bs72_1_0, ↓ap72, ↓fl68_0, ↓fa143_0, ↓ld55, ↓rd55, ↓fl68_1, ↓al66, ↓st66, ↓GG, NN, Nat.reduceAdd]
    | refine a_ld1 h ?_
    | refine a_ldN h ?_
    | refine a_rs1 h ?_
    | refine a_rsN h ?_
    | (refine u_draw h ?_; clear h; intro W h)
    | refine a_rd1 h ?_
    | refine a_rdN h ?_
    | (refine u_nr h ?_; clear h; intro b W h)
    | (refine u_bx h ?_; clear h; intro b W h)
    | (refine u_al h ?_; clear h; intro b W h)
    | (refine a_st h ?_; clear h; intro W h))
        refine r_call (mFinal (sa := sa) (h.take (c := capsC c st'.X) (by repeat (first | exact Take.head | apply Take.tail)))) ?_
        clear h
        rintro v W ⟨rfl, h⟩
        have h1 := S.get4 (c1 := takC k c st'.n st'.ts) (c2 := capsC c st'.X) (c3 := cw) (c4 := pts pb (.cells #[.int .i64 sa.1, .int .i64 sa.2] 66 (0, 0))) (tak_shut (ts := st'.ts) h (by repeat (first | exact Take.head | apply Take.tail)) (by repeat (first | exact Take.head | apply Take.tail))) (by repeat (first | exact Take.head | apply Take.tail)) (by repeat (first | exact Take.head | apply Take.tail)) (by repeat (first | exact Take.head | apply Take.tail)) (by repeat (first | exact Take.head | apply Take.tail))
        clear h
        have h := h1
        clear h1
        cases hfin : st'.X.final sa
        · have hgo : st'.goes way sa = none := by simp [St.goes, hfin]
          repeat (first
    | simp only [d1, ↓ld66, ↓rd66, ↓bs72_1_0, ↓ap72, ↓fl68_0, ↓fa143_0, ↓ld55, ↓rd55, ↓fl68_1, ↓al66, ↓st66, ↓GG, NN, Nat.reduceAdd]
    | refine a_ld1 h ?_
    | refine a_ldN h ?_
    | refine a_rs1 h ?_
    | refine a_rsN h ?_
    | (refine u_draw h ?_; clear h; intro W h)
    | refine a_rd1 h ?_
    | refine a_rdN h ?_
    | (refine u_nr h ?_; clear h; intro b W h)
    | (refine u_bx h ?_; clear h; intro b W h)
    | (refine u_al h ?_; clear h; intro b W h)
    | (refine a_st h ?_; clear h; intro W h))
          exact ⟨m', st', hm', hg', hstop hgo, h⟩
        · have hgo : st'.goes way sa = st'.X.inner (st'.X.s.geta sa).1.object way := by simp [St.goes, hfin, hk2]
          repeat (first
    | simp only [d1, ↓ld66, ↓rd66, ↓bs72_1_0, ↓ap72, ↓fl68_0, ↓fa143_0, ↓ld55, ↓rd55, ↓fl68_1, ↓al66, ↓st66, ↓GG, NN, Nat.reduceAdd]
    | refine a_ld1 h ?_
    | refine a_ldN h ?_
    | refine a_rs1 h ?_
    | refine a_rsN h ?_
    | (refine u_draw h ?_; clear h; intro W h)
    | refine a_rd1 h ?_
    | refine a_rdN h ?_
    | (refine u_nr h ?_; clear h; intro b W h)
    | (refine u_bx h ?_; clear h; intro b W h)
    | (refine u_al h ?_; clear h; intro b W h)
    | (refine a_st h ?_; clear h; intro W h))
          refine r_call (kGet (sa := sa) h) ?_
          clear h
          rintro v W ⟨rfl, h⟩
          simp only [Cap.v]
          repeat (first
    | simp only [d1, ↓ld66, ↓rd66, ↓bs72_1_0, ↓ap72, ↓fl68_0, ↓fa143_0, ↓ld55, ↓rd55, ↓fl68_1, ↓al66, ↓st66, ↓GG, NN, Nat.reduceAdd]
    | refine a_ld1 h ?_
    | refine a_ldN h ?_
    | refine a_rs1 h ?_
    | refine a_rsN h ?_
    | (refine u_draw h ?_; clear h; intro W h)
    | refine a_rd1 h ?_
    | refine a_rdN h ?_
    | (refine u_nr h ?_; clear h; intro b W h)
    | (refine u_bx h ?_; clear h; intro b W h)
    | (refine u_al h ?_; clear h; intro b W h)
    | (refine a_st h ?_; clear h; intro W h))
          refine r_call (kInner (node := (st'.X.s.geta sa).1.object) (but := way) (x := wv) (knw _) (by omega) h) ?_
          clear h
          rintro v W ⟨rfl, h⟩
          cases hin : st'.X.inner (st'.X.s.geta sa).1.object way with
          | none =>
            simp only [innerV, slotV]
            repeat (first
    | simp only [↓ld66, ↓rd66, ↓bs72_1_0, ↓ap72, ↓fl68_0, ↓fa143_0, ↓ld55, ↓rd55, ↓fl68_1, ↓al66, ↓st66, ↓GG, NN, Nat.reduceAdd]
    | refine a_ld1 h ?_
    | refine a_ldN h ?_
    | refine a_rs1 h ?_
    | refine a_rsN h ?_
    | (refine u_draw h ?_; clear h; intro W h)
    | refine a_rd1 h ?_
    | refine a_rdN h ?_
    | (refine u_nr h ?_; clear h; intro b W h)
    | (refine u_bx h ?_; clear h; intro b W h)
    | (refine u_al h ?_; clear h; intro b W h)
    | (refine a_st h ?_; clear h; intro W h))
            exact ⟨m', st', hm', hg', hstop (by rw [hgo, hin]), h.subA⟩
          | some s =>
            simp only [innerV, slotV]
            repeat (first
    | simp only [↓ld66, ↓rd66, ↓bs72_1_0, ↓ap72, ↓fl68_0, ↓fa143_0, ↓ld55, ↓rd55, ↓fl68_1, ↓al66, ↓st66, ↓GG, NN, Nat.reduceAdd]
    | refine a_ld1 h ?_
    | refine a_ldN h ?_
    | refine a_rs1 h ?_
    | refine a_rsN h ?_
    | (refine u_draw h ?_; clear h; intro W h)
    | refine a_rd1 h ?_
    | refine a_rdN h ?_
    | (refine u_nr h ?_; clear h; intro b W h)
    | (refine u_bx h ?_; clear h; intro b W h)
    | (refine u_al h ?_; clear h; intro b W h)
    | (refine a_st h ?_; clear h; intro W h))
            have h1 := S.get2 (c1 := takC k c st'.n st'.ts) (c2 := capsC c st'.X) h (by repeat (first | exact Take.head | apply Take.tail)) (by repeat (first | exact Take.head | apply Take.tail))
            clear h
            cases hl' with
            | stop h => rw [h] at hgo; rw [hin] at hgo; cases hgo
            | @go m1 m2 _ st2 _ _ s' _ h2 h3 h4 =>
              rw [hgo, hin] at h2
              cases h2
              refine r_callP (ih m1 (by omega) (sa := s) (of := way) (by repeat (first | exact knw _ | apply Kn.tail)) (by omega) hg' h3 h1) ?_ ?_
              · rintro v W ⟨st3, hr, rfl, h⟩
                cases hr
                refine least_lt (m' := m2) ⟨st2, by omega, h3.good hG hg' _ rfl, h4, h.subA⟩ (by omega)
              · rintro ch W ⟨st3, hr, rfl, h⟩
                cases hr
            | @spent m1 _ st2 _ _ s' h2 h3 =>
              rw [hgo, hin] at h2
              cases h2
              refine r_callP (ih m1 (by omega) (sa := s) (of := way) (by repeat (first | exact knw _ | apply Kn.tail)) (by omega) hg' h3 h1) ?_ ?_
              · rintro v W ⟨st3, hr, rfl, h⟩
                cases hr
              · rintro ch W ⟨st3, hr, rfl, h⟩
                cases hr
                exact ⟨st2, rfl, rfl, h.subA⟩
      · have d1 : ((st'.X.s.geta sa).1.kind == 2) = false := by simp [hk2]
        have hgo : st'.goes way sa = none := by simp [St.goes, hk2]
        repeat (first
    | simp only [d1, ↓ld66, ↓rd66, ↓bs72_1_0, ↓ap72, ↓fl68_0, ↓fa143_0, ↓ld55, ↓rd55, ↓fl68_1, ↓al66, ↓st66, ↓GG, NN, Nat.reduceAdd]
    | refine a_ld1 h ?_
    | refine a_ldN h ?_
    | refine a_rs1 h ?_
    | refine a_rsN h ?_
    | (refine u_draw h ?_; clear h; intro W h)
    | refine a_rd1 h ?_
    | refine a_rdN h ?_
    | (refine u_nr h ?_; clear h; intro b W h)
    | (refine u_bx h ?_; clear h; intro b W h)
    | (refine u_al h ?_; clear h; intro b W h)
    | (refine a_st h ?_; clear h; intro W h))
        exact ⟨m', st', hm', hg', hstop hgo, h⟩
    · clear h
      rintro j _ W ⟨m', st', hm', hg', hr, h⟩
      repeat (first
    | simp only [↓ld66, ↓rd66, ↓bs72_1_0, ↓ap72, ↓fl68_0, ↓fa143_0, ↓ld55, ↓rd55, ↓fl68_1, ↓al66, ↓st66, ↓GG, NN, Nat.reduceAdd]
    | refine a_ld1 h ?_
    | refine a_ldN h ?_
    | refine a_rs1 h ?_
    | refine a_rsN h ?_
    | (refine u_draw h ?_; clear h; intro W h)
    | refine a_rd1 h ?_
    | refine a_rdN h ?_
    | (refine u_nr h ?_; clear h; intro b W h)
    | (refine u_bx h ?_; clear h; intro b W h)
    | (refine u_al h ?_; clear h; intro b W h)
    | (refine a_st h ?_; clear h; intro W h))
      refine r_callP (kStep (sa := sa) (hG.wf _ hg') (hG.n _ hg') (hG.ts _ hg') h) ?_ ?_
      · rintro v W ⟨hz, rfl, h⟩
        refine ⟨st'.step sa, ?_, rfl, h.subA⟩
        rw [hr]
        simp [St.stepO, hz]
      · rintro ch W ⟨hz, rfl, h⟩
        refine ⟨st', ?_, rfl, h.subA⟩
        rw [hr]
        simp [St.stepO, hz]
end
end Go.Proofs.Ytpghhaobcikdhaa
