/- Delete and Revoke as the laws call them; works. -/
import Derived.Test.YtpghhaobcikdhaaC1
namespace Go.Proofs.Ytpghhaobcikdhaa
open Go Go.Hw
set_option linter.unusedSimpArgs false
set_option linter.unusedVariables false
set_option maxRecDepth 100000

def GoodSt (st : St) : Prop := st.X.Ok ∧ 0 ≤ st.n ∧ st.n ≤ 1000 ∧ st.ts.length + st.n ≤ 1000
theorem goodSt : Good GoodSt where
  wf st h := h.1.t
  n st h := ⟨h.2.1, h.2.2.1⟩
  ts st h := by have := h.2; omega
  step st a h hn := by
    obtain ⟨h1, h2, h3, h4⟩ := h
    refine ⟨St.step_ok h1 a, ?_, ?_, ?_⟩
    · rw [St.step_n]; omega
    · rw [St.step_n]; omega
    · rw [St.step_n]
      have : (st.step a).ts.length ≤ st.ts.length + 1 := by
        unfold St.step
        split
        · simp
        · simp
      omega

theorem check_fl {X : Caps} {a : Slot} {n : Int} (ha : X.s.fl a) (h1 : 1 ≤ n) (h2 : n ≤ 1000) : X.check a n = 0 := by
  obtain ⟨c, hc, hk, he⟩ := Store.fl_get ha
  unfold Caps.check
  rw [if_neg (by omega)]
  unfold Caps.source Store.geta
  rw [hc]
  simp [hk]

section
variable {w0 : World} {Γ Γ' : List Chunk} {W : World} {c s t k : Nat} {X : Caps}

theorem lDelete {a : Slot} {n : Int} {r : Out} (hok : X.Ok) (ha : X.s.fl a) (h1 : 1 ≤ n) (h2 : n ≤ 1000) (hr : Run ⟨X, n, []⟩ [a] a r) (h : S w0 (capsC c X :: Γ) W) :
    Calls Try.prog F_revoke_Delete #[.pointer (some ⟨c, 0, none⟩), slotV a, .int .i64 n] W
    (Ret fun v W' => ∃ tv, v = outV r tv ∧ S w0 (capsS tv r.st.ts :: capsC c r.st.X :: Γ) W') := by
  obtain ⟨m, hm, hb⟩ := Run.loop n.toNat 1025 (st := ⟨X, n, []⟩) (by simp only; omega) (by omega) hok (Way.one ha) hr
  have hm' : m ≤ 5000 := by
    have := (hr.keeps2 (J := fun st => 0 ≤ st.n ∧ st.n ≤ 1000) (fun st v _ _ hn hj => by rw [St.step_n]; omega) hok (Way.one ha) ⟨by simp only; omega, h2⟩).1
    cases r with
    | ok st' => simp only [Out.bound, Out.st] at hb this; omega
    | spent st' => simp only [Out.bound, Out.st, List.length_singleton] at hb this; omega
  exact cDelete goodSt (by omega) ⟨hok, by simp only; omega, h2, by simp only [List.length_nil]; omega⟩ hm (check_fl ha h1 h2) h

theorem lRevoke {a : Slot} {n : Nat} {l : List Slot} (hX : X.Made) (ha : X.s.fl a) (hk : X.t.Kin a l) (h1 : 1 ≤ n) (h2 : n ≤ 1000) (h : S w0 (capsC c X :: Γ) W) :
    Calls Try.prog F_revoke_Revoke #[.pointer (some ⟨c, 0, none⟩), slotV a, .int .i64 n] W
    (Ret fun v W' => ∃ tv, v = outV (revO X l n []) tv ∧ S w0 (capsS tv (revO X l n []).st.ts :: capsC c (revO X l n []).st.X :: Γ) W') := by
  obtain ⟨m, hm, hl⟩ := rev_loop n (ts := []) hX ha hk
  exact cRevoke goodSt (m := m) (by omega) ⟨hX.ok, by simp only; omega, by simp only; omega, by simp only [List.length_nil]; omega⟩ hl (check_fl ha (by omega) (by omega)) h

theorem revO_ts {l : List Slot} {n : Nat} : (revO X l n []).st.ts = [] := by
  unfold revO
  split <;> rfl
end

/- the example -/
def wcap : Cap := ⟨6, 9, 3, 0, 0, 0⟩
def wX1 : Caps := (Caps.new.node 0 3).2
def wX2 : Caps := (wX1.plant (0, 0) wcap).2
def wX3 : Caps := (wX2.copy (0, 0) (0, 1) 3).2
def wX4 : Caps := (wX3.copy (0, 1) (0, 2) 1).2
def wX5 : Caps := (wX4.take (0, 2)).2
def wX6 : Caps := (wX5.take (0, 1)).2
def wX7 : St := (St.mk wX6 9 []).step (0, 0)
theorem wX1_made : wX1.Made := Caps.node_made Caps.new_made _ _
theorem wX2_made : wX2.Made := Caps.plant_made wX1_made _ _
theorem wX3_made : wX3.Made := Caps.copy_made wX2_made _ _ _
theorem wX4_made : wX4.Made := Caps.copy_made wX3_made _ _ _
theorem wX4_t0 : wX4.t (0, 0) = some (none, [(0, 1)]) := by kernel_rfl
theorem wX4_t1 : wX4.t (0, 1) = some (some (0, 0), [(0, 2)]) := by kernel_rfl
theorem wX4_t2 : wX4.t (0, 2) = some (some (0, 1), []) := by kernel_rfl
theorem wX4_c0 : wX4.s.cap (0, 0) = wcap := by kernel_rfl
theorem wX4_f : wX4.final (0, 0) = false := by kernel_rfl
theorem wX6_f : wX6.final (0, 0) = true := by kernel_rfl
theorem wX7_ts : wX7.ts = [wcap] := by kernel_rfl
theorem wX7_full : wX7.X.s.full = [] := by kernel_rfl
theorem wX1_e : (Caps.new.s.add 0 3).1 = 0 := by kernel_rfl
theorem wX4_kin : wX4.t.Kin (0, 0) [(0, 1), (0, 2)] := by
  obtain ⟨l, hl⟩ := Tree.kin_of wX4_made.ok.t (0, 0)
  have : KinOf wX4.t (0, 0) [(0, 1), (0, 2)] := by
    unfold KinOf
    rw [wX4_t0]
    exact .cons wX4_t1 (.cons wX4_t2 .nil)
  rw [hl.det this] at hl
  exact hl
theorem wX4_fl : wX4.s.fl (0, 0) := by unfold Store.fl; rw [wX4_c0]; decide

section
variable {w0 : World} {Γ Γ' : List Chunk} {W : World} {c s t k : Nat} {X : Caps}

theorem lWorks (h : S w0 Γ W) : Calls Try.prog F_donjonlaw11_works #[] W (Ret fun v W' => v = .bool true ∧ S w0 Γ W') := by
  refine c_donjonlaw11_works ?_
  unfold h_donjonlaw11_works
  refine r_call (mNew h) ?_
  clear h
  rintro v W ⟨c, rfl, h⟩
  obtain ⟨s, t, h'⟩ := caps_open h
  clear h
  have h := h'
  clear h'
  repeat (first
    | simp only [↓eqeql55_n, ↓eqeql55_s, ↓fa63_0, ↓ld60, ↓rd60, ↓bd68_0_1_2, ↓al68, ↓st68, ↓ld68, ↓rd68, ↓bs69_1_0, ↓fa60_0, ↓ld58, ↓rd58, ↓len72, ↓GG, NN, Nat.reduceAdd]
    | refine a_ld1 h ?_
    | refine a_ldN h ?_
    | refine a_rs1 h ?_
    | refine a_rsN h ?_
    | (refine u_draw h ?_; clear h; intro W h)
    | refine a_rd1 h ?_
    | refine a_rdN h ?_
    | (refine u_nr h ?_; clear h; intro b W h)
    | (refine u_bx h ?_; clear h; intro b W h)
    | (refine u_al h ?_; clear h; intro b W h)
    | (refine a_st h ?_; clear h; intro W h))
  refine r_call (mNode (id := 0) (r := 3) (h.take (by repeat (first | exact Take.head | apply Take.tail)))) ?_
  clear h
  rintro v W ⟨rfl, h⟩
  rw [wX1_e]
  have h1 := caps_shut (X := wX1) h (by repeat (first | exact Take.head | apply Take.tail)) (by repeat (first | exact Take.head | apply Take.tail)) (by repeat (first | exact Take.head | apply Take.tail))
  clear h
  have h := h1
  clear h1
  repeat (first
    | simp only [bne_self_eq_false, Int.reduceBNe, Int.reduceBEq, ↓eqeql55_n, ↓eqeql55_s, ↓fa63_0, ↓ld60, ↓rd60, ↓bd68_0_1_2, ↓al68, ↓st68, ↓ld68, ↓rd68, ↓bs69_1_0, ↓fa60_0, ↓ld58, ↓rd58, ↓len72, ↓GG, NN, Nat.reduceAdd]
    | (refine r_call (lSlot h) ?_; clear h; rintro v W ⟨rfl, h⟩; simp only [slotV])
    | refine a_ld1 h ?_
    | refine a_ldN h ?_
    | refine a_rs1 h ?_
    | refine a_rsN h ?_
    | (refine u_draw h ?_; clear h; intro W h)
    | refine a_rd1 h ?_
    | refine a_rdN h ?_
    | (refine u_nr h ?_; clear h; intro b W h)
    | (refine u_bx h ?_; clear h; intro b W h)
    | (refine u_al h ?_; clear h; intro b W h)
    | (refine a_st h ?_; clear h; intro W h))
  refine r_call (mPlant (sa := (0, 0)) (x := wcap) wX1_made.ok.t.toCl (h.take (c := capsC c wX1) (by repeat (first | exact Take.head | apply Take.tail)))) ?_
  clear h
  rintro v W ⟨rfl, h⟩
  repeat (first
    | simp only [bne_self_eq_false, Int.reduceBNe, Int.reduceBEq, ↓eqeql55_n, ↓eqeql55_s, ↓fa63_0, ↓ld60, ↓rd60, ↓bd68_0_1_2, ↓al68, ↓st68, ↓ld68, ↓rd68, ↓bs69_1_0, ↓fa60_0, ↓ld58, ↓rd58, ↓len72, ↓GG, NN, Nat.reduceAdd]
    | (refine r_call (lSlot h) ?_; clear h; rintro v W ⟨rfl, h⟩; simp only [slotV])
    | refine a_ld1 h ?_
    | refine a_ldN h ?_
    | refine a_rs1 h ?_
    | refine a_rsN h ?_
    | (refine u_draw h ?_; clear h; intro W h)
    | refine a_rd1 h ?_
    | refine a_rdN h ?_
    | (refine u_nr h ?_; clear h; intro b W h)
    | (refine u_bx h ?_; clear h; intro b W h)
    | (refine u_al h ?_; clear h; intro b W h)
    | (refine a_st h ?_; clear h; intro W h))
  refine r_call (mCopy (sa := (0, 0)) (sb := (0, 1)) (r := 3) wX2_made.ok.t.toCl (h.take (c := capsC c wX2) (by repeat (first | exact Take.head | apply Take.tail)))) ?_
  clear h
  rintro v W ⟨rfl, h⟩
  repeat (first
    | simp only [bne_self_eq_false, Int.reduceBNe, Int.reduceBEq, ↓eqeql55_n, ↓eqeql55_s, ↓fa63_0, ↓ld60, ↓rd60, ↓bd68_0_1_2, ↓al68, ↓st68, ↓ld68, ↓rd68, ↓bs69_1_0, ↓fa60_0, ↓ld58, ↓rd58, ↓len72, ↓GG, NN, Nat.reduceAdd]
    | (refine r_call (lSlot h) ?_; clear h; rintro v W ⟨rfl, h⟩; simp only [slotV])
    | refine a_ld1 h ?_
    | refine a_ldN h ?_
    | refine a_rs1 h ?_
    | refine a_rsN h ?_
    | (refine u_draw h ?_; clear h; intro W h)
    | refine a_rd1 h ?_
    | refine a_rdN h ?_
    | (refine u_nr h ?_; clear h; intro b W h)
    | (refine u_bx h ?_; clear h; intro b W h)
    | (refine u_al h ?_; clear h; intro b W h)
    | (refine a_st h ?_; clear h; intro W h))
  refine r_call (mCopy (sa := (0, 1)) (sb := (0, 2)) (r := 1) wX3_made.ok.t.toCl (h.take (c := capsC c wX3) (by repeat (first | exact Take.head | apply Take.tail)))) ?_
  clear h
  rintro v W ⟨rfl, h⟩
  repeat (first
    | simp only [bne_self_eq_false, Int.reduceBNe, Int.reduceBEq, ↓eqeql55_n, ↓eqeql55_s, ↓fa63_0, ↓ld60, ↓rd60, ↓bd68_0_1_2, ↓al68, ↓st68, ↓ld68, ↓rd68, ↓bs69_1_0, ↓fa60_0, ↓ld58, ↓rd58, ↓len72, ↓GG, NN, Nat.reduceAdd]
    | (refine r_call (lSlot h) ?_; clear h; rintro v W ⟨rfl, h⟩; simp only [slotV])
    | refine a_ld1 h ?_
    | refine a_ldN h ?_
    | refine a_rs1 h ?_
    | refine a_rsN h ?_
    | (refine u_draw h ?_; clear h; intro W h)
    | refine a_rd1 h ?_
    | refine a_rdN h ?_
    | (refine u_nr h ?_; clear h; intro b W h)
    | (refine u_bx h ?_; clear h; intro b W h)
    | (refine u_al h ?_; clear h; intro b W h)
    | (refine a_st h ?_; clear h; intro W h))
  refine r_call (mFinal (sa := (0, 0)) (h.take (c := capsC c wX4) (by repeat (first | exact Take.head | apply Take.tail)))) ?_
  clear h
  rintro v W ⟨rfl, h⟩
  rw [wX4_f]
  repeat (first
    | simp only [bne_self_eq_false, Int.reduceBNe, Int.reduceBEq, ↓eqeql55_n, ↓eqeql55_s, ↓fa63_0, ↓ld60, ↓rd60, ↓bd68_0_1_2, ↓al68, ↓st68, ↓ld68, ↓rd68, ↓bs69_1_0, ↓fa60_0, ↓ld58, ↓rd58, ↓len72, ↓GG, NN, Nat.reduceAdd]
    | (refine r_call (lSlot h) ?_; clear h; rintro v W ⟨rfl, h⟩; simp only [slotV])
    | refine a_ld1 h ?_
    | refine a_ldN h ?_
    | refine a_rs1 h ?_
    | refine a_rsN h ?_
    | (refine u_draw h ?_; clear h; intro W h)
    | refine a_rd1 h ?_
    | refine a_rdN h ?_
    | (refine u_nr h ?_; clear h; intro b W h)
    | (refine u_bx h ?_; clear h; intro b W h)
    | (refine u_al h ?_; clear h; intro b W h)
    | (refine a_st h ?_; clear h; intro W h))
  refine r_call (lRevoke (a := (0, 0)) (n := 1) wX4_made wX4_fl wX4_kin (by omega) (by omega) (h.take (c := capsC c wX4) (by repeat (first | exact Take.head | apply Take.tail)))) ?_
  clear h
  rintro v W ⟨tv, rfl, h⟩
  have e5 : revO wX4 [(0, 1), (0, 2)] 1 [] = .spent ⟨wX5, 0, []⟩ := rfl
  rw [e5] at h ⊢
  simp only [Out.st, outV] at h ⊢
  repeat (first
    | simp only [bne_self_eq_false, Int.reduceBNe, Int.reduceBEq, ↓eqeql55_n, ↓eqeql55_s, ↓fa63_0, ↓ld60, ↓rd60, ↓bd68_0_1_2, ↓al68, ↓st68, ↓ld68, ↓rd68, ↓bs69_1_0, ↓fa60_0, ↓ld58, ↓rd58, ↓len72, ↓GG, NN, Nat.reduceAdd]
    | (refine r_call (lSlot h) ?_; clear h; rintro v W ⟨rfl, h⟩; simp only [slotV])
    | refine a_ld1 h ?_
    | refine a_ldN h ?_
    | refine a_rs1 h ?_
    | refine a_rsN h ?_
    | (refine u_draw h ?_; clear h; intro W h)
    | refine a_rd1 h ?_
    | refine a_rdN h ?_
    | (refine u_nr h ?_; clear h; intro b W h)
    | (refine u_bx h ?_; clear h; intro b W h)
    | (refine u_al h ?_; clear h; intro b W h)
    | (refine a_st h ?_; clear h; intro W h))
  obtain ⟨m1, m2, m3, m4⟩ := takes_kin wX4_made wX4_fl 1 (l := [(0, 1)]) (l2 := [(0, 2)]) rfl wX4_kin
  refine r_call (lRevoke (X := wX5) (a := (0, 0)) (n := 1) m1 m2 m3 (by omega) (by omega) (h.take (c := capsC c wX5) (by repeat (first | exact Take.head | apply Take.tail)))) ?_
  clear h
  rintro v W ⟨tv2, rfl, h⟩
  have e6 : revO wX5 [(0, 1)] 1 [] = .ok ⟨wX6, 0, []⟩ := rfl
  rw [e6] at h ⊢
  simp only [Out.st, outV] at h ⊢
  repeat (first
    | simp only [bne_self_eq_false, Int.reduceBNe, Int.reduceBEq, ↓eqeql55_n, ↓eqeql55_s, ↓fa63_0, ↓ld60, ↓rd60, ↓bd68_0_1_2, ↓al68, ↓st68, ↓ld68, ↓rd68, ↓bs69_1_0, ↓fa60_0, ↓ld58, ↓rd58, ↓len72, ↓GG, NN, Nat.reduceAdd]
    | (refine r_call (lSlot h) ?_; clear h; rintro v W ⟨rfl, h⟩; simp only [slotV])
    | refine a_ld1 h ?_
    | refine a_ldN h ?_
    | refine a_rs1 h ?_
    | refine a_rsN h ?_
    | (refine u_draw h ?_; clear h; intro W h)
    | refine a_rd1 h ?_
    | refine a_rdN h ?_
    | (refine u_nr h ?_; clear h; intro b W h)
    | (refine u_bx h ?_; clear h; intro b W h)
    | (refine u_al h ?_; clear h; intro b W h)
    | (refine a_st h ?_; clear h; intro W h))
  obtain ⟨n1, n2, n3, n4⟩ := takes_kin m1 m2 1 (l := []) (l2 := [(0, 1)]) rfl m3
  refine r_call (mFinal (sa := (0, 0)) (h.take (c := capsC c wX6) (by repeat (first | exact Take.head | apply Take.tail)))) ?_
  clear h
  rintro v W ⟨rfl, h⟩
  rw [wX6_f]
  repeat (first
    | simp only [bne_self_eq_false, Int.reduceBNe, Int.reduceBEq, ↓eqeql55_n, ↓eqeql55_s, ↓fa63_0, ↓ld60, ↓rd60, ↓bd68_0_1_2, ↓al68, ↓st68, ↓ld68, ↓rd68, ↓bs69_1_0, ↓fa60_0, ↓ld58, ↓rd58, ↓len72, ↓GG, NN, Nat.reduceAdd]
    | (refine r_call (lSlot h) ?_; clear h; rintro v W ⟨rfl, h⟩; simp only [slotV])
    | refine a_ld1 h ?_
    | refine a_ldN h ?_
    | refine a_rs1 h ?_
    | refine a_rsN h ?_
    | (refine u_draw h ?_; clear h; intro W h)
    | refine a_rd1 h ?_
    | refine a_rdN h ?_
    | (refine u_nr h ?_; clear h; intro b W h)
    | (refine u_bx h ?_; clear h; intro b W h)
    | (refine u_al h ?_; clear h; intro b W h)
    | (refine a_st h ?_; clear h; intro W h))
  have hrun : Run ⟨wX6, 9, []⟩ [(0, 0)] (0, 0) (.ok wX7) := .last (by decide) (.stop (by kernel_rfl))
  refine r_call (lDelete (X := wX6) (a := (0, 0)) (n := 9) n1.ok n2 (by omega) (by omega) hrun (h.take (c := capsC c wX6) (by repeat (first | exact Take.head | apply Take.tail)))) ?_
  clear h
  rintro v W ⟨tv3, rfl, h⟩
  simp only [Out.st, outV] at h ⊢
  rw [wX7_ts] at h
  repeat (first
    | simp only [bne_self_eq_false, Int.reduceBNe, Int.reduceBEq, putL, List.length_cons, List.length_nil, List.nil_append, List.append_nil, List.cons_append, ↓eqeql55_n, ↓eqeql55_s, ↓fa63_0, ↓ld60, ↓rd60, ↓bd68_0_1_2, ↓al68, ↓st68, ↓ld68, ↓rd68, ↓bs69_1_0, ↓fa60_0, ↓ld58, ↓rd58, ↓len72, ↓GG, NN, Nat.reduceAdd]
    | (refine r_call (lSlot h) ?_; clear h; rintro v W ⟨rfl, h⟩; simp only [slotV])
    | refine a_ld1 h ?_
    | refine a_ldN h ?_
    | refine a_rs1 h ?_
    | refine a_rsN h ?_
    | (refine u_draw h ?_; clear h; intro W h)
    | refine a_rd1 h ?_
    | refine a_rdN h ?_
    | (refine u_nr h ?_; clear h; intro b W h)
    | (refine u_bx h ?_; clear h; intro b W h)
    | (refine u_al h ?_; clear h; intro b W h)
    | (refine a_st h ?_; clear h; intro W h))
  obtain ⟨cv, h1, knv, _⟩ := slc_fix (h.take (c := capsS tv3 [wcap]) (by repeat (first | exact Take.head | apply Take.tail)))
  clear h
  have h := h1
  clear h1
  refine r_call (lSameCaps (xs := [wcap]) (ys := [wcap]) h (knv _) (.inr ⟨b, 0, _, _, _, 1, rfl, Take.knows (by repeat (first | exact Take.head | apply Take.tail)), Nat.le_of_ble_eq_true rfl, by rfl, by decide⟩) (by decide) (by decide)) ?_
  clear h
  rintro v W ⟨rfl, h⟩
  obtain ⟨s2, t2, h'⟩ := caps_open (h.take (c := capsC c wX7.X) (by repeat (first | exact Take.head | apply Take.tail)))
  clear h
  have h := h'
  clear h'
  repeat (first
    | simp only [bne_self_eq_false, Int.reduceBNe, Int.reduceBEq, ↓eqeql55_n, ↓eqeql55_s, ↓fa63_0, ↓ld60, ↓rd60, ↓bd68_0_1_2, ↓al68, ↓st68, ↓ld68, ↓rd68, ↓bs69_1_0, ↓fa60_0, ↓ld58, ↓rd58, ↓len72, ↓GG, NN, Nat.reduceAdd]
    | refine a_ld1 h ?_
    | refine a_ldN h ?_
    | refine a_rs1 h ?_
    | refine a_rsN h ?_
    | (refine u_draw h ?_; clear h; intro W h)
    | refine a_rd1 h ?_
    | refine a_rdN h ?_
    | (refine u_nr h ?_; clear h; intro b W h)
    | (refine u_bx h ?_; clear h; intro b W h)
    | (refine u_al h ?_; clear h; intro b W h)
    | (refine a_st h ?_; clear h; intro W h))
  refine r_call (Store_Full_spec (h.take (c := storeC s2 wX7.X.s) (by repeat (first | exact Take.head | apply Take.tail)))) ?_
  clear h
  intro v W h
  rw [wX7_full] at h
  obtain ⟨va, vc, rfl⟩ := slc_shape h .head
  repeat (first
    | simp only [bne_self_eq_false, Int.reduceBNe, Int.reduceBEq, List.length_nil, Int.natCast_zero, ↓eqeql55_n, ↓eqeql55_s, ↓fa63_0, ↓ld60, ↓rd60, ↓bd68_0_1_2, ↓al68, ↓st68, ↓ld68, ↓rd68, ↓bs69_1_0, ↓fa60_0, ↓ld58, ↓rd58, ↓len72, ↓GG, NN, Nat.reduceAdd]
    | refine a_ld1 h ?_
    | refine a_ldN h ?_
    | refine a_rs1 h ?_
    | refine a_rsN h ?_
    | (refine u_draw h ?_; clear h; intro W h)
    | refine a_rd1 h ?_
    | refine a_rdN h ?_
    | (refine u_nr h ?_; clear h; intro b W h)
    | (refine u_bx h ?_; clear h; intro b W h)
    | (refine u_al h ?_; clear h; intro b W h)
    | (refine a_st h ?_; clear h; intro W h))
  exact ⟨by rfl, h.subA⟩
end
end Go.Proofs.Ytpghhaobcikdhaa
