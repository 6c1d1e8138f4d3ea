/- RevokeChain. -/
import Derived.Test.YtpghhaobcikdhaaC10
import Derived.Test.YtpghhaobcikdhaaC8
namespace Go.Proofs.Ytpghhaobcikdhaa
open Go Go.Hw
set_option linter.unusedSimpArgs false
set_option linter.unusedVariables false
set_option maxRecDepth 100000

def intC (n : Int) : List Value := [.int .i64 n]

section
variable {w0 : World} {Γ Γ' : List Chunk} {W : World} {c s t k : Nat} {X : Caps}

set_option maxHeartbeats 2000000 in
theorem lRevokeChain {x : Value} {zs : List Int} {a0 a1 : Int} (hx : Rd w0 1 intC x zs) (h : S w0 (init w0 :: Γ) W) :
    Calls Try.prog F_donjonlaw11_RevokeChain #[.int .i64 a0, .int .i64 a1, x] W (Ret fun v W' => v = .bool true ∧ S w0 (init w0 :: Γ) W') := by
  refine c_donjonlaw11_RevokeChain ?_
  unfold h_donjonlaw11_RevokeChain
  refine r_call (lWorks h) ?_
  clear h
  rintro v W ⟨rfl, h⟩
  obtain ⟨n, hn1, hn8, hn⟩ := stepsN a0 (m := 8) (by omega) (by omega)
  obtain ⟨st, hst1, hst4, hst⟩ := stepsN a1 (m := 4) (by omega) (by omega)
  repeat (first
    | simp only [↓cv3_54, ↓cv54_3, ↓fa63_0, ↓ld60, ↓rd60, ↓bd66_0_1, ↓bd68_0_1, ↓len52, ↓ia52, ↓ld3, ↓rd3, ↓al66, ↓st66, ↓ld66, ↓rd66, ↓bd68_0_1_2, ↓bd66_1, ↓ap69, ↓fa60_0, ↓ld58, ↓rd58, ↓len72, ↓len69, ↓ia69, ↓fa68_0, ↓fa68_1, ↓GG, NN, Nat.reduceAdd]
    | rw [b_rem (by decide)]
    | refine a_ld1 h ?_
    | refine a_ldN h ?_
    | refine a_rs1 h ?_
    | refine a_rsN h ?_
    | (refine u_draw h ?_; clear h; intro W h)
    | refine a_rd1 h ?_
    | refine a_rdN h ?_
    | (refine u_nr h ?_; clear h; intro b W h)
    | (refine u_bx h ?_; clear h; intro b W h)
    | (refine u_al h ?_; clear h; intro b W h)
    | (refine a_st h ?_; clear h; intro W h))
  rw [hn, hst]
  refine r_call (mNew h) ?_
  clear h
  rintro v W ⟨c, rfl, h⟩
  obtain ⟨xa, xc, rfl, hrd⟩ := hx
  refine u_loop (fun s' w => ∃ (i : Nat) (X : Caps), i ≤ n + 1 ∧ s' = .int .i64 i ∧ Nd X i ∧ S w0 (capsC c X :: init w0 :: Γ) w) (fun s' _ => n + 1 - (vInt s').toNat) ⟨0, Caps.new, by omega, rfl, Nd.start, h⟩ ?_
  clear h
  rintro j iv W ⟨i, X, hi, hs, hnd, h⟩
  cases hs
  by_cases hlt : i ≤ n
  · have d1 : decide ((i : Int) ≤ (n : Int)) = true := by simp; omega
    obtain ⟨hadd, hnd'⟩ := hnd.add (by omega)
    obtain ⟨s, t, h'⟩ := caps_open h
    clear h
    have h := h'
    clear h'
    repeat (first
    | simp only [d1, ↓cv3_54, ↓cv54_3, ↓fa63_0, ↓ld60, ↓rd60, ↓bd66_0_1, ↓bd68_0_1, ↓len52, ↓ia52, ↓ld3, ↓rd3, ↓al66, ↓st66, ↓ld66, ↓rd66, ↓bd68_0_1_2, ↓bd66_1, ↓ap69, ↓fa60_0, ↓ld58, ↓rd58, ↓len72, ↓len69, ↓ia69, ↓fa68_0, ↓fa68_1, ↓GG, NN, Nat.reduceAdd]
    | refine a_ld1 h ?_
    | refine a_ldN h ?_
    | refine a_rs1 h ?_
    | refine a_rsN h ?_
    | (refine u_draw h ?_; clear h; intro W h)
    | refine a_rd1 h ?_
    | refine a_rdN h ?_
    | (refine u_nr h ?_; clear h; intro b W h)
    | (refine u_bx h ?_; clear h; intro b W h)
    | (refine u_al h ?_; clear h; intro b W h)
    | (refine a_st h ?_; clear h; intro W h))
    refine r_call (mNode (id := i) (r := 2) h.takeA) ?_
    clear h
    rintro v W ⟨rfl, h⟩
    have h1 := (caps_shut (X := (X.node i 2).2) h (by repeat (first | exact Take.head | apply Take.tail)) (by repeat (first | exact Take.head | apply Take.tail)) (by repeat (first | exact Take.head | apply Take.tail)))
    have ha : (X.s.add i 2).1 = 0 := hadd
    rw [ha]
    repeat (first
    | simp only [bne_self_eq_false, Int.reduceBNe, Int.reduceBEq, ↓cv3_54, ↓cv54_3, ↓fa63_0, ↓ld60, ↓rd60, ↓bd66_0_1, ↓bd68_0_1, ↓len52, ↓ia52, ↓ld3, ↓rd3, ↓al66, ↓st66, ↓ld66, ↓rd66, ↓bd68_0_1_2, ↓bd66_1, ↓ap69, ↓fa60_0, ↓ld58, ↓rd58, ↓len72, ↓len69, ↓ia69, ↓fa68_0, ↓fa68_1, ↓GG, NN, Nat.reduceAdd]
    | refine a_ld1 h ?_
    | refine a_ldN h ?_
    | refine a_rs1 h ?_
    | refine a_rsN h ?_
    | (refine u_draw h ?_; clear h; intro W h)
    | refine a_rd1 h ?_
    | refine a_rdN h ?_
    | (refine u_nr h ?_; clear h; intro b W h)
    | (refine u_bx h ?_; clear h; intro b W h)
    | (refine u_al h ?_; clear h; intro b W h)
    | (refine a_st h ?_; clear h; intro W h))
    rw [wrap_succ (by omega)]
    exact ⟨⟨i + 1, _, by omega, rfl, hnd', h1.subA⟩, by simp only [vInt]; omega⟩
  · have d1 : decide ((i : Int) ≤ (n : Int)) = false := by simp; omega
    have : i = n + 1 := by omega
    subst this
    have hch := hnd.ch
    repeat (first
    | simp only [d1, ↓cv3_54, ↓cv54_3, ↓fa63_0, ↓ld60, ↓rd60, ↓bd66_0_1, ↓bd68_0_1, ↓len52, ↓ia52, ↓ld3, ↓rd3, ↓al66, ↓st66, ↓ld66, ↓rd66, ↓bd68_0_1_2, ↓bd66_1, ↓ap69, ↓fa60_0, ↓ld58, ↓rd58, ↓len72, ↓len69, ↓ia69, ↓fa68_0, ↓fa68_1, ↓GG, NN, Nat.reduceAdd]
    | refine a_ld1 h ?_
    | refine a_ldN h ?_
    | refine a_rs1 h ?_
    | refine a_rsN h ?_
    | (refine u_draw h ?_; clear h; intro W h)
    | refine a_rd1 h ?_
    | refine a_rdN h ?_
    | (refine u_nr h ?_; clear h; intro b W h)
    | (refine u_bx h ?_; clear h; intro b W h)
    | (refine u_al h ?_; clear h; intro b W h)
    | (refine a_st h ?_; clear h; intro W h))
    refine u_loop (fun s' w => ∃ (k : Nat) (X : Caps), k ≤ n ∧ s' = .int .i64 ((k + 1 : Nat) : Int) ∧ Ch X n k [] ∧ S w0 (capsC c X :: init w0 :: Γ) w) (fun s' _ => n + 1 - (vInt s').toNat) ⟨0, X, by omega, rfl, hch, h⟩ ?_
    clear h hch hnd
    rintro j iv W ⟨k, X, hk, hs, hch, h⟩
    cases hs
    by_cases hlt : k < n
    · have d1 : decide (((k + 1 : Nat) : Int) ≤ (n : Int)) = true := by simp; omega
      have e1 : IntKind.i64.wrap (((k + 1 : Nat) : Int) - 1) = (k : Int) := by rw [wrap_i64 (by omega)]; omega
      obtain ⟨hp, hch'⟩ := hch.link hlt (by omega)
      repeat (first
    | simp only [d1, e1, ↓cv3_54, ↓cv54_3, ↓fa63_0, ↓ld60, ↓rd60, ↓bd66_0_1, ↓bd68_0_1, ↓len52, ↓ia52, ↓ld3, ↓rd3, ↓al66, ↓st66, ↓ld66, ↓rd66, ↓bd68_0_1_2, ↓bd66_1, ↓ap69, ↓fa60_0, ↓ld58, ↓rd58, ↓len72, ↓len69, ↓ia69, ↓fa68_0, ↓fa68_1, ↓GG, NN, Nat.reduceAdd]
    | refine a_ld1 h ?_
    | refine a_ldN h ?_
    | refine a_rs1 h ?_
    | refine a_rsN h ?_
    | (refine u_draw h ?_; clear h; intro W h)
    | refine a_rd1 h ?_
    | refine a_rdN h ?_
    | (refine u_nr h ?_; clear h; intro b W h)
    | (refine u_bx h ?_; clear h; intro b W h)
    | (refine u_al h ?_; clear h; intro b W h)
    | (refine a_st h ?_; clear h; intro W h))
      refine r_call (mPlant (sa := ((k : Int), 1)) (x := ⟨2, ((k + 1 : Nat) : Int), 0, 0, 0, 0⟩) hch.ok.t.toCl h) ?_
      clear h
      rintro v W ⟨rfl, h⟩
      rw [hp]
      repeat (first
    | simp only [bne_self_eq_false, Int.reduceBNe, Int.reduceBEq, ↓cv3_54, ↓cv54_3, ↓fa63_0, ↓ld60, ↓rd60, ↓bd66_0_1, ↓bd68_0_1, ↓len52, ↓ia52, ↓ld3, ↓rd3, ↓al66, ↓st66, ↓ld66, ↓rd66, ↓bd68_0_1_2, ↓bd66_1, ↓ap69, ↓fa60_0, ↓ld58, ↓rd58, ↓len72, ↓len69, ↓ia69, ↓fa68_0, ↓fa68_1, ↓GG, NN, Nat.reduceAdd]
    | refine a_ld1 h ?_
    | refine a_ldN h ?_
    | refine a_rs1 h ?_
    | refine a_rsN h ?_
    | (refine u_draw h ?_; clear h; intro W h)
    | refine a_rd1 h ?_
    | refine a_rdN h ?_
    | (refine u_nr h ?_; clear h; intro b W h)
    | (refine u_bx h ?_; clear h; intro b W h)
    | (refine u_al h ?_; clear h; intro b W h)
    | (refine a_st h ?_; clear h; intro W h))
      rw [wrap_succ (by omega)]
      exact ⟨⟨k + 1, _, by omega, rfl, hch', h⟩, by simp only [vInt]; omega⟩
    · have d1 : decide (((k + 1 : Nat) : Int) ≤ (n : Int)) = false := by simp; omega
      have : k = n := by omega
      subst this
      repeat (first
    | simp only [d1, ↓cv3_54, ↓cv54_3, ↓fa63_0, ↓ld60, ↓rd60, ↓bd66_0_1, ↓bd68_0_1, ↓len52, ↓ia52, ↓ld3, ↓rd3, ↓al66, ↓st66, ↓ld66, ↓rd66, ↓bd68_0_1_2, ↓bd66_1, ↓ap69, ↓fa60_0, ↓ld58, ↓rd58, ↓len72, ↓len69, ↓ia69, ↓fa68_0, ↓fa68_1, ↓GG, NN, Nat.reduceAdd]
    | refine a_ld1 h ?_
    | refine a_ldN h ?_
    | refine a_rs1 h ?_
    | refine a_rsN h ?_
    | (refine u_draw h ?_; clear h; intro W h)
    | refine a_rd1 h ?_
    | refine a_rdN h ?_
    | (refine u_nr h ?_; clear h; intro b W h)
    | (refine u_bx h ?_; clear h; intro b W h)
    | (refine u_al h ?_; clear h; intro b W h)
    | (refine a_st h ?_; clear h; intro W h))
      refine u_loop (fun s' w => ∃ (i : Nat) (X : Caps) (F : List Slot), i ≤ zs.length ∧ i ≤ 12 ∧ F.length ≤ i ∧ s' = (.int .i64 (F.length : Int), .int .i64 i) ∧ Ch X k k F ∧ FB X F i ∧ S w0 (capsC c X :: init w0 :: Γ) w)
        (fun s' _ => 12 - (vInt s'.2).toNat) ⟨0, X, [], by omega, by omega, by simp, rfl, hch, fun a ha => (by cases ha), h⟩ ?_
      clear h hch
      rintro j iv W ⟨i, X, F, hi, hi12, hF, hs, hch, hfb, h⟩
      cases hs
      by_cases hlt : i < zs.length ∧ i < 12
      · have d1 : decide ((i : Int) < (zs.length : Int)) = true := by simp; omega
        have d2 : decide ((i : Int) < 12) = true := by simp; omega
        repeat (first
    | simp only [d1, d2, ↓cv3_54, ↓cv54_3, ↓fa63_0, ↓ld60, ↓rd60, ↓bd66_0_1, ↓bd68_0_1, ↓len52, ↓ia52, ↓ld3, ↓rd3, ↓al66, ↓st66, ↓ld66, ↓rd66, ↓bd68_0_1_2, ↓bd66_1, ↓ap69, ↓fa60_0, ↓ld58, ↓rd58, ↓len72, ↓len69, ↓ia69, ↓fa68_0, ↓fa68_1, ↓GG, NN, Nat.reduceAdd]
    | refine a_ld1 h ?_
    | refine a_ldN h ?_
    | refine a_rs1 h ?_
    | refine a_rsN h ?_
    | (refine u_draw h ?_; clear h; intro W h)
    | refine a_rd1 h ?_
    | refine a_rdN h ?_
    | (refine u_nr h ?_; clear h; intro b W h)
    | (refine u_bx h ?_; clear h; intro b W h)
    | (refine u_al h ?_; clear h; intro b W h)
    | (refine a_st h ?_; clear h; intro W h))
        obtain ⟨b, off, cur, T, fr, rfl, hbW, hrow, hsz⟩ := S.read h (.tail .head) hrd hlt.1
        have hcell := row_cell (j := 0) hrow (by omega)
        simp only [intC, Nat.add_zero] at hcell
        obtain ⟨q, hq1, hqn, hq⟩ := stepsN zs[i] (m := (k : Int)) (by omega) (by omega)
        obtain ⟨e, he, hee⟩ : ∃ e : Int, (e = 0 ∨ e = 2) ∧ IntKind.i64.wrap (2 * (i : Int).tmod 2) = e := by
          refine ⟨_, ?_, rfl⟩
          have : (i : Int).tmod 2 = ((i % 2 : Nat) : Int) := Int.ofNat_tmod i 2
          rw [this]
          rcases Nat.mod_two_eq_zero_or_one i with h0 | h0 <;> rw [h0]
          · left; rfl
          · right; rfl
        have e2 : IntKind.i64.wrap (20 + (i : Int)) = ((20 + i : Nat) : Int) := by rw [wrap_i64 (by omega)]; omega
        have ei : off + (i : Int).toNat * 1 = off + i * 1 := by omega
        have hin := hch.frameIn hfb (i := i) ⟨hq1, by omega⟩ he hlt.2
        refine u_join (fun sv w => ∃ (X' : Caps) (F' : List Slot), F'.length ≤ i + 1 ∧ sv = .int .i64 (F'.length : Int) ∧ Ch X' k k F' ∧ FB X' F' (i + 1) ∧ S w0 (capsC c X' :: init w0 :: Γ) w) ?_ ?_
        · repeat (first
    | simp only [e2, ei, hq, hee, putL, List.length_cons, List.length_nil, List.nil_append, List.append_nil, List.cons_append, ↓cv3_54, ↓cv54_3, ↓fa63_0, ↓ld60, ↓rd60, ↓bd66_0_1, ↓bd68_0_1, ↓len52, ↓ia52, ↓ld3, ↓rd3, ↓al66, ↓st66, ↓ld66, ↓rd66, ↓bd68_0_1_2, ↓bd66_1, ↓ap69, ↓fa60_0, ↓ld58, ↓rd58, ↓len72, ↓len69, ↓ia69, ↓fa68_0, ↓fa68_1, ↓GG, NN, Nat.reduceAdd]
    | rw [ia52 (by omega)]
    | (refine v_ld1 hbW hcell ?_)
    | rw [b_rem (by decide)]
    | rw [wrap_u64 (n := (k : Int)) (by omega), b_rem (by omega)]
    | refine a_ld1 h ?_
    | refine a_ldN h ?_
    | refine a_rs1 h ?_
    | refine a_rsN h ?_
    | (refine u_draw h ?_; clear h; intro W h)
    | refine a_rd1 h ?_
    | refine a_rdN h ?_
    | (refine u_nr h ?_; clear h; intro b W h)
    | (refine u_bx h ?_; clear h; intro b W h)
    | (refine u_al h ?_; clear h; intro b W h)
    | (refine a_st h ?_; clear h; intro W h))
          refine r_call (mPlant (sa := ((q : Int), e)) (x := ⟨6, ((20 + i : Nat) : Int), 1, 0, 0, 0⟩) hch.ok.t.toCl h.takeA) ?_
          clear h
          rintro v W ⟨rfl, h⟩
          rcases hin with ⟨hp, hch', hfb'⟩ | ⟨hp, hsame⟩
          · rw [hp]
            repeat (first
    | simp only [bne_self_eq_false, Int.reduceBNe, Int.reduceBEq, ↓cv3_54, ↓cv54_3, ↓fa63_0, ↓ld60, ↓rd60, ↓bd66_0_1, ↓bd68_0_1, ↓len52, ↓ia52, ↓ld3, ↓rd3, ↓al66, ↓st66, ↓ld66, ↓rd66, ↓bd68_0_1_2, ↓bd66_1, ↓ap69, ↓fa60_0, ↓ld58, ↓rd58, ↓len72, ↓len69, ↓ia69, ↓fa68_0, ↓fa68_1, ↓GG, NN, Nat.reduceAdd]
    | refine a_ld1 h ?_
    | refine a_ldN h ?_
    | refine a_rs1 h ?_
    | refine a_rsN h ?_
    | (refine u_draw h ?_; clear h; intro W h)
    | refine a_rd1 h ?_
    | refine a_rdN h ?_
    | (refine u_nr h ?_; clear h; intro b W h)
    | (refine u_bx h ?_; clear h; intro b W h)
    | (refine u_al h ?_; clear h; intro b W h)
    | (refine a_st h ?_; clear h; intro W h))
            rw [wrap_succ (k := F.length) (by omega)]
            exact ⟨_, F ++ [((q : Int), e)], by simp; omega, by rw [List.length_append]; rfl, hch', hfb', h.subA⟩
          · have d3 : ((X.plant ((q : Int), e) ⟨6, ((20 + i : Nat) : Int), 1, 0, 0, 0⟩).1 == 0) = false := by rw [beq_eq_false_iff_ne]; exact hp
            rw [hsame] at h
            repeat (first
    | simp only [d3, ↓cv3_54, ↓cv54_3, ↓fa63_0, ↓ld60, ↓rd60, ↓bd66_0_1, ↓bd68_0_1, ↓len52, ↓ia52, ↓ld3, ↓rd3, ↓al66, ↓st66, ↓ld66, ↓rd66, ↓bd68_0_1_2, ↓bd66_1, ↓ap69, ↓fa60_0, ↓ld58, ↓rd58, ↓len72, ↓len69, ↓ia69, ↓fa68_0, ↓fa68_1, ↓GG, NN, Nat.reduceAdd]
    | refine a_ld1 h ?_
    | refine a_ldN h ?_
    | refine a_rs1 h ?_
    | refine a_rsN h ?_
    | (refine u_draw h ?_; clear h; intro W h)
    | refine a_rd1 h ?_
    | refine a_rdN h ?_
    | (refine u_nr h ?_; clear h; intro b W h)
    | (refine u_bx h ?_; clear h; intro b W h)
    | (refine u_al h ?_; clear h; intro b W h)
    | (refine a_st h ?_; clear h; intro W h))
            exact ⟨X, F, by omega, rfl, hch, fun a ha => (by have := hfb a ha; omega), h.subA⟩
        · clear h
          rintro j sv W ⟨X', F', hF', rfl, hch', hfb', h⟩
          repeat (first
    | simp only [↓cv3_54, ↓cv54_3, ↓fa63_0, ↓ld60, ↓rd60, ↓bd66_0_1, ↓bd68_0_1, ↓len52, ↓ia52, ↓ld3, ↓rd3, ↓al66, ↓st66, ↓ld66, ↓rd66, ↓bd68_0_1_2, ↓bd66_1, ↓ap69, ↓fa60_0, ↓ld58, ↓rd58, ↓len72, ↓len69, ↓ia69, ↓fa68_0, ↓fa68_1, ↓GG, NN, Nat.reduceAdd]
    | refine a_ld1 h ?_
    | refine a_ldN h ?_
    | refine a_rs1 h ?_
    | refine a_rsN h ?_
    | (refine u_draw h ?_; clear h; intro W h)
    | refine a_rd1 h ?_
    | refine a_rdN h ?_
    | (refine u_nr h ?_; clear h; intro b W h)
    | (refine u_bx h ?_; clear h; intro b W h)
    | (refine u_al h ?_; clear h; intro b W h)
    | (refine a_st h ?_; clear h; intro W h))
          rw [wrap_succ (by omega)]
          exact ⟨⟨i + 1, X', F', by omega, by omega, hF', rfl, hch', hfb', h⟩, by simp only [vInt]; omega⟩
      · have hF12 : F.length ≤ 12 := by omega
        clear hfb hF
        by_cases h1 : i < zs.length
        case' pos =>
          have d1 : decide ((i : Int) < (zs.length : Int)) = true := by simp; omega
          have d2 : decide ((i : Int) < 12) = false := by simp; omega
          repeat (first
    | simp only [d1, d2, ↓cv3_54, ↓cv54_3, ↓fa63_0, ↓ld60, ↓rd60, ↓bd66_0_1, ↓bd68_0_1, ↓len52, ↓ia52, ↓ld3, ↓rd3, ↓al66, ↓st66, ↓ld66, ↓rd66, ↓bd68_0_1_2, ↓bd66_1, ↓ap69, ↓fa60_0, ↓ld58, ↓rd58, ↓len72, ↓len69, ↓ia69, ↓fa68_0, ↓fa68_1, ↓GG, NN, Nat.reduceAdd]
    | refine a_ld1 h ?_
    | refine a_ldN h ?_
    | refine a_rs1 h ?_
    | refine a_rsN h ?_
    | (refine u_draw h ?_; clear h; intro W h)
    | refine a_rd1 h ?_
    | refine a_rdN h ?_
    | (refine u_nr h ?_; clear h; intro b W h)
    | (refine u_bx h ?_; clear h; intro b W h)
    | (refine u_al h ?_; clear h; intro b W h)
    | (refine a_st h ?_; clear h; intro W h))
        case' neg =>
          have d1 : decide ((i : Int) < (zs.length : Int)) = false := by simp; omega
          repeat (first
    | simp only [d1, ↓cv3_54, ↓cv54_3, ↓fa63_0, ↓ld60, ↓rd60, ↓bd66_0_1, ↓bd68_0_1, ↓len52, ↓ia52, ↓ld3, ↓rd3, ↓al66, ↓st66, ↓ld66, ↓rd66, ↓bd68_0_1_2, ↓bd66_1, ↓ap69, ↓fa60_0, ↓ld58, ↓rd58, ↓len72, ↓len69, ↓ia69, ↓fa68_0, ↓fa68_1, ↓GG, NN, Nat.reduceAdd]
    | refine a_ld1 h ?_
    | refine a_ldN h ?_
    | refine a_rs1 h ?_
    | refine a_rsN h ?_
    | (refine u_draw h ?_; clear h; intro W h)
    | refine a_rd1 h ?_
    | refine a_rdN h ?_
    | (refine u_nr h ?_; clear h; intro b W h)
    | (refine u_bx h ?_; clear h; intro b W h)
    | (refine u_al h ?_; clear h; intro b W h)
    | (refine a_st h ?_; clear h; intro W h))
        all_goals
          clear h1
          refine u_join (fun sv w => ∃ (X' : Caps) (ts : List Cap), Ch X' 0 0 [] ∧ Tl k F.length 0 0 ts ∧ S w0 (capsS sv ts :: capsC c X' :: init w0 :: Γ) w) ?_ ?_
          · refine u_loop (fun s' w => ∃ (i : Nat) (X' : Caps) (ts : List Cap) (tv : Value) (q : Nat) (G : List Slot), s' = (tv, .int .i64 i) ∧ Ch X' (q + 1) (q + 1) G ∧ Tl k F.length (q + 1) G.length ts ∧ X'.s.full.length + i ≤ 20 ∧
              S w0 (capsS tv ts :: capsC c X' :: init w0 :: Γ) w) (fun s' _ => 60 - (vInt s'.2).toNat) ?_ ?_
            · have hf := hch.full_le
              obtain ⟨k', rfl⟩ : ∃ k', k = k' + 1 := ⟨k - 1, by omega⟩
              exact ⟨0, X, [], _, k', F, rfl, hch, ⟨by simp, by omega, by simp⟩, by omega, S.nilSlice T_api_Cap 6 h⟩
            · clear h
              rintro j2 iv2 W ⟨i2, X', ts, tv, q, G, hs2, hch', htl, hlen, h⟩
              cases hs2
              have hfl : X'.s.fl (0, 1) := (hch'.fl _).2 (.inl ⟨0, by omega, rfl⟩)
              have hpos := List.length_pos_of_mem ((Store.full_iff hch'.ok.s).2 hfl)
              have d4 : decide ((i2 : Int) < 60) = true := by simp; omega
              obtain ⟨r, hr⟩ := Run.exists st (st := ⟨X', st, []⟩) hch'.ok (Way.one hfl) rfl
              have htsl := hr.ts_len hch'.ok (Way.one hfl) (by simp only; omega)
              have htlen := htl.len
              repeat (first
    | simp only [d4, ↓cv3_54, ↓cv54_3, ↓fa63_0, ↓ld60, ↓rd60, ↓bd66_0_1, ↓bd68_0_1, ↓len52, ↓ia52, ↓ld3, ↓rd3, ↓al66, ↓st66, ↓ld66, ↓rd66, ↓bd68_0_1_2, ↓bd66_1, ↓ap69, ↓fa60_0, ↓ld58, ↓rd58, ↓len72, ↓len69, ↓ia69, ↓fa68_0, ↓fa68_1, ↓GG, NN, Nat.reduceAdd]
    | refine a_ld1 h ?_
    | refine a_ldN h ?_
    | refine a_rs1 h ?_
    | refine a_rsN h ?_
    | (refine u_draw h ?_; clear h; intro W h)
    | refine a_rd1 h ?_
    | refine a_rdN h ?_
    | (refine u_nr h ?_; clear h; intro b W h)
    | (refine u_bx h ?_; clear h; intro b W h)
    | (refine u_al h ?_; clear h; intro b W h)
    | (refine a_st h ?_; clear h; intro W h))
              refine r_call (lDelete (X := X') (a := (0, 1)) (n := st) hch'.ok hfl (by omega) (by omega) hr (h.takeA (c := capsC c X'))) ?_
              clear h
              rintro v W ⟨tv2, rfl, h⟩
              obtain ⟨cu, h1, knu, _⟩ := slc_fix h
              clear h
              have h := h1
              clear h1
              cases r with
              | ok s2 =>
                have hsh := hr.shift_ok (k := 0) (p := ts) (by omega) (by simp only; omega)
                have es : (St.mk X' st []).shift 0 ts = ⟨X', st, ts⟩ := by unfold St.shift; simp
                rw [es] at hsh
                have hout := run_chain hsh (n := k) (m := F.length) (k := q) (F := G) rfl rfl hch' htl
                simp only [Out.st, outV, List.length_nil] at h knu htsl ⊢
                repeat (first
    | simp only [↓cv3_54, ↓cv54_3, ↓fa63_0, ↓ld60, ↓rd60, ↓bd66_0_1, ↓bd68_0_1, ↓len52, ↓ia52, ↓ld3, ↓rd3, ↓al66, ↓st66, ↓ld66, ↓rd66, ↓bd68_0_1_2, ↓bd66_1, ↓ap69, ↓fa60_0, ↓ld58, ↓rd58, ↓len72, ↓len69, ↓ia69, ↓fa68_0, ↓fa68_1, ↓GG, NN, Nat.reduceAdd]
    | refine a_ld1 h ?_
    | refine a_ldN h ?_
    | refine a_rs1 h ?_
    | refine a_rsN h ?_
    | (refine u_draw h ?_; clear h; intro W h)
    | refine a_rd1 h ?_
    | refine a_rdN h ?_
    | (refine u_nr h ?_; clear h; intro b W h)
    | (refine u_bx h ?_; clear h; intro b W h)
    | (refine u_al h ?_; clear h; intro b W h)
    | (refine a_st h ?_; clear h; intro W h))
                refine u_apK h (e := T_api_Cap) (xs := ts.flatMap Cap.cells) (n := ts.length) (m := s2.ts.length) (by repeat (first | exact Take.head | apply Take.tail)) (knu _) (capsCells_one s2.ts) (by omega) (by decide) ?_
                clear h
                intro v W h
                have h1 := h.takeA (c := slc T_api_Cap 6 v (ts.length + s2.ts.length) (ts.flatMap Cap.cells ++ s2.ts.flatMap Cap.cells))
                rw [capsS_append] at h1
                repeat (first
    | simp only [↓cv3_54, ↓cv54_3, ↓fa63_0, ↓ld60, ↓rd60, ↓bd66_0_1, ↓bd68_0_1, ↓len52, ↓ia52, ↓ld3, ↓rd3, ↓al66, ↓st66, ↓ld66, ↓rd66, ↓bd68_0_1_2, ↓bd66_1, ↓ap69, ↓fa60_0, ↓ld58, ↓rd58, ↓len72, ↓len69, ↓ia69, ↓fa68_0, ↓fa68_1, ↓GG, NN, Nat.reduceAdd]
    | refine a_ld1 h ?_
    | refine a_ldN h ?_
    | refine a_rs1 h ?_
    | refine a_rsN h ?_
    | (refine u_draw h ?_; clear h; intro W h)
    | refine a_rd1 h ?_
    | refine a_rdN h ?_
    | (refine u_nr h ?_; clear h; intro b W h)
    | (refine u_bx h ?_; clear h; intro b W h)
    | (refine u_al h ?_; clear h; intro b W h)
    | (refine a_st h ?_; clear h; intro W h))
                exact ⟨s2.X, ts ++ s2.ts, hout.1, hout.2, (S.get3 (c1 := capsS v (ts ++ s2.ts)) (c2 := capsC c s2.X) (c3 := init w0) h1 (by repeat (first | exact Take.head | apply Take.tail)) (by repeat (first | exact Take.head | apply Take.tail)) (by repeat (first | exact Take.head | apply Take.tail))).subA⟩
              | spent s2 =>
                obtain ⟨e1, e2⟩ := hr.enough hch'.ok (Way.one hfl)
                have hsp := hr.spent_n
                have hsh := hr.shift_spent (k := 0) (p := ts) (r := .spent ⟨s2.X, 0, ts ++ s2.ts⟩) (by omega) (by simp only; omega) (by
                  have : s2.shift 0 ts = ⟨s2.X, 0, ts ++ s2.ts⟩ := by unfold St.shift; rw [hsp]; simp
                  rw [this]
                  exact .spent rfl)
                have es : (St.mk X' st []).shift 0 ts = ⟨X', st, ts⟩ := by unfold St.shift; simp
                rw [es] at hsh
                obtain ⟨q', G', hch2, htl2⟩ := run_chain hsh (n := k) (m := F.length) (k := q) (F := G) rfl rfl hch' htl
                simp only [Out.st, outV, List.length_nil] at h knu htsl e2 hch2 htl2 ⊢
                repeat (first
    | simp only [↓cv3_54, ↓cv54_3, ↓fa63_0, ↓ld60, ↓rd60, ↓bd66_0_1, ↓bd68_0_1, ↓len52, ↓ia52, ↓ld3, ↓rd3, ↓al66, ↓st66, ↓ld66, ↓rd66, ↓bd68_0_1_2, ↓bd66_1, ↓ap69, ↓fa60_0, ↓ld58, ↓rd58, ↓len72, ↓len69, ↓ia69, ↓fa68_0, ↓fa68_1, ↓GG, NN, Nat.reduceAdd]
    | refine a_ld1 h ?_
    | refine a_ldN h ?_
    | refine a_rs1 h ?_
    | refine a_rsN h ?_
    | (refine u_draw h ?_; clear h; intro W h)
    | refine a_rd1 h ?_
    | refine a_rdN h ?_
    | (refine u_nr h ?_; clear h; intro b W h)
    | (refine u_bx h ?_; clear h; intro b W h)
    | (refine u_al h ?_; clear h; intro b W h)
    | (refine a_st h ?_; clear h; intro W h))
                refine u_apK h (e := T_api_Cap) (xs := ts.flatMap Cap.cells) (n := ts.length) (m := s2.ts.length) (by repeat (first | exact Take.head | apply Take.tail)) (knu _) (capsCells_one s2.ts) (by omega) (by decide) ?_
                clear h
                intro v W h
                have h1 := h.takeA (c := slc T_api_Cap 6 v (ts.length + s2.ts.length) (ts.flatMap Cap.cells ++ s2.ts.flatMap Cap.cells))
                rw [capsS_append] at h1
                repeat (first
    | simp only [bne_self_eq_false, Int.reduceBNe, Int.reduceBEq, ↓cv3_54, ↓cv54_3, ↓fa63_0, ↓ld60, ↓rd60, ↓bd66_0_1, ↓bd68_0_1, ↓len52, ↓ia52, ↓ld3, ↓rd3, ↓al66, ↓st66, ↓ld66, ↓rd66, ↓bd68_0_1_2, ↓bd66_1, ↓ap69, ↓fa60_0, ↓ld58, ↓rd58, ↓len72, ↓len69, ↓ia69, ↓fa68_0, ↓fa68_1, ↓GG, NN, Nat.reduceAdd]
    | refine a_ld1 h ?_
    | refine a_ldN h ?_
    | refine a_rs1 h ?_
    | refine a_rsN h ?_
    | (refine u_draw h ?_; clear h; intro W h)
    | refine a_rd1 h ?_
    | refine a_rdN h ?_
    | (refine u_nr h ?_; clear h; intro b W h)
    | (refine u_bx h ?_; clear h; intro b W h)
    | (refine u_al h ?_; clear h; intro b W h)
    | (refine a_st h ?_; clear h; intro W h))
                rw [wrap_succ (by omega)]
                exact ⟨⟨i2 + 1, s2.X, ts ++ s2.ts, v, q', G', rfl, hch2, htl2, by omega, (S.get3 (c1 := capsS v (ts ++ s2.ts)) (c2 := capsC c s2.X) (c3 := init w0) h1 (by repeat (first | exact Take.head | apply Take.tail)) (by repeat (first | exact Take.head | apply Take.tail)) (by repeat (first | exact Take.head | apply Take.tail))).subA⟩, by simp only [vInt]; omega⟩
          · clear h
            rintro j2 tv W ⟨X', ts, hch', htl, h⟩
            have hfull := hch'.full_nil
            have hall := htl.all
            have htlen := htl.len
            obtain ⟨cu, h1, knu, _⟩ := slc_fix h
            clear h
            obtain ⟨s, t, h⟩ := caps_open (h1.takeA (c := capsC c X'))
            clear h1
            obtain ⟨ta, tc, rfl⟩ := (knu []).shape
            repeat (first
    | simp only [↓cv3_54, ↓cv54_3, ↓fa63_0, ↓ld60, ↓rd60, ↓bd66_0_1, ↓bd68_0_1, ↓len52, ↓ia52, ↓ld3, ↓rd3, ↓al66, ↓st66, ↓ld66, ↓rd66, ↓bd68_0_1_2, ↓bd66_1, ↓ap69, ↓fa60_0, ↓ld58, ↓rd58, ↓len72, ↓len69, ↓ia69, ↓fa68_0, ↓fa68_1, ↓GG, NN, Nat.reduceAdd]
    | refine a_ld1 h ?_
    | refine a_ldN h ?_
    | refine a_rs1 h ?_
    | refine a_rsN h ?_
    | (refine u_draw h ?_; clear h; intro W h)
    | refine a_rd1 h ?_
    | refine a_rdN h ?_
    | (refine u_nr h ?_; clear h; intro b W h)
    | (refine u_bx h ?_; clear h; intro b W h)
    | (refine u_al h ?_; clear h; intro b W h)
    | (refine a_st h ?_; clear h; intro W h))
            refine r_call (Store_Full_spec (h.takeA (c := storeC s X'.s))) ?_
            clear h
            intro v W h
            rw [hfull] at h
            obtain ⟨va, vc, rfl⟩ := slc_shape h .head
            have e3 : IntKind.i64.wrap ((k : Int) + (F.length : Int)) = (ts.length : Int) := by rw [wrap_i64 (by omega)]; omega
            repeat (first
    | simp only [bne_self_eq_false, Int.reduceBNe, Int.reduceBEq, List.length_nil, Int.natCast_zero, e3, ↓cv3_54, ↓cv54_3, ↓fa63_0, ↓ld60, ↓rd60, ↓bd66_0_1, ↓bd68_0_1, ↓len52, ↓ia52, ↓ld3, ↓rd3, ↓al66, ↓st66, ↓ld66, ↓rd66, ↓bd68_0_1_2, ↓bd66_1, ↓ap69, ↓fa60_0, ↓ld58, ↓rd58, ↓len72, ↓len69, ↓ia69, ↓fa68_0, ↓fa68_1, ↓GG, NN, Nat.reduceAdd]
    | refine a_ld1 h ?_
    | refine a_ldN h ?_
    | refine a_rs1 h ?_
    | refine a_rsN h ?_
    | (refine u_draw h ?_; clear h; intro W h)
    | refine a_rd1 h ?_
    | refine a_rdN h ?_
    | (refine u_nr h ?_; clear h; intro b W h)
    | (refine u_bx h ?_; clear h; intro b W h)
    | (refine u_al h ?_; clear h; intro b W h)
    | (refine a_st h ?_; clear h; intro W h))
            rw [wrap_succ (by omega)]
            obtain ⟨Δ, hΔ, h'⟩ := S.frame (c := capsC c X') (caps_shut (s := s) (t := t) (X := X') h (by repeat (first | exact Take.head | apply Take.tail)) (by repeat (first | exact Take.head | apply Take.tail)) (by repeat (first | exact Take.head | apply Take.tail))) .head
            clear h
            have h := h'
            clear h'
            have knt : Kn Δ (.slice ta ts.length tc) 6 (ts.flatMap Cap.cells) ts.length := by rw [← hΔ]; repeat (first | exact knu _ | apply Kn.tail)
            have hcnt : ∀ q, ((ts.take q).filter isNode).length ≤ k := fun q => by
              rw [← hall]
              exact ((List.take_sublist q ts).filter isNode).length_le
            have hk1 : (k : Int) + 1 = ((k + 1 : Nat) : Int) := by omega
            refine u_loop (fun s' w => ∃ q : Nat, q ≤ ts.length ∧ s' = (.int .i64 ((k + 1 - ((ts.take q).filter isNode).length : Nat) : Int), .int .i64 q) ∧ S w0 (capsC c X' :: Δ) w) (fun s' _ => ts.length - (vInt s'.2).toNat) ⟨0, by omega, rfl, h⟩ ?_
            clear h
            rintro j3 iv3 W ⟨q, hq, hs3, h⟩
            cases hs3
            by_cases hql : q < ts.length
            · have d4 : decide ((q : Int) < (ts.length : Int)) = true := by simp; omega
              repeat (first
    | simp only [d4, ↓cv3_54, ↓cv54_3, ↓fa63_0, ↓ld60, ↓rd60, ↓bd66_0_1, ↓bd68_0_1, ↓len52, ↓ia52, ↓ld3, ↓rd3, ↓al66, ↓st66, ↓ld66, ↓rd66, ↓bd68_0_1_2, ↓bd66_1, ↓ap69, ↓fa60_0, ↓ld58, ↓rd58, ↓len72, ↓len69, ↓ia69, ↓fa68_0, ↓fa68_1, ↓GG, NN, Nat.reduceAdd]
    | refine a_ld1 h ?_
    | refine a_ldN h ?_
    | refine a_rs1 h ?_
    | refine a_rsN h ?_
    | (refine u_draw h ?_; clear h; intro W h)
    | refine a_rd1 h ?_
    | refine a_rdN h ?_
    | (refine u_nr h ?_; clear h; intro b W h)
    | (refine u_bx h ?_; clear h; intro b W h)
    | (refine u_al h ?_; clear h; intro b W h)
    | (refine a_st h ?_; clear h; intro W h))
              refine u_join (fun sv w => sv = .int .i64 ((k + 1 - ((ts.take (q + 1)).filter isNode).length : Nat) : Int) ∧ S w0 (capsC c X' :: Δ) w) ?_ ?_
              · obtain ⟨s, t, h'⟩ := caps_open h
                clear h
                have h := h'
                clear h'
                have eq : (q : Int).toNat = q := by omega
                obtain ⟨tg, toff, tcap, tcur, tT, tfr, htv, htg, htr, htsz⟩ := Kn.read capCells_len h knt.tail.tail.tail hql
                injection htv with u1 u2 u3
                subst u1 u3
                have ht0 := row_cell (j := 0) htr (by omega)
                simp only [Cap.cells, Nat.add_zero] at ht0
                cases hnode : isNode ts[q] with
                | false =>
                  have d5 : (ts[q].kind == 2) = false := hnode
                  have hsk := Tl.skip hql hnode
                  repeat (first
    | simp only [d5, eq, ↓cv3_54, ↓cv54_3, ↓fa63_0, ↓ld60, ↓rd60, ↓bd66_0_1, ↓bd68_0_1, ↓len52, ↓ia52, ↓ld3, ↓rd3, ↓al66, ↓st66, ↓ld66, ↓rd66, ↓bd68_0_1_2, ↓bd66_1, ↓ap69, ↓fa60_0, ↓ld58, ↓rd58, ↓len72, ↓len69, ↓ia69, ↓fa68_0, ↓fa68_1, ↓GG, NN, Nat.reduceAdd]
    | rw [ia69 (by omega)]
    | (refine v_ld1 htg ht0 ?_)
    | refine a_ld1 h ?_
    | refine a_ldN h ?_
    | refine a_rs1 h ?_
    | refine a_rsN h ?_
    | (refine u_draw h ?_; clear h; intro W h)
    | refine a_rd1 h ?_
    | refine a_rdN h ?_
    | (refine u_nr h ?_; clear h; intro b W h)
    | (refine u_bx h ?_; clear h; intro b W h)
    | (refine u_al h ?_; clear h; intro b W h)
    | (refine a_st h ?_; clear h; intro W h))
                  rw [hsk]
                  exact ⟨rfl, (caps_shut (s := s) (t := t) (X := X') h (by repeat (first | exact Take.head | apply Take.tail)) (by repeat (first | exact Take.head | apply Take.tail)) (by repeat (first | exact Take.head | apply Take.tail))).subA⟩
                | true =>
                  have d5 : (ts[q].kind == 2) = true := hnode
                  obtain ⟨n1, n2, n3⟩ := htl.next hql hnode
                  have e4 : IntKind.i64.wrap (((k + 1 - ((ts.take q).filter isNode).length : Nat) : Int) - 1) = ((k - ((ts.take q).filter isNode).length : Nat) : Int) := by rw [wrap_i64 (by omega)]; omega
                  repeat (first
    | simp only [d5, eq, ↓cv3_54, ↓cv54_3, ↓fa63_0, ↓ld60, ↓rd60, ↓bd66_0_1, ↓bd68_0_1, ↓len52, ↓ia52, ↓ld3, ↓rd3, ↓al66, ↓st66, ↓ld66, ↓rd66, ↓bd68_0_1_2, ↓bd66_1, ↓ap69, ↓fa60_0, ↓ld58, ↓rd58, ↓len72, ↓len69, ↓ia69, ↓fa68_0, ↓fa68_1, ↓GG, NN, Nat.reduceAdd]
    | rw [ia69 (by omega)]
    | (refine v_ld1 htg ht0 ?_)
    | refine a_ld1 h ?_
    | refine a_ldN h ?_
    | refine a_rs1 h ?_
    | refine a_rsN h ?_
    | (refine u_draw h ?_; clear h; intro W h)
    | refine a_rd1 h ?_
    | refine a_rdN h ?_
    | (refine u_nr h ?_; clear h; intro b W h)
    | (refine u_bx h ?_; clear h; intro b W h)
    | (refine u_al h ?_; clear h; intro b W h)
    | (refine a_st h ?_; clear h; intro W h))
                  obtain ⟨tg, toff, tcap, tcur, tT, tfr, htv, htg, htr, htsz⟩ := Kn.read capCells_len h knt.tail.tail.tail hql
                  injection htv with u1 u2 u3
                  injection u1 with u1
                  injection u1 with u1 u4
                  subst u1 u3 u4
                  have ht1 := row_cell (j := 1) htr (by omega)
                  simp only [Cap.cells] at ht1
                  rw [n2] at ht1
                  have d6 : (((k - ((ts.take q).filter isNode).length : Nat) : Int) != ((k - ((ts.take q).filter isNode).length : Nat) : Int)) = false := by simp
                  repeat (first
    | simp only [d5, d6, eq, e4, ↓cv3_54, ↓cv54_3, ↓fa63_0, ↓ld60, ↓rd60, ↓bd66_0_1, ↓bd68_0_1, ↓len52, ↓ia52, ↓ld3, ↓rd3, ↓al66, ↓st66, ↓ld66, ↓rd66, ↓bd68_0_1_2, ↓bd66_1, ↓ap69, ↓fa60_0, ↓ld58, ↓rd58, ↓len72, ↓len69, ↓ia69, ↓fa68_0, ↓fa68_1, ↓GG, NN, Nat.reduceAdd]
    | rw [ia69 (by omega)]
    | (refine v_ld1 htg ht1 ?_)
    | refine a_ld1 h ?_
    | refine a_ldN h ?_
    | refine a_rs1 h ?_
    | refine a_rsN h ?_
    | (refine u_draw h ?_; clear h; intro W h)
    | refine a_rd1 h ?_
    | refine a_rdN h ?_
    | (refine u_nr h ?_; clear h; intro b W h)
    | (refine u_bx h ?_; clear h; intro b W h)
    | (refine u_al h ?_; clear h; intro b W h)
    | (refine a_st h ?_; clear h; intro W h))
                  refine r_call (sRadix (id := ((k - ((ts.take q).filter isNode).length : Nat) : Int)) (h.takeA (c := storeC s X'.s))) ?_
                  clear h
                  rintro v W ⟨rfl, h⟩
                  rw [hch'.gone _ (by omega)]
                  repeat (first
    | simp only [e4, bne_self_eq_false, Int.reduceBNe, Int.reduceBEq, Int.natCast_zero, ↓cv3_54, ↓cv54_3, ↓fa63_0, ↓ld60, ↓rd60, ↓bd66_0_1, ↓bd68_0_1, ↓len52, ↓ia52, ↓ld3, ↓rd3, ↓al66, ↓st66, ↓ld66, ↓rd66, ↓bd68_0_1_2, ↓bd66_1, ↓ap69, ↓fa60_0, ↓ld58, ↓rd58, ↓len72, ↓len69, ↓ia69, ↓fa68_0, ↓fa68_1, ↓GG, NN, Nat.reduceAdd]
    | refine a_ld1 h ?_
    | refine a_ldN h ?_
    | refine a_rs1 h ?_
    | refine a_rsN h ?_
    | (refine u_draw h ?_; clear h; intro W h)
    | refine a_rd1 h ?_
    | refine a_rdN h ?_
    | (refine u_nr h ?_; clear h; intro b W h)
    | (refine u_bx h ?_; clear h; intro b W h)
    | (refine u_al h ?_; clear h; intro b W h)
    | (refine a_st h ?_; clear h; intro W h))
                  refine ⟨?_, (caps_shut (s := s) (t := t) (X := X') h (by repeat (first | exact Take.head | apply Take.tail)) (by repeat (first | exact Take.head | apply Take.tail)) (by repeat (first | exact Take.head | apply Take.tail))).subA⟩
                  rw [n3]
                  congr 2
                  omega
              · clear h
                rintro j4 sv W ⟨rfl, h⟩
                repeat (first
    | simp only [↓cv3_54, ↓cv54_3, ↓fa63_0, ↓ld60, ↓rd60, ↓bd66_0_1, ↓bd68_0_1, ↓len52, ↓ia52, ↓ld3, ↓rd3, ↓al66, ↓st66, ↓ld66, ↓rd66, ↓bd68_0_1_2, ↓bd66_1, ↓ap69, ↓fa60_0, ↓ld58, ↓rd58, ↓len72, ↓len69, ↓ia69, ↓fa68_0, ↓fa68_1, ↓GG, NN, Nat.reduceAdd]
    | refine a_ld1 h ?_
    | refine a_ldN h ?_
    | refine a_rs1 h ?_
    | refine a_rsN h ?_
    | (refine u_draw h ?_; clear h; intro W h)
    | refine a_rd1 h ?_
    | refine a_rdN h ?_
    | (refine u_nr h ?_; clear h; intro b W h)
    | (refine u_bx h ?_; clear h; intro b W h)
    | (refine u_al h ?_; clear h; intro b W h)
    | (refine a_st h ?_; clear h; intro W h))
                rw [wrap_succ (by omega)]
                exact ⟨⟨q + 1, by omega, rfl, h⟩, by simp only [vInt]; omega⟩
            · have d4 : decide ((q : Int) < (ts.length : Int)) = false := by simp; omega
              have : q = ts.length := by omega
              subst this
              rw [List.take_length, hall]
              have d5 : (((k + 1 - k : Nat) : Int) == 1) = true := by rw [beq_iff_eq]; omega
              obtain ⟨s, t, h'⟩ := caps_open h
              clear h
              have h := h'
              clear h'
              repeat (first
    | simp only [d4, d5, ↓cv3_54, ↓cv54_3, ↓fa63_0, ↓ld60, ↓rd60, ↓bd66_0_1, ↓bd68_0_1, ↓len52, ↓ia52, ↓ld3, ↓rd3, ↓al66, ↓st66, ↓ld66, ↓rd66, ↓bd68_0_1_2, ↓bd66_1, ↓ap69, ↓fa60_0, ↓ld58, ↓rd58, ↓len72, ↓len69, ↓ia69, ↓fa68_0, ↓fa68_1, ↓GG, NN, Nat.reduceAdd]
    | refine a_ld1 h ?_
    | refine a_ldN h ?_
    | refine a_rs1 h ?_
    | refine a_rsN h ?_
    | (refine u_draw h ?_; clear h; intro W h)
    | refine a_rd1 h ?_
    | refine a_rdN h ?_
    | (refine u_nr h ?_; clear h; intro b W h)
    | (refine u_bx h ?_; clear h; intro b W h)
    | (refine u_al h ?_; clear h; intro b W h)
    | (refine a_st h ?_; clear h; intro W h))
              refine r_call (sRadix (id := 0) (h.takeA (c := storeC s X'.s))) ?_
              clear h
              rintro v W ⟨rfl, h⟩
              have hr0 : X'.s.radix 0 = 2 := hch'.node 0 (Nat.le_refl _)
              rw [hr0]
              have d6 : (((2 : Nat) : Int) == 2) = true := rfl
              repeat (first
    | simp only [d5, d6, ↓cv3_54, ↓cv54_3, ↓fa63_0, ↓ld60, ↓rd60, ↓bd66_0_1, ↓bd68_0_1, ↓len52, ↓ia52, ↓ld3, ↓rd3, ↓al66, ↓st66, ↓ld66, ↓rd66, ↓bd68_0_1_2, ↓bd66_1, ↓ap69, ↓fa60_0, ↓ld58, ↓rd58, ↓len72, ↓len69, ↓ia69, ↓fa68_0, ↓fa68_1, ↓GG, NN, Nat.reduceAdd]
    | refine a_ld1 h ?_
    | refine a_ldN h ?_
    | refine a_rs1 h ?_
    | refine a_rsN h ?_
    | (refine u_draw h ?_; clear h; intro W h)
    | refine a_rd1 h ?_
    | refine a_rdN h ?_
    | (refine u_nr h ?_; clear h; intro b W h)
    | (refine u_bx h ?_; clear h; intro b W h)
    | (refine u_al h ?_; clear h; intro b W h)
    | (refine a_st h ?_; clear h; intro W h))
              subst hΔ
              exact ⟨rfl, h.subA⟩
end
end Go.Proofs.Ytpghhaobcikdhaa
