/- RevokeCopies. -/
import Derived.Test.YtpghhaobcikdhaaC3
namespace Go.Proofs.Ytpghhaobcikdhaa
open Go Go.Hw
set_option linter.unusedSimpArgs false
set_option linter.unusedVariables false
set_option maxRecDepth 100000

section
variable {w0 : World} {Γ Γ' : List Chunk} {W : World} {c s t k : Nat} {X : Caps}

theorem steps_nat (x : Int) {m : Nat} (h0 : 0 < m) (hm : m < 1000000) : ∃ st : Nat, 1 ≤ st ∧ st ≤ m ∧ IntKind.i64.wrap (1 + IntKind.i64.wrap ((IntKind.u64.wrap x).tmod m)) = (st : Int) := by
  have hb := modI_bound x (m := (m : Int)) (by omega)
  unfold modI at hb
  refine ⟨(1 + (IntKind.u64.wrap x).tmod m).toNat, by omega, by omega, ?_⟩
  rw [wrap_i64 (n := (IntKind.u64.wrap x).tmod m) (by omega), wrap_i64 (by omega)]
  omega
theorem idx_nat (x : Int) {n : Nat} (h0 : 0 < n) (hm : n < 1000000) : ∃ k : Nat, k < n ∧ IntKind.i64.wrap ((IntKind.u64.wrap x).tmod (IntKind.u64.wrap n)) = (k : Int) := by
  rw [wrap_u64 (n := (n : Int)) (by omega)]
  have hb := modI_bound x (m := (n : Int)) (by omega)
  unfold modI at hb
  refine ⟨((IntKind.u64.wrap x).tmod n).toNat, by omega, ?_⟩
  rw [wrap_i64 (by omega)]
  omega

def intCell (n : Int) : List Value := [.int .i64 n]

set_option maxHeartbeats 1000000 in
theorem lRevokeCopies {x : Value} {zs : List Int} {steps : Int} (hx : Rd w0 1 intCell x zs) (h : S w0 (init w0 :: Γ) W) :
    Calls Try.prog F_donjonlaw11_RevokeCopies #[x, .int .i64 steps] W (Ret fun v W' => v = .bool true ∧ S w0 (init w0 :: Γ) W') := by
  refine c_donjonlaw11_RevokeCopies ?_
  unfold h_donjonlaw11_RevokeCopies
  refine r_call (lWorks h) ?_
  clear h
  rintro v W ⟨rfl, h⟩
  obtain ⟨st, hst1, hst6, hst⟩ := steps_nat steps (m := 6) (by omega) (by omega)
  repeat (first
    | simp only [↓cv3_54, ↓cv54_3, ↓fa63_0, ↓ld60, ↓rd60, ↓bd68_0_1_2, ↓len52, ↓ia52, ↓ld3, ↓rd3, ↓eqneq4_bfalse, ↓len69, ↓fa60_0, ↓ld58, ↓rd58, ↓len72, ↓GG, NN, Nat.reduceAdd]
    | rw [b_rem (by decide)]
    | refine a_ld1 h ?_
    | refine a_ldN h ?_
    | refine a_rs1 h ?_
    | refine a_rsN h ?_
    | (refine u_draw h ?_; clear h; intro W h)
    | refine a_rd1 h ?_
    | refine a_rdN h ?_
    | (refine u_nr h ?_; clear h; intro b W h)
    | (refine u_bx h ?_; clear h; intro b W h)
    | (refine u_al h ?_; clear h; intro b W h)
    | (refine a_st h ?_; clear h; intro W h))
  rw [show ((IntKind.u64.wrap steps).tmod 6) = ((IntKind.u64.wrap steps).tmod ((6 : Nat) : Int)) from rfl, hst]
  refine r_call (mNew h) ?_
  clear h
  rintro v W ⟨c, rfl, h⟩
  obtain ⟨s, t, h'⟩ := caps_open h
  clear h
  have h := h'
  clear h'
  repeat (first
    | simp only [↓cv3_54, ↓cv54_3, ↓fa63_0, ↓ld60, ↓rd60, ↓bd68_0_1_2, ↓len52, ↓ia52, ↓ld3, ↓rd3, ↓eqneq4_bfalse, ↓len69, ↓fa60_0, ↓ld58, ↓rd58, ↓len72, ↓GG, NN, Nat.reduceAdd]
    | refine a_ld1 h ?_
    | refine a_ldN h ?_
    | refine a_rs1 h ?_
    | refine a_rsN h ?_
    | (refine u_draw h ?_; clear h; intro W h)
    | refine a_rd1 h ?_
    | refine a_rdN h ?_
    | (refine u_nr h ?_; clear h; intro b W h)
    | (refine u_bx h ?_; clear h; intro b W h)
    | (refine u_al h ?_; clear h; intro b W h)
    | (refine a_st h ?_; clear h; intro W h))
  refine r_call (mNode (id := 0) (r := 4) (h.take (by repeat (first | exact Take.head | apply Take.tail)))) ?_
  clear h
  rintro v W ⟨rfl, h⟩
  have h1 := (caps_shut (X := cX1) h (by repeat (first | exact Take.head | apply Take.tail)) (by repeat (first | exact Take.head | apply Take.tail)) (by repeat (first | exact Take.head | apply Take.tail)))
  clear h
  have h := h1
  clear h1
  repeat (first
    | simp only [↓cv3_54, ↓cv54_3, ↓fa63_0, ↓ld60, ↓rd60, ↓bd68_0_1_2, ↓len52, ↓ia52, ↓ld3, ↓rd3, ↓eqneq4_bfalse, ↓len69, ↓fa60_0, ↓ld58, ↓rd58, ↓len72, ↓GG, NN, Nat.reduceAdd]
    | (refine r_call (lSlot h) ?_; clear h; rintro v W ⟨rfl, h⟩; simp only [slotV])
    | refine a_ld1 h ?_
    | refine a_ldN h ?_
    | refine a_rs1 h ?_
    | refine a_rsN h ?_
    | (refine u_draw h ?_; clear h; intro W h)
    | refine a_rd1 h ?_
    | refine a_rdN h ?_
    | (refine u_nr h ?_; clear h; intro b W h)
    | (refine u_bx h ?_; clear h; intro b W h)
    | (refine u_al h ?_; clear h; intro b W h)
    | (refine a_st h ?_; clear h; intro W h))
  refine r_call (mPlant (sa := (0, 0)) (x := ecap) cX1_made.ok.t.toCl h) ?_
  clear h
  rintro v W ⟨rfl, h⟩
  obtain ⟨xa, xc, rfl, hrd⟩ := hx
  refine u_loop (fun s' w => ∃ (i : Nat) (X : Caps), i ≤ zs.length ∧ i + 1 ≤ 16 ∧ s' = (.int .i64 ((i + 1 : Nat) : Int), .int .i64 i) ∧ CopyInv X (i + 1) ∧ S w0 (capsC c X :: init w0 :: Γ) w) (fun s' _ => zs.length - (vInt s'.2).toNat)
    ⟨0, cX2, by omega, by omega, rfl, cX2_inv, h⟩ ?_
  clear h
  rintro j iv W ⟨i, X, hi, hi16, hs, hinv, h⟩
  cases hs
  repeat (first
    | simp only [↓cv3_54, ↓cv54_3, ↓fa63_0, ↓ld60, ↓rd60, ↓bd68_0_1_2, ↓len52, ↓ia52, ↓ld3, ↓rd3, ↓eqneq4_bfalse, ↓len69, ↓fa60_0, ↓ld58, ↓rd58, ↓len72, ↓GG, NN, Nat.reduceAdd]
    | refine a_ld1 h ?_
    | refine a_ldN h ?_
    | refine a_rs1 h ?_
    | refine a_rsN h ?_
    | (refine u_draw h ?_; clear h; intro W h)
    | refine a_rd1 h ?_
    | refine a_rdN h ?_
    | (refine u_nr h ?_; clear h; intro b W h)
    | (refine u_bx h ?_; clear h; intro b W h)
    | (refine u_al h ?_; clear h; intro b W h)
    | (refine a_st h ?_; clear h; intro W h))
  by_cases hlt : i < zs.length ∧ i + 1 < 16
  · have d1 : decide ((i : Int) < (zs.length : Int)) = true := by simp; omega
    have d2 : decide (((i + 1 : Nat) : Int) < 16) = true := by simp; omega
    repeat (first
    | simp only [d1, d2, ↓cv3_54, ↓cv54_3, ↓fa63_0, ↓ld60, ↓rd60, ↓bd68_0_1_2, ↓len52, ↓ia52, ↓ld3, ↓rd3, ↓eqneq4_bfalse, ↓len69, ↓fa60_0, ↓ld58, ↓rd58, ↓len72, ↓GG, NN, Nat.reduceAdd]
    | refine a_ld1 h ?_
    | refine a_ldN h ?_
    | refine a_rs1 h ?_
    | refine a_rsN h ?_
    | (refine u_draw h ?_; clear h; intro W h)
    | refine a_rd1 h ?_
    | refine a_rdN h ?_
    | (refine u_nr h ?_; clear h; intro b W h)
    | (refine u_bx h ?_; clear h; intro b W h)
    | (refine u_al h ?_; clear h; intro b W h)
    | (refine a_st h ?_; clear h; intro W h))
    obtain ⟨b, off, cur, T, fr, rfl, hb, hrow, hsz⟩ := hrd i hlt.1
    rw [ia52 (by omega)]
    try simp only [↓cv3_54, ↓cv54_3, ↓fa63_0, ↓ld60, ↓rd60, ↓bd68_0_1_2, ↓len52, ↓ia52, ↓ld3, ↓rd3, ↓eqneq4_bfalse, ↓len69, ↓fa60_0, ↓ld58, ↓rd58, ↓len72, ↓GG, NN, Nat.reduceAdd]
    have hbW : W.heap[b]? = some (.cells cur T fr) := by rw [S.old h (.tail .head) (heap_lt hb)]; exact hb
    have hcell : cur.toList[off + (i : Int).toNat * 1]? = some (.int .i64 zs[i]) := by
      have := congrArg (fun l : List Value => l[0]?) hrow
      simpa [intCell] using this
    refine v_ld1 hbW hcell ?_
    obtain ⟨k, hk, hke⟩ := idx_nat zs[i] (n := i + 1) (by omega) (by omega)
    try simp only [↓cv3_54, ↓cv54_3, ↓fa63_0, ↓ld60, ↓rd60, ↓bd68_0_1_2, ↓len52, ↓ia52, ↓ld3, ↓rd3, ↓eqneq4_bfalse, ↓len69, ↓fa60_0, ↓ld58, ↓rd58, ↓len72, ↓GG, NN, Nat.reduceAdd]
    rw [b_rem (by rw [wrap_u64 (by omega)]; omega)]
    try simp only [↓cv3_54, ↓cv54_3, ↓fa63_0, ↓ld60, ↓rd60, ↓bd68_0_1_2, ↓len52, ↓ia52, ↓ld3, ↓rd3, ↓eqneq4_bfalse, ↓len69, ↓fa60_0, ↓ld58, ↓rd58, ↓len72, ↓GG, NN, Nat.reduceAdd]
    rw [hke]
    repeat (first
    | simp only [↓cv3_54, ↓cv54_3, ↓fa63_0, ↓ld60, ↓rd60, ↓bd68_0_1_2, ↓len52, ↓ia52, ↓ld3, ↓rd3, ↓eqneq4_bfalse, ↓len69, ↓fa60_0, ↓ld58, ↓rd58, ↓len72, ↓GG, NN, Nat.reduceAdd]
    | (refine r_call (lSlot h) ?_; clear h; rintro v W ⟨rfl, h⟩; simp only [slotV])
    | refine a_ld1 h ?_
    | refine a_ldN h ?_
    | refine a_rs1 h ?_
    | refine a_rsN h ?_
    | (refine u_draw h ?_; clear h; intro W h)
    | refine a_rd1 h ?_
    | refine a_rdN h ?_
    | (refine u_nr h ?_; clear h; intro b W h)
    | (refine u_bx h ?_; clear h; intro b W h)
    | (refine u_al h ?_; clear h; intro b W h)
    | (refine a_st h ?_; clear h; intro W h))
    obtain ⟨hc0, hc1⟩ := hinv.copy hk hlt.2
    refine r_call (mCopy (sa := (0, (k : Int))) (sb := (0, ((i + 1 : Nat) : Int))) (r := 7) hinv.made.ok.t.toCl (h.take (c := capsC c X) (by repeat (first | exact Take.head | apply Take.tail)))) ?_
    clear h
    rintro v W ⟨rfl, h⟩
    rw [hc0]
    repeat (first
    | simp only [bne_self_eq_false, Int.reduceBNe, Int.reduceBEq, ↓cv3_54, ↓cv54_3, ↓fa63_0, ↓ld60, ↓rd60, ↓bd68_0_1_2, ↓len52, ↓ia52, ↓ld3, ↓rd3, ↓eqneq4_bfalse, ↓len69, ↓fa60_0, ↓ld58, ↓rd58, ↓len72, ↓GG, NN, Nat.reduceAdd]
    | refine a_ld1 h ?_
    | refine a_ldN h ?_
    | refine a_rs1 h ?_
    | refine a_rsN h ?_
    | (refine u_draw h ?_; clear h; intro W h)
    | refine a_rd1 h ?_
    | refine a_rdN h ?_
    | (refine u_nr h ?_; clear h; intro b W h)
    | (refine u_bx h ?_; clear h; intro b W h)
    | (refine u_al h ?_; clear h; intro b W h)
    | (refine a_st h ?_; clear h; intro W h))
    rw [wrap_succ (k := i + 1) (by omega), wrap_succ (k := i) (by omega)]
    refine ⟨⟨i + 1, _, by omega, by omega, rfl, hc1, h.subA⟩, ?_⟩
    simp only [vInt]
    omega
  · have hstop : ∀ b2 : Bool, (b2 = true ↔ ((i + 1 : Nat) : Int) < 16) → True := fun _ _ => trivial
    clear hstop
    obtain ⟨l, hrev, hlen⟩ := hinv.rev (by omega)
    by_cases h1 : i < zs.length
    case' pos =>
      have d1 : decide ((i : Int) < (zs.length : Int)) = true := by simp; omega
      have d2 : decide (((i + 1 : Nat) : Int) < 16) = false := by simp; omega
      repeat (first
    | simp only [d1, d2, ↓cv3_54, ↓cv54_3, ↓fa63_0, ↓ld60, ↓rd60, ↓bd68_0_1_2, ↓len52, ↓ia52, ↓ld3, ↓rd3, ↓eqneq4_bfalse, ↓len69, ↓fa60_0, ↓ld58, ↓rd58, ↓len72, ↓GG, NN, Nat.reduceAdd]
    | refine a_ld1 h ?_
    | refine a_ldN h ?_
    | refine a_rs1 h ?_
    | refine a_rsN h ?_
    | (refine u_draw h ?_; clear h; intro W h)
    | refine a_rd1 h ?_
    | refine a_rdN h ?_
    | (refine u_nr h ?_; clear h; intro b W h)
    | (refine u_bx h ?_; clear h; intro b W h)
    | (refine u_al h ?_; clear h; intro b W h)
    | (refine a_st h ?_; clear h; intro W h))
    case' neg =>
      have d1 : decide ((i : Int) < (zs.length : Int)) = false := by simp; omega
      repeat (first
    | simp only [d1, ↓cv3_54, ↓cv54_3, ↓fa63_0, ↓ld60, ↓rd60, ↓bd68_0_1_2, ↓len52, ↓ia52, ↓ld3, ↓rd3, ↓eqneq4_bfalse, ↓len69, ↓fa60_0, ↓ld58, ↓rd58, ↓len72, ↓GG, NN, Nat.reduceAdd]
    | refine a_ld1 h ?_
    | refine a_ldN h ?_
    | refine a_rs1 h ?_
    | refine a_rsN h ?_
    | (refine u_draw h ?_; clear h; intro W h)
    | refine a_rd1 h ?_
    | refine a_rdN h ?_
    | (refine u_nr h ?_; clear h; intro b W h)
    | (refine u_bx h ?_; clear h; intro b W h)
    | (refine u_al h ?_; clear h; intro b W h)
    | (refine a_st h ?_; clear h; intro W h))
    all_goals
      repeat (first
    | simp only [↓cv3_54, ↓cv54_3, ↓fa63_0, ↓ld60, ↓rd60, ↓bd68_0_1_2, ↓len52, ↓ia52, ↓ld3, ↓rd3, ↓eqneq4_bfalse, ↓len69, ↓fa60_0, ↓ld58, ↓rd58, ↓len72, ↓GG, NN, Nat.reduceAdd]
    | (refine r_call (lSlot h) ?_; clear h; rintro v W ⟨rfl, h⟩; simp only [slotV])
    | refine a_ld1 h ?_
    | refine a_ldN h ?_
    | refine a_rs1 h ?_
    | refine a_rsN h ?_
    | (refine u_draw h ?_; clear h; intro W h)
    | refine a_rd1 h ?_
    | refine a_rdN h ?_
    | (refine u_nr h ?_; clear h; intro b W h)
    | (refine u_bx h ?_; clear h; intro b W h)
    | (refine u_al h ?_; clear h; intro b W h)
    | (refine a_st h ?_; clear h; intro W h))
      refine r_call (mFinal (sa := (0, 0)) (h.take (c := capsC c X) (by repeat (first | exact Take.head | apply Take.tail)))) ?_
      clear h
      rintro v W ⟨rfl, h⟩
      rw [hrev.final]
      have d3 : (!(decide (l.length = 0) == (((i + 1 : Nat) : Int) == 1))) = false := by
        rw [hlen]
        by_cases hz : i = 0
        · subst hz; rfl
        · have e1 : (((i + 1 : Nat) : Int) == 1) = false := by rw [beq_eq_false_iff_ne]; omega
          rw [e1, decide_eq_false (by omega)]
          rfl
      repeat (first
    | simp only [d3, ↓cv3_54, ↓cv54_3, ↓fa63_0, ↓ld60, ↓rd60, ↓bd68_0_1_2, ↓len52, ↓ia52, ↓ld3, ↓rd3, ↓eqneq4_bfalse, ↓len69, ↓fa60_0, ↓ld58, ↓rd58, ↓len72, ↓GG, NN, Nat.reduceAdd]
    | refine a_ld1 h ?_
    | refine a_ldN h ?_
    | refine a_rs1 h ?_
    | refine a_rsN h ?_
    | (refine u_draw h ?_; clear h; intro W h)
    | refine a_rd1 h ?_
    | refine a_rdN h ?_
    | (refine u_nr h ?_; clear h; intro b W h)
    | (refine u_bx h ?_; clear h; intro b W h)
    | (refine u_al h ?_; clear h; intro b W h)
    | (refine a_st h ?_; clear h; intro W h))
      clear d3
      refine u_join (fun sv w => ∃ (q : Nat) (X2 : Caps) (l2 : List Slot), q ≤ 16 ∧ sv = .int .i64 ((q + 1 : Nat) : Int) ∧ RevInv X2 [] ∧ l.length ≤ q * st + st ∧ (q = 0 ∨ q * st < l.length) ∧ S w0 (capsC c X2 :: init w0 :: Γ) w) ?_ ?_
      · refine u_loop (fun s' w => ∃ (q : Nat) (X2 : Caps) (l2 : List Slot), s' = (.int .i64 (q : Int), .int .i64 q) ∧ RevInv X2 l2 ∧ l2.length + q * st = l.length ∧ (q = 0 ∨ q * st < l.length) ∧ S w0 (capsC c X2 :: init w0 :: Γ) w) (fun s' _ => 20 - (vInt s'.2).toNat)
          ⟨0, X, l, rfl, hrev, by omega, .inl rfl, h.subA⟩ ?_
        clear h
        rintro j2 iv W ⟨q, X2, l2, hs2, hr2, hl2, hq2, h⟩
        cases hs2
        have hq16 : q ≤ 16 := by
          have : q * 1 ≤ q * st := Nat.mul_le_mul_left q hst1
          omega
        have d4 : decide ((q : Int) < 20) = true := by simp; omega
        repeat (first
    | simp only [d4, ↓cv3_54, ↓cv54_3, ↓fa63_0, ↓ld60, ↓rd60, ↓bd68_0_1_2, ↓len52, ↓ia52, ↓ld3, ↓rd3, ↓eqneq4_bfalse, ↓len69, ↓fa60_0, ↓ld58, ↓rd58, ↓len72, ↓GG, NN, Nat.reduceAdd]
    | (refine r_call (lSlot h) ?_; clear h; rintro v W ⟨rfl, h⟩; simp only [slotV])
    | refine a_ld1 h ?_
    | refine a_ldN h ?_
    | refine a_rs1 h ?_
    | refine a_rsN h ?_
    | (refine u_draw h ?_; clear h; intro W h)
    | refine a_rd1 h ?_
    | refine a_rdN h ?_
    | (refine u_nr h ?_; clear h; intro b W h)
    | (refine u_bx h ?_; clear h; intro b W h)
    | (refine u_al h ?_; clear h; intro b W h)
    | (refine a_st h ?_; clear h; intro W h))
        refine r_call (lRevoke (X := X2) (a := (0, 0)) (n := st) hr2.made hr2.fl0 hr2.kin hst1 (by omega) (h.take (c := capsC c X2) (by repeat (first | exact Take.head | apply Take.tail)))) ?_
        clear h
        rintro v W ⟨tv, rfl, h⟩
        rw [revO_ts] at h
        obtain ⟨ta, tc, rfl⟩ := slc_shape h .head
        by_cases hdone : l2.length ≤ st
        · have e : revO X2 l2 st [] = .ok ⟨takes X2 l2.reverse, st - l2.length, []⟩ := by unfold revO; rw [if_pos hdone]
          rw [e] at h ⊢
          simp only [Out.st, outV] at h ⊢
          repeat (first
    | simp only [bne_self_eq_false, Int.reduceBNe, Int.reduceBEq, List.length_nil, Int.natCast_zero, ↓cv3_54, ↓cv54_3, ↓fa63_0, ↓ld60, ↓rd60, ↓bd68_0_1_2, ↓len52, ↓ia52, ↓ld3, ↓rd3, ↓eqneq4_bfalse, ↓len69, ↓fa60_0, ↓ld58, ↓rd58, ↓len72, ↓GG, NN, Nat.reduceAdd]
    | refine a_ld1 h ?_
    | refine a_ldN h ?_
    | refine a_rs1 h ?_
    | refine a_rsN h ?_
    | (refine u_draw h ?_; clear h; intro W h)
    | refine a_rd1 h ?_
    | refine a_rdN h ?_
    | (refine u_nr h ?_; clear h; intro b W h)
    | (refine u_bx h ?_; clear h; intro b W h)
    | (refine u_al h ?_; clear h; intro b W h)
    | (refine a_st h ?_; clear h; intro W h))
          rw [wrap_succ (k := q) (by omega)]
          have hr3 : RevInv (takes X2 l2.reverse) [] := RevInv.takes (l := []) hr2
          exact ⟨q, _, [], by omega, rfl, hr3, by omega, hq2, h.subA⟩
        · have e : revO X2 l2 st [] = .spent ⟨takes X2 (l2.reverse.take st), 0, []⟩ := by unfold revO; rw [if_neg hdone]
          rw [e] at h ⊢
          simp only [Out.st, outV] at h ⊢
          repeat (first
    | simp only [bne_self_eq_false, Int.reduceBNe, Int.reduceBEq, List.length_nil, Int.natCast_zero, ↓cv3_54, ↓cv54_3, ↓fa63_0, ↓ld60, ↓rd60, ↓bd68_0_1_2, ↓len52, ↓ia52, ↓ld3, ↓rd3, ↓eqneq4_bfalse, ↓len69, ↓fa60_0, ↓ld58, ↓rd58, ↓len72, ↓GG, NN, Nat.reduceAdd]
    | refine a_ld1 h ?_
    | refine a_ldN h ?_
    | refine a_rs1 h ?_
    | refine a_rsN h ?_
    | (refine u_draw h ?_; clear h; intro W h)
    | refine a_rd1 h ?_
    | refine a_rdN h ?_
    | (refine u_nr h ?_; clear h; intro b W h)
    | (refine u_bx h ?_; clear h; intro b W h)
    | (refine u_al h ?_; clear h; intro b W h)
    | (refine a_st h ?_; clear h; intro W h))
          rw [wrap_succ (k := q) (by omega)]
          have el : l2 = l2.take (l2.length - st) ++ l2.drop (l2.length - st) := (List.take_append_drop _ _).symm
          have er : l2.reverse.take st = (l2.drop (l2.length - st)).reverse := by rw [List.take_reverse]
          rw [er] at h
          have hr3 : RevInv (takes X2 (l2.drop (l2.length - st)).reverse) (l2.take (l2.length - st)) := RevInv.takes (by rw [← el]; exact hr2)
          have hmul : (q + 1) * st = q * st + st := Nat.succ_mul q st
          refine ⟨⟨q + 1, _, _, rfl, hr3, ?_, .inr ?_, h.subA⟩, ?_⟩
          · rw [List.length_take, hmul]; omega
          · rw [hmul]; omega
          · simp only [vInt]; omega
      · clear h
        rintro j2 sv W ⟨q, X2, l2, hq16, rfl, hr2, hq1, hq2, h⟩
        obtain ⟨s2, t2, h'⟩ := caps_open h
        clear h
        have h := h'
        clear h'
        repeat (first
    | simp only [↓cv3_54, ↓cv54_3, ↓fa63_0, ↓ld60, ↓rd60, ↓bd68_0_1_2, ↓len52, ↓ia52, ↓ld3, ↓rd3, ↓eqneq4_bfalse, ↓len69, ↓fa60_0, ↓ld58, ↓rd58, ↓len72, ↓GG, NN, Nat.reduceAdd]
    | refine a_ld1 h ?_
    | refine a_ldN h ?_
    | refine a_rs1 h ?_
    | refine a_rsN h ?_
    | (refine u_draw h ?_; clear h; intro W h)
    | refine a_rd1 h ?_
    | refine a_rdN h ?_
    | (refine u_nr h ?_; clear h; intro b W h)
    | (refine u_bx h ?_; clear h; intro b W h)
    | (refine u_al h ?_; clear h; intro b W h)
    | (refine a_st h ?_; clear h; intro W h))
        refine r_call (Store_Full_spec (h.take (c := storeC s2 X2.s) (by repeat (first | exact Take.head | apply Take.tail)))) ?_
        clear h
        intro v W h
        have hfl := hr2.full
        obtain ⟨va, vc, rfl⟩ := slc_shape h .head
        have h1 := caps_shut (X := X2) h (by repeat (first | exact Take.head | apply Take.tail)) (by repeat (first | exact Take.head | apply Take.tail)) (by repeat (first | exact Take.head | apply Take.tail))
        clear h
        have h := h1
        clear h1
        have d5 : ((X2.s.full.length : Int) == 1) = true := by rw [hfl]; rfl
        repeat (first
    | simp only [d5, ↓cv3_54, ↓cv54_3, ↓fa63_0, ↓ld60, ↓rd60, ↓bd68_0_1_2, ↓len52, ↓ia52, ↓ld3, ↓rd3, ↓eqneq4_bfalse, ↓len69, ↓fa60_0, ↓ld58, ↓rd58, ↓len72, ↓GG, NN, Nat.reduceAdd]
    | (refine r_call (lSlot h) ?_; clear h; rintro v W ⟨rfl, h⟩; simp only [slotV])
    | refine a_ld1 h ?_
    | refine a_ldN h ?_
    | refine a_rs1 h ?_
    | refine a_rsN h ?_
    | (refine u_draw h ?_; clear h; intro W h)
    | refine a_rd1 h ?_
    | refine a_rdN h ?_
    | (refine u_nr h ?_; clear h; intro b W h)
    | (refine u_bx h ?_; clear h; intro b W h)
    | (refine u_al h ?_; clear h; intro b W h)
    | (refine a_st h ?_; clear h; intro W h))
        refine r_call (mFinal (sa := (0, 0)) (h.take (c := capsC c X2) (by repeat (first | exact Take.head | apply Take.tail)))) ?_
        clear h
        rintro v W ⟨rfl, h⟩
        rw [hr2.final]
        have d7 : IntKind.i64.wrap (((i + 1 : Nat) : Int) - 1) = ((i : Nat) : Int) := by rw [wrap_i64 (by omega)]; omega
        have hle : i / st ≤ i := Nat.div_le_self _ _
        have e1 : (i : Int).tdiv (st : Int) = ((i / st : Nat) : Int) := Int.ofNat_tdiv i st
        have hc := calls_eq (L := i) (i := q) hst1 hst6 (by omega) (by omega)
        generalize i / st = dv at hle e1 hc
        have d8 : IntKind.i64.wrap ((i : Int).tdiv (st : Int)) = ((dv : Nat) : Int) := by rw [e1, wrap_i64 (by omega)]
        have d9 : IntKind.i64.wrap (((dv : Nat) : Int) + 1) = ((dv + 1 : Nat) : Int) := by rw [wrap_i64 (by omega)]; omega
        repeat (first
    | simp only [d7, d8, d9, List.length_nil, ↓cv3_54, ↓cv54_3, ↓fa63_0, ↓ld60, ↓rd60, ↓bd68_0_1_2, ↓len52, ↓ia52, ↓ld3, ↓rd3, ↓eqneq4_bfalse, ↓len69, ↓fa60_0, ↓ld58, ↓rd58, ↓len72, ↓GG, NN, Nat.reduceAdd]
    | rw [b_quo (by omega)]
    | refine a_ld1 h ?_
    | refine a_ldN h ?_
    | refine a_rs1 h ?_
    | refine a_rsN h ?_
    | (refine u_draw h ?_; clear h; intro W h)
    | refine a_rd1 h ?_
    | refine a_rdN h ?_
    | (refine u_nr h ?_; clear h; intro b W h)
    | (refine u_bx h ?_; clear h; intro b W h)
    | (refine u_al h ?_; clear h; intro b W h)
    | (refine a_st h ?_; clear h; intro W h))
        refine r_call (lOver (n := (i : Int)) (m := (st : Int)) (by omega) h) ?_
        clear h
        rintro v W ⟨rfl, h⟩
        have hmod : (i : Int).tmod (st : Int) = ((i % st : Nat) : Int) := Int.ofNat_tmod i st
        have e2 : (if (i : Int) > 0 ∧ (i : Int).tmod (st : Int) = 0 then (1 : Int) else 0) = ((if i > 0 ∧ i % st = 0 then 1 else 0 : Nat) : Int) := by
          rw [hmod]
          by_cases hcc : i > 0 ∧ i % st = 0
          · rw [if_pos hcc, if_pos (by omega)]; rfl
          · rw [if_neg hcc, if_neg (by omega)]; rfl
        rw [e2]
        have hle1 : (if i > 0 ∧ i % st = 0 then 1 else 0 : Nat) ≤ 1 := by split <;> omega
        generalize (if i > 0 ∧ i % st = 0 then 1 else 0 : Nat) = ov at hc hle1
        have d10 : (((q + 1 : Nat) : Int) == IntKind.i64.wrap (((dv + 1 : Nat) : Int) - (ov : Int))) = true := by
          rw [wrap_i64 (by omega), beq_iff_eq]
          omega
        repeat (first
    | simp only [d10, List.length_nil, ↓cv3_54, ↓cv54_3, ↓fa63_0, ↓ld60, ↓rd60, ↓bd68_0_1_2, ↓len52, ↓ia52, ↓ld3, ↓rd3, ↓eqneq4_bfalse, ↓len69, ↓fa60_0, ↓ld58, ↓rd58, ↓len72, ↓GG, NN, Nat.reduceAdd]
    | refine a_ld1 h ?_
    | refine a_ldN h ?_
    | refine a_rs1 h ?_
    | refine a_rsN h ?_
    | (refine u_draw h ?_; clear h; intro W h)
    | refine a_rd1 h ?_
    | refine a_rdN h ?_
    | (refine u_nr h ?_; clear h; intro b W h)
    | (refine u_bx h ?_; clear h; intro b W h)
    | (refine u_al h ?_; clear h; intro b W h)
    | (refine a_st h ?_; clear h; intro W h))
        exact ⟨rfl, h.subA⟩
end
end Go.Proofs.Ytpghhaobcikdhaa
