/- The laws' own small functions: slot, over, SameCaps, SameSlots. -/
import Derived.Test.YtpghhaobcikdhaaB5
namespace Go.Proofs.Ytpghhaobcikdhaa
open Go Go.Hw
set_option linter.unusedSimpArgs false
set_option linter.unusedVariables false
set_option maxRecDepth 100000

section
variable {w0 : World} {Γ Γ' : List Chunk} {W : World} {c s t k : Nat} {X : Caps}

theorem lSlot {n : Int} (h : S w0 Γ W) : Calls Try.prog F_donjonlaw11_slot #[.int .i64 n] W (Ret fun v W' => v = slotV (0, n) ∧ S w0 Γ W') := by
  refine c_donjonlaw11_slot ?_
  unfold h_donjonlaw11_slot
  repeat (first
    | simp only [↓rs66, ↓al66, ↓bd66_1, ↓st66, ↓GG, NN, Nat.reduceAdd]
    | refine a_ld1 h ?_
    | refine a_ldN h ?_
    | refine a_rs1 h ?_
    | refine a_rsN h ?_
    | (refine u_draw h ?_; clear h; intro W h)
    | refine a_rd1 h ?_
    | refine a_rdN h ?_
    | (refine u_nr h ?_; clear h; intro b W h)
    | (refine u_bx h ?_; clear h; intro b W h)
    | (refine u_al h ?_; clear h; intro b W h)
    | (refine a_st h ?_; clear h; intro W h))
  exact ⟨rfl, h.subA⟩

theorem lOver {n m : Int} (hm : m ≠ 0) (h : S w0 Γ W) : Calls Try.prog F_donjonlaw11_over #[.int .i64 n, .int .i64 m] W (Ret fun v W' => v = .int .i64 (if n > 0 ∧ n.tmod m = 0 then 1 else 0) ∧ S w0 Γ W') := by
  refine c_donjonlaw11_over ?_
  unfold h_donjonlaw11_over
  by_cases h1 : n > 0
  · have d1 : decide (n > 0) = true := by simp [h1]
    by_cases h2 : n.tmod m = 0
    · have d2 : (n.tmod m == 0) = true := by simp [h2]
      repeat (first
    | simp only [d1, d2, ↓GG, NN, Nat.reduceAdd]
    | rw [b_rem hm]
    | refine a_ld1 h ?_
    | refine a_ldN h ?_
    | refine a_rs1 h ?_
    | refine a_rsN h ?_
    | (refine u_draw h ?_; clear h; intro W h)
    | refine a_rd1 h ?_
    | refine a_rdN h ?_
    | (refine u_nr h ?_; clear h; intro b W h)
    | (refine u_bx h ?_; clear h; intro b W h)
    | (refine u_al h ?_; clear h; intro b W h)
    | (refine a_st h ?_; clear h; intro W h)
    | refine oJoin_inl ?_)
      exact ⟨by rw [if_pos ⟨h1, h2⟩], h⟩
    · have d2 : (n.tmod m == 0) = false := by simp [h2]
      repeat (first
    | simp only [d1, d2, ↓GG, NN, Nat.reduceAdd]
    | rw [b_rem hm]
    | refine a_ld1 h ?_
    | refine a_ldN h ?_
    | refine a_rs1 h ?_
    | refine a_rsN h ?_
    | (refine u_draw h ?_; clear h; intro W h)
    | refine a_rd1 h ?_
    | refine a_rdN h ?_
    | (refine u_nr h ?_; clear h; intro b W h)
    | (refine u_bx h ?_; clear h; intro b W h)
    | (refine u_al h ?_; clear h; intro b W h)
    | (refine a_st h ?_; clear h; intro W h)
    | refine oJoin_inl ?_)
      exact ⟨by rw [if_neg (fun e => h2 e.2)], h⟩
  · have d1 : decide (n > 0) = false := by simp [h1]
    repeat (first
    | simp only [d1, ↓GG, NN, Nat.reduceAdd]
    | refine a_ld1 h ?_
    | refine a_ldN h ?_
    | refine a_rs1 h ?_
    | refine a_rsN h ?_
    | (refine u_draw h ?_; clear h; intro W h)
    | refine a_rd1 h ?_
    | refine a_rdN h ?_
    | (refine u_nr h ?_; clear h; intro b W h)
    | (refine u_bx h ?_; clear h; intro b W h)
    | (refine u_al h ?_; clear h; intro b W h)
    | (refine a_st h ?_; clear h; intro W h))
    exact ⟨by rw [if_neg (fun e => h1 e.1)], h⟩

theorem capCells_len (p : Cap) : p.cells.length = 6 := rfl

theorem lSameCaps {x y : Value} {xs ys : List Cap} (h : S w0 Γ W) (hx : Kn Γ x 6 (xs.flatMap Cap.cells) xs.length) (hy : Kn Γ y 6 (ys.flatMap Cap.cells) ys.length) (hn : xs.length ≤ 1000000) (hm : ys.length ≤ 1000000) :
    Calls Try.prog F_donjonlaw11_SameCaps #[x, y] W (Ret fun v W' => v = .bool (decide (xs = ys)) ∧ S w0 Γ W') := by
  refine c_donjonlaw11_SameCaps ?_
  unfold h_donjonlaw11_SameCaps
  obtain ⟨xa, xc, rfl⟩ := hx.shape
  obtain ⟨ya, yc, rfl⟩ := hy.shape
  by_cases hl : xs.length = ys.length
  · have d1 : ((xs.length : Int) != (ys.length : Int)) = false := by simp [hl]
    repeat (first
    | simp only [d1, ↓len69, ↓ia69, ↓ld68, ↓rd68, ↓eqneq68_false, ↓GG, NN, Nat.reduceAdd]
    | refine a_ld1 h ?_
    | refine a_ldN h ?_
    | refine a_rs1 h ?_
    | refine a_rsN h ?_
    | (refine u_draw h ?_; clear h; intro W h)
    | refine a_rd1 h ?_
    | refine a_rdN h ?_
    | (refine u_nr h ?_; clear h; intro b W h)
    | (refine u_bx h ?_; clear h; intro b W h)
    | (refine u_al h ?_; clear h; intro b W h)
    | (refine a_st h ?_; clear h; intro W h))
    refine u_loop (fun s' w => ∃ i : Nat, i ≤ xs.length ∧ s' = .int .i64 i ∧ xs.take i = ys.take i ∧ S w0 Γ w) (fun s' _ => xs.length - (vInt s').toNat) ⟨0, by omega, rfl, by simp, h⟩ ?_
    clear h
    rintro j iv W ⟨i, hi, hs, heq, h⟩
    cases hs
    by_cases hlt : i < xs.length
    · have d2 : decide ((i : Int) < (xs.length : Int)) = true := by simp; omega
      repeat (first
    | simp only [d2, ↓len69, ↓ia69, ↓ld68, ↓rd68, ↓eqneq68_false, ↓GG, NN, Nat.reduceAdd]
    | refine a_ld1 h ?_
    | refine a_ldN h ?_
    | refine a_rs1 h ?_
    | refine a_rsN h ?_
    | (refine u_draw h ?_; clear h; intro W h)
    | refine a_rd1 h ?_
    | refine a_rdN h ?_
    | (refine u_nr h ?_; clear h; intro b W h)
    | (refine u_bx h ?_; clear h; intro b W h)
    | (refine u_al h ?_; clear h; intro b W h)
    | (refine a_st h ?_; clear h; intro W h))
      obtain ⟨g, off, cap', cur, T, fr, hv, hg, hr, hsz⟩ := Kn.read capCells_len h hx hlt
      obtain ⟨g', off', cap'', cur', T', fr', hv', hg', hr', hsz'⟩ := Kn.read capCells_len h hy (i := i) (by omega)
      injection hv with e1 e2 e3
      subst e1 e3
      injection hv' with e1 e2 e3
      subst e1 e3
      rw [ia69 (by omega)]
      rw [ia69 (by omega)]
      have e0 : ((i : Int).toNat) = i := by omega
      rw [e0]
      try simp only [↓len69, ↓ia69, ↓ld68, ↓rd68, ↓eqneq68_false, ↓GG, NN, Nat.reduceAdd]
      refine v_ldN hg hsz ?_
      try simp only [↓len69, ↓ia69, ↓ld68, ↓rd68, ↓eqneq68_false, ↓GG, NN, Nat.reduceAdd]
      refine v_ldN hg' hsz' ?_
      rw [hr, hr']
      simp only [Cap.cells]
      repeat (first
    | simp only [↓len69, ↓ia69, ↓ld68, ↓rd68, ↓eqneq68_false, ↓GG, NN, Nat.reduceAdd]
    | refine a_ld1 h ?_
    | refine a_ldN h ?_
    | refine a_rs1 h ?_
    | refine a_rsN h ?_
    | (refine u_draw h ?_; clear h; intro W h)
    | refine a_rd1 h ?_
    | refine a_rdN h ?_
    | (refine u_nr h ?_; clear h; intro b W h)
    | (refine u_bx h ?_; clear h; intro b W h)
    | (refine u_al h ?_; clear h; intro b W h)
    | (refine a_st h ?_; clear h; intro W h))
      rw [capNe]
      by_cases hb : xs[i] = ys[i]'(by omega)
      · have d3 : decide (xs[i] ≠ ys[i]'(by omega)) = false := by simp [hb]
        repeat (first
    | simp only [d3, ↓len69, ↓ia69, ↓ld68, ↓rd68, ↓eqneq68_false, ↓GG, NN, Nat.reduceAdd]
    | refine a_ld1 h ?_
    | refine a_ldN h ?_
    | refine a_rs1 h ?_
    | refine a_rsN h ?_
    | (refine u_draw h ?_; clear h; intro W h)
    | refine a_rd1 h ?_
    | refine a_rdN h ?_
    | (refine u_nr h ?_; clear h; intro b W h)
    | (refine u_bx h ?_; clear h; intro b W h)
    | (refine u_al h ?_; clear h; intro b W h)
    | (refine a_st h ?_; clear h; intro W h))
        rw [wrap_succ (by omega)]
        refine ⟨⟨i + 1, by omega, rfl, ?_, h⟩, ?_⟩
        · rw [List.take_succ_eq_append_getElem hlt, List.take_succ_eq_append_getElem (by omega), heq, hb]
        · simp only [vInt]
          omega
      · have d3 : decide (xs[i] ≠ ys[i]'(by omega)) = true := by simp [hb]
        repeat (first
    | simp only [d3, ↓len69, ↓ia69, ↓ld68, ↓rd68, ↓eqneq68_false, ↓GG, NN, Nat.reduceAdd]
    | refine a_ld1 h ?_
    | refine a_ldN h ?_
    | refine a_rs1 h ?_
    | refine a_rsN h ?_
    | (refine u_draw h ?_; clear h; intro W h)
    | refine a_rd1 h ?_
    | refine a_rdN h ?_
    | (refine u_nr h ?_; clear h; intro b W h)
    | (refine u_bx h ?_; clear h; intro b W h)
    | (refine u_al h ?_; clear h; intro b W h)
    | (refine a_st h ?_; clear h; intro W h))
        refine ⟨?_, h.subA⟩
        have : ¬ xs = ys := by rintro rfl; exact hb rfl
        simp [this]
    · have d2 : decide ((i : Int) < (xs.length : Int)) = false := by simp; omega
      have : i = xs.length := by omega
      subst this
      repeat (first
    | simp only [d2, ↓len69, ↓ia69, ↓ld68, ↓rd68, ↓eqneq68_false, ↓GG, NN, Nat.reduceAdd]
    | refine a_ld1 h ?_
    | refine a_ldN h ?_
    | refine a_rs1 h ?_
    | refine a_rsN h ?_
    | (refine u_draw h ?_; clear h; intro W h)
    | refine a_rd1 h ?_
    | refine a_rdN h ?_
    | (refine u_nr h ?_; clear h; intro b W h)
    | (refine u_bx h ?_; clear h; intro b W h)
    | (refine u_al h ?_; clear h; intro b W h)
    | (refine a_st h ?_; clear h; intro W h))
      refine ⟨?_, h.subA⟩
      rw [List.take_length, hl, List.take_length] at heq
      simp [heq]
  · have d1 : ((xs.length : Int) != (ys.length : Int)) = true := by simp; omega
    repeat (first
    | simp only [d1, ↓len69, ↓ia69, ↓ld68, ↓rd68, ↓eqneq68_false, ↓GG, NN, Nat.reduceAdd]
    | refine a_ld1 h ?_
    | refine a_ldN h ?_
    | refine a_rs1 h ?_
    | refine a_rsN h ?_
    | (refine u_draw h ?_; clear h; intro W h)
    | refine a_rd1 h ?_
    | refine a_rdN h ?_
    | (refine u_nr h ?_; clear h; intro b W h)
    | (refine u_bx h ?_; clear h; intro b W h)
    | (refine u_al h ?_; clear h; intro b W h)
    | (refine a_st h ?_; clear h; intro W h))
    refine ⟨?_, h⟩
    have : ¬ xs = ys := by rintro rfl; exact hl rfl
    simp [this]

theorem lSameSlots {x y : Value} {xs ys : List Slot} (h : S w0 Γ W) (hx : Kn Γ x 2 (xs.flatMap slotCells) xs.length) (hy : Kn Γ y 2 (ys.flatMap slotCells) ys.length) (hn : xs.length ≤ 1000000) (hm : ys.length ≤ 1000000) :
    Calls Try.prog F_donjonref07_SameSlots #[x, y] W (Ret fun v W' => v = .bool (decide (xs = ys)) ∧ S w0 Γ W') := by
  refine c_donjonref07_SameSlots ?_
  unfold h_donjonref07_SameSlots
  obtain ⟨xa, xc, rfl⟩ := hx.shape
  obtain ⟨ya, yc, rfl⟩ := hy.shape
  by_cases hl : xs.length = ys.length
  · have d1 : ((xs.length : Int) != (ys.length : Int)) = false := by simp [hl]
    repeat (first
    | simp only [d1, ↓len72, ↓ia72, ↓ld66, ↓rd66, ↓eqneq66_false, ↓GG, NN, Nat.reduceAdd]
    | refine a_ld1 h ?_
    | refine a_ldN h ?_
    | refine a_rs1 h ?_
    | refine a_rsN h ?_
    | (refine u_draw h ?_; clear h; intro W h)
    | refine a_rd1 h ?_
    | refine a_rdN h ?_
    | (refine u_nr h ?_; clear h; intro b W h)
    | (refine u_bx h ?_; clear h; intro b W h)
    | (refine u_al h ?_; clear h; intro b W h)
    | (refine a_st h ?_; clear h; intro W h))
    refine u_loop (fun s' w => ∃ i : Nat, i ≤ xs.length ∧ s' = .int .i64 i ∧ xs.take i = ys.take i ∧ S w0 Γ w) (fun s' _ => xs.length - (vInt s').toNat) ⟨0, by omega, rfl, by simp, h⟩ ?_
    clear h
    rintro j iv W ⟨i, hi, hs, heq, h⟩
    cases hs
    by_cases hlt : i < xs.length
    · have d2 : decide ((i : Int) < (xs.length : Int)) = true := by simp; omega
      repeat (first
    | simp only [d2, ↓len72, ↓ia72, ↓ld66, ↓rd66, ↓eqneq66_false, ↓GG, NN, Nat.reduceAdd]
    | refine a_ld1 h ?_
    | refine a_ldN h ?_
    | refine a_rs1 h ?_
    | refine a_rsN h ?_
    | (refine u_draw h ?_; clear h; intro W h)
    | refine a_rd1 h ?_
    | refine a_rdN h ?_
    | (refine u_nr h ?_; clear h; intro b W h)
    | (refine u_bx h ?_; clear h; intro b W h)
    | (refine u_al h ?_; clear h; intro b W h)
    | (refine a_st h ?_; clear h; intro W h))
      obtain ⟨g, off, cap', cur, T, fr, hv, hg, hr, hsz⟩ := Kn.read slotCells_len h hx hlt
      obtain ⟨g', off', cap'', cur', T', fr', hv', hg', hr', hsz'⟩ := Kn.read slotCells_len h hy (i := i) (by omega)
      injection hv with e1 e2 e3
      subst e1 e3
      injection hv' with e1 e2 e3
      subst e1 e3
      rw [ia72 (by omega)]
      rw [ia72 (by omega)]
      have e0 : ((i : Int).toNat) = i := by omega
      rw [e0]
      try simp only [↓len72, ↓ia72, ↓ld66, ↓rd66, ↓eqneq66_false, ↓GG, NN, Nat.reduceAdd]
      refine v_ldN hg hsz ?_
      try simp only [↓len72, ↓ia72, ↓ld66, ↓rd66, ↓eqneq66_false, ↓GG, NN, Nat.reduceAdd]
      refine v_ldN hg' hsz' ?_
      rw [hr, hr']
      simp only [slotCells]
      repeat (first
    | simp only [↓len72, ↓ia72, ↓ld66, ↓rd66, ↓eqneq66_false, ↓GG, NN, Nat.reduceAdd]
    | refine a_ld1 h ?_
    | refine a_ldN h ?_
    | refine a_rs1 h ?_
    | refine a_rsN h ?_
    | (refine u_draw h ?_; clear h; intro W h)
    | refine a_rd1 h ?_
    | refine a_rdN h ?_
    | (refine u_nr h ?_; clear h; intro b W h)
    | (refine u_bx h ?_; clear h; intro b W h)
    | (refine u_al h ?_; clear h; intro b W h)
    | (refine a_st h ?_; clear h; intro W h))
      by_cases hb : xs[i] = ys[i]'(by omega)
      · have d3 : (!(xs[i].1 == (ys[i]'(by omega)).1 && (xs[i].2 == (ys[i]'(by omega)).2 && true))) = false := by simp [hb]
        repeat (first
    | simp only [d3, ↓len72, ↓ia72, ↓ld66, ↓rd66, ↓eqneq66_false, ↓GG, NN, Nat.reduceAdd]
    | refine a_ld1 h ?_
    | refine a_ldN h ?_
    | refine a_rs1 h ?_
    | refine a_rsN h ?_
    | (refine u_draw h ?_; clear h; intro W h)
    | refine a_rd1 h ?_
    | refine a_rdN h ?_
    | (refine u_nr h ?_; clear h; intro b W h)
    | (refine u_bx h ?_; clear h; intro b W h)
    | (refine u_al h ?_; clear h; intro b W h)
    | (refine a_st h ?_; clear h; intro W h))
        rw [wrap_succ (by omega)]
        refine ⟨⟨i + 1, by omega, rfl, ?_, h⟩, ?_⟩
        · rw [List.take_succ_eq_append_getElem hlt, List.take_succ_eq_append_getElem (by omega), heq, hb]
        · simp only [vInt]
          omega
      · have d3 : (!(xs[i].1 == (ys[i]'(by omega)).1 && (xs[i].2 == (ys[i]'(by omega)).2 && true))) = true := by
          rw [Bool.not_eq_true']
          rw [Bool.eq_false_iff]
          intro hh
          simp only [Bool.and_eq_true, beq_iff_eq, and_true] at hh
          exact hb (Prod.ext hh.1 hh.2)
        repeat (first
    | simp only [d3, ↓len72, ↓ia72, ↓ld66, ↓rd66, ↓eqneq66_false, ↓GG, NN, Nat.reduceAdd]
    | refine a_ld1 h ?_
    | refine a_ldN h ?_
    | refine a_rs1 h ?_
    | refine a_rsN h ?_
    | (refine u_draw h ?_; clear h; intro W h)
    | refine a_rd1 h ?_
    | refine a_rdN h ?_
    | (refine u_nr h ?_; clear h; intro b W h)
    | (refine u_bx h ?_; clear h; intro b W h)
    | (refine u_al h ?_; clear h; intro b W h)
    | (refine a_st h ?_; clear h; intro W h))
        refine ⟨?_, h.subA⟩
        have : ¬ xs = ys := by rintro rfl; exact hb rfl
        simp [this]
    · have d2 : decide ((i : Int) < (xs.length : Int)) = false := by simp; omega
      have : i = xs.length := by omega
      subst this
      repeat (first
    | simp only [d2, ↓len72, ↓ia72, ↓ld66, ↓rd66, ↓eqneq66_false, ↓GG, NN, Nat.reduceAdd]
    | refine a_ld1 h ?_
    | refine a_ldN h ?_
    | refine a_rs1 h ?_
    | refine a_rsN h ?_
    | (refine u_draw h ?_; clear h; intro W h)
    | refine a_rd1 h ?_
    | refine a_rdN h ?_
    | (refine u_nr h ?_; clear h; intro b W h)
    | (refine u_bx h ?_; clear h; intro b W h)
    | (refine u_al h ?_; clear h; intro b W h)
    | (refine a_st h ?_; clear h; intro W h))
      refine ⟨?_, h.subA⟩
      rw [List.take_length, hl, List.take_length] at heq
      simp [heq]
  · have d1 : ((xs.length : Int) != (ys.length : Int)) = true := by simp; omega
    repeat (first
    | simp only [d1, ↓len72, ↓ia72, ↓ld66, ↓rd66, ↓eqneq66_false, ↓GG, NN, Nat.reduceAdd]
    | refine a_ld1 h ?_
    | refine a_ldN h ?_
    | refine a_rs1 h ?_
    | refine a_rsN h ?_
    | (refine u_draw h ?_; clear h; intro W h)
    | refine a_rd1 h ?_
    | refine a_rdN h ?_
    | (refine u_nr h ?_; clear h; intro b W h)
    | (refine u_bx h ?_; clear h; intro b W h)
    | (refine u_al h ?_; clear h; intro b W h)
    | (refine a_st h ?_; clear h; intro W h))
    refine ⟨?_, h⟩
    have : ¬ xs = ys := by rintro rfl; exact hl rfl
    simp [this]
end
end Go.Proofs.Ytpghhaobcikdhaa
