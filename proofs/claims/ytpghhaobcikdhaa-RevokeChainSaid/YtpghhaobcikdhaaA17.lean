/- Revoke: inner. -/
import Derived.Test.YtpghhaobcikdhaaA16
namespace Go.Proofs.Ytpghhaobcikdhaa
open Go Go.Hw
set_option linter.unusedSimpArgs false
set_option linter.unusedVariables false
set_option maxRecDepth 100000

theorem find_range {p : Slot → Bool} {f : Nat → Slot} {N i : Nat} (hi : i < N) (hno : ∀ j, j < i → p (f j) = false) (hp : p (f i) = true) : ((List.range N).map f).find? p = some (f i) := by
  rw [List.find?_map]
  have : (List.range N).find? (p ∘ f) = some i := by
    rw [List.find?_range_eq_some]
    exact ⟨hp, List.mem_range.2 hi, fun j hj => by simp [hno j hj]⟩
  rw [this]
  rfl
theorem find_range_none {p : Slot → Bool} {f : Nat → Slot} {N : Nat} (hno : ∀ j, j < N → p (f j) = false) : ((List.range N).map f).find? p = none := by
  rw [List.find?_eq_none]
  intro x hx
  obtain ⟨j, hj, rfl⟩ := List.mem_map.1 hx
  simp [hno j (List.mem_range.1 hj)]

def innerV : Option Slot → Value
  | some s => .tuple #[slotV s, .bool true]
  | none => .tuple #[slotV (0, 0), .bool false]

section
variable {w0 : World} {Γ Γ' : List Chunk} {W : World} {c s t k : Nat} {X : Caps} {σ : Store} {n : Int} {ts : List Cap}

theorem caps_wf (h : S w0 (capsC c X :: Γ) W) : X.s.Wf := by
  obtain ⟨s, t, h⟩ := caps_open h
  exact storeC_wf (h.take (.tail .head))

theorem Store.Wf.radix {σ : Store} (h : σ.Wf) (id : Int) : σ.radix id ≤ 4 := by
  unfold Store.radix
  cases hn : σ id with
  | none => simp
  | some m => exact (h id m hn).le

theorem kInner {node : Int} {x : Value} {but : List Slot} (hx : Kn Γ x 2 (but.flatMap slotCells) but.length) (hb : but.length ≤ 100000) (h : S w0 (takC k c n ts :: capsC c X :: Γ) W) :
    Calls Try.prog F_revoke_taker_inner #[.pointer (some ⟨k, 0, none⟩), .int .i64 node, x] W
    (Ret fun v W' => v = innerV (X.inner node but) ∧ S w0 (takC k c n ts :: capsC c X :: Γ) W') := by
  have hwf := caps_wf (h.take (.tail .head))
  have hr4 := hwf.radix node
  obtain ⟨tv, h⟩ := tak_open h
  obtain ⟨s, t, h'⟩ := caps_open (h.take (c := capsC c X) (by repeat (first | exact Take.head | apply Take.tail)))
  clear h
  have h := h'
  clear h'
  refine c_revoke_taker_inner ?_
  unfold h_revoke_taker_inner
  repeat (first
    | simp only [↓rs66, ↓al66, ↓fa143_0, ↓ld55, ↓rd55, ↓fa63_0, ↓fa60_0, ↓ld58, ↓rd58, ↓bd66_, ↓st66, ↓bd66_0_1, ↓ld66, ↓rd66, ↓fl68_0, ↓GG, NN, Nat.reduceAdd]
    | refine a_ld1 h ?_
    | refine a_ldN h ?_
    | refine a_rs1 h ?_
    | refine a_rsN h ?_
    | (refine u_draw h ?_; clear h; intro W h)
    | refine a_rd1 h ?_
    | refine a_rdN h ?_
    | (refine u_nr h ?_; clear h; intro b W h)
    | (refine u_bx h ?_; clear h; intro b W h)
    | (refine u_al h ?_; clear h; intro b W h)
    | (refine a_st h ?_; clear h; intro W h))
  obtain ⟨rb, hrb⟩ : ∃ x, x = b := ⟨_, rfl⟩
  subst hrb
  refine r_call (sRadix (id := node) (h.take (by repeat (first | exact Take.head | apply Take.tail)))) ?_
  clear h
  rintro v W ⟨rfl, h⟩
  by_cases hz : X.s.radix node = 0
  · have d1 : ((X.s.radix node : Int) == 0) = true := by simp [hz]
    repeat (first
    | simp only [d1, ↓rs66, ↓al66, ↓fa143_0, ↓ld55, ↓rd55, ↓fa63_0, ↓fa60_0, ↓ld58, ↓rd58, ↓bd66_, ↓st66, ↓bd66_0_1, ↓ld66, ↓rd66, ↓fl68_0, ↓GG, NN, Nat.reduceAdd]
    | refine a_ld1 h ?_
    | refine a_ldN h ?_
    | refine a_rs1 h ?_
    | refine a_rsN h ?_
    | (refine u_draw h ?_; clear h; intro W h)
    | refine a_rd1 h ?_
    | refine a_rdN h ?_
    | (refine u_nr h ?_; clear h; intro b W h)
    | (refine u_bx h ?_; clear h; intro b W h)
    | (refine u_al h ?_; clear h; intro b W h)
    | (refine a_st h ?_; clear h; intro W h))
    have h2 := caps_shut h (by repeat (first | exact Take.head | apply Take.tail)) (by repeat (first | exact Take.head | apply Take.tail)) (by repeat (first | exact Take.head | apply Take.tail))
    have h3 := tak_shut (ts := ts) h2 (by repeat (first | exact Take.head | apply Take.tail)) (by repeat (first | exact Take.head | apply Take.tail))
    refine ⟨?_, h3.subA⟩
    have : X.inner node but = none := by
      unfold Caps.inner
      exact find_range_none fun j _ => by simp [hz]
    rw [this]
    rfl
  · have d1 : ((X.s.radix node : Int) == 0) = false := by simp [hz]
    repeat (first
    | simp only [d1, ↓rs66, ↓al66, ↓fa143_0, ↓ld55, ↓rd55, ↓fa63_0, ↓fa60_0, ↓ld58, ↓rd58, ↓bd66_, ↓st66, ↓bd66_0_1, ↓ld66, ↓rd66, ↓fl68_0, ↓GG, NN, Nat.reduceAdd]
    | refine a_ld1 h ?_
    | refine a_ldN h ?_
    | refine a_rs1 h ?_
    | refine a_rsN h ?_
    | (refine u_draw h ?_; clear h; intro W h)
    | refine a_rd1 h ?_
    | refine a_rdN h ?_
    | (refine u_nr h ?_; clear h; intro b W h)
    | (refine u_bx h ?_; clear h; intro b W h)
    | (refine u_al h ?_; clear h; intro b W h)
    | (refine a_st h ?_; clear h; intro W h))
    rw [b_shl (by omega)]
    have hN : IntKind.i64.wrap (1 * 2 ^ (min (X.s.radix node : Int).toNat IntKind.i64.bits)) = ((2 ^ X.s.radix node : Nat) : Int) := by
      have : X.s.radix node = 0 ∨ X.s.radix node = 1 ∨ X.s.radix node = 2 ∨ X.s.radix node = 3 ∨ X.s.radix node = 4 := by omega
      rcases this with h | h | h | h | h <;> rw [h] <;> rfl
    rw [hN]
    have hN16 : 2 ^ X.s.radix node ≤ 16 := by
      have := Nat.pow_le_pow_right (n := 2) (by omega) hr4
      omega
    generalize hNN : 2 ^ X.s.radix node = N at hN16
    have h2 := caps_shut h (by repeat (first | exact Take.head | apply Take.tail)) (by repeat (first | exact Take.head | apply Take.tail)) (by repeat (first | exact Take.head | apply Take.tail))
    clear h
    have h := tak_shut (ts := ts) h2 (by repeat (first | exact Take.head | apply Take.tail)) (by repeat (first | exact Take.head | apply Take.tail))
    clear h2
    refine u_loop (fun s' w => ∃ i : Nat, i ≤ N ∧ s' = .int .i64 i ∧ (∀ j : Nat, j < i → (decide ((node, (j : Int)) ∉ but) && (X.s.geta (node, (j : Int))).1.kind != 0) = false) ∧
      S w0 (takC k c n ts :: capsC c X :: pts rb (.cells #[.int .i64 0, .int .i64 0] 66 (0, 0)) :: Γ) w) (fun s' _ => N - (vInt s').toNat) ⟨0, by omega, rfl, by simp, (S.get3 h (by repeat (first | exact Take.head | apply Take.tail)) (by repeat (first | exact Take.head | apply Take.tail)) (by repeat (first | exact Take.head | apply Take.tail))).subA⟩ ?_
    clear h
    rintro j iv W ⟨i, hi, hsv, hno, h⟩
    cases hsv
    by_cases hlt : i < N
    · have d2 : decide ((i : Int) < (N : Int)) = true := by simp; omega
      repeat (first
    | simp only [d2, ↓rs66, ↓al66, ↓fa143_0, ↓ld55, ↓rd55, ↓fa63_0, ↓fa60_0, ↓ld58, ↓rd58, ↓bd66_, ↓st66, ↓bd66_0_1, ↓ld66, ↓rd66, ↓fl68_0, ↓GG, NN, Nat.reduceAdd]
    | refine a_ld1 h ?_
    | refine a_ldN h ?_
    | refine a_rs1 h ?_
    | refine a_rsN h ?_
    | (refine u_draw h ?_; clear h; intro W h)
    | refine a_rd1 h ?_
    | refine a_rdN h ?_
    | (refine u_nr h ?_; clear h; intro b W h)
    | (refine u_bx h ?_; clear h; intro b W h)
    | (refine u_al h ?_; clear h; intro b W h)
    | (refine a_st h ?_; clear h; intro W h))
      refine r_call (Contains_slot_spec (p := (node, (i : Int))) (bs := but) h (by repeat (first | exact hx | apply Kn.tail)) (by omega)) ?_
      clear h
      rintro v W ⟨rfl, h⟩
      have d4 : IntKind.i64.wrap ((i : Int) + 1) = ((i + 1 : Nat) : Int) := by rw [wrap_succ (by omega)]
      have hstep : (decide ((node, (i : Int)) ∉ but) && (X.s.geta (node, (i : Int))).1.kind != 0) = false → ∀ j : Nat, j < i + 1 → (decide ((node, (j : Int)) ∉ but) && (X.s.geta (node, (j : Int))).1.kind != 0) = false := by
        intro h1 j hj
        by_cases hji : j = i
        · subst hji; exact h1
        · exact hno j (by omega)
      cases d5 : decide ((node, (i : Int)) ∈ but)
      · repeat (first
    | simp only [d5, ↓rs66, ↓al66, ↓fa143_0, ↓ld55, ↓rd55, ↓fa63_0, ↓fa60_0, ↓ld58, ↓rd58, ↓bd66_, ↓st66, ↓bd66_0_1, ↓ld66, ↓rd66, ↓fl68_0, ↓GG, NN, Nat.reduceAdd]
    | refine a_ld1 h ?_
    | refine a_ldN h ?_
    | refine a_rs1 h ?_
    | refine a_rsN h ?_
    | (refine u_draw h ?_; clear h; intro W h)
    | refine a_rd1 h ?_
    | refine a_rdN h ?_
    | (refine u_nr h ?_; clear h; intro b W h)
    | (refine u_bx h ?_; clear h; intro b W h)
    | (refine u_al h ?_; clear h; intro b W h)
    | (refine a_st h ?_; clear h; intro W h))
        refine r_call (kGet (sa := (node, (i : Int))) (S.get2 (c1 := takC k c n ts) (c2 := capsC c X) h (by repeat (first | exact Take.head | apply Take.tail)) (by repeat (first | exact Take.head | apply Take.tail)))) ?_
        clear h
        rintro v W ⟨rfl, h⟩
        simp only [Cap.v]
        cases d6 : (X.s.geta (node, (i : Int))).1.kind != 0
        · repeat (first
    | simp only [d5, d6, d4, ↓rs66, ↓al66, ↓fa143_0, ↓ld55, ↓rd55, ↓fa63_0, ↓fa60_0, ↓ld58, ↓rd58, ↓bd66_, ↓st66, ↓bd66_0_1, ↓ld66, ↓rd66, ↓fl68_0, ↓GG, NN, Nat.reduceAdd]
    | refine a_ld1 h ?_
    | refine a_ldN h ?_
    | refine a_rs1 h ?_
    | refine a_rsN h ?_
    | (refine u_draw h ?_; clear h; intro W h)
    | refine a_rd1 h ?_
    | refine a_rdN h ?_
    | (refine u_nr h ?_; clear h; intro b W h)
    | (refine u_bx h ?_; clear h; intro b W h)
    | (refine u_al h ?_; clear h; intro b W h)
    | (refine a_st h ?_; clear h; intro W h))
          refine ⟨⟨i + 1, by omega, rfl, hstep (by rw [d6]; simp), (S.get3 (c1 := takC k c n ts) (c2 := capsC c X) (c3 := pts rb (.cells #[.int .i64 0, .int .i64 0] 66 (0, 0))) h (by repeat (first | exact Take.head | apply Take.tail)) (by repeat (first | exact Take.head | apply Take.tail)) (by repeat (first | exact Take.head | apply Take.tail))).subA⟩, ?_⟩
          simp only [vInt]
          omega
        · repeat (first
    | simp only [d5, d6, ↓rs66, ↓al66, ↓fa143_0, ↓ld55, ↓rd55, ↓fa63_0, ↓fa60_0, ↓ld58, ↓rd58, ↓bd66_, ↓st66, ↓bd66_0_1, ↓ld66, ↓rd66, ↓fl68_0, ↓GG, NN, Nat.reduceAdd]
    | refine a_ld1 h ?_
    | refine a_ldN h ?_
    | refine a_rs1 h ?_
    | refine a_rsN h ?_
    | (refine u_draw h ?_; clear h; intro W h)
    | refine a_rd1 h ?_
    | refine a_rdN h ?_
    | (refine u_nr h ?_; clear h; intro b W h)
    | (refine u_bx h ?_; clear h; intro b W h)
    | (refine u_al h ?_; clear h; intro b W h)
    | (refine a_st h ?_; clear h; intro W h))
          refine ⟨?_, h.subA⟩
          have hni : (node, (i : Int)) ∉ but := by simpa using d5
          have : X.inner node but = some (node, (i : Int)) := by
            unfold Caps.inner
            rw [hNN]
            exact find_range (f := fun i : Nat => (node, (i : Int))) hlt (fun j hj => by rw [hno j hj]; simp) (by simp only [hz, hni, d6, ne_eq, not_false_eq_true, decide_true, Bool.true_and])
          rw [this]
          simp [innerV, slotV, putL, Value.cells]
      · repeat (first
    | simp only [d5, d4, ↓rs66, ↓al66, ↓fa143_0, ↓ld55, ↓rd55, ↓fa63_0, ↓fa60_0, ↓ld58, ↓rd58, ↓bd66_, ↓st66, ↓bd66_0_1, ↓ld66, ↓rd66, ↓fl68_0, ↓GG, NN, Nat.reduceAdd]
    | refine a_ld1 h ?_
    | refine a_ldN h ?_
    | refine a_rs1 h ?_
    | refine a_rsN h ?_
    | (refine u_draw h ?_; clear h; intro W h)
    | refine a_rd1 h ?_
    | refine a_rdN h ?_
    | (refine u_nr h ?_; clear h; intro b W h)
    | (refine u_bx h ?_; clear h; intro b W h)
    | (refine u_al h ?_; clear h; intro b W h)
    | (refine a_st h ?_; clear h; intro W h))
        refine ⟨⟨i + 1, by omega, rfl, hstep (by simp only [decide_eq_true_eq] at d5; simp [d5]), (S.get3 (c1 := takC k c n ts) (c2 := capsC c X) (c3 := pts rb (.cells #[.int .i64 0, .int .i64 0] 66 (0, 0))) h (by repeat (first | exact Take.head | apply Take.tail)) (by repeat (first | exact Take.head | apply Take.tail)) (by repeat (first | exact Take.head | apply Take.tail))).subA⟩, ?_⟩
        simp only [vInt]
        omega
    · have d2 : decide ((i : Int) < (N : Int)) = false := by simp; omega
      have : i = N := by omega
      subst this
      repeat (first
    | simp only [d2, ↓rs66, ↓al66, ↓fa143_0, ↓ld55, ↓rd55, ↓fa63_0, ↓fa60_0, ↓ld58, ↓rd58, ↓bd66_, ↓st66, ↓bd66_0_1, ↓ld66, ↓rd66, ↓fl68_0, ↓GG, NN, Nat.reduceAdd]
    | refine a_ld1 h ?_
    | refine a_ldN h ?_
    | refine a_rs1 h ?_
    | refine a_rsN h ?_
    | (refine u_draw h ?_; clear h; intro W h)
    | refine a_rd1 h ?_
    | refine a_rdN h ?_
    | (refine u_nr h ?_; clear h; intro b W h)
    | (refine u_bx h ?_; clear h; intro b W h)
    | (refine u_al h ?_; clear h; intro b W h)
    | (refine a_st h ?_; clear h; intro W h))
      refine ⟨?_, h.subA⟩
      have : X.inner node but = none := by
        unfold Caps.inner
        rw [hNN]
        exact find_range_none fun j hj => by rw [hno j hj]; simp
      rw [this]
      rfl
end
end Go.Proofs.Ytpghhaobcikdhaa
