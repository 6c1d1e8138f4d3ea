/- Slices of knots and of slots: Clone, Grow, Concat, Index, Contains. -/
import Derived.Test.YtpghhaobcikdhaaA6
import Derived.LaidEqlPtr
namespace Go.Proofs.Ytpghhaobcikdhaa
open Go Go.Hw
set_option linter.unusedSimpArgs false
set_option linter.unusedVariables false
set_option maxRecDepth 100000

def ptrV (b : Nat) : Value := .pointer (some ⟨b, 0, none⟩)
def ptrC (b : Nat) : List Value := [ptrV b]
abbrev knotsC (v : Value) (bs : List Nat) : Chunk := slc T_p_tree_knot 1 v bs.length (bs.flatMap ptrC)

theorem ptrC_len (b : Nat) : (ptrC b).length = 1 := rfl
theorem ptrC_one (bs : List Nat) : (bs.flatMap ptrC).all Value.oneCell' = true := by
  rw [List.all_eq_true]
  intro x hx
  obtain ⟨b, _, hb⟩ := List.mem_flatMap.1 hx
  simp only [ptrC, List.mem_singleton] at hb
  rw [hb]
  rfl
theorem slotCells_one (l : List Slot) : (l.flatMap slotCells).all Value.oneCell' = true := by
  rw [List.all_eq_true]
  intro x hx
  obtain ⟨b, _, hb⟩ := List.mem_flatMap.1 hx
  simp only [slotCells, List.mem_cons, List.not_mem_nil, or_false] at hb
  rcases hb with rfl | rfl <;> rfl

section
variable {w0 : World} {Γ Γ' : List Chunk} {W : World}

theorem Clone_knot_spec {x : Value} {bs : List Nat} (h : S w0 Γ W) (hx : Kn Γ x 1 (bs.flatMap ptrC) bs.length) (hn : bs.length ≤ 1000000) :
    Calls Try.prog F_slices_Clone_tree_knot #[x] W (Ret fun v W' => S w0 (knotsC v bs :: Γ) W') := by
  refine c_slices_Clone_tree_knot ?_
  unfold h_slices_Clone_tree_knot
  have hx' := hx
  rcases hx with ⟨rfl, h0, hl⟩ | ⟨b, off, c', T, fr, cap, rfl, hb, hin, ht, hc⟩
  · repeat (first
    | simp only [↓eqeql190_n, ↓eqeql190_s, ↓bs190_0_, ↓ap190, ↓GG, NN, Nat.reduceAdd]
    | refine a_ld1 h ?_
    | refine a_ldN h ?_
    | refine a_rs1 h ?_
    | refine a_rsN h ?_
    | (refine u_draw h ?_; clear h; intro W h)
    | refine a_rd1 h ?_
    | refine a_rdN h ?_
    | (refine u_nr h ?_; clear h; intro b W h)
    | (refine u_bx h ?_; clear h; intro b W h)
    | (refine u_al h ?_; clear h; intro b W h)
    | (refine a_st h ?_; clear h; intro W h))
    have : bs = [] := List.eq_nil_of_length_eq_zero h0
    subst this
    exact S.nilSlice _ _ h
  · repeat (first
    | simp only [↓eqeql190_n, ↓eqeql190_s, ↓bs190_0_, ↓ap190, ↓GG, NN, Nat.reduceAdd]
    | refine a_ld1 h ?_
    | refine a_ldN h ?_
    | refine a_rs1 h ?_
    | refine a_rsN h ?_
    | (refine u_draw h ?_; clear h; intro W h)
    | refine a_rd1 h ?_
    | refine a_rdN h ?_
    | (refine u_nr h ?_; clear h; intro b W h)
    | (refine u_bx h ?_; clear h; intro b W h)
    | (refine u_al h ?_; clear h; intro b W h)
    | (refine a_st h ?_; clear h; intro W h))
    have h2 := h.toSlc (n := 0) (cap := 0) (size := 1) (Nat.le_refl _) (by decide) (by rfl)
    refine u_apK h2 .head (hx'.tail) (ptrC_one bs) (by omega) (by decide) ?_
    intro v W h
    have e : ([].toArray.toList.take (0 * 1)) ++ bs.flatMap ptrC = bs.flatMap ptrC := by simp
    rw [show 0 + bs.length = bs.length by omega] at h
    simp only [List.toList_toArray, List.take_nil, List.nil_append] at h
    exact h.subA

theorem Clone_slot_spec {x : Value} {bs : List Slot} (h : S w0 Γ W) (hx : Kn Γ x 2 (bs.flatMap slotCells) bs.length) (hn : bs.length ≤ 1000000) :
    Calls Try.prog F_slices_Clone_api_Slot #[x] W (Ret fun v W' => S w0 (slotsC v bs :: Γ) W') := by
  refine c_slices_Clone_api_Slot ?_
  unfold h_slices_Clone_api_Slot
  have hx' := hx
  rcases hx with ⟨rfl, h0, hl⟩ | ⟨b, off, c', T, fr, cap, rfl, hb, hin, ht, hc⟩
  · repeat (first
    | simp only [↓eqeql72_n, ↓eqeql72_s, ↓bs72_0_, ↓ap72, ↓GG, NN, Nat.reduceAdd]
    | refine a_ld1 h ?_
    | refine a_ldN h ?_
    | refine a_rs1 h ?_
    | refine a_rsN h ?_
    | (refine u_draw h ?_; clear h; intro W h)
    | refine a_rd1 h ?_
    | refine a_rdN h ?_
    | (refine u_nr h ?_; clear h; intro b W h)
    | (refine u_bx h ?_; clear h; intro b W h)
    | (refine u_al h ?_; clear h; intro b W h)
    | (refine a_st h ?_; clear h; intro W h))
    have : bs = [] := List.eq_nil_of_length_eq_zero h0
    subst this
    exact S.nilSlice _ _ h
  · repeat (first
    | simp only [↓eqeql72_n, ↓eqeql72_s, ↓bs72_0_, ↓ap72, ↓GG, NN, Nat.reduceAdd]
    | refine a_ld1 h ?_
    | refine a_ldN h ?_
    | refine a_rs1 h ?_
    | refine a_rsN h ?_
    | (refine u_draw h ?_; clear h; intro W h)
    | refine a_rd1 h ?_
    | refine a_rdN h ?_
    | (refine u_nr h ?_; clear h; intro b W h)
    | (refine u_bx h ?_; clear h; intro b W h)
    | (refine u_al h ?_; clear h; intro b W h)
    | (refine a_st h ?_; clear h; intro W h))
    have h2 := h.toSlc (n := 0) (cap := 0) (size := 2) (Nat.le_refl _) (by decide) (by rfl)
    refine u_apK h2 .head (hx'.tail) (slotCells_one bs) (by omega) (by decide) ?_
    intro v W h
    rw [show 0 + bs.length = bs.length by omega] at h
    simp only [List.toList_toArray, List.take_nil, List.nil_append] at h
    exact h.subA

theorem Grow_knot_spec {n : Nat} (h : S w0 Γ W) (hn : n ≤ 1000000) :
    Calls Try.prog F_slices_Grow_tree_knot #[.slice none 0 0, .int .i64 n] W (Ret fun v W' => S w0 (knotsC v [] :: Γ) W') := by
  refine c_slices_Grow_tree_knot ?_
  unfold h_slices_Grow_tree_knot
  have d0 : decide ((n : Int) < 0) = false := by simp
  have d1 : IntKind.i64.wrap (((0 : Nat) : Int) - ((0 : Nat) : Int)) = 0 := by decide
  have d2 : IntKind.i64.wrap ((n : Int) - 0) = n := by rw [Int.sub_zero]; exact wrap_i64 (by omega)
  repeat (first
    | simp only [d0, d1, d2, ↓mi9, ↓cap190, ↓len190, ↓GG, NN, Nat.reduceAdd]
    | refine a_ld1 h ?_
    | refine a_ldN h ?_
    | refine a_rs1 h ?_
    | refine a_rsN h ?_
    | (refine u_draw h ?_; clear h; intro W h)
    | refine a_rd1 h ?_
    | refine a_rdN h ?_
    | (refine u_nr h ?_; clear h; intro b W h)
    | (refine u_bx h ?_; clear h; intro b W h)
    | (refine u_al h ?_; clear h; intro b W h)
    | (refine a_st h ?_; clear h; intro W h)
    | refine oJoin_inl ?_)
  by_cases hz : n = 0
  · subst hz
    have d3 : decide (((0 : Nat) : Int) > 0) = false := by decide
    repeat (first
    | simp only [d3, ↓mi9, ↓cap190, ↓len190, ↓GG, NN, Nat.reduceAdd]
    | refine a_ld1 h ?_
    | refine a_ldN h ?_
    | refine a_rs1 h ?_
    | refine a_rsN h ?_
    | (refine u_draw h ?_; clear h; intro W h)
    | refine a_rd1 h ?_
    | refine a_rdN h ?_
    | (refine u_nr h ?_; clear h; intro b W h)
    | (refine u_bx h ?_; clear h; intro b W h)
    | (refine u_al h ?_; clear h; intro b W h)
    | (refine a_st h ?_; clear h; intro W h))
    exact S.nilSlice _ _ h
  · have d3 : decide ((n : Int) > 0) = true := by simp; omega
    repeat (first
    | simp only [d3, ↓mi9, ↓cap190, ↓len190, ↓GG, NN, Nat.reduceAdd]
    | refine a_ld1 h ?_
    | refine a_ldN h ?_
    | refine a_rs1 h ?_
    | refine a_rsN h ?_
    | (refine u_draw h ?_; clear h; intro W h)
    | refine a_rd1 h ?_
    | refine a_rdN h ?_
    | (refine u_nr h ?_; clear h; intro b W h)
    | (refine u_bx h ?_; clear h; intro b W h)
    | (refine u_al h ?_; clear h; intro b W h)
    | (refine a_st h ?_; clear h; intro W h))
    rw [sl_hi_n (e := 189) (n := 1) (by kernel_rfl) (by kernel_rfl) (by omega)]
    simp only [Int.toNat_natCast]
    cases hi : Try.prog.info? 189 with
    | none => exact absurd hi (by have : (Try.prog.info? 189).isSome = true := by kernel_rfl
                                  intro hh; rw [hh] at this; cases this)
    | some i =>
      have hz1 : (Try.prog.info? 189).map (fun i => (i.size, i.bytes, i.zero.map (·.cells.size))) = some (1, 8, some 1) := by kernel_rfl
      rw [hi] at hz1
      simp only [Option.map_some, Option.some.injEq, Prod.mk.injEq] at hz1
      obtain ⟨e1, e2, e3⟩ := hz1
      cases hzz : i.zero with
      | none => rw [hzz] at e3; cases e3
      | some z =>
        rw [hzz] at e3
        simp only [Option.map_some, Option.some.injEq] at e3
        rw [oV_run (Go.Lib.run_append_nil_zeros W 190 3 190 189 i z .i64 .i64 (by kernel_rfl) (by kernel_rfl) hi hzz n (by omega) (by omega) (by omega) (by rw [e2]; omega))]
        have h2 := (h.drew).alloc (.cells (Builtin.zeroCells z.cells n ++ Builtin.zeroCells z.cells (grownCap W n 0 189 - n)) 189)
        have hge := grownCap_ge W n 0 189
        repeat (first
    | simp only [↓mi9, ↓cap190, ↓len190, ↓GG, NN, Nat.reduceAdd]
    | refine a_ld1 h ?_
    | refine a_ldN h ?_
    | refine a_rs1 h ?_
    | refine a_rsN h ?_
    | (refine u_draw h ?_; clear h; intro W h)
    | refine a_rd1 h ?_
    | refine a_rdN h ?_
    | (refine u_nr h ?_; clear h; intro b W h)
    | (refine u_bx h ?_; clear h; intro b W h)
    | (refine u_al h ?_; clear h; intro b W h)
    | (refine a_st h ?_; clear h; intro W h))
        rw [sl_hi_s (e := 189) (n := 1) (by kernel_rfl) (by kernel_rfl) (by omega)]
        have h3 := h2.toSlc (n := 0) (cap := grownCap W n 0 189) (size := 1) (by omega) (grownCap_le_maxLen W n 0 189 (by unfold maxLen; omega))
          (by simp only [Array.size_append, size_zeroCells, e3]; omega)
        show S w0 (knotsC _ [] :: Γ) _
        rw [Nat.zero_mul, List.take_zero] at h3
        exact h3

/-- what Concat is handed: slices, with what they read as -/
def argsLen (l : List (Value × List Nat)) : Nat := (l.map fun a => a.2.length).sum
def argsAll (l : List (Value × List Nat)) : List Nat := l.flatMap (·.2)
theorem argsAll_len (l : List (Value × List Nat)) : (argsAll l).length = argsLen l := by
  unfold argsAll argsLen
  rw [List.length_flatMap]
theorem argsLen_take (l : List (Value × List Nat)) (i : Nat) (h : i < l.length) : argsLen (l.take (i + 1)) = argsLen (l.take i) + l[i].2.length := by
  unfold argsLen
  rw [List.take_succ_eq_append_getElem h, List.map_append, List.sum_append, List.map_cons, List.map_nil, List.sum_cons, List.sum_nil, Nat.add_zero]
theorem argsAll_take (l : List (Value × List Nat)) (i : Nat) (h : i < l.length) : argsAll (l.take (i + 1)) = argsAll (l.take i) ++ l[i].2 := by
  unfold argsAll
  rw [List.take_succ_eq_append_getElem h, List.flatMap_append, List.flatMap_cons, List.flatMap_nil, List.append_nil]
theorem argsLen_le (l : List (Value × List Nat)) (i : Nat) : argsLen (l.take i) ≤ argsLen l := by
  have : argsLen l = argsLen (l.take i) + argsLen (l.drop i) := by
    conv => lhs; rw [← List.take_append_drop i l]
    unfold argsLen
    rw [List.map_append, List.sum_append]
  omega

theorem Concat_knot_spec {g m : Nat} {args : List (Value × List Nat)} {T : TypeId} {fr : Nat × Nat} (h : S w0 Γ W) (hg : Knows Γ g (.cells (args.map (·.1)).toArray T fr)) (hm : m = args.length)
    (ha : ∀ a ∈ args, Kn Γ a.1 1 (a.2.flatMap ptrC) a.2.length) (hn : argsLen args ≤ 1000000) (hm2 : m ≤ 1000000) :
    Calls Try.prog F_slices_Concat_tree_knot #[.slice (some ⟨g, 0, none⟩) m m] W (Ret fun v W' => S w0 (knotsC v (argsAll args) :: Γ) W') := by
  subst hm
  refine c_slices_Concat_tree_knot ?_
  unfold h_slices_Concat_tree_knot
  repeat (first
    | simp only [↓len238, ↓ia238, ↓ld190, ↓rd190, ↓len190, ↓mi9, ↓ap190, ↓GG, NN, Nat.reduceAdd]
    | refine a_ld1 h ?_
    | refine a_ldN h ?_
    | refine a_rs1 h ?_
    | refine a_rsN h ?_
    | (refine u_draw h ?_; clear h; intro W h)
    | refine a_rd1 h ?_
    | refine a_rdN h ?_
    | (refine u_nr h ?_; clear h; intro b W h)
    | (refine u_bx h ?_; clear h; intro b W h)
    | (refine u_al h ?_; clear h; intro b W h)
    | (refine a_st h ?_; clear h; intro W h))
  refine u_loop (fun s' w => ∃ i : Nat, i ≤ args.length ∧ s' = (.int .i64 (argsLen (args.take i)), .int .i64 i) ∧ S w0 Γ w)
    (fun s' _ => args.length - (vInt s'.2).toNat) ⟨0, by omega, rfl, h⟩ ?_
  clear h
  rintro j ⟨cv, iv⟩ W ⟨i, hi, hs, h⟩
  cases hs
  by_cases hlt : i < args.length
  · have d1 : decide ((i : Int) < (args.length : Int)) = true := by simp; omega
    have hk := ha _ (List.getElem_mem hlt)
    obtain ⟨a, c, hv⟩ := hk.shape
    have hle := argsLen_le args i
    have hle2 := argsLen_le args (i + 1)
    have e1 := argsLen_take args i hlt
    have d2 : IntKind.i64.wrap ((argsLen (args.take i) : Int) + (args[i].2.length : Int)) = (argsLen (args.take (i + 1)) : Int) := by
      rw [e1]
      exact wrap_i64 (by omega)
    have d3 : decide ((argsLen (args.take (i + 1)) : Int) < 0) = false := by simp
    have d4 : IntKind.i64.wrap ((i : Int) + 1) = ((i + 1 : Nat) : Int) := by rw [wrap_succ (by omega)]
    repeat (first
    | simp only [d1, d2, d3, d4, ↓len238, ↓ia238, ↓ld190, ↓rd190, ↓len190, ↓mi9, ↓ap190, ↓GG, NN, Nat.reduceAdd]
    | refine a_ld1 h ?_
    | refine a_ldN h ?_
    | refine a_rs1 h ?_
    | refine a_rsN h ?_
    | (refine u_draw h ?_; clear h; intro W h)
    | refine a_rd1 h ?_
    | refine a_rdN h ?_
    | (refine u_nr h ?_; clear h; intro b W h)
    | (refine u_bx h ?_; clear h; intro b W h)
    | (refine u_al h ?_; clear h; intro b W h)
    | (refine a_st h ?_; clear h; intro W h)
    | refine oJoin_inl ?_)
    rw [ia238 (by omega)]
    refine u_ld1 (v := args[i].1) h hg (by simp [hlt]) ?_
    rw [hv]
    repeat (first
    | simp only [d1, d2, d3, d4, ↓len238, ↓ia238, ↓ld190, ↓rd190, ↓len190, ↓mi9, ↓ap190, ↓GG, NN, Nat.reduceAdd]
    | refine a_ld1 h ?_
    | refine a_ldN h ?_
    | refine a_rs1 h ?_
    | refine a_rsN h ?_
    | (refine u_draw h ?_; clear h; intro W h)
    | refine a_rd1 h ?_
    | refine a_rdN h ?_
    | (refine u_nr h ?_; clear h; intro b W h)
    | (refine u_bx h ?_; clear h; intro b W h)
    | (refine u_al h ?_; clear h; intro b W h)
    | (refine a_st h ?_; clear h; intro W h)
    | refine oJoin_inl ?_)
    refine ⟨⟨i + 1, by omega, rfl, h⟩, ?_⟩
    simp only [vInt]
    omega
  · have d1 : decide ((i : Int) < (args.length : Int)) = false := by simp; omega
    have : i = args.length := by omega
    subst this
    rw [List.take_length]
    repeat (first
    | simp only [d1, ↓len238, ↓ia238, ↓ld190, ↓rd190, ↓len190, ↓mi9, ↓ap190, ↓GG, NN, Nat.reduceAdd]
    | refine a_ld1 h ?_
    | refine a_ldN h ?_
    | refine a_rs1 h ?_
    | refine a_rsN h ?_
    | (refine u_draw h ?_; clear h; intro W h)
    | refine a_rd1 h ?_
    | refine a_rdN h ?_
    | (refine u_nr h ?_; clear h; intro b W h)
    | (refine u_bx h ?_; clear h; intro b W h)
    | (refine u_al h ?_; clear h; intro b W h)
    | (refine a_st h ?_; clear h; intro W h))
    refine r_call (Grow_knot_spec h hn) ?_
    clear h
    intro gv W h
    repeat (first
    | simp only [↓len238, ↓ia238, ↓ld190, ↓rd190, ↓len190, ↓mi9, ↓ap190, ↓GG, NN, Nat.reduceAdd]
    | refine a_ld1 h ?_
    | refine a_ldN h ?_
    | refine a_rs1 h ?_
    | refine a_rsN h ?_
    | (refine u_draw h ?_; clear h; intro W h)
    | refine a_rd1 h ?_
    | refine a_rdN h ?_
    | (refine u_nr h ?_; clear h; intro b W h)
    | (refine u_bx h ?_; clear h; intro b W h)
    | (refine u_al h ?_; clear h; intro b W h)
    | (refine a_st h ?_; clear h; intro W h))
    refine u_loop (fun s' w => ∃ i : Nat, i ≤ args.length ∧ s'.2 = .int .i64 i ∧ S w0 (knotsC s'.1 (argsAll (args.take i)) :: Γ) w)
      (fun s' _ => args.length - (vInt s'.2).toNat) ⟨0, by omega, rfl, h⟩ ?_
    clear h
    rintro j ⟨lv, iv⟩ W ⟨i, hi, rfl, h⟩
    by_cases hlt : i < args.length
    · have d1 : decide ((i : Int) < (args.length : Int)) = true := by simp; omega
      have hk := ha _ (List.getElem_mem hlt)
      have hle2 := argsLen_le args (i + 1)
      have e1 := argsLen_take args i hlt
      have e2 := argsAll_take args i hlt
      have d4 : IntKind.i64.wrap ((i : Int) + 1) = ((i + 1 : Nat) : Int) := by rw [wrap_succ (by omega)]
      repeat (first
    | simp only [d1, ↓len238, ↓ia238, ↓ld190, ↓rd190, ↓len190, ↓mi9, ↓ap190, ↓GG, NN, Nat.reduceAdd]
    | refine a_ld1 h ?_
    | refine a_ldN h ?_
    | refine a_rs1 h ?_
    | refine a_rsN h ?_
    | (refine u_draw h ?_; clear h; intro W h)
    | refine a_rd1 h ?_
    | refine a_rdN h ?_
    | (refine u_nr h ?_; clear h; intro b W h)
    | (refine u_bx h ?_; clear h; intro b W h)
    | (refine u_al h ?_; clear h; intro b W h)
    | (refine a_st h ?_; clear h; intro W h))
      rw [ia238 (by omega)]
      refine u_ld1 (v := args[i].1) h hg.tail (by simp [hlt]) ?_
      repeat (first
    | simp only [d1, ↓len238, ↓ia238, ↓ld190, ↓rd190, ↓len190, ↓mi9, ↓ap190, ↓GG, NN, Nat.reduceAdd]
    | refine a_ld1 h ?_
    | refine a_ldN h ?_
    | refine a_rs1 h ?_
    | refine a_rsN h ?_
    | (refine u_draw h ?_; clear h; intro W h)
    | refine a_rd1 h ?_
    | refine a_rdN h ?_
    | (refine u_nr h ?_; clear h; intro b W h)
    | (refine u_bx h ?_; clear h; intro b W h)
    | (refine u_al h ?_; clear h; intro b W h)
    | (refine a_st h ?_; clear h; intro W h))
      refine u_apK h .head hk.tail (ptrC_one _) (by rw [argsAll_len]; omega) (by decide) ?_
      clear h
      intro v W h
      repeat (first
    | simp only [d4, ↓len238, ↓ia238, ↓ld190, ↓rd190, ↓len190, ↓mi9, ↓ap190, ↓GG, NN, Nat.reduceAdd]
    | refine a_ld1 h ?_
    | refine a_ldN h ?_
    | refine a_rs1 h ?_
    | refine a_rsN h ?_
    | (refine u_draw h ?_; clear h; intro W h)
    | refine a_rd1 h ?_
    | refine a_rdN h ?_
    | (refine u_nr h ?_; clear h; intro b W h)
    | (refine u_bx h ?_; clear h; intro b W h)
    | (refine u_al h ?_; clear h; intro b W h)
    | (refine a_st h ?_; clear h; intro W h))
      refine ⟨⟨i + 1, by omega, rfl, ?_⟩, ?_⟩
      · rw [e2]
        have := h
        rw [← List.flatMap_append, ← List.length_append] at this
        exact this
      · simp only [vInt]
        omega
    · have d1 : decide ((i : Int) < (args.length : Int)) = false := by simp; omega
      have : i = args.length := by omega
      subst this
      rw [List.take_length] at h
      repeat (first
    | simp only [d1, ↓len238, ↓ia238, ↓ld190, ↓rd190, ↓len190, ↓mi9, ↓ap190, ↓GG, NN, Nat.reduceAdd]
    | refine a_ld1 h ?_
    | refine a_ldN h ?_
    | refine a_rs1 h ?_
    | refine a_rsN h ?_
    | (refine u_draw h ?_; clear h; intro W h)
    | refine a_rd1 h ?_
    | refine a_rdN h ?_
    | (refine u_nr h ?_; clear h; intro b W h)
    | (refine u_bx h ?_; clear h; intro b W h)
    | (refine u_al h ?_; clear h; intro b W h)
    | (refine a_st h ?_; clear h; intro W h))
      exact h

theorem info189 : ∃ i, Try.prog.info? 193 = some i ∧ i.size ≠ 0 := by
  cases hi : Try.prog.info? 193 with
  | none => exact absurd hi (by have : (Try.prog.info? 193).isSome = true := by kernel_rfl
                                intro hh; rw [hh] at this; cases this)
  | some i =>
    refine ⟨i, rfl, fun h0 => ?_⟩
    have : (Try.prog.info? 193).map (·.size) = some 4 := by kernel_rfl
    rw [hi] at this
    simp only [Option.map_some, Option.some.injEq] at this
    omega

theorem eq_ptr {a b : Nat} {ca cb : Array Value} {ta tb : TypeId} (ha : W.heap[a]? = some (.cells ca ta (0, 0))) (hb : W.heap[b]? = some (.cells cb tb (0, 0))) :
    (bsem .eql 189 false (ptrV a) (ptrV b)).run Try.prog W = .ok (.bool (decide (a = b))) W := by
  obtain ⟨i, hi, hs⟩ := info189
  have e : (bsem .eql 189 false (ptrV a) (ptrV b)).run Try.prog W = (binOp .eql 189 (ptrV a) (ptrV b)).run Try.prog W := rfl
  rw [e]
  by_cases hab : a = b
  · subst hab
    rw [decide_eq_true rfl]
    exact run_eql_ptr_same W _ (by kernel_rfl) hi
  · rw [decide_eq_false hab]
    exact run_eql_ptr_other W (by kernel_rfl) hi hs (fun h => hab (by injection h)) ha hb

theorem Index_knot_spec {x : Value} {b : Nat} {bs : List Nat} (h : S w0 Γ W) (hx : Kn Γ x 1 (bs.flatMap ptrC) bs.length) (hn : bs.length ≤ 1000000)
    (hcell : ∀ w, S w0 Γ w → ∀ y ∈ b :: bs, ∃ c T, w.heap[y]? = some (.cells c T (0, 0))) :
    Calls Try.prog F_slices_Index_tree_knot #[x, ptrV b] W (Ret fun v W' => v = .int .i64 (if b ∈ bs then bs.idxOf b else -1) ∧ S w0 Γ W') := by
  refine c_slices_Index_tree_knot ?_
  unfold h_slices_Index_tree_knot
  obtain ⟨a, cap, rfl⟩ := hx.shape
  repeat (first
    | simp only [↓len190, ↓ia190, ↓ld189, ↓rd189, ↓GG, NN, Nat.reduceAdd]
    | refine a_ld1 h ?_
    | refine a_ldN h ?_
    | refine a_rs1 h ?_
    | refine a_rsN h ?_
    | (refine u_draw h ?_; clear h; intro W h)
    | refine a_rd1 h ?_
    | refine a_rdN h ?_
    | (refine u_nr h ?_; clear h; intro b W h)
    | (refine u_bx h ?_; clear h; intro b W h)
    | (refine u_al h ?_; clear h; intro b W h)
    | (refine a_st h ?_; clear h; intro W h))
  refine u_loop (fun s' w => ∃ i : Nat, i ≤ bs.length ∧ s' = .int .i64 i ∧ b ∉ bs.take i ∧ S w0 Γ w) (fun s' _ => bs.length - (vInt s').toNat) ⟨0, by omega, rfl, by simp, h⟩ ?_
  clear h
  rintro j iv W ⟨i, hi, hs, hnot, h⟩
  cases hs
  by_cases hlt : i < bs.length
  · have d1 : decide ((i : Int) < (bs.length : Int)) = true := by simp; omega
    obtain ⟨g, off, cap', cur, T, fr, hv, hg, hr, hsz⟩ := Kn.read ptrC_len h hx hlt
    injection hv with e1 e2 e3
    subst e1 e3
    repeat (first
    | simp only [d1, ↓len190, ↓ia190, ↓ld189, ↓rd189, ↓GG, NN, Nat.reduceAdd]
    | refine a_ld1 h ?_
    | refine a_ldN h ?_
    | refine a_rs1 h ?_
    | refine a_rsN h ?_
    | (refine u_draw h ?_; clear h; intro W h)
    | refine a_rd1 h ?_
    | refine a_rdN h ?_
    | (refine u_nr h ?_; clear h; intro b W h)
    | (refine u_bx h ?_; clear h; intro b W h)
    | (refine u_al h ?_; clear h; intro b W h)
    | (refine a_st h ?_; clear h; intro W h))
    rw [ia190 (by omega)]
    refine v_ld1 (v := ptrV bs[i]) hg ?_ ?_
    · have := congrArg (fun l : List Value => l[0]?) hr
      simp only [List.getElem?_take, List.getElem?_drop] at this
      simpa [ptrC] using this
    · obtain ⟨c1, T1, k1⟩ := hcell _ h b (List.mem_cons_self ..)
      obtain ⟨c2, T2, k2⟩ := hcell _ h bs[i] (List.mem_cons_of_mem _ (List.getElem_mem hlt))
      rw [oV_run (eq_ptr k1 k2)]
      by_cases hb : b = bs[i]
      · have d2 : decide (b = bs[i]) = true := decide_eq_true hb
        repeat (first
    | simp only [d2, ↓len190, ↓ia190, ↓ld189, ↓rd189, ↓GG, NN, Nat.reduceAdd]
    | refine a_ld1 h ?_
    | refine a_ldN h ?_
    | refine a_rs1 h ?_
    | refine a_rsN h ?_
    | (refine u_draw h ?_; clear h; intro W h)
    | refine a_rd1 h ?_
    | refine a_rdN h ?_
    | (refine u_nr h ?_; clear h; intro b W h)
    | (refine u_bx h ?_; clear h; intro b W h)
    | (refine u_al h ?_; clear h; intro b W h)
    | (refine a_st h ?_; clear h; intro W h))
        have hm : b ∈ bs := hb ▸ List.getElem_mem hlt
        have hidx : bs.idxOf b = i := by
          have e4 : bs = bs.take i ++ (bs[i] :: bs.drop (i + 1)) := by rw [← List.drop_eq_getElem_cons hlt, List.take_append_drop]
          rw [e4, List.idxOf_append, if_neg hnot, hb, List.idxOf_cons_self, List.length_take]
          omega
        rw [if_pos hm, hidx]
        exact ⟨rfl, h⟩
      · have d2 : decide (b = bs[i]) = false := decide_eq_false hb
        repeat (first
    | simp only [d2, ↓len190, ↓ia190, ↓ld189, ↓rd189, ↓GG, NN, Nat.reduceAdd]
    | refine a_ld1 h ?_
    | refine a_ldN h ?_
    | refine a_rs1 h ?_
    | refine a_rsN h ?_
    | (refine u_draw h ?_; clear h; intro W h)
    | refine a_rd1 h ?_
    | refine a_rdN h ?_
    | (refine u_nr h ?_; clear h; intro b W h)
    | (refine u_bx h ?_; clear h; intro b W h)
    | (refine u_al h ?_; clear h; intro b W h)
    | (refine a_st h ?_; clear h; intro W h))
        rw [wrap_succ (by omega)]
        refine ⟨⟨i + 1, by omega, rfl, ?_, h⟩, ?_⟩
        · rw [List.take_succ_eq_append_getElem hlt, List.mem_append, List.mem_singleton, not_or]
          exact ⟨hnot, hb⟩
        · simp only [vInt]
          omega
  · have d1 : decide ((i : Int) < (bs.length : Int)) = false := by simp; omega
    have : i = bs.length := by omega
    subst this
    rw [List.take_length] at hnot
    repeat (first
    | simp only [d1, ↓len190, ↓ia190, ↓ld189, ↓rd189, ↓GG, NN, Nat.reduceAdd]
    | refine a_ld1 h ?_
    | refine a_ldN h ?_
    | refine a_rs1 h ?_
    | refine a_rsN h ?_
    | (refine u_draw h ?_; clear h; intro W h)
    | refine a_rd1 h ?_
    | refine a_rdN h ?_
    | (refine u_nr h ?_; clear h; intro b W h)
    | (refine u_bx h ?_; clear h; intro b W h)
    | (refine u_al h ?_; clear h; intro b W h)
    | (refine a_st h ?_; clear h; intro W h))
    rw [if_neg hnot]
    exact ⟨rfl, h⟩

theorem Index_slot_spec {x : Value} {p : Slot} {bs : List Slot} (h : S w0 Γ W) (hx : Kn Γ x 2 (bs.flatMap slotCells) bs.length) (hn : bs.length ≤ 1000000) :
    Calls Try.prog F_slices_Index_api_Slot #[x, slotV p] W (Ret fun v W' => v = .int .i64 (if p ∈ bs then bs.idxOf p else -1) ∧ S w0 Γ W') := by
  refine c_slices_Index_api_Slot ?_
  unfold h_slices_Index_api_Slot
  obtain ⟨a, cap, rfl⟩ := hx.shape
  unfold slotV
  repeat (first
    | simp only [↓len72, ↓ld66, ↓rd66, ↓ia72, ↓eqeql66_false, ↓GG, NN, Nat.reduceAdd]
    | refine a_ld1 h ?_
    | refine a_ldN h ?_
    | refine a_rs1 h ?_
    | refine a_rsN h ?_
    | (refine u_draw h ?_; clear h; intro W h)
    | refine a_rd1 h ?_
    | refine a_rdN h ?_
    | (refine u_nr h ?_; clear h; intro b W h)
    | (refine u_bx h ?_; clear h; intro b W h)
    | (refine u_al h ?_; clear h; intro b W h)
    | (refine a_st h ?_; clear h; intro W h))
  refine u_loop (fun s' w => ∃ i : Nat, i ≤ bs.length ∧ s' = .int .i64 i ∧ p ∉ bs.take i ∧ S w0 (pts b (.cells #[.int .i64 p.1, .int .i64 p.2] T_api_Slot (0, 0)) :: Γ) w) (fun s' _ => bs.length - (vInt s').toNat) ⟨0, by omega, rfl, by simp, h⟩ ?_
  clear h
  rintro j iv W ⟨i, hi, hs, hnot, h⟩
  cases hs
  by_cases hlt : i < bs.length
  · have d1 : decide ((i : Int) < (bs.length : Int)) = true := by simp; omega
    have hx2 := hx.tail (c := pts b (.cells #[.int .i64 p.1, .int .i64 p.2] T_api_Slot (0, 0)))
    repeat (first
    | simp only [d1, ↓len72, ↓ld66, ↓rd66, ↓ia72, ↓eqeql66_false, ↓GG, NN, Nat.reduceAdd]
    | refine a_ld1 h ?_
    | refine a_ldN h ?_
    | refine a_rs1 h ?_
    | refine a_rsN h ?_
    | (refine u_draw h ?_; clear h; intro W h)
    | refine a_rd1 h ?_
    | refine a_rdN h ?_
    | (refine u_nr h ?_; clear h; intro b W h)
    | (refine u_bx h ?_; clear h; intro b W h)
    | (refine u_al h ?_; clear h; intro b W h)
    | (refine a_st h ?_; clear h; intro W h))
    obtain ⟨g, off, cap', cur, T, fr, hv, hg, hr, hsz⟩ := Kn.read slotCells_len h hx2 hlt
    injection hv with e1 e2 e3
    subst e1 e3
    rw [ia72 (by omega)]
    repeat (first
    | simp only [d1, ↓len72, ↓ld66, ↓rd66, ↓ia72, ↓eqeql66_false, ↓GG, NN, Nat.reduceAdd]
    | refine a_ld1 h ?_
    | refine a_ldN h ?_
    | refine a_rs1 h ?_
    | refine a_rsN h ?_
    | (refine u_draw h ?_; clear h; intro W h)
    | refine a_rd1 h ?_
    | refine a_rdN h ?_
    | (refine u_nr h ?_; clear h; intro b W h)
    | (refine u_bx h ?_; clear h; intro b W h)
    | (refine u_al h ?_; clear h; intro b W h)
    | (refine a_st h ?_; clear h; intro W h))
    refine v_ldN hg hsz ?_
    have e0 : ((i : Int).toNat) = i := by omega
    rw [e0, hr]
    simp only [slotCells]
    repeat (first
    | simp only [↓len72, ↓ld66, ↓rd66, ↓ia72, ↓eqeql66_false, ↓GG, NN, Nat.reduceAdd]
    | refine a_ld1 h ?_
    | refine a_ldN h ?_
    | refine a_rs1 h ?_
    | refine a_rsN h ?_
    | (refine u_draw h ?_; clear h; intro W h)
    | refine a_rd1 h ?_
    | refine a_rdN h ?_
    | (refine u_nr h ?_; clear h; intro b W h)
    | (refine u_bx h ?_; clear h; intro b W h)
    | (refine u_al h ?_; clear h; intro b W h)
    | (refine a_st h ?_; clear h; intro W h))
    by_cases hb : p = bs[i]
    · have d2 : (p.1 == bs[i].1 && (p.2 == bs[i].2 && true)) = true := by rw [hb]; simp
      repeat (first
    | simp only [d2, ↓len72, ↓ld66, ↓rd66, ↓ia72, ↓eqeql66_false, ↓GG, NN, Nat.reduceAdd]
    | refine a_ld1 h ?_
    | refine a_ldN h ?_
    | refine a_rs1 h ?_
    | refine a_rsN h ?_
    | (refine u_draw h ?_; clear h; intro W h)
    | refine a_rd1 h ?_
    | refine a_rdN h ?_
    | (refine u_nr h ?_; clear h; intro b W h)
    | (refine u_bx h ?_; clear h; intro b W h)
    | (refine u_al h ?_; clear h; intro b W h)
    | (refine a_st h ?_; clear h; intro W h))
      have hm : p ∈ bs := hb ▸ List.getElem_mem hlt
      have hidx : bs.idxOf p = i := by
        have e4 : bs = bs.take i ++ (bs[i] :: bs.drop (i + 1)) := by rw [← List.drop_eq_getElem_cons hlt, List.take_append_drop]
        rw [e4, List.idxOf_append, if_neg hnot, hb, List.idxOf_cons_self, List.length_take]
        omega
      rw [if_pos hm, hidx]
      exact ⟨rfl, h.subA⟩
    · have d2 : (p.1 == bs[i].1 && (p.2 == bs[i].2 && true)) = false := by
        rw [Bool.eq_false_iff]
        intro hh
        simp only [Bool.and_eq_true, beq_iff_eq, and_true] at hh
        exact hb (Prod.ext hh.1 hh.2)
      repeat (first
    | simp only [d2, ↓len72, ↓ld66, ↓rd66, ↓ia72, ↓eqeql66_false, ↓GG, NN, Nat.reduceAdd]
    | refine a_ld1 h ?_
    | refine a_ldN h ?_
    | refine a_rs1 h ?_
    | refine a_rsN h ?_
    | (refine u_draw h ?_; clear h; intro W h)
    | refine a_rd1 h ?_
    | refine a_rdN h ?_
    | (refine u_nr h ?_; clear h; intro b W h)
    | (refine u_bx h ?_; clear h; intro b W h)
    | (refine u_al h ?_; clear h; intro b W h)
    | (refine a_st h ?_; clear h; intro W h))
      rw [wrap_succ (by omega)]
      refine ⟨⟨i + 1, by omega, rfl, ?_, h⟩, ?_⟩
      · rw [List.take_succ_eq_append_getElem hlt, List.mem_append, List.mem_singleton, not_or]
        exact ⟨hnot, hb⟩
      · simp only [vInt]
        omega
  · have d1 : decide ((i : Int) < (bs.length : Int)) = false := by simp; omega
    have : i = bs.length := by omega
    subst this
    rw [List.take_length] at hnot
    repeat (first
    | simp only [d1, ↓len72, ↓ld66, ↓rd66, ↓ia72, ↓eqeql66_false, ↓GG, NN, Nat.reduceAdd]
    | refine a_ld1 h ?_
    | refine a_ldN h ?_
    | refine a_rs1 h ?_
    | refine a_rsN h ?_
    | (refine u_draw h ?_; clear h; intro W h)
    | refine a_rd1 h ?_
    | refine a_rdN h ?_
    | (refine u_nr h ?_; clear h; intro b W h)
    | (refine u_bx h ?_; clear h; intro b W h)
    | (refine u_al h ?_; clear h; intro b W h)
    | (refine a_st h ?_; clear h; intro W h))
    rw [if_neg hnot]
    exact ⟨rfl, h.subA⟩

theorem Contains_slot_spec {x : Value} {p : Slot} {bs : List Slot} (h : S w0 Γ W) (hx : Kn Γ x 2 (bs.flatMap slotCells) bs.length) (hn : bs.length ≤ 1000000) :
    Calls Try.prog F_slices_Contains_api_Slot #[x, slotV p] W (Ret fun v W' => v = .bool (decide (p ∈ bs)) ∧ S w0 Γ W') := by
  refine c_slices_Contains_api_Slot ?_
  unfold h_slices_Contains_api_Slot slotV
  repeat (first
    | simp only [↓ld66, ↓rd66, ↓GG, NN, Nat.reduceAdd]
    | refine a_ld1 h ?_
    | refine a_ldN h ?_
    | refine a_rs1 h ?_
    | refine a_rsN h ?_
    | (refine u_draw h ?_; clear h; intro W h)
    | refine a_rd1 h ?_
    | refine a_rdN h ?_
    | (refine u_nr h ?_; clear h; intro b W h)
    | (refine u_bx h ?_; clear h; intro b W h)
    | (refine u_al h ?_; clear h; intro b W h)
    | (refine a_st h ?_; clear h; intro W h))
  refine r_call (Index_slot_spec (p := p) h hx.tail hn) ?_
  clear h
  rintro v W ⟨rfl, h⟩
  have d : decide ((if p ∈ bs then ((bs.idxOf p : Nat) : Int) else -1) ≥ 0) = decide (p ∈ bs) := by
    by_cases hp : p ∈ bs
    · rw [if_pos hp]; simp [hp]
    · rw [if_neg hp]; simp [hp]
  repeat (first
    | simp only [d, ↓ld66, ↓rd66, ↓GG, NN, Nat.reduceAdd]
    | refine a_ld1 h ?_
    | refine a_ldN h ?_
    | refine a_rs1 h ?_
    | refine a_rsN h ?_
    | (refine u_draw h ?_; clear h; intro W h)
    | refine a_rd1 h ?_
    | refine a_rdN h ?_
    | (refine u_nr h ?_; clear h; intro b W h)
    | (refine u_bx h ?_; clear h; intro b W h)
    | (refine u_al h ?_; clear h; intro b W h)
    | (refine a_st h ?_; clear h; intro W h))
  exact ⟨rfl, h.subA⟩
end
end Go.Proofs.Ytpghhaobcikdhaa
