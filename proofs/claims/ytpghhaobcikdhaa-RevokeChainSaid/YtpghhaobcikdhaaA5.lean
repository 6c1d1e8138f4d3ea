/- What a store is full of. -/
import Derived.Test.YtpghhaobcikdhaaA4
namespace Go.Proofs.Ytpghhaobcikdhaa
open Go Go.Hw
set_option linter.unusedSimpArgs false
set_option linter.unusedVariables false
set_option maxRecDepth 100000

section
variable {w0 : World} {Γ Γ' : List Chunk} {W : World} {s : Nat} {σ : Store}

def Node.kindAt (n : Node) (i : Nat) : Int := ((n.caps[i]?).getD Cap.zero).kind
def Node.fullTo (n : Node) (id : Int) (k : Nat) : List Slot := ((List.range k).filter fun i => decide (n.kindAt i ≠ 0)).map fun (i : Nat) => (id, (i : Int))
def Store.fullTo (σ : Store) (k : Nat) : List Slot := (List.range k).flatMap fun (id : Nat) => match σ id with | some n => n.fullTo id 16 | none => []
def Store.full (σ : Store) : List Slot := σ.fullTo 64

def slotCells (p : Slot) : List Value := [.int .i64 p.1, .int .i64 p.2]
def slotsC (v : Value) (l : List Slot) : Chunk := slc T_api_Slot 2 v l.length (l.flatMap slotCells)

theorem Node.fullTo_len (n : Node) (id : Int) (k : Nat) : (n.fullTo id k).length ≤ k := by
  simp only [Node.fullTo, List.length_map]
  exact Nat.le_trans (List.length_filter_le _ _) (by simp)
theorem Node.fullTo_succ (n : Node) (id : Int) (k : Nat) : n.fullTo id (k + 1) = n.fullTo id k ++ if n.kindAt k ≠ 0 then [(id, (k : Int))] else [] := by
  unfold Node.fullTo
  rw [List.range_succ, List.filter_append, List.map_append]
  by_cases h : n.kindAt k = 0 <;> simp [h]
theorem Store.fullTo_succ (σ : Store) (k : Nat) : σ.fullTo (k + 1) = σ.fullTo k ++ match σ k with | some n => n.fullTo k 16 | none => [] := by
  unfold Store.fullTo
  rw [List.range_succ, List.flatMap_append]
  simp
theorem Store.fullTo_len (σ : Store) (k : Nat) : (σ.fullTo k).length ≤ 16 * k := by
  induction k with
  | zero => simp [Store.fullTo]
  | succ k ih =>
    rw [Store.fullTo_succ, List.length_append]
    cases σ k with
    | none => simp; omega
    | some n => have := n.fullTo_len k 16; simp only; omega

theorem slots_snoc (l : List Slot) (p : Slot) : (l ++ [p]).flatMap slotCells = l.flatMap slotCells ++ slotCells p := by simp

theorem slotsC_snoc {v : Value} {l : List Slot} {p : Slot} : slc T_api_Slot 2 v (l.length + 1) (l.flatMap slotCells ++ slotCells p) = slotsC v (l ++ [p]) := by
  unfold slotsC
  rw [slots_snoc, List.length_append]
  rfl
theorem wrap_i64 {n : Int} (h : -9223372036854775808 ≤ n ∧ n < 9223372036854775808) : IntKind.i64.wrap n = n := by
  have e : IntKind.i64.wrap n = if n % 18446744073709551616 ≥ 9223372036854775808 then n % 18446744073709551616 - 18446744073709551616 else n % 18446744073709551616 := by
    unfold IntKind.wrap
    simp [IntKind.bits, IntKind.signed]
  rw [e]
  split <;> omega
theorem wrap_succ {k : Nat} (h : k < 1000000) : IntKind.i64.wrap ((k : Int) + 1) = ((k + 1 : Nat) : Int) := by
  rw [wrap_i64 (by omega)]; omega

set_option maxHeartbeats 1000000 in
theorem Store_Full_spec (h : S w0 (storeC s σ :: Γ) W) : Calls Try.prog F_slots_Store_Full #[.pointer (some ⟨s, 0, none⟩)] W (Ret fun v W' => S w0 (slotsC v σ.full :: storeC s σ :: Γ) W') := by
  refine c_slots_Store_Full ?_
  unfold h_slots_Store_Full
  refine u_loop (fun s' w => ∃ k : Nat, k ≤ 64 ∧ s'.2 = .int .i64 k ∧ S w0 (slotsC s'.1 (σ.fullTo k) :: storeC s σ :: Γ) w) (fun s' _ => 64 - (vInt s'.2).toNat) ⟨0, by omega, rfl, ?_⟩ ?_
  · exact S.nilSlice _ _ h
  clear h
  rintro j ⟨lv, idv⟩ W ⟨k, hk, rfl, h⟩
  by_cases hlt : k < 64
  · have d1 : decide ((k : Int) < 64) = true := by simp; omega
    repeat (first
    | simp only [d1, ↓fa150_0, ↓ld148, ↓rd148, ↓eqneq147_n, ↓eqneq147_s, ↓fa153_1, ↓ld151, ↓rd151, ↓al68, ↓st68, ↓fa68_0, ↓ld3, ↓rd3, ↓bd66_0_1, ↓bs72_1_0, ↓ap72, ↓GG, NN, Nat.reduceAdd]
    | refine a_ld1 h ?_
    | refine a_ldN h ?_
    | refine a_rs1 h ?_
    | refine a_rsN h ?_
    | (refine u_draw h ?_; clear h; intro W h)
    | refine a_rd1 h ?_
    | refine a_rdN h ?_
    | (refine u_nr h ?_; clear h; intro b W h)
    | (refine u_bx h ?_; clear h; intro b W h)
    | (refine u_al h ?_; clear h; intro b W h)
    | (refine a_st h ?_; clear h; intro W h))
    refine u_join (fun v w => S w0 (slotsC v (σ.fullTo (k + 1)) :: storeC s σ :: Γ) w) ?_ ?_
    · obtain ⟨m, L, clock, h⟩ := storeC_open (h.take (.tail .head))
      obtain ⟨hf, h⟩ := storeL_open h
      repeat (first
    | simp only [↓fa150_0, ↓ld148, ↓rd148, ↓eqneq147_n, ↓eqneq147_s, ↓fa153_1, ↓ld151, ↓rd151, ↓al68, ↓st68, ↓fa68_0, ↓ld3, ↓rd3, ↓bd66_0_1, ↓bs72_1_0, ↓ap72, ↓GG, NN, Nat.reduceAdd]
    | refine a_ld1 h ?_
    | refine a_ldN h ?_
    | refine a_rs1 h ?_
    | refine a_rsN h ?_
    | (refine u_draw h ?_; clear h; intro W h)
    | refine a_rd1 h ?_
    | refine a_rdN h ?_
    | (refine u_nr h ?_; clear h; intro b W h)
    | (refine u_bx h ?_; clear h; intro b W h)
    | (refine u_al h ?_; clear h; intro b W h)
    | (refine a_st h ?_; clear h; intro W h))
      refine r_lookup keyI (by kernel_rfl) (by kernel_rfl : zeroB Try.prog 147 = some (.pointer none)) h (Take.knows (by repeat (first | exact Take.head | apply Take.tail))) (k : Int) ?_
      rw [mGet_ents]
      by_cases hin : (k : Int) ∈ L.map (·.1)
      · obtain ⟨e, L1, L2, h1, h2, h3⟩ := find_some hin
        rw [h1]
        simp only [Option.map_some, Option.getD_some]
        have hs := (storeL_shut h (by repeat (first | exact Take.head | apply Take.tail)) (by repeat (first | exact Take.head | apply Take.tail)) (by repeat (first | exact Take.head | apply Take.tail)) hf)
        clear h
        obtain ⟨n, hn, hw, C, h, close⟩ := storeL_at (id := k) (blk := e.2.1) (born := e.2.2) hs (by rw [← h2, h3]; simp)
        clear hs
        have hl := hw.len
        repeat (first
    | simp only [↓fa150_0, ↓ld148, ↓rd148, ↓eqneq147_n, ↓eqneq147_s, ↓fa153_1, ↓ld151, ↓rd151, ↓al68, ↓st68, ↓fa68_0, ↓ld3, ↓rd3, ↓bd66_0_1, ↓bs72_1_0, ↓ap72, ↓GG, NN, Nat.reduceAdd]
    | refine a_ld1 h ?_
    | refine a_ldN h ?_
    | refine a_rs1 h ?_
    | refine a_rsN h ?_
    | (refine u_draw h ?_; clear h; intro W h)
    | refine a_rd1 h ?_
    | refine a_rdN h ?_
    | (refine u_nr h ?_; clear h; intro b W h)
    | (refine u_bx h ?_; clear h; intro b W h)
    | (refine u_al h ?_; clear h; intro b W h)
    | (refine a_st h ?_; clear h; intro W h))
        refine u_ldN h (Take.knows (by repeat (first | exact Take.head | apply Take.tail))) (by simp only [List.size_toArray, Node.cells_len n hw]; omega) ?_
        have hcs : ((n.cells.toArray.toList.drop 1).take 96) = n.caps.flatMap Cap.cells := by
          simp only [Node.cells, List.toList_toArray, List.drop_succ_cons, List.drop_zero]
          rw [List.take_of_length_le]
          rw [caps_len, hl]
          decide
        rw [hcs]
        have hs := storeC_shut (close n hw σ hn (fun _ _ => rfl) h (by repeat (first | exact Take.head | apply Take.tail)) (by repeat (first | exact Take.head | apply Take.tail)))
        clear h close
        refine u_loop (fun s' w => ∃ i : Nat, i ≤ 16 ∧ s'.2 = .int .i64 i ∧ S w0 (slotsC s'.1 (σ.fullTo k ++ n.fullTo k i) :: storeC s σ :: Γ) w) (fun s' _ => 16 - (vInt s'.2).toNat) ⟨0, by omega, rfl, ?_⟩ ?_
        · have e0 : σ.fullTo k ++ n.fullTo k 0 = σ.fullTo k := by simp [Node.fullTo]
          rw [e0]
          exact hs.take (.tail .head)
        clear hs
        rintro j ⟨lv, iv⟩ W ⟨i, hi, rfl, h⟩
        by_cases hlt : i < 16
        · have d1 : decide ((i : Int) < 16) = true := by simp; omega
          repeat (first
    | simp only [d1, ↓fa150_0, ↓ld148, ↓rd148, ↓eqneq147_n, ↓eqneq147_s, ↓fa153_1, ↓ld151, ↓rd151, ↓al68, ↓st68, ↓fa68_0, ↓ld3, ↓rd3, ↓bd66_0_1, ↓bs72_1_0, ↓ap72, ↓GG, NN, Nat.reduceAdd]
    | refine a_ld1 h ?_
    | refine a_ldN h ?_
    | refine a_rs1 h ?_
    | refine a_rsN h ?_
    | (refine u_draw h ?_; clear h; intro W h)
    | refine a_rd1 h ?_
    | refine a_rdN h ?_
    | (refine u_nr h ?_; clear h; intro b W h)
    | (refine u_bx h ?_; clear h; intro b W h)
    | (refine u_al h ?_; clear h; intro b W h)
    | (refine a_st h ?_; clear h; intro W h))
          refine u_join (fun v w => S w0 (slotsC v (σ.fullTo k ++ n.fullTo k (i + 1)) :: storeC s σ :: Γ) w) ?_ ?_
          · rw [ix_arr (e := 68) (n := 6) (len := 16) (by kernel_rfl) (by kernel_rfl) (by kernel_rfl) (by omega)]
            have hci : i < n.caps.length := by omega
            have e1 : (((n.caps.flatMap Cap.cells).toArray.toList.drop ((i : Int).toNat * 6)).take 6) = n.caps[i].cells := by
              have := caps_drop n.caps i [] hci
              rw [List.append_nil] at this
              rw [Int.toNat_natCast, Nat.mul_comm]
              exact this
            rw [e1]
            simp only [Cap.cells]
            repeat (first
    | simp only [↓fa150_0, ↓ld148, ↓rd148, ↓eqneq147_n, ↓eqneq147_s, ↓fa153_1, ↓ld151, ↓rd151, ↓al68, ↓st68, ↓fa68_0, ↓ld3, ↓rd3, ↓bd66_0_1, ↓bs72_1_0, ↓ap72, ↓GG, NN, Nat.reduceAdd]
    | refine a_ld1 h ?_
    | refine a_ldN h ?_
    | refine a_rs1 h ?_
    | refine a_rsN h ?_
    | (refine u_draw h ?_; clear h; intro W h)
    | refine a_rd1 h ?_
    | refine a_rdN h ?_
    | (refine u_nr h ?_; clear h; intro b W h)
    | (refine u_bx h ?_; clear h; intro b W h)
    | (refine u_al h ?_; clear h; intro b W h)
    | (refine a_st h ?_; clear h; intro W h))
            by_cases hkd : n.caps[i].kind = 0
            · have d2 : (n.caps[i].kind != 0) = false := by simp [hkd]
              repeat (first
    | simp only [d2, ↓fa150_0, ↓ld148, ↓rd148, ↓eqneq147_n, ↓eqneq147_s, ↓fa153_1, ↓ld151, ↓rd151, ↓al68, ↓st68, ↓fa68_0, ↓ld3, ↓rd3, ↓bd66_0_1, ↓bs72_1_0, ↓ap72, ↓GG, NN, Nat.reduceAdd]
    | refine a_ld1 h ?_
    | refine a_ldN h ?_
    | refine a_rs1 h ?_
    | refine a_rsN h ?_
    | (refine u_draw h ?_; clear h; intro W h)
    | refine a_rd1 h ?_
    | refine a_rdN h ?_
    | (refine u_nr h ?_; clear h; intro b W h)
    | (refine u_bx h ?_; clear h; intro b W h)
    | (refine u_al h ?_; clear h; intro b W h)
    | (refine a_st h ?_; clear h; intro W h))
              have e2 : n.fullTo k (i + 1) = n.fullTo k i := by rw [Node.fullTo_succ]; simp [Node.kindAt, hci, hkd]
              rw [e2]
              exact h.subA
            · have d2 : (n.caps[i].kind != 0) = true := by simp [hkd]
              repeat (first
    | simp only [d2, ↓fa150_0, ↓ld148, ↓rd148, ↓eqneq147_n, ↓eqneq147_s, ↓fa153_1, ↓ld151, ↓rd151, ↓al68, ↓st68, ↓fa68_0, ↓ld3, ↓rd3, ↓bd66_0_1, ↓bs72_1_0, ↓ap72, ↓GG, NN, Nat.reduceAdd]
    | refine a_ld1 h ?_
    | refine a_ldN h ?_
    | refine a_rs1 h ?_
    | refine a_rsN h ?_
    | (refine u_draw h ?_; clear h; intro W h)
    | refine a_rd1 h ?_
    | refine a_rdN h ?_
    | (refine u_nr h ?_; clear h; intro b W h)
    | (refine u_bx h ?_; clear h; intro b W h)
    | (refine u_al h ?_; clear h; intro b W h)
    | (refine a_st h ?_; clear h; intro W h))
              have hlen := σ.fullTo_len k
              have hlen2 := n.fullTo_len k i
              refine u_ap h (by repeat (first | exact Take.head | apply Take.tail)) (Take.knows (by repeat (first | exact Take.head | apply Take.tail))) (Nat.le_of_ble_eq_true rfl) (by rfl) (by simp only [List.length_append]; omega) (by decide) ?_
              clear h
              intro v W h
              have e2 : σ.fullTo k ++ n.fullTo k (i + 1) = (σ.fullTo k ++ n.fullTo k i) ++ [((k : Int), (i : Int))] := by rw [Node.fullTo_succ]; simp [Node.kindAt, hci, hkd]
              rw [e2, ← slotsC_snoc]
              exact h.subA
          · clear h
            rintro j v W h
            repeat (first
    | simp only [↓fa150_0, ↓ld148, ↓rd148, ↓eqneq147_n, ↓eqneq147_s, ↓fa153_1, ↓ld151, ↓rd151, ↓al68, ↓st68, ↓fa68_0, ↓ld3, ↓rd3, ↓bd66_0_1, ↓bs72_1_0, ↓ap72, ↓GG, NN, Nat.reduceAdd]
    | refine a_ld1 h ?_
    | refine a_ldN h ?_
    | refine a_rs1 h ?_
    | refine a_rsN h ?_
    | (refine u_draw h ?_; clear h; intro W h)
    | refine a_rd1 h ?_
    | refine a_rdN h ?_
    | (refine u_nr h ?_; clear h; intro b W h)
    | (refine u_bx h ?_; clear h; intro b W h)
    | (refine u_al h ?_; clear h; intro b W h)
    | (refine a_st h ?_; clear h; intro W h))
            rw [wrap_succ (by omega)]
            refine ⟨⟨i + 1, by omega, rfl, h⟩, ?_⟩
            simp only [vInt]
            omega
        · have d1 : decide ((i : Int) < 16) = false := by simp; omega
          have : i = 16 := by omega
          subst this
          repeat (first
    | simp only [d1, ↓fa150_0, ↓ld148, ↓rd148, ↓eqneq147_n, ↓eqneq147_s, ↓fa153_1, ↓ld151, ↓rd151, ↓al68, ↓st68, ↓fa68_0, ↓ld3, ↓rd3, ↓bd66_0_1, ↓bs72_1_0, ↓ap72, ↓GG, NN, Nat.reduceAdd]
    | refine a_ld1 h ?_
    | refine a_ldN h ?_
    | refine a_rs1 h ?_
    | refine a_rsN h ?_
    | (refine u_draw h ?_; clear h; intro W h)
    | refine a_rd1 h ?_
    | refine a_rdN h ?_
    | (refine u_nr h ?_; clear h; intro b W h)
    | (refine u_bx h ?_; clear h; intro b W h)
    | (refine u_al h ?_; clear h; intro b W h)
    | (refine a_st h ?_; clear h; intro W h))
          have e2 : σ.fullTo (k + 1) = σ.fullTo k ++ n.fullTo k 16 := by rw [Store.fullTo_succ, hn]
          rw [e2]
          exact h
      · have hn : σ k = none := by
          cases hs : σ k with
          | none => rfl
          | some n => exact absurd ((hf.2 k).1 (by simp [hs])) hin
        rw [find_none hin]
        simp only [Option.map_none, Option.getD_none]
        repeat (first
    | simp only [↓fa150_0, ↓ld148, ↓rd148, ↓eqneq147_n, ↓eqneq147_s, ↓fa153_1, ↓ld151, ↓rd151, ↓al68, ↓st68, ↓fa68_0, ↓ld3, ↓rd3, ↓bd66_0_1, ↓bs72_1_0, ↓ap72, ↓GG, NN, Nat.reduceAdd]
    | refine a_ld1 h ?_
    | refine a_ldN h ?_
    | refine a_rs1 h ?_
    | refine a_rsN h ?_
    | (refine u_draw h ?_; clear h; intro W h)
    | refine a_rd1 h ?_
    | refine a_rdN h ?_
    | (refine u_nr h ?_; clear h; intro b W h)
    | (refine u_bx h ?_; clear h; intro b W h)
    | (refine u_al h ?_; clear h; intro b W h)
    | (refine a_st h ?_; clear h; intro W h))
        have e2 : σ.fullTo (k + 1) = σ.fullTo k := by rw [Store.fullTo_succ, hn]; simp
        rw [e2]
        exact (storeC_shut (storeL_shut h (by repeat (first | exact Take.head | apply Take.tail)) (by repeat (first | exact Take.head | apply Take.tail)) (by repeat (first | exact Take.head | apply Take.tail)) hf)).take (by repeat (first | exact Take.head | apply Take.tail))
    · clear h
      rintro j v W h
      repeat (first
    | simp only [↓fa150_0, ↓ld148, ↓rd148, ↓eqneq147_n, ↓eqneq147_s, ↓fa153_1, ↓ld151, ↓rd151, ↓al68, ↓st68, ↓fa68_0, ↓ld3, ↓rd3, ↓bd66_0_1, ↓bs72_1_0, ↓ap72, ↓GG, NN, Nat.reduceAdd]
    | refine a_ld1 h ?_
    | refine a_ldN h ?_
    | refine a_rs1 h ?_
    | refine a_rsN h ?_
    | (refine u_draw h ?_; clear h; intro W h)
    | refine a_rd1 h ?_
    | refine a_rdN h ?_
    | (refine u_nr h ?_; clear h; intro b W h)
    | (refine u_bx h ?_; clear h; intro b W h)
    | (refine u_al h ?_; clear h; intro b W h)
    | (refine a_st h ?_; clear h; intro W h))
      rw [wrap_succ (by omega)]
      refine ⟨⟨k + 1, by omega, rfl, h⟩, ?_⟩
      simp only [vInt]
      omega
  · have d1 : decide ((k : Int) < 64) = false := by simp; omega
    have : k = 64 := by omega
    subst this
    repeat (first
    | simp only [d1, ↓fa150_0, ↓ld148, ↓rd148, ↓eqneq147_n, ↓eqneq147_s, ↓fa153_1, ↓ld151, ↓rd151, ↓al68, ↓st68, ↓fa68_0, ↓ld3, ↓rd3, ↓bd66_0_1, ↓bs72_1_0, ↓ap72, ↓GG, NN, Nat.reduceAdd]
    | refine a_ld1 h ?_
    | refine a_ldN h ?_
    | refine a_rs1 h ?_
    | refine a_rsN h ?_
    | (refine u_draw h ?_; clear h; intro W h)
    | refine a_rd1 h ?_
    | refine a_rdN h ?_
    | (refine u_nr h ?_; clear h; intro b W h)
    | (refine u_bx h ?_; clear h; intro b W h)
    | (refine u_al h ?_; clear h; intro b W h)
    | (refine a_st h ?_; clear h; intro W h))
    exact h
end
end Go.Proofs.Ytpghhaobcikdhaa
