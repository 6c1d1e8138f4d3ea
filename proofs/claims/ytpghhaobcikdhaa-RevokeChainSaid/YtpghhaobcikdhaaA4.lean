/- The functions of a store of nodes, its layout left open. -/
import Derived.Test.YtpghhaobcikdhaaA3
namespace Go.Proofs.Ytpghhaobcikdhaa
open Go Go.Hw
set_option linter.unusedSimpArgs false
set_option linter.unusedVariables false
set_option maxRecDepth 100000

def storeC (s : Nat) (σ : Store) : Chunk := ex fun p : Nat × SLay × Nat => storeL s p.1 p.2.1 p.2.2 σ

section
variable {w0 : World} {Γ Γ' : List Chunk} {W : World} {s : Nat} {σ : Store}

theorem storeC_open (h : S w0 (storeC s σ :: Γ) W) : ∃ m L clock, S w0 (storeL s m L clock σ :: Γ) W :=
  let ⟨⟨m, L, c⟩, h⟩ := S.ex h; ⟨m, L, c, h⟩
theorem storeC_shut {m clock : Nat} {L : SLay} (h : S w0 (storeL s m L clock σ :: Γ) W) : S w0 (storeC s σ :: Γ) W :=
  S.unex (c := fun p : Nat × SLay × Nat => storeL s p.1 p.2.1 p.2.2 σ) (m, L, clock) h

def Store.geta (σ : Store) (a : Slot) : Cap × Int := ((σ.get a).getD Cap.zero, if (σ.get a).isSome then 0 else 6)
def Store.radix (σ : Store) (id : Int) : Nat := match σ id with | some n => n.radix | none => 0

theorem sGet {at_ : Slot} (h : S w0 (storeC s σ :: Γ) W) : Calls Try.prog F_slots_Store_Get #[.pointer (some ⟨s, 0, none⟩), slotV at_] W
    (Ret fun v W' => v = .tuple #[(σ.geta at_).1.v, .int .i64 (σ.geta at_).2] ∧ S w0 (storeC s σ :: Γ) W') := by
  obtain ⟨m, L, clock, h⟩ := storeC_open h
  exact Calls.mono (Store_Get_spec h) fun e W' he => by cases e <;> first | exact he.elim | exact ⟨he.1, storeC_shut he.2⟩
theorem sRadix {id : Int} (h : S w0 (storeC s σ :: Γ) W) : Calls Try.prog F_slots_Store_Radix #[.pointer (some ⟨s, 0, none⟩), .int .i64 id] W
    (Ret fun v W' => v = .int .i64 (σ.radix id) ∧ S w0 (storeC s σ :: Γ) W') := by
  obtain ⟨m, L, clock, h⟩ := storeC_open h
  exact Calls.mono (Store_Radix_spec h) fun e W' he => by
    cases e <;> first | exact he.elim | exact ⟨by rw [he.1]; unfold Store.radix; cases σ id <;> rfl, storeC_shut he.2⟩
theorem sPut {at_ : Slot} {c : Cap} (h : S w0 (storeC s σ :: Γ) W) : Calls Try.prog F_slots_Store_Put #[.pointer (some ⟨s, 0, none⟩), slotV at_, c.v] W
    (Ret fun v W' => v = .int .i64 (σ.put at_ c).1 ∧ S w0 (storeC s (σ.put at_ c).2 :: Γ) W') := by
  obtain ⟨m, L, clock, h⟩ := storeC_open h
  exact Calls.mono (Store_Put_spec h) fun e W' he => by cases e <;> first | exact he.elim | exact ⟨he.1, storeC_shut he.2⟩
theorem sTake {at_ : Slot} (h : S w0 (storeC s σ :: Γ) W) : Calls Try.prog F_slots_Store_Take #[.pointer (some ⟨s, 0, none⟩), slotV at_] W
    (Ret fun v W' => v = .tuple #[(σ.takeOut at_).1.1.v, .int .i64 (σ.takeOut at_).1.2] ∧ S w0 (storeC s (σ.takeOut at_).2 :: Γ) W') := by
  obtain ⟨m, L, clock, h⟩ := storeC_open h
  exact Calls.mono (Store_Take_spec h) fun e W' he => by cases e <;> first | exact he.elim | exact ⟨he.1, storeC_shut he.2⟩

theorem sNew (h : S w0 Γ W) : Calls Try.prog F_slots_New #[] W (Ret fun v W' => ∃ s, v = .pointer (some ⟨s, 0, none⟩) ∧ S w0 (storeC s (fun _ => none) :: Γ) W') := by
  refine c_slots_New ?_
  unfold h_slots_New
  refine r_makeMap (enc := encI) h ?_
  clear h
  intro m W h
  repeat (first
    | simp only [↓bd150_0, ↓GG, NN, Nat.reduceAdd]
    | refine a_ld1 h ?_
    | refine a_ldN h ?_
    | refine a_rs1 h ?_
    | refine a_rsN h ?_
    | (refine u_draw h ?_; clear h; intro W h)
    | refine a_rd1 h ?_
    | refine a_rdN h ?_
    | (refine u_nr h ?_; clear h; intro b W h)
    | (refine u_bx h ?_; clear h; intro b W h)
    | (refine u_al h ?_; clear h; intro b W h)
    | (refine a_st h ?_; clear h; intro W h))
  refine ⟨_, rfl, ?_⟩
  refine storeC_shut (m := m) (L := []) (clock := 0) ?_
  have h1 : S w0 (stars [] :: _) _ := S.unemp h
  exact storeL_shut h1 (by repeat (first | exact Take.head | apply Take.tail)) (t2 := (by repeat (first | exact Take.head | apply Take.tail))) (by repeat (first | exact Take.head | apply Take.tail)) ⟨List.nodup_nil, fun id => by simp⟩

theorem ents_fst {L : SLay} : L.ents.map (·.1) = L.map (·.1) := by simp only [SLay.ents, List.map_map]; rfl

def Node.new (r : Nat) : Node := ⟨r, List.replicate 16 Cap.zero⟩
def Store.add (σ : Store) (id r : Int) : Int × Store :=
  if id < 0 ∨ id ≥ 64 ∨ r < 1 ∨ r > 4 then (1, σ) else if (σ id).isSome then (4, σ) else (0, fun x => if x = id then some (Node.new r.toNat) else σ x)

theorem sAdd {id r : Int} (h : S w0 (storeC s σ :: Γ) W) : Calls Try.prog F_slots_Store_Add #[.pointer (some ⟨s, 0, none⟩), .int .i64 id, .int .i64 r] W
    (Ret fun v W' => v = .int .i64 (σ.add id r).1 ∧ S w0 (storeC s (σ.add id r).2 :: Γ) W') := by
  obtain ⟨m, L, clock, h⟩ := storeC_open h
  refine c_slots_Store_Add ?_
  unfold h_slots_Store_Add
  obtain ⟨hf, h'⟩ := storeL_open h
  clear h
  have h := h'
  clear h'
  repeat' (first
    | simp only [*, ↓fa150_0, ↓ld148, ↓rd148, ↓eqneq147_n, ↓eqneq147_s, ↓bd153_0, ↓GG, NN, Nat.reduceAdd]
    | refine a_ld1 h ?_
    | refine a_ldN h ?_
    | refine a_rs1 h ?_
    | refine a_rsN h ?_
    | (refine u_draw h ?_; clear h; intro W h)
    | refine a_rd1 h ?_
    | refine a_rdN h ?_
    | (refine u_nr h ?_; clear h; intro b W h)
    | (refine u_bx h ?_; clear h; intro b W h)
    | (refine u_al h ?_; clear h; intro b W h)
    | (refine a_st h ?_; clear h; intro W h)
    | (refine oCond_split ?_ ?_ <;> intro d)
    | (refine oGk_split ?_ ?_ <;> intro d))
  all_goals try simp only [Bool.not_false, decide_eq_true_eq, decide_eq_false_iff_not] at *
  all_goals first
    | (have hp : σ.add id r = (1, σ) := by unfold Store.add; rw [if_pos (by omega)]
       rw [hp]
       exact ⟨rfl, storeC_shut ((storeL_shut h (by repeat (first | exact Take.head | apply Take.tail)) (by repeat (first | exact Take.head | apply Take.tail)) (by repeat (first | exact Take.head | apply Take.tail)) hf).subA)⟩)
    | skip
  have hin : ¬ (id < 0 ∨ id ≥ 64 ∨ r < 1 ∨ r > 4) := by omega
  refine r_lookup keyI (by kernel_rfl) (by kernel_rfl : zeroB Try.prog 147 = some (.pointer none)) h (Take.knows (by repeat (first | exact Take.head | apply Take.tail))) id ?_
  rw [mGet_ents]
  by_cases hid : id ∈ L.map (·.1)
  · obtain ⟨e, L1, L2, h1, h2, h3⟩ := find_some hid
    rw [h1]
    simp only [Option.map_some, Option.getD_some]
    repeat (first
    | simp only [↓fa150_0, ↓ld148, ↓rd148, ↓eqneq147_n, ↓eqneq147_s, ↓bd153_0, ↓GG, NN, Nat.reduceAdd]
    | refine a_ld1 h ?_
    | refine a_ldN h ?_
    | refine a_rs1 h ?_
    | refine a_rsN h ?_
    | (refine u_draw h ?_; clear h; intro W h)
    | refine a_rd1 h ?_
    | refine a_rdN h ?_
    | (refine u_nr h ?_; clear h; intro b W h)
    | (refine u_bx h ?_; clear h; intro b W h)
    | (refine u_al h ?_; clear h; intro b W h)
    | (refine a_st h ?_; clear h; intro W h))
    have hp : σ.add id r = (4, σ) := by unfold Store.add; rw [if_neg hin, if_pos ((hf.2 id).2 hid)]
    rw [hp]
    exact ⟨rfl, storeC_shut ((storeL_shut h (by repeat (first | exact Take.head | apply Take.tail)) (by repeat (first | exact Take.head | apply Take.tail)) (by repeat (first | exact Take.head | apply Take.tail)) hf).subA)⟩
  · rw [find_none hid]
    simp only [Option.map_none, Option.getD_none]
    repeat (first
    | simp only [↓fa150_0, ↓ld148, ↓rd148, ↓eqneq147_n, ↓eqneq147_s, ↓bd153_0, ↓GG, NN, Nat.reduceAdd]
    | refine a_ld1 h ?_
    | refine a_ldN h ?_
    | refine a_rs1 h ?_
    | refine a_rsN h ?_
    | (refine u_draw h ?_; clear h; intro W h)
    | refine a_rd1 h ?_
    | refine a_rdN h ?_
    | (refine u_nr h ?_; clear h; intro b W h)
    | (refine u_bx h ?_; clear h; intro b W h)
    | (refine u_al h ?_; clear h; intro b W h)
    | (refine a_st h ?_; clear h; intro W h))
    have hnone : mGet id L.ents = none := by rw [mGet_ents, find_none hid]; rfl
    refine r_update (El := T_p_slots_node) keyI (by kernel_rfl) h (by repeat (first | exact Take.head | apply Take.tail)) (by rw [ents_fst]; exact hf.1) id _ ?_
    clear h
    intro W h
    obtain ⟨k, rfl⟩ := Int.eq_ofNat_of_zero_le (show 0 ≤ r by omega)
    have hp : σ.add id k = (0, fun x => if x = id then some (Node.new (k : Int).toNat) else σ x) := by
      unfold Store.add; rw [if_neg hin, if_neg (fun h => hid ((hf.2 id).1 h))]
    rw [hp]
    refine ⟨rfl, ?_⟩
    generalize hσ : (fun x => if x = id then some (Node.new (k : Int).toNat) else σ x : Store) = σ'
    have e1 : ∀ b, mPut id (.pointer (some ⟨b, 0, none⟩)) clock L.ents = SLay.ents (L ++ [(id, b, clock)]) := by intro b; unfold mPut; rw [hnone]; simp [SLay.ents]
    have hs1 : σ' id = some (Node.new k) := by rw [← hσ]; simp
    have hs2 : ∀ x, x ≠ id → σ' x = σ x := by intro x hx; rw [← hσ]; simp [hx]
    rw [e1] at h
    have hwf : (Node.new k).Wf := ⟨by show 1 ≤ k; omega, by show k ≤ 4; omega, by simp [Node.new], fun i c _ hc => by
      simp only [Node.new] at hc
      exact (List.mem_replicate.1 (List.mem_of_getElem? hc)).2⟩
    have e2 : (L.map fun e => nodeC e.2.1 (σ e.1)) = L.map fun e => nodeC e.2.1 (σ' e.1) := by
      refine List.map_congr_left fun x hx => ?_
      rw [hs2 x.1 fun e => hid (List.mem_map.2 ⟨x, hx, e⟩)]
    rw [e2] at h
    have h1 := h.take (c := pts b (.cells (Node.new k).cells.toArray T_slots_node (0, 0))) (by repeat (first | exact Take.head | apply Take.tail))
    have h2 := S.unstar ((S.unfact hwf h1).take (.tail .head))
    have e3 : star (pts b (.cells (Node.new k).cells.toArray T_slots_node (0, 0))) (fact (Node.new k).Wf) = nodeC b (σ' id) := by rw [hs1]; rfl
    rw [e3] at h2
    have h3 := (h2.take (c := stars (L.map fun e => nodeC e.2.1 (σ' e.1))) (by repeat (first | exact Take.head | apply Take.tail))).take (.tail .head)
    have h4 := S.unpick (f := fun e : Int × Nat × Nat => nodeC e.2.1 (σ' e.1)) (l1 := L) (l2 := []) (x := (id, b, clock)) (by rw [List.append_nil]; exact h3)
    refine storeC_shut ((storeL_shut h4 (by repeat (first | exact Take.head | apply Take.tail)) (L := L ++ [(id, b, clock)]) (by repeat (first | exact Take.head | apply Take.tail)) (by repeat (first | exact Take.head | apply Take.tail)) ⟨?_, fun x => ?_⟩).subA)
    · rw [List.map_append, List.nodup_append]
      refine ⟨hf.1, by simp, fun a ha c hc => ?_⟩
      simp only [List.map_cons, List.map_nil, List.mem_singleton] at hc
      rintro rfl
      exact hid (hc ▸ ha)
    · rw [List.map_append, List.mem_append]
      simp only [List.map_cons, List.map_nil, List.mem_singleton]
      by_cases hx : x = id
      · subst hx; simp [hs1]
      · rw [hs2 x hx, hf.2]; simp [hx]
end
end Go.Proofs.Ytpghhaobcikdhaa
