/- The functions of a store of nodes. -/
import Derived.Test.YtpghhaobcikdhaaA2
namespace Go.Proofs.Ytpghhaobcikdhaa
open Go Go.Hw
set_option linter.unusedSimpArgs false
set_option linter.unusedVariables false
set_option maxRecDepth 100000

section
variable {w0 : World} {Γ : List Chunk} {W : World} {s m clock : Nat} {L : SLay} {σ : Store}

/-- one node of a store, and the rest of it -/
theorem storeL_at {id : Int} {blk born : Nat} (h : S w0 (storeL s m L clock σ :: Γ) W) (he : (id, blk, born) ∈ L) :
    ∃ n, σ id = some n ∧ n.Wf ∧ ∃ C : Chunk, S w0 (pts blk (.cells n.cells.toArray T_slots_node (0, 0)) :: C :: Γ) W ∧
      ∀ (n' : Node), n'.Wf → ∀ σ' : Store, σ' id = some n' → (∀ x, x ≠ id → σ' x = σ x) → ∀ {Γ0 Γ1 Γ : List Chunk} {W}, S w0 Γ0 W → Take (pts blk (.cells n'.cells.toArray T_slots_node (0, 0))) Γ0 Γ1 → Take C Γ1 Γ →
        S w0 (storeL s m L clock σ' :: Γ) W := by
  obtain ⟨hf, h⟩ := storeL_open h
  obtain ⟨L1, L2, hL⟩ := List.append_of_mem he
  obtain ⟨n, hn⟩ := Option.isSome_iff_exists.1 ((hf.2 id).2 (List.mem_map.2 ⟨_, he, rfl⟩))
  rw [hL] at h
  have h := S.pick (h.take (.tail (.tail .head)))
  simp only [hn] at h
  obtain ⟨hw, h⟩ := S.fact ((S.star h).take (.tail .head))
  refine ⟨n, hn, hw, star (stars ((L1 ++ L2).map fun e => nodeC e.2.1 (σ e.1))) (star (pts s (.cells #[.map (some m)] T_slots_Store (0, 0))) (pts m (mapO encI L.ents clock))), ?_, ?_⟩
  · rw [← hL] at h
    have h1 := (h.take (.tail (.tail .head))).take (.tail (.tail (.tail .head)))
    have h2 := S.unstar (h1.take (.tail .head))
    have h3 := S.unstar (h2.take (.tail (.tail .head)))
    exact h3.take (.tail .head)
  · intro n' hw' σ' hn' ho Γ0 Γ1 Γ W h t1 t2
    have h1 := (h.take t1).take (.tail t2)
    have h2 := S.star h1
    have h3 := S.star (h2.take (.tail .head))
    have hn1 : ∀ x ∈ L1 ++ L2, σ' x.1 = σ x.1 := by
      intro x hx
      refine ho x.1 fun e => ?_
      have := hf.1
      rw [hL, List.map_append, List.map_cons] at this
      have h4 := (List.perm_middle (a := id) (l₁ := L1.map (·.1)) (l₂ := L2.map (·.1))).nodup_iff.1 this
      rw [List.nodup_cons, ← List.map_append] at h4
      exact h4.1 (List.mem_map.2 ⟨x, hx, e⟩)
    have h6 := node_shut (e := (id, blk, born)) (L1 := L1) (L2 := L2) (σ := σ) (σ' := σ') h3 (by repeat (first | exact Take.head | apply Take.tail)) (by repeat (first | exact Take.head | apply Take.tail)) hw' hn' hn1
    rw [← hL] at h6
    refine (storeL_shut h6 (by repeat (first | exact Take.head | apply Take.tail)) (by repeat (first | exact Take.head | apply Take.tail)) (by repeat (first | exact Take.head | apply Take.tail)) ⟨hf.1, fun x => ?_⟩)
    by_cases hx : x = id
    · subst hx
      rw [hn']
      exact ⟨fun _ => List.mem_map.2 ⟨_, he, rfl⟩, fun _ => rfl⟩
    · rw [ho x hx]; exact hf.2 x

theorem take_n {n : Nat} {l : List Value} (h : n ≤ l.length) : (l.take n).length = n := by simp [h]

theorem Store_Get_spec {at_ : Slot} (h : S w0 (storeL s m L clock σ :: Γ) W) : Calls Try.prog F_slots_Store_Get #[.pointer (some ⟨s, 0, none⟩), slotV at_] W
    (Ret fun v W' => v = .tuple #[((σ.get at_).getD Cap.zero).v, .int .i64 (if (σ.get at_).isSome then 0 else 6)] ∧ S w0 (storeL s m L clock σ :: Γ) W') := by
  refine c_slots_Store_Get ?_
  unfold h_slots_Store_Get slotV
  repeat (first
    | simp only [↓rs68, ↓al68, ↓ld66, ↓rd66, ↓eqeql161_n, ↓eqeql161_s, ↓bd68_, ↓st68, ↓ld68, ↓rd68, ↓GG, NN, Nat.reduceAdd]
    | refine a_ld1 h ?_
    | refine a_ldN h ?_
    | refine a_rs1 h ?_
    | refine a_rsN h ?_
    | (refine u_draw h ?_; clear h; intro W h)
    | refine a_rd1 h ?_
    | refine a_rdN h ?_
    | (refine u_nr h ?_; clear h; intro b W h)
    | (refine u_bx h ?_; clear h; intro b W h)
    | (refine u_al h ?_; clear h; intro b W h)
    | (refine a_st h ?_; clear h; intro W h))
  refine r_call (Slot_slot_spec (at_ := at_) (h.take (by repeat (first | exact Take.head | apply Take.tail)))) ?_
  clear h
  rintro v W ⟨hv, h⟩
  cases hg : σ.get at_ with
  | none =>
    rw [hg] at hv
    subst hv
    repeat (first
    | simp only [↓rs68, ↓al68, ↓ld66, ↓rd66, ↓eqeql161_n, ↓eqeql161_s, ↓bd68_, ↓st68, ↓ld68, ↓rd68, ↓GG, NN, Nat.reduceAdd]
    | refine a_ld1 h ?_
    | refine a_ldN h ?_
    | refine a_rs1 h ?_
    | refine a_rsN h ?_
    | (refine u_draw h ?_; clear h; intro W h)
    | refine a_rd1 h ?_
    | refine a_rdN h ?_
    | (refine u_nr h ?_; clear h; intro b W h)
    | (refine u_bx h ?_; clear h; intro b W h)
    | (refine u_al h ?_; clear h; intro b W h)
    | (refine a_st h ?_; clear h; intro W h))
    exact ⟨rfl, h.subA⟩
  | some c =>
    rw [hg] at hv
    obtain ⟨blk, born, hm, rfl⟩ := hv
    obtain ⟨n, hn, hw, C, h, close⟩ := storeL_at h hm
    obtain ⟨n', hn', h0, h1, hc⟩ := Store.get_len hg
    rw [hn] at hn'
    cases hn'
    obtain ⟨hi, rfl⟩ := List.getElem?_eq_some_iff.1 hc
    repeat (first
    | simp only [↓rs68, ↓al68, ↓ld66, ↓rd66, ↓eqeql161_n, ↓eqeql161_s, ↓bd68_, ↓st68, ↓ld68, ↓rd68, ↓GG, NN, Nat.reduceAdd]
    | refine a_ld1 h ?_
    | refine a_ldN h ?_
    | refine a_rs1 h ?_
    | refine a_rsN h ?_
    | (refine u_draw h ?_; clear h; intro W h)
    | refine a_rd1 h ?_
    | refine a_rdN h ?_
    | (refine u_nr h ?_; clear h; intro b W h)
    | (refine u_bx h ?_; clear h; intro b W h)
    | (refine u_al h ?_; clear h; intro b W h)
    | (refine a_st h ?_; clear h; intro W h))
    have hl := hw.len
    refine u_ldN h (Take.knows (by repeat (first | exact Take.head | apply Take.tail))) (by simp only [List.size_toArray, Node.cells_len n hw]; omega) ?_
    rw [n.cells_at _ hi]
    simp only [Cap.cells]
    repeat (first
    | simp only [↓rs68, ↓al68, ↓ld66, ↓rd66, ↓eqeql161_n, ↓eqeql161_s, ↓bd68_, ↓st68, ↓ld68, ↓rd68, ↓GG, NN, Nat.reduceAdd]
    | refine a_ld1 h ?_
    | refine a_ldN h ?_
    | refine a_rs1 h ?_
    | refine a_rsN h ?_
    | (refine u_draw h ?_; clear h; intro W h)
    | refine a_rd1 h ?_
    | refine a_rdN h ?_
    | (refine u_nr h ?_; clear h; intro b W h)
    | (refine u_bx h ?_; clear h; intro b W h)
    | (refine u_al h ?_; clear h; intro b W h)
    | (refine a_st h ?_; clear h; intro W h))
    refine ⟨rfl, ?_⟩
    exact (close n hw σ hn (fun _ _ => rfl) h (by repeat (first | exact Take.head | apply Take.tail)) (by repeat (first | exact Take.head | apply Take.tail))).subA

theorem Store_Radix_spec {id : Int} (h : S w0 (storeL s m L clock σ :: Γ) W) : Calls Try.prog F_slots_Store_Radix #[.pointer (some ⟨s, 0, none⟩), .int .i64 id] W
    (Ret fun v W' => v = .int .i64 (match σ id with | some n => n.radix | none => 0) ∧ S w0 (storeL s m L clock σ :: Γ) W') := by
  refine c_slots_Store_Radix ?_
  unfold h_slots_Store_Radix
  obtain ⟨hf, h'⟩ := storeL_open h
  clear h
  have h := h'
  clear h'
  repeat (first
    | simp only [↓fa150_0, ↓ld148, ↓rd148, ↓eqneq147_n, ↓eqneq147_s, ↓fa153_0, ↓ld3, ↓rd3, ↓GG, NN, Nat.reduceAdd]
    | refine a_ld1 h ?_
    | refine a_ldN h ?_
    | refine a_rs1 h ?_
    | refine a_rsN h ?_
    | (refine u_draw h ?_; clear h; intro W h)
    | refine a_rd1 h ?_
    | refine a_rdN h ?_
    | (refine u_nr h ?_; clear h; intro b W h)
    | (refine u_bx h ?_; clear h; intro b W h)
    | (refine u_al h ?_; clear h; intro b W h)
    | (refine a_st h ?_; clear h; intro W h))
  refine r_lookup keyI (by kernel_rfl) (by kernel_rfl : zeroB Try.prog 147 = some (.pointer none)) h (Take.knows (by repeat (first | exact Take.head | apply Take.tail))) id ?_
  rw [mGet_ents]
  by_cases hin : id ∈ L.map (·.1)
  · obtain ⟨e, L1, L2, h1, rfl, h3⟩ := find_some hin
    rw [h1]
    simp only [Option.map_some, Option.getD_some]
    have hs := (storeL_shut h (by repeat (first | exact Take.head | apply Take.tail)) (by repeat (first | exact Take.head | apply Take.tail)) (by repeat (first | exact Take.head | apply Take.tail)) hf).sub (Γ' := storeL s m L clock σ :: Γ) (by repeat (first | exact List.Sublist.refl _ | apply List.Sublist.cons_cons | apply List.Sublist.cons))
    clear h
    obtain ⟨n, hn, hw, C, h, close⟩ := storeL_at (id := e.1) (blk := e.2.1) (born := e.2.2) hs (by rw [h3]; simp)
    clear hs
    repeat (first
    | simp only [↓fa150_0, ↓ld148, ↓rd148, ↓eqneq147_n, ↓eqneq147_s, ↓fa153_0, ↓ld3, ↓rd3, ↓GG, NN, Nat.reduceAdd]
    | refine a_ld1 h ?_
    | refine a_ldN h ?_
    | refine a_rs1 h ?_
    | refine a_rsN h ?_
    | (refine u_draw h ?_; clear h; intro W h)
    | refine a_rd1 h ?_
    | refine a_rdN h ?_
    | (refine u_nr h ?_; clear h; intro b W h)
    | (refine u_bx h ?_; clear h; intro b W h)
    | (refine u_al h ?_; clear h; intro b W h)
    | (refine a_st h ?_; clear h; intro W h))
    exact ⟨by rw [hn], (close n hw σ hn (fun _ _ => rfl) h (by repeat (first | exact Take.head | apply Take.tail)) (by repeat (first | exact Take.head | apply Take.tail))).subA⟩
  · have hn : σ id = none := by
      cases hs : σ id with
      | none => rfl
      | some n => exact absurd ((hf.2 id).1 (by simp [hs])) hin
    rw [find_none hin]
    simp only [Option.map_none, Option.getD_none]
    repeat (first
    | simp only [↓fa150_0, ↓ld148, ↓rd148, ↓eqneq147_n, ↓eqneq147_s, ↓fa153_0, ↓ld3, ↓rd3, ↓GG, NN, Nat.reduceAdd]
    | refine a_ld1 h ?_
    | refine a_ldN h ?_
    | refine a_rs1 h ?_
    | refine a_rsN h ?_
    | (refine u_draw h ?_; clear h; intro W h)
    | refine a_rd1 h ?_
    | refine a_rdN h ?_
    | (refine u_nr h ?_; clear h; intro b W h)
    | (refine u_bx h ?_; clear h; intro b W h)
    | (refine u_al h ?_; clear h; intro b W h)
    | (refine a_st h ?_; clear h; intro W h))
    exact ⟨by rw [hn], (storeL_shut h (by repeat (first | exact Take.head | apply Take.tail)) (by repeat (first | exact Take.head | apply Take.tail)) (by repeat (first | exact Take.head | apply Take.tail)) hf).subA⟩

theorem Node.cells_kind (n : Node) (i : Nat) (h : i < n.caps.length) : n.cells.toArray.toList[1 + 6 * i]? = some (.int .i64 n.caps[i].kind) := by
  have e := congrArg (fun l : List Value => l[0]?) (n.cells_at i h)
  simp only [List.getElem?_take, List.getElem?_drop] at e
  simpa [Cap.cells] using e

/-- what comes of laying a capability in: the error, and the store -/
def Store.put (σ : Store) (a : Slot) (c : Cap) : Int × Store :=
  match σ.get a with
  | none => (6, σ)
  | some x => if c.check ≠ 0 then (c.check, σ) else if c.kind = 0 then (3, σ) else if x.kind ≠ 0 then (4, σ) else (0, σ.set a c)

theorem Store.set_same {σ : Store} {a : Slot} {c : Cap} {n : Node} (h : σ a.1 = some n) : σ.set a c a.1 = some (n.set a.2.toNat c) := by simp [Store.set, h]
theorem Store.set_other {σ : Store} {a : Slot} {c : Cap} (x : Int) (h : x ≠ a.1) : σ.set a c x = σ x := by simp [Store.set, h]

theorem Store_Put_spec {at_ : Slot} {c : Cap} (h : S w0 (storeL s m L clock σ :: Γ) W) : Calls Try.prog F_slots_Store_Put #[.pointer (some ⟨s, 0, none⟩), slotV at_, c.v] W
    (Ret fun v W' => v = .int .i64 (σ.put at_ c).1 ∧ S w0 (storeL s m L clock (σ.put at_ c).2 :: Γ) W') := by
  refine c_slots_Store_Put ?_
  unfold h_slots_Store_Put slotV
  rw [Cap.v]
  repeat (first
    | simp only [↓ld66, ↓rd66, ↓eqeql161_n, ↓eqeql161_s, ↓ld68, ↓rd68, ↓fa68_0, ↓ld3, ↓rd3, ↓st68, ↓GG, NN, Nat.reduceAdd]
    | refine a_ld1 h ?_
    | refine a_ldN h ?_
    | refine a_rs1 h ?_
    | refine a_rsN h ?_
    | (refine u_draw h ?_; clear h; intro W h)
    | refine a_rd1 h ?_
    | refine a_rdN h ?_
    | (refine u_nr h ?_; clear h; intro b W h)
    | (refine u_bx h ?_; clear h; intro b W h)
    | (refine u_al h ?_; clear h; intro b W h)
    | (refine a_st h ?_; clear h; intro W h))
  refine r_call (Slot_slot_spec (at_ := at_) (h.take (by repeat (first | exact Take.head | apply Take.tail)))) ?_
  clear h
  rintro v W ⟨hv, h⟩
  cases hg : σ.get at_ with
  | none =>
    rw [hg] at hv
    subst hv
    repeat (first
    | simp only [↓ld66, ↓rd66, ↓eqeql161_n, ↓eqeql161_s, ↓ld68, ↓rd68, ↓fa68_0, ↓ld3, ↓rd3, ↓st68, ↓GG, NN, Nat.reduceAdd]
    | refine a_ld1 h ?_
    | refine a_ldN h ?_
    | refine a_rs1 h ?_
    | refine a_rsN h ?_
    | (refine u_draw h ?_; clear h; intro W h)
    | refine a_rd1 h ?_
    | refine a_rdN h ?_
    | (refine u_nr h ?_; clear h; intro b W h)
    | (refine u_bx h ?_; clear h; intro b W h)
    | (refine u_al h ?_; clear h; intro b W h)
    | (refine a_st h ?_; clear h; intro W h))
    exact ⟨by simp [Store.put, hg], by simp only [Store.put, hg]; exact h.subA⟩
  | some x =>
    rw [hg] at hv
    obtain ⟨blk, born, hm, rfl⟩ := hv
    repeat (first
    | simp only [↓ld66, ↓rd66, ↓eqeql161_n, ↓eqeql161_s, ↓ld68, ↓rd68, ↓fa68_0, ↓ld3, ↓rd3, ↓st68, ↓GG, NN, Nat.reduceAdd]
    | refine a_ld1 h ?_
    | refine a_ldN h ?_
    | refine a_rs1 h ?_
    | refine a_rsN h ?_
    | (refine u_draw h ?_; clear h; intro W h)
    | refine a_rd1 h ?_
    | refine a_rdN h ?_
    | (refine u_nr h ?_; clear h; intro b W h)
    | (refine u_bx h ?_; clear h; intro b W h)
    | (refine u_al h ?_; clear h; intro b W h)
    | (refine a_st h ?_; clear h; intro W h))
    refine r_call (cap_Check_spec (c := c) h) ?_
    clear h
    rintro v W ⟨rfl, h⟩
    obtain ⟨n, hn, hw, C, h, close⟩ := storeL_at h hm
    obtain ⟨n', hn', h0, h1, hc⟩ := Store.get_len hg
    rw [hn] at hn'
    cases hn'
    obtain ⟨hi, rfl⟩ := List.getElem?_eq_some_iff.1 hc
    have hl := hw.len
    repeat' (first
    | simp only [*, ↓ld66, ↓rd66, ↓eqeql161_n, ↓eqeql161_s, ↓ld68, ↓rd68, ↓fa68_0, ↓ld3, ↓rd3, ↓st68, ↓GG, NN, Nat.reduceAdd]
    | (refine u_ld1 (v := .int .i64 n.caps[at_.2.toNat].kind) h (Take.knows (by repeat (first | exact Take.head | apply Take.tail))) (n.cells_kind _ hi) ?_)
    | (refine u_st h (by repeat (first | exact Take.head | apply Take.tail)) (by rfl) (by rfl) (by simp only [List.size_toArray, Node.cells_len n hw]; omega) ?_; clear h; intro W h)
    | refine a_ld1 h ?_
    | refine a_ldN h ?_
    | refine a_rs1 h ?_
    | refine a_rsN h ?_
    | (refine u_draw h ?_; clear h; intro W h)
    | refine a_rd1 h ?_
    | refine a_rdN h ?_
    | (refine u_nr h ?_; clear h; intro b W h)
    | (refine u_bx h ?_; clear h; intro b W h)
    | (refine u_al h ?_; clear h; intro b W h)
    | (refine a_st h ?_; clear h; intro W h)
    | (refine oCond_split ?_ ?_ <;> intro d)
    | (refine oGk_split ?_ ?_ <;> intro d))
    all_goals simp only [bne_iff_ne, ne_eq, bne_eq_false_iff_eq, beq_iff_eq, beq_eq_false_iff_ne] at *
    · have hp : σ.put at_ c = (c.check, σ) := by simp [Store.put, hg, ‹¬c.check = 0›]
      rw [hp]
      exact ⟨rfl, (close n hw σ hn (fun _ _ => rfl) h (by repeat (first | exact Take.head | apply Take.tail)) (by repeat (first | exact Take.head | apply Take.tail))).subA⟩
    · have hp : σ.put at_ c = (3, σ) := by simp [Store.put, hg, ‹c.check = 0›, ‹c.kind = 0›]
      rw [hp]
      exact ⟨rfl, (close n hw σ hn (fun _ _ => rfl) h (by repeat (first | exact Take.head | apply Take.tail)) (by repeat (first | exact Take.head | apply Take.tail))).subA⟩
    · have hp : σ.put at_ c = (4, σ) := by simp [Store.put, hg, ‹c.check = 0›, ‹¬c.kind = 0›, ‹¬n.caps[at_.2.toNat].kind = 0›]
      rw [hp]
      exact ⟨rfl, (close n hw σ hn (fun _ _ => rfl) h (by repeat (first | exact Take.head | apply Take.tail)) (by repeat (first | exact Take.head | apply Take.tail))).subA⟩
    · have hp : σ.put at_ c = (0, σ.set at_ c) := by simp [Store.put, hg, ‹c.check = 0›, ‹¬c.kind = 0›, ‹n.caps[at_.2.toNat].kind = 0›]
      rw [hp]
      have e : putL n.cells.toArray.toList (1 + 6 * at_.2.toNat) c.v.cells.toList = (n.set at_.2.toNat c).cells := n.cells_put _ c hi
      have h : S w0 _ _ := h
      change S w0 (pts blk (.cells (putL n.cells.toArray.toList (1 + 6 * at_.2.toNat) c.v.cells.toList).toArray T_slots_node (0, 0)) :: _) _ at h
      rw [e] at h
      exact ⟨rfl, (close _ (hw.set (by omega) c) _ (Store.set_same hn) (fun x hx => Store.set_other x hx) h (by repeat (first | exact Take.head | apply Take.tail)) (by repeat (first | exact Take.head | apply Take.tail))).subA⟩

/-- what comes of taking a capability out -/
def Store.takeOut (σ : Store) (a : Slot) : (Cap × Int) × Store :=
  match σ.get a with
  | none => ((Cap.zero, 6), σ)
  | some x => if x.kind = 0 then ((Cap.zero, 3), σ) else ((x, 0), σ.set a Cap.zero)

theorem Store_Take_spec {at_ : Slot} (h : S w0 (storeL s m L clock σ :: Γ) W) : Calls Try.prog F_slots_Store_Take #[.pointer (some ⟨s, 0, none⟩), slotV at_] W
    (Ret fun v W' => v = .tuple #[(σ.takeOut at_).1.1.v, .int .i64 (σ.takeOut at_).1.2] ∧ S w0 (storeL s m L clock (σ.takeOut at_).2 :: Γ) W') := by
  refine c_slots_Store_Take ?_
  unfold h_slots_Store_Take slotV
  repeat (first
    | simp only [↓rs68, ↓al68, ↓ld66, ↓rd66, ↓eqeql161_n, ↓eqeql161_s, ↓bd68_, ↓st68, ↓fa68_0, ↓ld3, ↓rd3, ↓ld68, ↓rd68, ↓GG, NN, Nat.reduceAdd]
    | refine a_ld1 h ?_
    | refine a_ldN h ?_
    | refine a_rs1 h ?_
    | refine a_rsN h ?_
    | (refine u_draw h ?_; clear h; intro W h)
    | refine a_rd1 h ?_
    | refine a_rdN h ?_
    | (refine u_nr h ?_; clear h; intro b W h)
    | (refine u_bx h ?_; clear h; intro b W h)
    | (refine u_al h ?_; clear h; intro b W h)
    | (refine a_st h ?_; clear h; intro W h))
  refine r_call (Slot_slot_spec (at_ := at_) (h.take (by repeat (first | exact Take.head | apply Take.tail)))) ?_
  clear h
  rintro v W ⟨hv, h⟩
  cases hg : σ.get at_ with
  | none =>
    rw [hg] at hv
    subst hv
    repeat (first
    | simp only [↓rs68, ↓al68, ↓ld66, ↓rd66, ↓eqeql161_n, ↓eqeql161_s, ↓bd68_, ↓st68, ↓fa68_0, ↓ld3, ↓rd3, ↓ld68, ↓rd68, ↓GG, NN, Nat.reduceAdd]
    | refine a_ld1 h ?_
    | refine a_ldN h ?_
    | refine a_rs1 h ?_
    | refine a_rsN h ?_
    | (refine u_draw h ?_; clear h; intro W h)
    | refine a_rd1 h ?_
    | refine a_rdN h ?_
    | (refine u_nr h ?_; clear h; intro b W h)
    | (refine u_bx h ?_; clear h; intro b W h)
    | (refine u_al h ?_; clear h; intro b W h)
    | (refine a_st h ?_; clear h; intro W h)
    | refine oJoin_inl ?_)
    have hp : σ.takeOut at_ = ((Cap.zero, 6), σ) := by simp [Store.takeOut, hg]
    rw [hp]
    exact ⟨rfl, h.subA⟩
  | some x =>
    rw [hg] at hv
    obtain ⟨blk, born, hm, rfl⟩ := hv
    obtain ⟨n, hn, hw, C, h, close⟩ := storeL_at h hm
    obtain ⟨n', hn', h0, h1, hc⟩ := Store.get_len hg
    rw [hn] at hn'
    cases hn'
    obtain ⟨hi, rfl⟩ := List.getElem?_eq_some_iff.1 hc
    have hl := hw.len
    repeat' (first
    | simp only [*, ↓rs68, ↓al68, ↓ld66, ↓rd66, ↓eqeql161_n, ↓eqeql161_s, ↓bd68_, ↓st68, ↓fa68_0, ↓ld3, ↓rd3, ↓ld68, ↓rd68, ↓GG, NN, Nat.reduceAdd]
    | (refine u_ld1 (v := .int .i64 n.caps[at_.2.toNat].kind) h (Take.knows (by repeat (first | exact Take.head | apply Take.tail))) (n.cells_kind _ hi) ?_)
    | (refine u_ldN h (Take.knows (by repeat (first | exact Take.head | apply Take.tail))) (by simp only [List.size_toArray, Node.cells_len n hw]; omega) ?_; rw [n.cells_at _ hi]; simp only [Cap.cells])
    | (refine u_st h (by repeat (first | exact Take.head | apply Take.tail)) (by rfl) (by rfl) (by simp only [List.size_toArray, Node.cells_len n hw]; omega) ?_; clear h; intro W h)
    | refine a_ld1 h ?_
    | refine a_ldN h ?_
    | refine a_rs1 h ?_
    | refine a_rsN h ?_
    | (refine u_draw h ?_; clear h; intro W h)
    | refine a_rd1 h ?_
    | refine a_rdN h ?_
    | (refine u_nr h ?_; clear h; intro b W h)
    | (refine u_bx h ?_; clear h; intro b W h)
    | (refine u_al h ?_; clear h; intro b W h)
    | (refine a_st h ?_; clear h; intro W h)
    | refine oJoin_inl ?_
    | (refine oCond_split ?_ ?_ <;> intro d)
    | (refine oGk_split ?_ ?_ <;> intro d))
    all_goals simp only [beq_iff_eq, beq_eq_false_iff_ne] at *
    · have hp : σ.takeOut at_ = ((Cap.zero, 3), σ) := by simp [Store.takeOut, hg, ‹n.caps[at_.2.toNat].kind = 0›]
      rw [hp]
      exact ⟨rfl, (close n hw σ hn (fun _ _ => rfl) h (by repeat (first | exact Take.head | apply Take.tail)) (by repeat (first | exact Take.head | apply Take.tail))).subA⟩
    · have hp : σ.takeOut at_ = ((n.caps[at_.2.toNat], 0), σ.set at_ Cap.zero) := by
        have : n.caps[at_.2.toNat].kind ≠ 0 := by assumption
        simp [Store.takeOut, hg, this]
      rw [hp]
      have e : putL n.cells.toArray.toList (1 + 6 * at_.2.toNat) Cap.zero.v.cells.toList = (n.set at_.2.toNat Cap.zero).cells := n.cells_put _ Cap.zero hi
      have h : S w0 _ _ := h.take (c := pts blk (.cells (putL n.cells.toArray.toList (1 + 6 * at_.2.toNat) Cap.zero.v.cells.toList).toArray T_slots_node (0, 0))) (by repeat (first | exact Take.head | apply Take.tail))
      rw [e] at h
      exact ⟨rfl, (close _ (hw.set (by omega) Cap.zero) _ (Store.set_same hn) (fun x hx => Store.set_other x hx) h (by repeat (first | exact Take.head | apply Take.tail)) (by repeat (first | exact Take.head | apply Take.tail))).subA⟩
end
end Go.Proofs.Ytpghhaobcikdhaa
