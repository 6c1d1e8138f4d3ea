/- Nodes of slots, as values and in memory. -/
import Derived.Test.YtpghhaobcikdhaaRuR
import Derived.Test.YtpghhaobcikdhaaCaR
namespace Go.Proofs.Ytpghhaobcikdhaa
open Go Go.Hw
set_option linter.unusedSimpArgs false
set_option linter.unusedVariables false
set_option maxRecDepth 100000

structure Cap where
  kind : Int
  object : Int
  rights : Int
  badge : Int
  guard : Int
  bits : Int
  deriving DecidableEq

def Cap.zero : Cap := ⟨0, 0, 0, 0, 0, 0⟩

abbrev Slot := Int × Int

def Cap.cells (c : Cap) : List Value := [.int .i64 c.kind, .int .i64 c.object, .int .i64 c.rights, .int .u64 c.badge, .int .u64 c.guard, .int .i64 c.bits]
def Cap.v (c : Cap) : Value := .agg #[.int .i64 c.kind, .int .i64 c.object, .int .i64 c.rights, .int .u64 c.badge, .int .u64 c.guard, .int .i64 c.bits]
def slotV (s : Slot) : Value := .agg #[.int .i64 s.1, .int .i64 s.2]
def intV (n : Int) : Value := .int .i64 n

structure Node where
  radix : Nat
  caps : List Cap

structure Node.Wf (n : Node) : Prop where
  pos : 1 ≤ n.radix
  le : n.radix ≤ 4
  len : n.caps.length = 16
  top : ∀ i c, 2 ^ n.radix ≤ i → n.caps[i]? = some c → c = Cap.zero

def Node.cells (n : Node) : List Value := .int .i64 n.radix :: n.caps.flatMap Cap.cells

abbrev Store := Int → Option Node

def Store.get (σ : Store) (s : Slot) : Option Cap :=
  match σ s.1 with
  | some n => if 0 ≤ s.2 ∧ s.2 < (2 ^ n.radix : Nat) then n.caps[s.2.toNat]? else none
  | none => none

def Node.set (n : Node) (i : Nat) (c : Cap) : Node := { n with caps := n.caps.set i c }
def Store.set (σ : Store) (s : Slot) (c : Cap) : Store := fun x => if x = s.1 then (σ x).map (·.set s.2.toNat c) else σ x

theorem caps_len (l : List Cap) : (l.flatMap Cap.cells).length = 6 * l.length := by
  induction l with
  | nil => rfl
  | cons c l ih => rw [List.flatMap_cons, List.length_append, ih]; simp [Cap.cells]; omega

theorem putL_append (p l x : List Value) (k : Nat) : putL (p ++ l) (p.length + k) x = p ++ putL l k x := by
  unfold putL
  rw [List.take_length_add_append, Nat.add_assoc, List.drop_length_add_append]
  simp

theorem caps_drop (l : List Cap) (i : Nat) (rest : List Value) (h : i < l.length) : ((l.flatMap Cap.cells ++ rest).drop (6 * i)).take 6 = l[i].cells := by
  induction l generalizing i with
  | nil => simp at h
  | cons c l ih =>
    cases i with
    | zero => simp [Cap.cells]
    | succ i =>
      have : (c :: l).flatMap Cap.cells ++ rest = c.cells ++ (l.flatMap Cap.cells ++ rest) := by simp
      rw [this, show 6 * (i + 1) = c.cells.length + 6 * i from by simp [Cap.cells]; omega, List.drop_length_add_append]
      simpa using ih i (by simpa using h)

theorem caps_put (l : List Cap) (i : Nat) (c : Cap) (h : i < l.length) : putL (l.flatMap Cap.cells) (6 * i) c.cells = (l.set i c).flatMap Cap.cells := by
  induction l generalizing i with
  | nil => simp at h
  | cons a l ih =>
    cases i with
    | zero => simp [putL, Cap.cells]
    | succ i =>
      rw [List.flatMap_cons, show 6 * (i + 1) = a.cells.length + 6 * i from by simp [Cap.cells]; omega, putL_append, ih i (by simpa using h)]
      simp

theorem Node.cells_len (n : Node) (h : n.Wf) : n.cells.length = 97 := by
  rw [Node.cells, List.length_cons, caps_len, h.len]

theorem Node.cells_at (n : Node) (i : Nat) (h : i < n.caps.length) : ((n.cells.toArray.toList.drop (1 + 6 * i)).take 6) = n.caps[i].cells := by
  have := caps_drop n.caps i [] h
  simp only [List.append_nil] at this
  simp only [Node.cells, List.toList_toArray]
  rw [show 1 + 6 * i = [Value.int .i64 n.radix].length + 6 * i from by simp]
  rw [show (Value.int .i64 n.radix :: n.caps.flatMap Cap.cells) = [Value.int .i64 n.radix] ++ n.caps.flatMap Cap.cells from rfl, List.drop_length_add_append]
  exact this

theorem Node.cells_put (n : Node) (i : Nat) (c : Cap) (h : i < n.caps.length) : putL n.cells.toArray.toList (1 + 6 * i) c.cells = (n.set i c).cells := by
  simp only [Node.cells, List.toList_toArray, Node.set]
  rw [show 1 + 6 * i = [Value.int .i64 n.radix].length + 6 * i from by simp]
  rw [show (Value.int .i64 n.radix :: n.caps.flatMap Cap.cells) = [Value.int .i64 n.radix] ++ n.caps.flatMap Cap.cells from rfl, putL_append, caps_put _ _ _ h]
  rfl

theorem Node.Wf.set {n : Node} (h : n.Wf) {i : Nat} (hi : i < 2 ^ n.radix) (c : Cap) : (n.set i c).Wf :=
  ⟨h.pos, h.le, by simp [Node.set, h.len], fun j d hj hd => by
    have hj : 2 ^ n.radix ≤ j := hj
    simp only [Node.set] at hd
    rw [List.getElem?_set_ne (by omega)] at hd
    exact h.top j d hj hd⟩

theorem Store.get_len {σ : Store} {s : Slot} {c : Cap} (h : σ.get s = some c) : ∃ n, σ s.1 = some n ∧ 0 ≤ s.2 ∧ s.2 < (2 ^ n.radix : Nat) ∧ n.caps[s.2.toNat]? = some c := by
  unfold Store.get at h
  split at h
  · rename_i n hn
    split at h
    · rename_i hc; exact ⟨n, hn, hc.1, hc.2, h⟩
    · cases h
  · cases h

/-- where the nodes lie: by id, block, and the map's own stamp -/
abbrev SLay := List (Int × Nat × Nat)
def encI (n : Int) : Value := .int .i64 n
def SLay.ents (L : SLay) : List (Int × Value × Nat) := L.map fun e => (e.1, .pointer (some ⟨e.2.1, 0, none⟩), e.2.2)

def nodeC (blk : Nat) (n : Option Node) : Chunk :=
  match n with
  | some n => star (pts blk (.cells n.cells.toArray T_slots_node (0, 0))) (fact n.Wf)
  | none => fact False

def storeL (s m : Nat) (L : SLay) (clock : Nat) (σ : Store) : Chunk :=
  star (pts s (.cells #[.map (some m)] T_slots_Store (0, 0))) (star (pts m (mapO encI L.ents clock)) (star (fact ((L.map (·.1)).Nodup ∧ ∀ id, (σ id).isSome = true ↔ id ∈ L.map (·.1)))
    (stars (L.map fun e => nodeC e.2.1 (σ e.1)))))

theorem keyI : KeyOk Try.prog T_int encI := keyOk_int (by kernel_rfl)


theorem mGet_ents {L : SLay} {id : Int} : mGet id L.ents = (L.find? fun e => id = e.1).map fun e => .pointer (some ⟨e.2.1, 0, none⟩) := by
  unfold mGet SLay.ents
  rw [List.find?_map]
  simp only [Option.map_map]
  rfl

theorem find_none {L : SLay} {id : Int} (h : id ∉ L.map (·.1)) : (L.find? fun e => id = e.1) = none := by
  rw [List.find?_eq_none]
  intro e he
  simp only [decide_eq_true_eq]
  rintro rfl
  exact h (List.mem_map.2 ⟨e, he, rfl⟩)

theorem find_some {L : SLay} {id : Int} (h : id ∈ L.map (·.1)) : ∃ e L1 L2, (L.find? fun e => id = e.1) = some e ∧ e.1 = id ∧ L = L1 ++ e :: L2 := by
  cases hf : L.find? fun e => id = e.1 with
  | none =>
    rw [List.find?_eq_none] at hf
    obtain ⟨e, he, rfl⟩ := List.mem_map.1 h
    exact absurd (hf e he) (by simp)
  | some e =>
    obtain ⟨L1, L2, h1⟩ := List.append_of_mem (List.mem_of_find?_eq_some hf)
    exact ⟨e, L1, L2, rfl, by have := List.find?_some hf; simp only [decide_eq_true_eq] at this; exact this.symm, h1⟩

theorem size_spec {w0 : World} {Γ : List Chunk} {W : World} {b : Nat} {n : Node} (h : S w0 Γ W) (hk : Knows Γ b (.cells n.cells.toArray T_slots_node (0, 0))) (hn : n.Wf) :
    Calls Try.prog F_slots_node_size #[.pointer (some ⟨b, 0, none⟩)] W (Ret fun v W' => v = .int .i64 (2 ^ n.radix : Nat) ∧ W' = W) := by
  refine c_slots_node_size ?_
  unfold h_slots_node_size
  simp only [↓fa153_0, ↓ld3, ↓rd3, ↓GG, NN, Nat.reduceAdd]
  refine u_ld1 h hk (by rfl) ?_
  rw [b_shl (by omega)]
  refine ⟨?_, rfl⟩
  have h1 := hn.pos
  have h2 := hn.le
  have : n.radix = 1 ∨ n.radix = 2 ∨ n.radix = 3 ∨ n.radix = 4 := by omega
  rcases this with h | h | h | h <;> rw [h] <;> rfl

theorem storeL_open {w0 : World} {s m clock : Nat} {L : SLay} {σ : Store} {Γ : List Chunk} {W : World} (h : S w0 (storeL s m L clock σ :: Γ) W) :
    ((L.map (·.1)).Nodup ∧ ∀ id, (σ id).isSome = true ↔ id ∈ L.map (·.1)) ∧
    S w0 (pts s (.cells #[.map (some m)] T_slots_Store (0, 0)) :: pts m (mapO encI L.ents clock) :: stars (L.map fun e => nodeC e.2.1 (σ e.1)) :: Γ) W := by
  have h1 := ((h.star).take (.tail .head)).star
  have h2 := S.fact (S.star (h1.take (.tail .head)))
  have h3 := h2.2
  have h4 := h3.take (.tail .head)
  exact ⟨h2.1, h4.take (.tail (.tail .head))⟩

theorem storeL_shut {w0 : World} {s m clock : Nat} {L : SLay} {σ : Store} {Γ0 Γ1 Γ2 Γ : List Chunk} {W : World} (h : S w0 Γ0 W) (t1 : Take (pts s (.cells #[.map (some m)] T_slots_Store (0, 0))) Γ0 Γ1)
    (t2 : Take (pts m (mapO encI L.ents clock)) Γ1 Γ2) (t3 : Take (stars (L.map fun e => nodeC e.2.1 (σ e.1))) Γ2 Γ)
    (hf : (L.map (·.1)).Nodup ∧ ∀ id, (σ id).isSome = true ↔ id ∈ L.map (·.1)) : S w0 (storeL s m L clock σ :: Γ) W := by
  have h1 := (h.take t1).take (.tail t2)
  have h2 := h1.take (.tail (.tail t3))
  have h3 := S.unstar (S.unfact hf h2)
  have h4 := S.unstar (h3.take (.tail .head))
  exact S.unstar (h4.take (.tail .head))

theorem node_shut {w0 : World} {L1 L2 : SLay} {e : Int × Nat × Nat} {σ σ' : Store} {n' : Node} {Γ0 Γ1 Γ2 : List Chunk} {W : World} (h : S w0 Γ0 W) (t1 : Take (pts e.2.1 (.cells n'.cells.toArray T_slots_node (0, 0))) Γ0 Γ1)
    (t2 : Take (stars ((L1 ++ L2).map fun e => nodeC e.2.1 (σ e.1))) Γ1 Γ2) (hw : n'.Wf) (hn : σ' e.1 = some n') (ho : ∀ x ∈ L1 ++ L2, σ' x.1 = σ x.1) :
    S w0 (stars ((L1 ++ e :: L2).map fun e => nodeC e.2.1 (σ' e.1)) :: Γ2) W := by
  have h1 := (h.take t1).take (.tail t2)
  have h2 : S w0 (nodeC e.2.1 (σ' e.1) :: stars ((L1 ++ L2).map fun e => nodeC e.2.1 (σ e.1)) :: Γ2) W := by
    rw [hn]
    exact S.unstar ((S.unfact hw (h1.take (.tail .head))).take (.tail .head))
  have e1 : ((L1 ++ L2).map fun e => nodeC e.2.1 (σ e.1)) = (L1 ++ L2).map fun e => nodeC e.2.1 (σ' e.1) :=
    List.map_congr_left fun x hx => by rw [ho x hx]
  rw [e1] at h2
  exact S.unpick (f := fun e : Int × Nat × Nat => nodeC e.2.1 (σ' e.1)) h2

theorem Slot_slot_spec {w0 : World} {Γ : List Chunk} {W : World} {s m clock : Nat} {L : SLay} {σ : Store} {at_ : Slot} (h : S w0 (storeL s m L clock σ :: Γ) W) :
    Calls Try.prog F_slots_Store_slot #[.pointer (some ⟨s, 0, none⟩), slotV at_] W (Ret fun v W' => (match σ.get at_ with
      | none => v = .pointer none
      | some _ => ∃ blk born, (at_.1, blk, born) ∈ L ∧ v = .pointer (some ⟨blk, 1 + 6 * at_.2.toNat, none⟩)) ∧ S w0 (storeL s m L clock σ :: Γ) W') := by
  refine c_slots_Store_slot ?_
  unfold h_slots_Store_slot slotV
  obtain ⟨hf, h⟩ := storeL_open h
  repeat (first
    | simp only [↓fa150_0, ↓ld148, ↓rd148, ↓fa66_0, ↓ld3, ↓rd3, ↓eqeql147_n, ↓eqeql147_s, ↓fa66_1, ↓fa153_1, ↓ia151, ↓GG, NN, Nat.reduceAdd]
    | refine a_ld1 h ?_
    | refine a_ldN h ?_
    | refine a_rs1 h ?_
    | refine a_rsN h ?_
    | (refine u_draw h ?_; clear h; intro W h)
    | refine a_rd1 h ?_
    | refine a_rdN h ?_
    | (refine u_nr h ?_; clear h; intro b W h)
    | (refine u_bx h ?_; clear h; intro b W h)
    | (refine u_al h ?_; clear h; intro b W h)
    | (refine a_st h ?_; clear h; intro W h))
  refine r_lookup keyI (by kernel_rfl) (by kernel_rfl : zeroB Try.prog 147 = some (.pointer none)) h (Take.knows (by repeat (first | exact Take.head | apply Take.tail))) at_.1 ?_
  rw [mGet_ents]
  by_cases hin : at_.1 ∈ L.map (·.1)
  · obtain ⟨e, L1, L2, h1, h2, h3⟩ := find_some hin
    obtain ⟨n, hn⟩ := Option.isSome_iff_exists.1 ((hf.2 at_.1).2 hin)
    rw [h1]
    simp only [Option.map_some, Option.getD_some]
    rw [h3] at h
    have h := S.pick (h.take (.tail (.tail (.tail .head))))
    rw [h2, hn] at h
    obtain ⟨hw, h⟩ := S.fact ((S.star h).take (.tail .head))
    have fin : ∀ {Γ1 Γ2 Γ3 Γ4 : List Chunk} {W : World}, S w0 Γ1 W → Take (pts e.2.1 (.cells n.cells.toArray T_slots_node (0, 0))) Γ1 Γ2 → Take (stars ((L1 ++ L2).map fun e => nodeC e.2.1 (σ e.1))) Γ2 Γ3 →
        Take (pts s (.cells #[.map (some m)] T_slots_Store (0, 0))) Γ3 Γ4 → ∀ {Γ5 : List Chunk}, Take (pts m (mapO encI (L1 ++ e :: L2).ents clock)) Γ4 Γ5 → Γ.Sublist Γ5 → S w0 (storeL s m L clock σ :: Γ) W := by
      intro Γ1 Γ2 Γ3 Γ4 W h t1 t2 t3 Γ5 t4 hs
      have h6 := node_shut (σ := σ) (σ' := σ) h t1 t2 hw (by rw [h2]; exact hn) (fun _ _ => rfl)
      rw [← h3] at h6 t4
      exact (storeL_shut h6 (.tail t3) (.tail t4) .head hf).sub (.cons_cons _ hs)
    by_cases hneg : at_.2 < 0
    · have d1 : decide (at_.2 < 0) = true := by simp [hneg]
      repeat (first
    | simp only [d1, ↓fa150_0, ↓ld148, ↓rd148, ↓fa66_0, ↓ld3, ↓rd3, ↓eqeql147_n, ↓eqeql147_s, ↓fa66_1, ↓fa153_1, ↓ia151, ↓GG, NN, Nat.reduceAdd]
    | refine a_ld1 h ?_
    | refine a_ldN h ?_
    | refine a_rs1 h ?_
    | refine a_rsN h ?_
    | (refine u_draw h ?_; clear h; intro W h)
    | refine a_rd1 h ?_
    | refine a_rdN h ?_
    | (refine u_nr h ?_; clear h; intro b W h)
    | (refine u_bx h ?_; clear h; intro b W h)
    | (refine u_al h ?_; clear h; intro b W h)
    | (refine a_st h ?_; clear h; intro W h))
      refine ⟨?_, fin h (by repeat (first | exact Take.head | apply Take.tail)) (by repeat (first | exact Take.head | apply Take.tail)) (by repeat (first | exact Take.head | apply Take.tail)) (by repeat (first | exact Take.head | apply Take.tail)) (by repeat (first | exact List.Sublist.refl _ | apply List.Sublist.cons_cons | apply List.Sublist.cons))⟩
      have : ¬ (0 ≤ at_.2) := by omega
      simp [Store.get, hn, this]
    · have d1 : decide (at_.2 < 0) = false := by simp [hneg]
      repeat (first
    | simp only [d1, ↓fa150_0, ↓ld148, ↓rd148, ↓fa66_0, ↓ld3, ↓rd3, ↓eqeql147_n, ↓eqeql147_s, ↓fa66_1, ↓fa153_1, ↓ia151, ↓GG, NN, Nat.reduceAdd]
    | refine a_ld1 h ?_
    | refine a_ldN h ?_
    | refine a_rs1 h ?_
    | refine a_rsN h ?_
    | (refine u_draw h ?_; clear h; intro W h)
    | refine a_rd1 h ?_
    | refine a_rdN h ?_
    | (refine u_nr h ?_; clear h; intro b W h)
    | (refine u_bx h ?_; clear h; intro b W h)
    | (refine u_al h ?_; clear h; intro b W h)
    | (refine a_st h ?_; clear h; intro W h))
      refine r_call (size_spec h (Take.knows (by repeat (first | exact Take.head | apply Take.tail))) hw) ?_
      rintro v W' ⟨rfl, rfl⟩
      by_cases hbig : at_.2 ≥ (2 ^ n.radix : Nat)
      · have d2 : decide (at_.2 ≥ (2 ^ n.radix : Nat)) = true := by simp only [decide_eq_true_eq]; exact hbig
        repeat (first
    | simp only [d2, ↓fa150_0, ↓ld148, ↓rd148, ↓fa66_0, ↓ld3, ↓rd3, ↓eqeql147_n, ↓eqeql147_s, ↓fa66_1, ↓fa153_1, ↓ia151, ↓GG, NN, Nat.reduceAdd]
    | refine a_ld1 h ?_
    | refine a_ldN h ?_
    | refine a_rs1 h ?_
    | refine a_rsN h ?_
    | (refine u_draw h ?_; clear h; intro W h)
    | refine a_rd1 h ?_
    | refine a_rdN h ?_
    | (refine u_nr h ?_; clear h; intro b W h)
    | (refine u_bx h ?_; clear h; intro b W h)
    | (refine u_al h ?_; clear h; intro b W h)
    | (refine a_st h ?_; clear h; intro W h))
        refine ⟨?_, fin h (by repeat (first | exact Take.head | apply Take.tail)) (by repeat (first | exact Take.head | apply Take.tail)) (by repeat (first | exact Take.head | apply Take.tail)) (by repeat (first | exact Take.head | apply Take.tail)) (by repeat (first | exact List.Sublist.refl _ | apply List.Sublist.cons_cons | apply List.Sublist.cons))⟩
        have : ¬ (at_.2 < (2 ^ n.radix : Nat)) := by omega
        simp only [Store.get, hn, this, and_false, if_false]
      · have d2 : decide (at_.2 ≥ (2 ^ n.radix : Nat)) = false := by simp only [decide_eq_false_iff_not]; exact hbig
        have hlt : at_.2 < (2 ^ n.radix : Nat) := by omega
        have h16 : (2 ^ n.radix : Nat) ≤ 16 := by
          have := Nat.pow_le_pow_right (n := 2) (by omega) hw.le
          omega
        repeat (first
    | simp only [d2, ↓fa150_0, ↓ld148, ↓rd148, ↓fa66_0, ↓ld3, ↓rd3, ↓eqeql147_n, ↓eqeql147_s, ↓fa66_1, ↓fa153_1, ↓ia151, ↓GG, NN, Nat.reduceAdd]
    | refine a_ld1 h ?_
    | refine a_ldN h ?_
    | refine a_rs1 h ?_
    | refine a_rsN h ?_
    | (refine u_draw h ?_; clear h; intro W h)
    | refine a_rd1 h ?_
    | refine a_rdN h ?_
    | (refine u_nr h ?_; clear h; intro b W h)
    | (refine u_bx h ?_; clear h; intro b W h)
    | (refine u_al h ?_; clear h; intro b W h)
    | (refine a_st h ?_; clear h; intro W h))
        rw [ia151 (by omega)]
        refine ⟨?_, fin h (by repeat (first | exact Take.head | apply Take.tail)) (by repeat (first | exact Take.head | apply Take.tail)) (by repeat (first | exact Take.head | apply Take.tail)) (by repeat (first | exact Take.head | apply Take.tail)) (by repeat (first | exact List.Sublist.refl _ | apply List.Sublist.cons_cons | apply List.Sublist.cons))⟩
        have hi : at_.2.toNat < n.caps.length := by rw [hw.len]; omega
        have hg : σ.get at_ = some n.caps[at_.2.toNat] := by
          simp only [Store.get, hn]
          rw [if_pos ⟨by omega, hlt⟩, List.getElem?_eq_getElem hi]
        rw [hg]
        refine ⟨e.2.1, e.2.2, ?_, by rw [Nat.mul_comm]⟩
        rw [← h2, h3]
        simp
  · have hn : σ at_.1 = none := by
      cases hs : σ at_.1 with
      | none => rfl
      | some n => exact absurd ((hf.2 at_.1).1 (by simp [hs])) hin
    rw [find_none hin]
    simp only [Option.map_none, Option.getD_none]
    repeat (first
    | simp only [↓fa150_0, ↓ld148, ↓rd148, ↓fa66_0, ↓ld3, ↓rd3, ↓eqeql147_n, ↓eqeql147_s, ↓fa66_1, ↓fa153_1, ↓ia151, ↓GG, NN, Nat.reduceAdd]
    | refine a_ld1 h ?_
    | refine a_ldN h ?_
    | refine a_rs1 h ?_
    | refine a_rsN h ?_
    | (refine u_draw h ?_; clear h; intro W h)
    | refine a_rd1 h ?_
    | refine a_rdN h ?_
    | (refine u_nr h ?_; clear h; intro b W h)
    | (refine u_bx h ?_; clear h; intro b W h)
    | (refine u_al h ?_; clear h; intro b W h)
    | (refine a_st h ?_; clear h; intro W h))
    refine ⟨by simp [Store.get, hn], ?_⟩
    exact (storeL_shut h (by repeat (first | exact Take.head | apply Take.tail)) (by repeat (first | exact Take.head | apply Take.tail)) (by repeat (first | exact Take.head | apply Take.tail)) hf).subA
end Go.Proofs.Ytpghhaobcikdhaa
