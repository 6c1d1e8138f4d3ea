/- How many of an object there are; a node taken away. -/
import Derived.Test.YtpghhaobcikdhaaA5

namespace Go.Proofs.Ytpghhaobcikdhaa
open Go Go.Hw
set_option linter.unusedSimpArgs false
set_option linter.unusedVariables false
set_option maxRecDepth 100000

section
variable {w0 : World} {Γ Γ' : List Chunk} {W : World} {s : Nat} {σ : Store}

def Store.is (σ : Store) (kind object : Int) (a : Slot) : Bool := (σ.geta a).1.kind == kind && (σ.geta a).1.object == object
def Store.countTo (σ : Store) (kind object : Int) (k : Nat) : Nat := ((σ.full.take k).filter (σ.is kind object)).length
def Store.count (σ : Store) (kind object : Int) : Nat := (σ.full.filter (σ.is kind object)).length

theorem Node.cells_obj (n : Node) (i : Nat) (h : i < n.caps.length) : n.cells.toArray.toList[1 + 6 * i + 1]? = some (.int .i64 n.caps[i].object) := by
  have e := congrArg (fun l : List Value => l[1]?) (n.cells_at i h)
  simp only [List.getElem?_take, List.getElem?_drop] at e
  simpa [Cap.cells] using e

def Store.Wf (σ : Store) : Prop := ∀ id n, σ id = some n → n.Wf

theorem Store.mem_full {σ : Store} (hw : σ.Wf) {a : Slot} : a ∈ σ.full ↔ (∃ c, σ.get a = some c ∧ c.kind ≠ 0) ∧ 0 ≤ a.1 ∧ a.1 < 64 := by
  unfold Store.full Store.fullTo
  rw [List.mem_flatMap]
  constructor
  · rintro ⟨id, hid, h⟩
    have hid := List.mem_range.1 hid
    cases hn : σ id with
    | none => rw [hn] at h; simp at h
    | some n =>
      rw [hn] at h
      simp only [Node.fullTo, List.mem_map, List.mem_filter, List.mem_range, decide_eq_true_eq] at h
      obtain ⟨i, ⟨hi, hk⟩, rfl⟩ := h
      have hwn := hw _ _ hn
      have hlen := hwn.len
      have hci : i < n.caps.length := by omega
      refine ⟨⟨n.caps[i], ?_, ?_⟩, by simp, by simp; omega⟩
      · unfold Store.get
        simp only [hn]
        have hlt : i < 2 ^ n.radix := by
          rcases Nat.lt_or_ge i (2 ^ n.radix) with h | h
          · exact h
          · have := hwn.top i n.caps[i] h (by simp [hci])
            simp [Node.kindAt, hci, this, Cap.zero] at hk
        rw [if_pos ⟨by omega, by omega⟩]
        simp [hci]
      · simpa [Node.kindAt, hci] using hk
  · rintro ⟨⟨c, hc, hk⟩, h0, h64⟩
    obtain ⟨n, hn, h1, h2, h3⟩ := Store.get_len hc
    refine ⟨a.1.toNat, List.mem_range.2 (by omega), ?_⟩
    have e : ((a.1.toNat : Nat) : Int) = a.1 := by omega
    rw [e, hn]
    simp only [Node.fullTo, List.mem_map, List.mem_filter, List.mem_range, decide_eq_true_eq]
    have hwn := hw _ _ hn
    have hle := hwn.le
    have h16 : 2 ^ n.radix ≤ 16 := by
      have := Nat.pow_le_pow_right (n := 2) (by omega) hle
      omega
    refine ⟨a.2.toNat, ⟨by omega, ?_⟩, ?_⟩
    · simp [Node.kindAt, h3, hk]
    · rw [Int.toNat_of_nonneg h1]

theorem slotCells_len (p : Slot) : (slotCells p).length = 2 := rfl

theorem Store.countTo_le (σ : Store) (kind object : Int) (k : Nat) : σ.countTo kind object k ≤ k := by
  unfold Store.countTo
  exact Nat.le_trans (List.length_filter_le _ _) (by simp; omega)

theorem Store_Count_spec {kind object : Int} (h : S w0 (storeC s σ :: Γ) W) (hget : ∀ a ∈ σ.full, (σ.get a).isSome = true) :
    Calls Try.prog F_slots_Store_Count #[.pointer (some ⟨s, 0, none⟩), .int .i64 kind, .int .i64 object] W (Ret fun v W' => v = .int .i64 (σ.count kind object) ∧ S w0 (storeC s σ :: Γ) W') := by
  refine c_slots_Store_Count ?_
  unfold h_slots_Store_Count
  refine r_call (Store_Full_spec h) ?_
  clear h
  intro lv W h
  have hlen : σ.full.length ≤ 1024 := σ.fullTo_len 64
  obtain ⟨a, cap, rfl⟩ := slc_shape h (.head)
  repeat (first
    | simp only [↓len72, ↓ia72, ↓ld66, ↓rd66, ↓al66, ↓st66, ↓fa68_0, ↓ld3, ↓rd3, ↓fa68_1, ↓GG, NN, Nat.reduceAdd]
    | refine a_ld1 h ?_
    | refine a_ldN h ?_
    | refine a_rs1 h ?_
    | refine a_rsN h ?_
    | (refine u_draw h ?_; clear h; intro W h)
    | refine a_rd1 h ?_
    | refine a_rdN h ?_
    | (refine u_nr h ?_; clear h; intro b W h)
    | (refine u_bx h ?_; clear h; intro b W h)
    | (refine u_al h ?_; clear h; intro b W h)
    | (refine a_st h ?_; clear h; intro W h))
  refine u_loop (fun s' w => ∃ i : Nat, i ≤ σ.full.length ∧ s'.2 = .int .i64 i ∧ s'.1 = .int .i64 (σ.countTo kind object i) ∧ S w0 (slotsC (.slice a σ.full.length cap) σ.full :: storeC s σ :: Γ) w)
    (fun s' _ => σ.full.length - (vInt s'.2).toNat) ⟨0, by omega, rfl, rfl, h⟩ ?_
  clear h
  rintro j ⟨cv, iv⟩ W ⟨i, hi, rfl, rfl, h⟩
  by_cases hlt : i < σ.full.length
  · have d1 : decide ((i : Int) < (σ.full.length : Int)) = true := by simp; omega
    obtain ⟨g, cap', cur, hv, hg, hr, hsz⟩ := row_read slotCells_len h .head hlt
    injection hv with e1 e2 e3
    subst e1 e3
    repeat (first
    | simp only [d1, ↓len72, ↓ia72, ↓ld66, ↓rd66, ↓al66, ↓st66, ↓fa68_0, ↓ld3, ↓rd3, ↓fa68_1, ↓GG, NN, Nat.reduceAdd]
    | refine a_ld1 h ?_
    | refine a_ldN h ?_
    | refine a_rs1 h ?_
    | refine a_rsN h ?_
    | (refine u_draw h ?_; clear h; intro W h)
    | refine a_rd1 h ?_
    | refine a_rdN h ?_
    | (refine u_nr h ?_; clear h; intro b W h)
    | (refine u_bx h ?_; clear h; intro b W h)
    | (refine u_al h ?_; clear h; intro b W h)
    | (refine a_st h ?_; clear h; intro W h))
    obtain ⟨c, hc⟩ := Option.isSome_iff_exists.1 (hget _ (List.getElem_mem hlt))
    refine u_join (fun v w => v = .int .i64 (σ.countTo kind object (i + 1)) ∧ S w0 (slotsC (.slice (some ⟨g, 0, none⟩) σ.full.length cap) σ.full :: storeC s σ :: Γ) w) ?_ ?_
    · rw [ia72 (by omega)]
      simp only [Int.toNat_natCast, Nat.zero_add]
      refine v_ldN hg hsz ?_
      rw [hr]
      simp only [slotCells]
      clear hg hr hsz
      repeat (first
    | simp only [↓len72, ↓ia72, ↓ld66, ↓rd66, ↓al66, ↓st66, ↓fa68_0, ↓ld3, ↓rd3, ↓fa68_1, ↓GG, NN, Nat.reduceAdd]
    | refine a_ld1 h ?_
    | refine a_ldN h ?_
    | refine a_rs1 h ?_
    | refine a_rsN h ?_
    | (refine u_draw h ?_; clear h; intro W h)
    | refine a_rd1 h ?_
    | refine a_rdN h ?_
    | (refine u_nr h ?_; clear h; intro b W h)
    | (refine u_bx h ?_; clear h; intro b W h)
    | (refine u_al h ?_; clear h; intro b W h)
    | (refine a_st h ?_; clear h; intro W h))
      obtain ⟨m, L, clock, h⟩ := storeC_open (h.take (by repeat (first | exact Take.head | apply Take.tail)))
      refine r_call (Slot_slot_spec (at_ := σ.full[i]) h) ?_
      clear h
      rintro v W ⟨hv, h⟩
      rw [hc] at hv
      obtain ⟨blk, born, hm, rfl⟩ := hv
      obtain ⟨n, hn, hw, C, h, close⟩ := storeL_at h hm
      obtain ⟨n', hn', h0, h1, hc'⟩ := Store.get_len hc
      rw [hn] at hn'
      cases hn'
      obtain ⟨hi', rfl⟩ := List.getElem?_eq_some_iff.1 hc'
      have hl := hw.len
      have hs : σ.countTo kind object (i + 1) = σ.countTo kind object i + if (n.caps[σ.full[i].2.toNat].kind == kind && n.caps[σ.full[i].2.toNat].object == object) then 1 else 0 := by
        unfold Store.countTo
        rw [List.take_succ_eq_append_getElem hlt, List.filter_append, List.length_append]
        congr 1
        have : σ.is kind object σ.full[i] = (n.caps[σ.full[i].2.toNat].kind == kind && n.caps[σ.full[i].2.toNat].object == object) := by
          simp only [Store.is, Store.geta, hc, Option.getD_some]
        rw [List.filter_cons, this]
        split <;> simp_all
      have hle := σ.countTo_le kind object i
      repeat' (first
    | simp only [*, ↓len72, ↓ia72, ↓ld66, ↓rd66, ↓al66, ↓st66, ↓fa68_0, ↓ld3, ↓rd3, ↓fa68_1, ↓GG, NN, Nat.reduceAdd]
    | (refine u_ld1 (v := .int .i64 n.caps[σ.full[i].2.toNat].kind) h (Take.knows (by repeat (first | exact Take.head | apply Take.tail))) (n.cells_kind _ hi') ?_)
    | (refine u_ld1 (v := .int .i64 n.caps[σ.full[i].2.toNat].object) h (Take.knows (by repeat (first | exact Take.head | apply Take.tail))) (n.cells_obj _ hi') ?_)
    | refine a_ld1 h ?_
    | refine a_ldN h ?_
    | refine a_rs1 h ?_
    | refine a_rsN h ?_
    | (refine u_draw h ?_; clear h; intro W h)
    | refine a_rd1 h ?_
    | refine a_rdN h ?_
    | (refine u_nr h ?_; clear h; intro b W h)
    | (refine u_bx h ?_; clear h; intro b W h)
    | (refine u_al h ?_; clear h; intro b W h)
    | (refine a_st h ?_; clear h; intro W h)
    | (refine oCond_split ?_ ?_ <;> intro d)
    | (refine oGk_split ?_ ?_ <;> intro d))
      all_goals refine ⟨?_, ((storeC_shut (close n hw σ hn (fun _ _ => rfl) h (by repeat (first | exact Take.head | apply Take.tail)) (by repeat (first | exact Take.head | apply Take.tail)))).take (c := slotsC (.slice (some ⟨g, 0, none⟩) σ.full.length cap) σ.full) (by repeat (first | exact Take.head | apply Take.tail))).subA⟩
      · rw [wrap_succ (by omega)]; rfl
      · simp
      · simp
    · clear h
      rintro j v W ⟨rfl, h⟩
      repeat (first
    | simp only [↓len72, ↓ia72, ↓ld66, ↓rd66, ↓al66, ↓st66, ↓fa68_0, ↓ld3, ↓rd3, ↓fa68_1, ↓GG, NN, Nat.reduceAdd]
    | refine a_ld1 h ?_
    | refine a_ldN h ?_
    | refine a_rs1 h ?_
    | refine a_rsN h ?_
    | (refine u_draw h ?_; clear h; intro W h)
    | refine a_rd1 h ?_
    | refine a_rdN h ?_
    | (refine u_nr h ?_; clear h; intro b W h)
    | (refine u_bx h ?_; clear h; intro b W h)
    | (refine u_al h ?_; clear h; intro b W h)
    | (refine a_st h ?_; clear h; intro W h))
      rw [wrap_succ (by omega)]
      refine ⟨⟨i + 1, by omega, rfl, rfl, h⟩, ?_⟩
      simp only [vInt]
      omega
  · have d1 : decide ((i : Int) < (σ.full.length : Int)) = false := by simp; omega
    have : i = σ.full.length := by omega
    subst this
    repeat (first
    | simp only [d1, ↓len72, ↓ia72, ↓ld66, ↓rd66, ↓al66, ↓st66, ↓fa68_0, ↓ld3, ↓rd3, ↓fa68_1, ↓GG, NN, Nat.reduceAdd]
    | refine a_ld1 h ?_
    | refine a_ldN h ?_
    | refine a_rs1 h ?_
    | refine a_rsN h ?_
    | (refine u_draw h ?_; clear h; intro W h)
    | refine a_rd1 h ?_
    | refine a_rdN h ?_
    | (refine u_nr h ?_; clear h; intro b W h)
    | (refine u_bx h ?_; clear h; intro b W h)
    | (refine u_al h ?_; clear h; intro b W h)
    | (refine a_st h ?_; clear h; intro W h))
    refine ⟨?_, h.drop⟩
    rw [Store.countTo, List.take_length]
    rfl

def Store.drop (σ : Store) (id : Int) : Int × Store :=
  match σ id with
  | none => (3, σ)
  | some n => if n.caps = List.replicate 16 Cap.zero then (0, fun x => if x = id then none else σ x) else (8, σ)

theorem capEq (a c : Cap) : (a.kind == c.kind && (a.object == c.object && (a.rights == c.rights && (a.badge == c.badge && (a.guard == c.guard && (a.bits == c.bits && true)))))) = decide (a = c) := by
  rcases a with ⟨a1, a2, a3, a4, a5, a6⟩
  rcases c with ⟨c1, c2, c3, c4, c5, c6⟩
  by_cases h1 : a1 = c1 <;> by_cases h2 : a2 = c2 <;> by_cases h3 : a3 = c3 <;> by_cases h4 : a4 = c4 <;> by_cases h5 : a5 = c5 <;> by_cases h6 : a6 = c6 <;> simp [*]

theorem caps_ne (l : List Cap) (hl : l.length = 16) (w : World) : (bsem .neq 151 false (.agg (l.flatMap Cap.cells).toArray) (.agg ((List.replicate 16 Cap.zero).flatMap Cap.cells).toArray)).run Try.prog w =
    .ok (.bool (!decide (l = List.replicate 16 Cap.zero))) w := by
  have e0 : (List.range 16).all (fun i => decide ((l[i]?).getD Cap.zero = Cap.zero)) = decide (l = List.replicate 16 Cap.zero) := by
    rw [Bool.eq_iff_iff, List.all_eq_true, decide_eq_true_eq]
    constructor
    · intro h
      refine List.eq_replicate_iff.2 ⟨hl, fun b hb => ?_⟩
      obtain ⟨i, hi, rfl⟩ := List.getElem_of_mem hb
      have := h i (List.mem_range.2 (by omega))
      simpa [hi] using this
    · rintro rfl i hi
      have := List.mem_range.1 hi
      rw [List.getElem?_replicate]
      split <;> simp
  rw [← e0]
  refine bs_neq (by kernel_rfl) (fun w => ?_) w
  refine eqIn_arr (e := 68) (n := 6) (len := 16) (by kernel_rfl) (by kernel_rfl) fun i hi => ?_
  refine ⟨_, _, run_partN (n := 6) (by kernel_rfl) (by kernel_rfl) w, run_partN (n := 6) (by kernel_rfl) (by kernel_rfl) w, ?_⟩
  have h1 := caps_drop l i [] (by omega)
  have h2 := caps_drop (List.replicate 16 Cap.zero) i [] (by simpa using hi)
  rw [List.append_nil] at h1 h2
  rw [Nat.mul_comm i 6]
  show (Op.equalIn (9993 + 6) 68 (.agg (((l.flatMap Cap.cells).drop (6 * i)).take 6).toArray) (.agg ((((List.replicate 16 Cap.zero).flatMap Cap.cells).drop (6 * i)).take 6).toArray)).run Try.prog w = _
  rw [h1, h2]
  have e1 := eqi68 9993 w (a0 := l[i].kind) (a1 := l[i].object) (a2 := l[i].rights) (a3 := l[i].badge) (a4 := l[i].guard) (a5 := l[i].bits) (b0 := 0) (b1 := 0) (b2 := 0) (b3 := 0) (b4 := 0) (b5 := 0)
  have e2 := capEq l[i] Cap.zero
  have e3 : (l[i]?).getD Cap.zero = l[i] := by rw [List.getElem?_eq_getElem (by omega)]; rfl
  rw [e3, ← e2]
  simp only [List.getElem_replicate]
  exact e1

theorem build151 {k : Value → World → Prop} {W : World} : oP Try.prog (Instr.build 151 #[]) k W = k (.agg ((List.replicate 16 Cap.zero).flatMap Cap.cells).toArray) W := oP_run fun w => by kernel_rfl

theorem sDrop {id : Int} (h : S w0 (storeC s σ :: Γ) W) : Calls Try.prog F_slots_Store_Drop #[.pointer (some ⟨s, 0, none⟩), .int .i64 id] W
    (Ret fun v W' => v = .int .i64 (σ.drop id).1 ∧ S w0 (storeC s (σ.drop id).2 :: Γ) W') := by
  obtain ⟨m, L, clock, h⟩ := storeC_open h
  refine c_slots_Store_Drop ?_
  unfold h_slots_Store_Drop
  obtain ⟨hf, h'⟩ := storeL_open h
  clear h
  have h := h'
  clear h'
  repeat (first
    | simp only [↓fa150_0, ↓ld148, ↓rd148, ↓eqeql147_n, ↓eqeql147_s, ↓fa153_1, ↓ld151, ↓rd151, ↓GG, NN, Nat.reduceAdd]
    | refine a_ld1 h ?_
    | refine a_ldN h ?_
    | refine a_rs1 h ?_
    | refine a_rsN h ?_
    | (refine u_draw h ?_; clear h; intro W h)
    | refine a_rd1 h ?_
    | refine a_rdN h ?_
    | (refine u_nr h ?_; clear h; intro b W h)
    | (refine u_bx h ?_; clear h; intro b W h)
    | (refine u_al h ?_; clear h; intro b W h)
    | (refine a_st h ?_; clear h; intro W h))
  refine r_lookup keyI (by kernel_rfl) (by kernel_rfl : zeroB Try.prog 147 = some (.pointer none)) h (Take.knows (by repeat (first | exact Take.head | apply Take.tail))) id ?_
  rw [mGet_ents]
  by_cases hid : id ∈ L.map (·.1)
  · obtain ⟨e, L1, L2, h1, h2, h3⟩ := find_some hid
    rw [h1]
    simp only [Option.map_some, Option.getD_some]
    have hs := (storeL_shut h (by repeat (first | exact Take.head | apply Take.tail)) (by repeat (first | exact Take.head | apply Take.tail)) (by repeat (first | exact Take.head | apply Take.tail)) hf)
    clear h
    obtain ⟨n, hn, hw, C, h, close⟩ := storeL_at (id := id) (blk := e.2.1) (born := e.2.2) hs (by rw [← h2, h3]; simp)
    clear hs
    have hl := hw.len
    repeat (first
    | simp only [↓fa150_0, ↓ld148, ↓rd148, ↓eqeql147_n, ↓eqeql147_s, ↓fa153_1, ↓ld151, ↓rd151, ↓GG, NN, Nat.reduceAdd]
    | refine a_ld1 h ?_
    | refine a_ldN h ?_
    | refine a_rs1 h ?_
    | refine a_rsN h ?_
    | (refine u_draw h ?_; clear h; intro W h)
    | refine a_rd1 h ?_
    | refine a_rdN h ?_
    | (refine u_nr h ?_; clear h; intro b W h)
    | (refine u_bx h ?_; clear h; intro b W h)
    | (refine u_al h ?_; clear h; intro b W h)
    | (refine a_st h ?_; clear h; intro W h))
    refine u_ldN h (Take.knows (by repeat (first | exact Take.head | apply Take.tail))) (by simp only [List.size_toArray, Node.cells_len n hw]; decide) ?_
    have hcs : ((n.cells.toArray.toList.drop 1).take 96) = n.caps.flatMap Cap.cells := by
      simp only [Node.cells, List.toList_toArray, List.drop_succ_cons, List.drop_zero]
      rw [List.take_of_length_le]
      rw [caps_len, hl]
      decide
    rw [hcs, build151, oV_run (caps_ne n.caps hl _)]
    have hs := close n hw σ hn (fun _ _ => rfl) h (by repeat (first | exact Take.head | apply Take.tail)) (by repeat (first | exact Take.head | apply Take.tail))
    clear h close
    by_cases hz : n.caps = List.replicate 16 Cap.zero
    · have d1 : decide (n.caps = List.replicate 16 Cap.zero) = true := decide_eq_true hz
      rw [d1]
      obtain ⟨_, h⟩ := storeL_open hs
      clear hs
      repeat (first
    | simp only [↓fa150_0, ↓ld148, ↓rd148, ↓eqeql147_n, ↓eqeql147_s, ↓fa153_1, ↓ld151, ↓rd151, ↓GG, NN, Nat.reduceAdd]
    | refine a_ld1 h ?_
    | refine a_ldN h ?_
    | refine a_rs1 h ?_
    | refine a_rsN h ?_
    | (refine u_draw h ?_; clear h; intro W h)
    | refine a_rd1 h ?_
    | refine a_rdN h ?_
    | (refine u_nr h ?_; clear h; intro b W h)
    | (refine u_bx h ?_; clear h; intro b W h)
    | (refine u_al h ?_; clear h; intro b W h)
    | (refine a_st h ?_; clear h; intro W h))
      refine r_delete (El := T_p_slots_node) keyI (by kernel_rfl) h (by repeat (first | exact Take.head | apply Take.tail)) (by rw [ents_fst]; exact hf.1) id ?_
      clear h
      intro W h
      have hp : σ.drop id = (0, fun x => if x = id then none else σ x) := by simp only [Store.drop, hn, if_pos hz]
      rw [hp]
      refine ⟨rfl, ?_⟩
      generalize hσ : (fun x => if x = id then none else σ x : Store) = σ'
      have hs1 : σ' id = none := by rw [← hσ]; simp
      have hs2 : ∀ x, x ≠ id → σ' x = σ x := by intro x hx; rw [← hσ]; simp [hx]
      have e1 : mDel id L.ents = SLay.ents (L.filter fun e => decide (id ≠ e.1)) := by simp only [mDel, SLay.ents, List.filter_map]; rfl
      rw [e1] at h
      rw [h3] at h
      have h5 := S.pick (h.take (c := stars ((L1 ++ e :: L2).map fun e => nodeC e.2.1 (σ e.1))) (by repeat (first | exact Take.head | apply Take.tail)))
      have hne : ∀ x ∈ L1 ++ L2, x.1 ≠ id := by
        intro x hx he
        have hnd := hf.1
        rw [h3, List.map_append, List.map_cons] at hnd
        have h4 := (List.perm_middle (a := e.1) (l₁ := L1.map (·.1)) (l₂ := L2.map (·.1))).nodup_iff.1 hnd
        rw [List.nodup_cons, ← List.map_append] at h4
        exact h4.1 (List.mem_map.2 ⟨x, hx, by rw [he, h2]⟩)
      have e4 : (L1 ++ e :: L2).filter (fun e => decide (id ≠ e.1)) = L1 ++ L2 := by
        rw [List.filter_append, List.filter_cons]
        simp only [h2, ne_eq, not_true_eq_false, decide_false, Bool.false_eq_true, if_false]
        rw [← List.filter_append, List.filter_eq_self]
        intro x hx
        simpa using (hne x hx).symm
      rw [e4] at h5
      have e5 : ((L1 ++ L2).map fun e => nodeC e.2.1 (σ e.1)) = (L1 ++ L2).map fun e => nodeC e.2.1 (σ' e.1) :=
        List.map_congr_left fun x hx => by rw [hs2 x.1 (hne x hx)]
      rw [e5] at h5
      refine storeC_shut ((storeL_shut h5 (by repeat (first | exact Take.head | apply Take.tail)) (L := L1 ++ L2) (by repeat (first | exact Take.head | apply Take.tail)) (by repeat (first | exact Take.head | apply Take.tail)) ⟨?_, fun x => ?_⟩).subA)
      · have hnd := hf.1
        rw [h3, List.map_append, List.map_cons] at hnd
        have h4 := (List.perm_middle (a := e.1) (l₁ := L1.map (·.1)) (l₂ := L2.map (·.1))).nodup_iff.1 hnd
        rw [List.map_append]
        exact (List.nodup_cons.1 h4).2
      · by_cases hx : x = id
        · subst hx
          rw [hs1]
          simp only [Option.isSome_none, Bool.false_eq_true, false_iff]
          intro hm
          obtain ⟨y, hy, he⟩ := List.mem_map.1 hm
          exact hne y hy he
        · rw [hs2 x hx, hf.2, h3]
          simp only [List.map_append, List.map_cons, List.mem_append, List.mem_cons, h2, hx, false_or]
    · have d1 : decide (n.caps = List.replicate 16 Cap.zero) = false := decide_eq_false hz
      rw [d1]
      have h := hs
      clear hs
      repeat (first
    | simp only [↓fa150_0, ↓ld148, ↓rd148, ↓eqeql147_n, ↓eqeql147_s, ↓fa153_1, ↓ld151, ↓rd151, ↓GG, NN, Nat.reduceAdd]
    | refine a_ld1 h ?_
    | refine a_ldN h ?_
    | refine a_rs1 h ?_
    | refine a_rsN h ?_
    | (refine u_draw h ?_; clear h; intro W h)
    | refine a_rd1 h ?_
    | refine a_rdN h ?_
    | (refine u_nr h ?_; clear h; intro b W h)
    | (refine u_bx h ?_; clear h; intro b W h)
    | (refine u_al h ?_; clear h; intro b W h)
    | (refine a_st h ?_; clear h; intro W h))
      have hp : σ.drop id = (8, σ) := by simp only [Store.drop, hn, if_neg hz]
      rw [hp]
      exact ⟨rfl, storeC_shut (h.subA)⟩
  · have hn : σ id = none := by
      cases hs : σ id with
      | none => rfl
      | some n => exact absurd ((hf.2 id).1 (by simp [hs])) hid
    rw [find_none hid]
    simp only [Option.map_none, Option.getD_none]
    repeat (first
    | simp only [↓fa150_0, ↓ld148, ↓rd148, ↓eqeql147_n, ↓eqeql147_s, ↓fa153_1, ↓ld151, ↓rd151, ↓GG, NN, Nat.reduceAdd]
    | refine a_ld1 h ?_
    | refine a_ldN h ?_
    | refine a_rs1 h ?_
    | refine a_rsN h ?_
    | (refine u_draw h ?_; clear h; intro W h)
    | refine a_rd1 h ?_
    | refine a_rdN h ?_
    | (refine u_nr h ?_; clear h; intro b W h)
    | (refine u_bx h ?_; clear h; intro b W h)
    | (refine u_al h ?_; clear h; intro b W h)
    | (refine a_st h ?_; clear h; intro W h))
    have hp : σ.drop id = (3, σ) := by simp [Store.drop, hn]
    rw [hp]
    exact ⟨rfl, storeC_shut ((storeL_shut h (by repeat (first | exact Take.head | apply Take.tail)) (by repeat (first | exact Take.head | apply Take.tail)) (by repeat (first | exact Take.head | apply Take.tail)) hf).subA)⟩
end
end Go.Proofs.Ytpghhaobcikdhaa
