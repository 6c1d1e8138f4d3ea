/- What was made by some acts: made. -/
import Derived.Test.YtpghhaobcikdhaaC3
namespace Go.Proofs.Ytpghhaobcikdhaa
open Go Go.Hw
set_option linter.unusedSimpArgs false
set_option linter.unusedVariables false
set_option maxRecDepth 100000

/-- an act -/
structure Act where
  kind : Int
  a : Slot
  b : Slot
  d : Slot
  c : Cap
  n : Int
  rights : Int
  badge : Int
  guard : Int
  bits : Int
  steps : Int
def Act.cells (o : Act) : List Value := [.int .i64 o.kind, .int .i64 o.a.1, .int .i64 o.a.2, .int .i64 o.b.1, .int .i64 o.b.2, .int .i64 o.d.1, .int .i64 o.d.2,
  .int .i64 o.c.kind, .int .i64 o.c.object, .int .i64 o.c.rights, .int .u64 o.c.badge, .int .u64 o.c.guard, .int .i64 o.c.bits,
  .int .i64 o.n, .int .i64 o.rights, .int .u64 o.badge, .int .u64 o.guard, .int .i64 o.bits, .int .i64 o.steps]
def Caps.act (X : Caps) (o : Act) : Caps :=
  if o.kind = 2 then (X.plant o.a o.c).2 else if o.kind = 4 then (X.copy o.a o.b o.rights).2 else if o.kind = 5 then (X.mint o.a o.b o.rights o.badge o.guard o.bits).2
  else if o.kind = 6 then (X.move o.a o.b).2 else X
def nodesX : Nat → Caps
  | 0 => Caps.new
  | i + 1 => ((nodesX i).node (i : Int) 3).2
def madeX (l : List Act) : Caps := (l.take 50).foldl Caps.act (nodesX 3)

/-- nodes 0, 1 and 2 alone -/
def Store.Three (σ : Store) : Prop := ∀ id, (σ id).isSome = true → 0 ≤ id ∧ id < 3

theorem three_set {σ : Store} (h : σ.Three) (a : Slot) (c : Cap) : (σ.set a c).Three := fun id hi => h id (by
  unfold Store.set at hi
  split at hi
  · simpa using hi
  · exact hi)
theorem three_put {σ : Store} (h : σ.Three) (a : Slot) (c : Cap) : (σ.put a c).2.Three := by
  by_cases he : (σ.put a c).1 = 0
  · rw [(Store.put_yes he).2.2.2.2]; exact three_set h _ _
  · rw [Store.put_no he]; exact h
theorem three_take {σ : Store} (h : σ.Three) (a : Slot) : (σ.takeOut a).2.Three := by
  by_cases ha : σ.fl a
  · rw [Store.takeOut_fl ha]; exact three_set h _ _
  · rw [(Store.takeOut_no ha).1]; exact h
theorem three_child {X : Caps} (h : X.s.Three) (o a : Slot) (x : Cap) : (X.child o a x).2.s.Three := by
  unfold Caps.child
  split
  · exact h
  · exact three_put h _ _
theorem three_mint {X : Caps} (h : X.s.Three) (a b : Slot) (r badge guard n : Int) : (X.mint a b r badge guard n).2.s.Three := by
  unfold Caps.mint
  split
  · exact h
  split
  · exact h
  · exact three_child h _ _ _
theorem three_act {X : Caps} (h : X.s.Three) (o : Act) : (X.act o).s.Three := by
  unfold Caps.act
  split
  · exact three_put h _ _
  split
  · exact three_mint h _ _ _ _ _ _
  split
  · exact three_mint h _ _ _ _ _ _
  split
  · unfold Caps.move
    split
    · exact three_put (three_take h _) _ _
    · exact h
  · exact h
theorem made_act {X : Caps} (h : X.Made) (o : Act) : (X.act o).Made := by
  unfold Caps.act
  split
  · exact Caps.plant_made h _ _
  split
  · exact Caps.copy_made h _ _ _
  split
  · exact Caps.mint_made h _ _ _ _ _ _
  split
  · exact Caps.move_made h _ _
  · exact h
theorem nodesX_made : ∀ i, (nodesX i).Made
  | 0 => Caps.new_made
  | i + 1 => Caps.node_made (nodesX_made i) _ _
theorem nodesX_three : (nodesX 3).s.Three := by
  have e : ∀ (σ : Store) (i : Nat) (id : Int), ((σ.add i 3).2 id).isSome = true → id = i ∨ (σ id).isSome = true := by
    intro σ i id h
    unfold Store.add at h
    split at h
    · exact .inr h
    split at h
    · exact .inr h
    · simp only at h
      split at h
      · exact .inl (by assumption)
      · exact .inr h
  intro id h
  rcases e (nodesX 2).s 2 id h with h | h
  · omega
  rcases e (nodesX 1).s 1 id h with h | h
  · omega
  rcases e (nodesX 0).s 0 id h with h | h
  · omega
  · cases h
theorem fold_inv (l : List Act) {X : Caps} (h : X.Made ∧ X.s.Three) : (l.foldl Caps.act X).Made ∧ (l.foldl Caps.act X).s.Three := by
  induction l generalizing X with
  | nil => exact h
  | cons o l ih => exact ih ⟨made_act h.1 o, three_act h.2 o⟩
theorem madeX_inv (l : List Act) : (madeX l).Made ∧ (madeX l).s.Three := fold_inv _ ⟨nodesX_made 3, nodesX_three⟩

def slots3 : List Slot := (List.range 3).flatMap fun (id : Nat) => (List.range 16).map fun (i : Nat) => ((id : Int), (i : Int))
theorem three_len {σ : Store} (h : σ.Ok) (h3 : σ.Three) {l : List Slot} (hn : l.Nodup) (hf : ∀ a ∈ l, σ.fl a) : l.length ≤ 48 := by
  have e : slots3.length = 48 := by decide
  rw [← e]
  refine length_sub _ _ hn fun x hx => ?_
  have hfx := hf x hx
  obtain ⟨c, hc, _⟩ := Store.fl_get hfx
  obtain ⟨n, hn', _⟩ := Store.get_len hc
  have h1 := h3 x.1 (by rw [hn']; rfl)
  have h2 := (allSlots_mem.1 (Store.fl_in h hfx)).2
  unfold slots3
  refine List.mem_flatMap.2 ⟨x.1.toNat, List.mem_range.2 (by omega), List.mem_map.2 ⟨x.2.toNat, List.mem_range.2 (by omega), ?_⟩⟩
  rw [Int.toNat_of_nonneg h1.1, Int.toNat_of_nonneg h2.1]

theorem take_foldl (l : List Act) (i : Nat) (hi : i < l.length) (X : Caps) : (l.take (i + 1)).foldl Caps.act X = ((l.take i).foldl Caps.act X).act l[i] := by
  rw [List.take_succ_eq_append_getElem hi, List.foldl_append]
  rfl

theorem S.read {α : Type} {w0 : World} {Γ Γ' : List Chunk} {W : World} {m : Nat} {f : α → List Value} {a : Option Addr} {l : List α} (h : S w0 Γ W) (tk : Take (init w0) Γ Γ')
    (hr : ∀ (i : Nat) (hi : i < l.length), ∃ b off cur T fr, a = some ⟨b, off, none⟩ ∧ w0.heap[b]? = some (.cells cur T fr) ∧ (cur.toList.drop (off + i * m)).take m = f l[i] ∧ off + i * m + m ≤ cur.size) {i : Nat} (hi : i < l.length) :
    ∃ b off cur T fr, a = some ⟨b, off, none⟩ ∧ W.heap[b]? = some (.cells cur T fr) ∧ (cur.toList.drop (off + i * m)).take m = f l[i] ∧ off + i * m + m ≤ cur.size := by
  obtain ⟨b, off, cur, T, fr, h1, h2, h3, h4⟩ := hr i hi
  exact ⟨b, off, cur, T, fr, h1, by rw [S.old h tk (heap_lt h2)]; exact h2, h3, h4⟩

section
variable {w0 : World} {Γ Γ' : List Chunk} {W : World} {c s t k : Nat} {X : Caps}

set_option maxHeartbeats 1000000 in
theorem lMade {x : Value} {l : List Act} (hx : Rd w0 19 Act.cells x l) (h : S w0 (init w0 :: Γ) W) :
    Calls Try.prog F_donjonlaw11_made #[x] W (Ret fun v W' => ∃ c, v = .pointer (some ⟨c, 0, none⟩) ∧ S w0 (capsC c (madeX l) :: init w0 :: Γ) W') := by
  refine c_donjonlaw11_made ?_
  unfold h_donjonlaw11_made
  refine r_call (mNew h) ?_
  clear h
  rintro v W ⟨c, rfl, h⟩
  obtain ⟨xa, xc, rfl, hrd⟩ := hx
  refine u_loop (fun s' w => ∃ i : Nat, i ≤ 3 ∧ s' = .int .i64 i ∧ S w0 (capsC c (nodesX i) :: init w0 :: Γ) w) (fun s' _ => 3 - (vInt s').toNat) ⟨0, by omega, rfl, h⟩ ?_
  clear h
  rintro j iv W ⟨i, hi, hs, h⟩
  cases hs
  by_cases hlt : i < 3
  · have d1 : decide ((i : Int) < 3) = true := by simp; omega
    obtain ⟨s, t, h'⟩ := caps_open h
    clear h
    have h := h'
    clear h'
    repeat (first
    | simp only [d1, ↓fa63_0, ↓ld60, ↓rd60, ↓len81, ↓ia81, ↓fa159_0, ↓ld157, ↓rd157, ↓al157, ↓st157, ↓fa157_0, ↓ld3, ↓rd3, ↓fa157_1, ↓ld66, ↓rd66, ↓fa157_4, ↓ld68, ↓rd68, ↓fa157_2, ↓fa157_6, ↓fa157_7, ↓ld54, ↓rd54, ↓fa157_8, ↓fa157_9, ↓GG, NN, Nat.reduceAdd]
    | refine a_ld1 h ?_
    | refine a_ldN h ?_
    | refine a_rs1 h ?_
    | refine a_rsN h ?_
    | (refine u_draw h ?_; clear h; intro W h)
    | refine a_rd1 h ?_
    | refine a_rdN h ?_
    | (refine u_nr h ?_; clear h; intro b W h)
    | (refine u_bx h ?_; clear h; intro b W h)
    | (refine u_al h ?_; clear h; intro b W h)
    | (refine a_st h ?_; clear h; intro W h))
    refine r_call (mNode (id := i) (r := 3) h.takeA) ?_
    clear h
    rintro v W ⟨rfl, h⟩
    have h1 := (caps_shut (X := nodesX (i + 1)) h (by repeat (first | exact Take.head | apply Take.tail)) (by repeat (first | exact Take.head | apply Take.tail)) (by repeat (first | exact Take.head | apply Take.tail)))
    repeat (first
    | simp only [↓fa63_0, ↓ld60, ↓rd60, ↓len81, ↓ia81, ↓fa159_0, ↓ld157, ↓rd157, ↓al157, ↓st157, ↓fa157_0, ↓ld3, ↓rd3, ↓fa157_1, ↓ld66, ↓rd66, ↓fa157_4, ↓ld68, ↓rd68, ↓fa157_2, ↓fa157_6, ↓fa157_7, ↓ld54, ↓rd54, ↓fa157_8, ↓fa157_9, ↓GG, NN, Nat.reduceAdd]
    | refine a_ld1 h ?_
    | refine a_ldN h ?_
    | refine a_rs1 h ?_
    | refine a_rsN h ?_
    | (refine u_draw h ?_; clear h; intro W h)
    | refine a_rd1 h ?_
    | refine a_rdN h ?_
    | (refine u_nr h ?_; clear h; intro b W h)
    | (refine u_bx h ?_; clear h; intro b W h)
    | (refine u_al h ?_; clear h; intro b W h)
    | (refine a_st h ?_; clear h; intro W h))
    rw [wrap_succ (by omega)]
    refine ⟨⟨i + 1, by omega, rfl, h1.subA⟩, ?_⟩
    simp only [vInt]
    omega
  · have d1 : decide ((i : Int) < 3) = false := by simp; omega
    have : i = 3 := by omega
    subst this
    repeat (first
    | simp only [d1, ↓fa63_0, ↓ld60, ↓rd60, ↓len81, ↓ia81, ↓fa159_0, ↓ld157, ↓rd157, ↓al157, ↓st157, ↓fa157_0, ↓ld3, ↓rd3, ↓fa157_1, ↓ld66, ↓rd66, ↓fa157_4, ↓ld68, ↓rd68, ↓fa157_2, ↓fa157_6, ↓fa157_7, ↓ld54, ↓rd54, ↓fa157_8, ↓fa157_9, ↓GG, NN, Nat.reduceAdd]
    | refine a_ld1 h ?_
    | refine a_ldN h ?_
    | refine a_rs1 h ?_
    | refine a_rsN h ?_
    | (refine u_draw h ?_; clear h; intro W h)
    | refine a_rd1 h ?_
    | refine a_rdN h ?_
    | (refine u_nr h ?_; clear h; intro b W h)
    | (refine u_bx h ?_; clear h; intro b W h)
    | (refine u_al h ?_; clear h; intro b W h)
    | (refine a_st h ?_; clear h; intro W h))
    refine u_loop (fun s' w => ∃ i : Nat, i ≤ l.length ∧ i ≤ 50 ∧ s' = .int .i64 i ∧ S w0 (capsC c ((l.take i).foldl Caps.act (nodesX 3)) :: init w0 :: Γ) w) (fun s' _ => l.length - (vInt s').toNat) ⟨0, by omega, by omega, rfl, by simpa using h⟩ ?_
    clear h
    rintro j iv W ⟨i, hi, hi50, hs, h⟩
    cases hs
    obtain ⟨X, hX⟩ : ∃ X, X = (l.take i).foldl Caps.act (nodesX 3) := ⟨_, rfl⟩
    rw [← hX] at h
    have hm : X.Made := by rw [hX]; exact (fold_inv _ ⟨nodesX_made 3, nodesX_three⟩).1
    by_cases hlt : i < l.length ∧ i < 50
    · have d1 : decide ((i : Int) < (l.length : Int)) = true := by simp; omega
      have d2 : decide ((i : Int) < 50) = true := by simp; omega
      have hnext : (l.take (i + 1)).foldl Caps.act (nodesX 3) = X.act l[i] := by rw [hX]; exact take_foldl _ _ hlt.1 _
      repeat (first
    | simp only [d1, d2, ↓fa63_0, ↓ld60, ↓rd60, ↓len81, ↓ia81, ↓fa159_0, ↓ld157, ↓rd157, ↓al157, ↓st157, ↓fa157_0, ↓ld3, ↓rd3, ↓fa157_1, ↓ld66, ↓rd66, ↓fa157_4, ↓ld68, ↓rd68, ↓fa157_2, ↓fa157_6, ↓fa157_7, ↓ld54, ↓rd54, ↓fa157_8, ↓fa157_9, ↓GG, NN, Nat.reduceAdd]
    | refine a_ld1 h ?_
    | refine a_ldN h ?_
    | refine a_rs1 h ?_
    | refine a_rsN h ?_
    | (refine u_draw h ?_; clear h; intro W h)
    | refine a_rd1 h ?_
    | refine a_rdN h ?_
    | (refine u_nr h ?_; clear h; intro b W h)
    | (refine u_bx h ?_; clear h; intro b W h)
    | (refine u_al h ?_; clear h; intro b W h)
    | (refine a_st h ?_; clear h; intro W h))
      obtain ⟨b, off, cur, T, fr, rfl, hbW, hrow, hsz⟩ := S.read h (.tail .head) hrd hlt.1
      obtain ⟨o, ho⟩ : ∃ o, o = l[i] := ⟨_, rfl⟩
      rw [← ho] at hrow hnext
      refine u_join (fun _ w => S w0 (capsC c (X.act o) :: init w0 :: Γ) w) ?_ ?_
      · rw [ia81 (by omega)]
        try simp only [↓fa63_0, ↓ld60, ↓rd60, ↓len81, ↓ia81, ↓fa159_0, ↓ld157, ↓rd157, ↓al157, ↓st157, ↓fa157_0, ↓ld3, ↓rd3, ↓fa157_1, ↓ld66, ↓rd66, ↓fa157_4, ↓ld68, ↓rd68, ↓fa157_2, ↓fa157_6, ↓fa157_7, ↓ld54, ↓rd54, ↓fa157_8, ↓fa157_9, ↓GG, NN, Nat.reduceAdd]
        have e0 : off + (i : Int).toNat * 19 = off + i * 19 := by omega
        rw [e0]
        try simp only [↓fa63_0, ↓ld60, ↓rd60, ↓len81, ↓ia81, ↓fa159_0, ↓ld157, ↓rd157, ↓al157, ↓st157, ↓fa157_0, ↓ld3, ↓rd3, ↓fa157_1, ↓ld66, ↓rd66, ↓fa157_4, ↓ld68, ↓rd68, ↓fa157_2, ↓fa157_6, ↓fa157_7, ↓ld54, ↓rd54, ↓fa157_8, ↓fa157_9, ↓GG, NN, Nat.reduceAdd]
        refine v_ldN hbW (by omega) ?_
        have e1 : (cur.toList.drop (off + i * 19)).take 18 = o.cells.take 18 := by rw [← hrow, List.take_take, Nat.min_eq_left (by omega)]
        rw [e1]
        simp only [Act.cells, List.take_succ_cons, List.take_zero]
        by_cases k2 : o.kind = 2
        · have d3 : (o.kind == 2) = true := by simp [k2]
          repeat (first
    | simp only [d3, putL, List.length_cons, List.length_nil, List.nil_append, List.append_nil, List.cons_append, ↓fa63_0, ↓ld60, ↓rd60, ↓len81, ↓ia81, ↓fa159_0, ↓ld157, ↓rd157, ↓al157, ↓st157, ↓fa157_0, ↓ld3, ↓rd3, ↓fa157_1, ↓ld66, ↓rd66, ↓fa157_4, ↓ld68, ↓rd68, ↓fa157_2, ↓fa157_6, ↓fa157_7, ↓ld54, ↓rd54, ↓fa157_8, ↓fa157_9, ↓GG, NN, Nat.reduceAdd]
    | refine a_ld1 h ?_
    | refine a_ldN h ?_
    | refine a_rs1 h ?_
    | refine a_rsN h ?_
    | (refine u_draw h ?_; clear h; intro W h)
    | refine a_rd1 h ?_
    | refine a_rdN h ?_
    | (refine u_nr h ?_; clear h; intro b W h)
    | (refine u_bx h ?_; clear h; intro b W h)
    | (refine u_al h ?_; clear h; intro b W h)
    | (refine a_st h ?_; clear h; intro W h))
          refine r_call (mPlant (sa := o.a) (x := o.c) hm.ok.t.toCl h.takeA) ?_
          clear h
          rintro v W ⟨rfl, h⟩
          repeat (first
    | simp only [↓fa63_0, ↓ld60, ↓rd60, ↓len81, ↓ia81, ↓fa159_0, ↓ld157, ↓rd157, ↓al157, ↓st157, ↓fa157_0, ↓ld3, ↓rd3, ↓fa157_1, ↓ld66, ↓rd66, ↓fa157_4, ↓ld68, ↓rd68, ↓fa157_2, ↓fa157_6, ↓fa157_7, ↓ld54, ↓rd54, ↓fa157_8, ↓fa157_9, ↓GG, NN, Nat.reduceAdd]
    | refine a_ld1 h ?_
    | refine a_ldN h ?_
    | refine a_rs1 h ?_
    | refine a_rsN h ?_
    | (refine u_draw h ?_; clear h; intro W h)
    | refine a_rd1 h ?_
    | refine a_rdN h ?_
    | (refine u_nr h ?_; clear h; intro b W h)
    | (refine u_bx h ?_; clear h; intro b W h)
    | (refine u_al h ?_; clear h; intro b W h)
    | (refine a_st h ?_; clear h; intro W h))
          have e2 : X.act o = (X.plant o.a o.c).2 := by simp [Caps.act, k2]
          rw [e2]
          exact h.subA
        have d3 : (o.kind == 2) = false := by simp [k2]
        by_cases k4 : o.kind = 4
        · have d4 : (o.kind == 4) = true := by simp [k4]
          repeat (first
    | simp only [d3, d4, putL, List.length_cons, List.length_nil, List.nil_append, List.append_nil, List.cons_append, ↓fa63_0, ↓ld60, ↓rd60, ↓len81, ↓ia81, ↓fa159_0, ↓ld157, ↓rd157, ↓al157, ↓st157, ↓fa157_0, ↓ld3, ↓rd3, ↓fa157_1, ↓ld66, ↓rd66, ↓fa157_4, ↓ld68, ↓rd68, ↓fa157_2, ↓fa157_6, ↓fa157_7, ↓ld54, ↓rd54, ↓fa157_8, ↓fa157_9, ↓GG, NN, Nat.reduceAdd]
    | refine a_ld1 h ?_
    | refine a_ldN h ?_
    | refine a_rs1 h ?_
    | refine a_rsN h ?_
    | (refine u_draw h ?_; clear h; intro W h)
    | refine a_rd1 h ?_
    | refine a_rdN h ?_
    | (refine u_nr h ?_; clear h; intro b W h)
    | (refine u_bx h ?_; clear h; intro b W h)
    | (refine u_al h ?_; clear h; intro b W h)
    | (refine a_st h ?_; clear h; intro W h))
          refine r_call (mCopy (sa := o.a) (sb := o.b) (r := o.rights) hm.ok.t.toCl h.takeA) ?_
          clear h
          rintro v W ⟨rfl, h⟩
          repeat (first
    | simp only [↓fa63_0, ↓ld60, ↓rd60, ↓len81, ↓ia81, ↓fa159_0, ↓ld157, ↓rd157, ↓al157, ↓st157, ↓fa157_0, ↓ld3, ↓rd3, ↓fa157_1, ↓ld66, ↓rd66, ↓fa157_4, ↓ld68, ↓rd68, ↓fa157_2, ↓fa157_6, ↓fa157_7, ↓ld54, ↓rd54, ↓fa157_8, ↓fa157_9, ↓GG, NN, Nat.reduceAdd]
    | refine a_ld1 h ?_
    | refine a_ldN h ?_
    | refine a_rs1 h ?_
    | refine a_rsN h ?_
    | (refine u_draw h ?_; clear h; intro W h)
    | refine a_rd1 h ?_
    | refine a_rdN h ?_
    | (refine u_nr h ?_; clear h; intro b W h)
    | (refine u_bx h ?_; clear h; intro b W h)
    | (refine u_al h ?_; clear h; intro b W h)
    | (refine a_st h ?_; clear h; intro W h))
          have e2 : X.act o = (X.copy o.a o.b o.rights).2 := by simp [Caps.act, k4]
          rw [e2]
          exact h.subA
        have d4 : (o.kind == 4) = false := by simp [k4]
        by_cases k5 : o.kind = 5
        · have d5 : (o.kind == 5) = true := by simp [k5]
          repeat (first
    | simp only [d3, d4, d5, putL, List.length_cons, List.length_nil, List.nil_append, List.append_nil, List.cons_append, ↓fa63_0, ↓ld60, ↓rd60, ↓len81, ↓ia81, ↓fa159_0, ↓ld157, ↓rd157, ↓al157, ↓st157, ↓fa157_0, ↓ld3, ↓rd3, ↓fa157_1, ↓ld66, ↓rd66, ↓fa157_4, ↓ld68, ↓rd68, ↓fa157_2, ↓fa157_6, ↓fa157_7, ↓ld54, ↓rd54, ↓fa157_8, ↓fa157_9, ↓GG, NN, Nat.reduceAdd]
    | refine a_ld1 h ?_
    | refine a_ldN h ?_
    | refine a_rs1 h ?_
    | refine a_rsN h ?_
    | (refine u_draw h ?_; clear h; intro W h)
    | refine a_rd1 h ?_
    | refine a_rdN h ?_
    | (refine u_nr h ?_; clear h; intro b W h)
    | (refine u_bx h ?_; clear h; intro b W h)
    | (refine u_al h ?_; clear h; intro b W h)
    | (refine a_st h ?_; clear h; intro W h))
          refine r_call (mMint (sa := o.a) (sb := o.b) (r := o.rights) (badge := o.badge) (guard := o.guard) (n := o.bits) hm.ok.t.toCl h.takeA) ?_
          clear h
          rintro v W ⟨rfl, h⟩
          repeat (first
    | simp only [↓fa63_0, ↓ld60, ↓rd60, ↓len81, ↓ia81, ↓fa159_0, ↓ld157, ↓rd157, ↓al157, ↓st157, ↓fa157_0, ↓ld3, ↓rd3, ↓fa157_1, ↓ld66, ↓rd66, ↓fa157_4, ↓ld68, ↓rd68, ↓fa157_2, ↓fa157_6, ↓fa157_7, ↓ld54, ↓rd54, ↓fa157_8, ↓fa157_9, ↓GG, NN, Nat.reduceAdd]
    | refine a_ld1 h ?_
    | refine a_ldN h ?_
    | refine a_rs1 h ?_
    | refine a_rsN h ?_
    | (refine u_draw h ?_; clear h; intro W h)
    | refine a_rd1 h ?_
    | refine a_rdN h ?_
    | (refine u_nr h ?_; clear h; intro b W h)
    | (refine u_bx h ?_; clear h; intro b W h)
    | (refine u_al h ?_; clear h; intro b W h)
    | (refine a_st h ?_; clear h; intro W h))
          have e2 : X.act o = (X.mint o.a o.b o.rights o.badge o.guard o.bits).2 := by simp [Caps.act, k5]
          rw [e2]
          exact h.subA
        have d5 : (o.kind == 5) = false := by simp [k5]
        by_cases k6 : o.kind = 6
        · have d6 : (o.kind == 6) = true := by simp [k6]
          repeat (first
    | simp only [d3, d4, d5, d6, putL, List.length_cons, List.length_nil, List.nil_append, List.append_nil, List.cons_append, ↓fa63_0, ↓ld60, ↓rd60, ↓len81, ↓ia81, ↓fa159_0, ↓ld157, ↓rd157, ↓al157, ↓st157, ↓fa157_0, ↓ld3, ↓rd3, ↓fa157_1, ↓ld66, ↓rd66, ↓fa157_4, ↓ld68, ↓rd68, ↓fa157_2, ↓fa157_6, ↓fa157_7, ↓ld54, ↓rd54, ↓fa157_8, ↓fa157_9, ↓GG, NN, Nat.reduceAdd]
    | refine a_ld1 h ?_
    | refine a_ldN h ?_
    | refine a_rs1 h ?_
    | refine a_rsN h ?_
    | (refine u_draw h ?_; clear h; intro W h)
    | refine a_rd1 h ?_
    | refine a_rdN h ?_
    | (refine u_nr h ?_; clear h; intro b W h)
    | (refine u_bx h ?_; clear h; intro b W h)
    | (refine u_al h ?_; clear h; intro b W h)
    | (refine a_st h ?_; clear h; intro W h))
          refine r_call (mMove (sa := o.a) (sb := o.b) hm.ok.t.toCl h.takeA) ?_
          clear h
          rintro v W ⟨rfl, h⟩
          repeat (first
    | simp only [↓fa63_0, ↓ld60, ↓rd60, ↓len81, ↓ia81, ↓fa159_0, ↓ld157, ↓rd157, ↓al157, ↓st157, ↓fa157_0, ↓ld3, ↓rd3, ↓fa157_1, ↓ld66, ↓rd66, ↓fa157_4, ↓ld68, ↓rd68, ↓fa157_2, ↓fa157_6, ↓fa157_7, ↓ld54, ↓rd54, ↓fa157_8, ↓fa157_9, ↓GG, NN, Nat.reduceAdd]
    | refine a_ld1 h ?_
    | refine a_ldN h ?_
    | refine a_rs1 h ?_
    | refine a_rsN h ?_
    | (refine u_draw h ?_; clear h; intro W h)
    | refine a_rd1 h ?_
    | refine a_rdN h ?_
    | (refine u_nr h ?_; clear h; intro b W h)
    | (refine u_bx h ?_; clear h; intro b W h)
    | (refine u_al h ?_; clear h; intro b W h)
    | (refine a_st h ?_; clear h; intro W h))
          have e2 : X.act o = (X.move o.a o.b).2 := by simp [Caps.act, k6]
          rw [e2]
          exact h.subA
        have d6 : (o.kind == 6) = false := by simp [k6]
        have e2 : X.act o = X := by simp [Caps.act, k2, k4, k5, k6]
        repeat (first
    | simp only [d3, d4, d5, d6, putL, List.length_cons, List.length_nil, List.nil_append, List.append_nil, List.cons_append, ↓fa63_0, ↓ld60, ↓rd60, ↓len81, ↓ia81, ↓fa159_0, ↓ld157, ↓rd157, ↓al157, ↓st157, ↓fa157_0, ↓ld3, ↓rd3, ↓fa157_1, ↓ld66, ↓rd66, ↓fa157_4, ↓ld68, ↓rd68, ↓fa157_2, ↓fa157_6, ↓fa157_7, ↓ld54, ↓rd54, ↓fa157_8, ↓fa157_9, ↓GG, NN, Nat.reduceAdd]
    | refine a_ld1 h ?_
    | refine a_ldN h ?_
    | refine a_rs1 h ?_
    | refine a_rsN h ?_
    | (refine u_draw h ?_; clear h; intro W h)
    | refine a_rd1 h ?_
    | refine a_rdN h ?_
    | (refine u_nr h ?_; clear h; intro b W h)
    | (refine u_bx h ?_; clear h; intro b W h)
    | (refine u_al h ?_; clear h; intro b W h)
    | (refine a_st h ?_; clear h; intro W h))
        rw [e2]
        exact h.subA
      · clear h
        rintro j _ W h
        repeat (first
    | simp only [↓fa63_0, ↓ld60, ↓rd60, ↓len81, ↓ia81, ↓fa159_0, ↓ld157, ↓rd157, ↓al157, ↓st157, ↓fa157_0, ↓ld3, ↓rd3, ↓fa157_1, ↓ld66, ↓rd66, ↓fa157_4, ↓ld68, ↓rd68, ↓fa157_2, ↓fa157_6, ↓fa157_7, ↓ld54, ↓rd54, ↓fa157_8, ↓fa157_9, ↓GG, NN, Nat.reduceAdd]
    | refine a_ld1 h ?_
    | refine a_ldN h ?_
    | refine a_rs1 h ?_
    | refine a_rsN h ?_
    | (refine u_draw h ?_; clear h; intro W h)
    | refine a_rd1 h ?_
    | refine a_rdN h ?_
    | (refine u_nr h ?_; clear h; intro b W h)
    | (refine u_bx h ?_; clear h; intro b W h)
    | (refine u_al h ?_; clear h; intro b W h)
    | (refine a_st h ?_; clear h; intro W h))
        rw [wrap_succ (by omega)]
        refine ⟨⟨i + 1, by omega, by omega, rfl, by rw [hnext]; exact h⟩, ?_⟩
        simp only [vInt]
        omega
    · have hend : X = madeX l := by
        rw [hX]
        unfold madeX
        by_cases h50 : i < 50
        · have : i = l.length := by omega
          rw [this, List.take_length, List.take_of_length_le (by omega)]
        · have : i = 50 := by omega
          rw [this]
      rw [hend] at h
      by_cases h1 : i < l.length
      · have d1 : decide ((i : Int) < (l.length : Int)) = true := by simp; omega
        have d2 : decide ((i : Int) < 50) = false := by simp; omega
        repeat (first
    | simp only [d1, d2, ↓fa63_0, ↓ld60, ↓rd60, ↓len81, ↓ia81, ↓fa159_0, ↓ld157, ↓rd157, ↓al157, ↓st157, ↓fa157_0, ↓ld3, ↓rd3, ↓fa157_1, ↓ld66, ↓rd66, ↓fa157_4, ↓ld68, ↓rd68, ↓fa157_2, ↓fa157_6, ↓fa157_7, ↓ld54, ↓rd54, ↓fa157_8, ↓fa157_9, ↓GG, NN, Nat.reduceAdd]
    | refine a_ld1 h ?_
    | refine a_ldN h ?_
    | refine a_rs1 h ?_
    | refine a_rsN h ?_
    | (refine u_draw h ?_; clear h; intro W h)
    | refine a_rd1 h ?_
    | refine a_rdN h ?_
    | (refine u_nr h ?_; clear h; intro b W h)
    | (refine u_bx h ?_; clear h; intro b W h)
    | (refine u_al h ?_; clear h; intro b W h)
    | (refine a_st h ?_; clear h; intro W h))
        exact ⟨c, rfl, h⟩
      · have d1 : decide ((i : Int) < (l.length : Int)) = false := by simp; omega
        repeat (first
    | simp only [d1, ↓fa63_0, ↓ld60, ↓rd60, ↓len81, ↓ia81, ↓fa159_0, ↓ld157, ↓rd157, ↓al157, ↓st157, ↓fa157_0, ↓ld3, ↓rd3, ↓fa157_1, ↓ld66, ↓rd66, ↓fa157_4, ↓ld68, ↓rd68, ↓fa157_2, ↓fa157_6, ↓fa157_7, ↓ld54, ↓rd54, ↓fa157_8, ↓fa157_9, ↓GG, NN, Nat.reduceAdd]
    | refine a_ld1 h ?_
    | refine a_ldN h ?_
    | refine a_rs1 h ?_
    | refine a_rsN h ?_
    | (refine u_draw h ?_; clear h; intro W h)
    | refine a_rd1 h ?_
    | refine a_rdN h ?_
    | (refine u_nr h ?_; clear h; intro b W h)
    | (refine u_bx h ?_; clear h; intro b W h)
    | (refine u_al h ?_; clear h; intro b W h)
    | (refine a_st h ?_; clear h; intro W h))
        exact ⟨c, rfl, h⟩
end
end Go.Proofs.Ytpghhaobcikdhaa
