/- A tree: New, Has, add, Root, Child. -/
import Derived.Test.YtpghhaobcikdhaaA8
namespace Go.Proofs.Ytpghhaobcikdhaa
open Go Go.Hw
set_option linter.unusedSimpArgs false
set_option linter.unusedVariables false
set_option maxRecDepth 100000

/-- a tree that names no slot that it has not -/
structure Tree.Cl (T : Tree) : Prop where
  kids : ∀ x d, T x = some d → ∀ c ∈ d.2, (T c).isSome = true
  par : ∀ x d q, T x = some d → d.1 = some q → (T q).isSome = true
  small : ∀ x d, T x = some d → d.2.length ≤ 2000

def Tree.add (T : Tree) (s : Slot) (par : Option Slot) : Int × Tree :=
  if (T s).isSome then (4, T) else (0, fun x => if x = s then some (par, []) else if some x = par then (T x).map fun d => (d.1, d.2 ++ [s]) else T x)
def Tree.child (T : Tree) (of s : Slot) : Int × Tree := if (T of).isSome then T.add s (some of) else (3, T)

section
variable {w0 : World} {Γ Γ' : List Chunk} {W : World} {t m clock : Nat} {L L' L1 L2 : KLay} {T T' : Tree}

theorem tNew (h : S w0 Γ W) : Calls Try.prog F_tree_New #[] W (Ret fun v W' => ∃ t, v = .pointer (some ⟨t, 0, none⟩) ∧ S w0 (treeC t (fun _ => none) :: Γ) W') := by
  refine c_tree_New ?_
  unfold h_tree_New
  refine r_makeMap (enc := slotV) h ?_
  clear h
  intro m W h
  repeat (first
    | simp only [↓bd177_0, ↓GG, NN, Nat.reduceAdd]
    | refine a_ld1 h ?_
    | refine a_ldN h ?_
    | refine a_rs1 h ?_
    | refine a_rsN h ?_
    | (refine u_draw h ?_; clear h; intro W h)
    | refine a_rd1 h ?_
    | refine a_rdN h ?_
    | (refine u_nr h ?_; clear h; intro b W h)
    | (refine u_bx h ?_; clear h; intro b W h)
    | (refine u_al h ?_; clear h; intro b W h)
    | (refine a_st h ?_; clear h; intro W h))
  refine ⟨_, rfl, ?_⟩
  have h1 : S w0 (knotsR [] [] (fun _ => none) :: _) _ := S.unemp h
  exact treeC_shut (L := []) (clock := 0) (treeL_shut h1 (by repeat (first | exact Take.head | apply Take.tail)) (t2 := (by repeat (first | exact Take.head | apply Take.tail))) (by repeat (first | exact Take.head | apply Take.tail)) ⟨List.nodup_nil, fun s => by simp⟩)

theorem tHas {s : Slot} (h : S w0 (treeL t m L clock T :: Γ) W) : Calls Try.prog F_tree_Tree_Has #[.pointer (some ⟨t, 0, none⟩), slotV s] W
    (Ret fun v W' => v = .bool (T s).isSome ∧ S w0 (treeL t m L clock T :: Γ) W') := by
  refine c_tree_Tree_Has ?_
  unfold h_tree_Tree_Has slotV
  obtain ⟨hf, h'⟩ := treeL_open h
  clear h
  have h := h'
  clear h'
  repeat (first
    | simp only [↓fa177_0, ↓ld175, ↓rd175, ↓ld66, ↓rd66, ↓eqneq189_n, ↓eqneq189_s, ↓GG, NN, Nat.reduceAdd]
    | refine a_ld1 h ?_
    | refine a_ldN h ?_
    | refine a_rs1 h ?_
    | refine a_rsN h ?_
    | (refine u_draw h ?_; clear h; intro W h)
    | refine a_rd1 h ?_
    | refine a_rdN h ?_
    | (refine u_nr h ?_; clear h; intro b W h)
    | (refine u_bx h ?_; clear h; intro b W h)
    | (refine u_al h ?_; clear h; intro b W h)
    | (refine a_st h ?_; clear h; intro W h))
  refine r_lookup keyS (by kernel_rfl) (by kernel_rfl : zeroB Try.prog 189 = some (.pointer none)) h (Take.knows (by repeat (first | exact Take.head | apply Take.tail))) s ?_
  cases hs : T s with
  | none =>
    rw [hf.none hs]
    simp only [Option.getD_none]
    repeat (first
    | simp only [↓fa177_0, ↓ld175, ↓rd175, ↓ld66, ↓rd66, ↓eqneq189_n, ↓eqneq189_s, ↓GG, NN, Nat.reduceAdd]
    | refine a_ld1 h ?_
    | refine a_ldN h ?_
    | refine a_rs1 h ?_
    | refine a_rsN h ?_
    | (refine u_draw h ?_; clear h; intro W h)
    | refine a_rd1 h ?_
    | refine a_rdN h ?_
    | (refine u_nr h ?_; clear h; intro b W h)
    | (refine u_bx h ?_; clear h; intro b W h)
    | (refine u_al h ?_; clear h; intro b W h)
    | (refine a_st h ?_; clear h; intro W h))
    exact ⟨rfl, (treeL_shut h (by repeat (first | exact Take.head | apply Take.tail)) (by repeat (first | exact Take.head | apply Take.tail)) (by repeat (first | exact Take.head | apply Take.tail)) hf).subA⟩
  | some d =>
    obtain ⟨blk, born, hm, hg, ha⟩ := hf.some (s := s) (by rw [hs]; rfl)
    rw [hg]
    simp only [Option.getD_some, ptrV]
    repeat (first
    | simp only [↓fa177_0, ↓ld175, ↓rd175, ↓ld66, ↓rd66, ↓eqneq189_n, ↓eqneq189_s, ↓GG, NN, Nat.reduceAdd]
    | refine a_ld1 h ?_
    | refine a_ldN h ?_
    | refine a_rs1 h ?_
    | refine a_rsN h ?_
    | (refine u_draw h ?_; clear h; intro W h)
    | refine a_rd1 h ?_
    | refine a_rdN h ?_
    | (refine u_nr h ?_; clear h; intro b W h)
    | (refine u_bx h ?_; clear h; intro b W h)
    | (refine u_al h ?_; clear h; intro b W h)
    | (refine a_st h ?_; clear h; intro W h))
    exact ⟨rfl, (treeL_shut h (by repeat (first | exact Take.head | apply Take.tail)) (by repeat (first | exact Take.head | apply Take.tail)) (by repeat (first | exact Take.head | apply Take.tail)) hf).subA⟩

theorem at_snoc {s x : Slot} {b born : Nat} (h : x ≠ s) : KLay.at (L ++ [(s, b, born)]) x = L.at x := by
  unfold KLay.at
  rw [List.find?_append]
  cases hx : L.find? fun e => x = e.1 with
  | some e => rfl
  | none => simp [h]

theorem at_snoc_same {s : Slot} {b born : Nat} (h : s ∉ L.map (·.1)) : KLay.at (L ++ [(s, b, born)]) s = b := by
  unfold KLay.at
  rw [List.find?_append, List.find?_eq_none.2]
  · simp
  · intro e he
    simp only [decide_eq_true_eq]
    rintro rfl
    exact h (List.mem_map.2 ⟨e, he, rfl⟩)

theorem knotC_congr {s : Slot} {b : Nat} {d : Option Slot × List Slot} (h1 : ∀ q, d.1 = some q → L.at q = L'.at q) (h2 : ∀ c ∈ d.2, L.at c = L'.at c) : knotC L s b (some d) = knotC L' s b (some d) := by
  have e1 : d.2.map L.at = d.2.map L'.at := List.map_congr_left h2
  have e2 : parV L d.1 = parV L' d.1 := by
    unfold parV
    cases hd : d.1 with
    | none => rfl
    | some q => simp only [Option.map_some]; rw [h1 q hd]
  show (ex fun ch => star (pts b (.cells #[.int .i64 s.1, .int .i64 s.2, parV L d.1, ch] T_tree_knot (0, 0))) (knotsC ch (d.2.map L.at))) = ex fun ch => star (pts b (.cells #[.int .i64 s.1, .int .i64 s.2, parV L' d.1, ch] T_tree_knot (0, 0))) (knotsC ch (d.2.map L'.at))
  rw [e1, e2]

theorem knotsC_snoc {v : Value} {bs : List Nat} {b : Nat} : slc T_p_tree_knot 1 v (bs.length + 1) (bs.flatMap ptrC ++ [.pointer (some ⟨b, 0, none⟩)]) = knotsC v (bs ++ [b]) := by
  show _ = slc T_p_tree_knot 1 v (bs ++ [b]).length ((bs ++ [b]).flatMap ptrC)
  rw [List.flatMap_append, List.length_append]
  rfl

theorem tAdd {s : Slot} {par : Option Slot} (hc : T.Cl) (hp : ∀ q, par = some q → (T q).isSome = true) (h : S w0 (treeL t m L clock T :: Γ) W) :
    Calls Try.prog F_tree_Tree_add #[.pointer (some ⟨t, 0, none⟩), slotV s, parV L par] W
    (Ret fun v W' => v = .int .i64 (T.add s par).1 ∧ S w0 (treeC t (T.add s par).2 :: Γ) W') := by
  refine c_tree_Tree_add ?_
  unfold h_tree_Tree_add
  rw [slotV]
  repeat (first
    | simp only [↓ld66, ↓rd66, ↓bd193_0_1, ↓fa177_0, ↓ld175, ↓rd175, ↓eqneq189_n, ↓eqneq189_s, ↓fa193_2, ↓ld190, ↓rd190, ↓bs190_1_0, ↓ap190, ↓st190, ↓GG, NN, Nat.reduceAdd]
    | refine a_ld1 h ?_
    | refine a_ldN h ?_
    | refine a_rs1 h ?_
    | refine a_rsN h ?_
    | (refine u_draw h ?_; clear h; intro W h)
    | refine a_rd1 h ?_
    | refine a_rdN h ?_
    | (refine u_nr h ?_; clear h; intro b W h)
    | (refine u_bx h ?_; clear h; intro b W h)
    | (refine u_al h ?_; clear h; intro b W h)
    | (refine a_st h ?_; clear h; intro W h))
  refine r_call (tHas (s := s) (h.take (by repeat (first | exact Take.head | apply Take.tail)))) ?_
  clear h
  rintro v W ⟨rfl, h⟩
  cases hs : T s with
  | some d =>
    simp only [Option.isSome_some]
    repeat (first
    | simp only [↓ld66, ↓rd66, ↓bd193_0_1, ↓fa177_0, ↓ld175, ↓rd175, ↓eqneq189_n, ↓eqneq189_s, ↓fa193_2, ↓ld190, ↓rd190, ↓bs190_1_0, ↓ap190, ↓st190, ↓GG, NN, Nat.reduceAdd]
    | refine a_ld1 h ?_
    | refine a_ldN h ?_
    | refine a_rs1 h ?_
    | refine a_rsN h ?_
    | (refine u_draw h ?_; clear h; intro W h)
    | refine a_rd1 h ?_
    | refine a_rdN h ?_
    | (refine u_nr h ?_; clear h; intro b W h)
    | (refine u_bx h ?_; clear h; intro b W h)
    | (refine u_al h ?_; clear h; intro b W h)
    | (refine a_st h ?_; clear h; intro W h))
    have hp : T.add s par = (4, T) := by simp [Tree.add, hs]
    rw [hp]
    exact ⟨rfl, treeC_shut (h.subA)⟩
  | none =>
    simp only [Option.isSome_none]
    unfold parV
    obtain ⟨hf, h'⟩ := treeL_open h
    clear h
    have h := h'
    clear h'
    repeat (first
    | simp only [↓ld66, ↓rd66, ↓bd193_0_1, ↓fa177_0, ↓ld175, ↓rd175, ↓eqneq189_n, ↓eqneq189_s, ↓fa193_2, ↓ld190, ↓rd190, ↓bs190_1_0, ↓ap190, ↓st190, ↓GG, NN, Nat.reduceAdd]
    | refine a_ld1 h ?_
    | refine a_ldN h ?_
    | refine a_rs1 h ?_
    | refine a_rsN h ?_
    | (refine u_draw h ?_; clear h; intro W h)
    | refine a_rd1 h ?_
    | refine a_rdN h ?_
    | (refine u_nr h ?_; clear h; intro b W h)
    | (refine u_bx h ?_; clear h; intro b W h)
    | (refine u_al h ?_; clear h; intro b W h)
    | (refine a_st h ?_; clear h; intro W h))
    have hnone := hf.none hs
    have hnin : s ∉ L.map (·.1) := fun hh => by have := (hf.dom s).2 hh; rw [hs] at this; cases this
    refine r_update (El := T_p_tree_knot) keyS (by kernel_rfl) h (by repeat (first | exact Take.head | apply Take.tail)) (by rw [kents_fst]; exact hf.nodup) s _ ?_
    clear h
    intro W h
    obtain ⟨kb, hkb⟩ : ∃ x, x = b := ⟨b, rfl⟩
    subst hkb
    have e1 : ∀ b, mPut s (.pointer (some ⟨b, 0, none⟩)) clock L.ents = KLay.ents (L ++ [(s, b, clock)]) := by intro b; unfold mPut; rw [hnone]; simp [KLay.ents, ptrV]
    rw [e1] at h
    have hpe : T.add s par = (0, fun x => if x = s then some (par, []) else if some x = par then (T x).map fun d => (d.1, d.2 ++ [s]) else T x) := by simp [Tree.add, hs]
    rw [hpe]
    generalize hT : (fun x => if x = s then some (par, []) else if some x = par then (T x).map fun d => (d.1, d.2 ++ [s]) else T x : Tree) = T'
    have hT1 : T' s = some (par, []) := by rw [← hT]; simp
    generalize hT0 : (fun x => if x = s then some (par, []) else T x : Tree) = T0
    have hT01 : T0 s = some (par, []) := by rw [← hT0]; simp
    have hT02 : ∀ x, x ≠ s → T0 x = T x := by intro x hx; rw [← hT0]; simp [hx]
    generalize hL2 : L ++ [(s, kb, clock)] = L2 at h
    have hat : ∀ x, (T x).isSome = true → L.at x = L2.at x := by
      intro x hx
      rw [← hL2, at_snoc]
      rintro rfl
      rw [hs] at hx
      cases hx
    have hat2 : L2.at s = kb := by rw [← hL2]; exact at_snoc_same hnin
    have e2 : knotsR L L T = knotsR L2 L T := by
      unfold knotsR
      congr 1
      refine List.map_congr_left fun e he => ?_
      obtain ⟨d, hd⟩ := Option.isSome_iff_exists.1 ((hf.dom e.1).2 (List.mem_map.2 ⟨e, he, rfl⟩))
      rw [hd]
      exact knotC_congr (fun q hq => hat q (hc.par _ _ _ hd hq)) (fun c hc' => hat c (hc.kids _ _ hd c hc'))
    rw [e2] at h
    have hpar : parV L par = parV L2 par := by
      unfold parV
      cases hpp : par with
      | none => rfl
      | some q => simp only [Option.map_some]; rw [hat q (hp q hpp)]
    have hf2 : TL L2 T0 := by
      rw [← hL2]
      refine ⟨?_, fun x => ?_⟩
      · rw [List.map_append, List.nodup_append]
        refine ⟨hf.nodup, by simp, fun a ha c hc => ?_⟩
        simp only [List.map_cons, List.map_nil, List.mem_singleton] at hc
        rintro rfl
        exact hnin (hc ▸ ha)
      · rw [List.map_append, List.mem_append]
        simp only [List.map_cons, List.map_nil, List.mem_singleton]
        by_cases hx : x = s
        · subst hx; simp [hT01]
        · rw [hT02 x hx, hf.dom]; simp [hx]
    have h0 := S.nilSlice T_p_tree_knot 1 h
    unfold parV at hpar
    rw [hpar] at h0
    have e3 : knotsR L2 L T = knotsR L2 (L ++ []) T := by rw [List.append_nil]
    rw [e3] at h0
    have h1 := knots_unpick (e := (s, kb, clock)) (L := L2) (L1 := L) (L2 := []) (T' := T0) (d := (par, [])) (ch := .slice none 0 0) h0 (by repeat (first | exact Take.head | apply Take.tail)) (by repeat (first | exact Take.head | apply Take.tail)) (T := T) (by repeat (first | exact Take.head | apply Take.tail)) hT01 (fun x hx => by
        rw [List.append_nil] at hx
        exact hT02 x.1 fun hxs => hnin (hxs ▸ List.mem_map.2 ⟨x, hx, rfl⟩))
    rw [hL2] at h1
    clear h0 h
    have h := h1
    clear h1
    cases hpp : par with
    | none =>
      simp only [Option.map_none]
      repeat (first
    | simp only [↓ld66, ↓rd66, ↓bd193_0_1, ↓fa177_0, ↓ld175, ↓rd175, ↓eqneq189_n, ↓eqneq189_s, ↓fa193_2, ↓ld190, ↓rd190, ↓bs190_1_0, ↓ap190, ↓st190, ↓GG, NN, Nat.reduceAdd]
    | refine a_ld1 h ?_
    | refine a_ldN h ?_
    | refine a_rs1 h ?_
    | refine a_rsN h ?_
    | (refine u_draw h ?_; clear h; intro W h)
    | refine a_rd1 h ?_
    | refine a_rdN h ?_
    | (refine u_nr h ?_; clear h; intro b W h)
    | (refine u_bx h ?_; clear h; intro b W h)
    | (refine u_al h ?_; clear h; intro b W h)
    | (refine a_st h ?_; clear h; intro W h))
      have e4 : T' = T0 := by
        rw [← hT, ← hT0]
        funext x
        rw [hpp]
        simp
      rw [e4]
      exact ⟨rfl, treeC_shut ((treeL_shut h (by repeat (first | exact Take.head | apply Take.tail)) (by repeat (first | exact Take.head | apply Take.tail)) (by repeat (first | exact Take.head | apply Take.tail)) hf2).subA)⟩
    | some q =>
      obtain ⟨d, hd⟩ := Option.isSome_iff_exists.1 (hp q hpp)
      have hqs : q ≠ s := by rintro rfl; rw [hs] at hd; cases hd
      have hd0 : T0 q = some d := by rw [hT02 q hqs, hd]
      obtain ⟨blk, born, hm, _, ha⟩ := hf2.some (s := q) (by rw [hd0]; rfl)
      simp only [Option.map_some]
      rw [hat q (hp q hpp), ha]
      obtain ⟨M1, M2, hM⟩ := List.append_of_mem hm
      have e5 : knotsR L2 L2 T0 = knotsR L2 (M1 ++ (q, blk, born) :: M2) T0 := by rw [← hM]
      rw [e5] at h
      obtain ⟨ch, h1⟩ := knots_pick (e := (q, blk, born)) h .head hd0
      clear h
      have h := h1
      clear h1
      simp only [knotP, knotCells] at h
      repeat (first
    | simp only [↓ld66, ↓rd66, ↓bd193_0_1, ↓fa177_0, ↓ld175, ↓rd175, ↓eqneq189_n, ↓eqneq189_s, ↓fa193_2, ↓ld190, ↓rd190, ↓bs190_1_0, ↓ap190, ↓st190, ↓GG, NN, Nat.reduceAdd]
    | refine a_ld1 h ?_
    | refine a_ldN h ?_
    | refine a_rs1 h ?_
    | refine a_rsN h ?_
    | (refine u_draw h ?_; clear h; intro W h)
    | refine a_rd1 h ?_
    | refine a_rdN h ?_
    | (refine u_nr h ?_; clear h; intro b W h)
    | (refine u_bx h ?_; clear h; intro b W h)
    | (refine u_al h ?_; clear h; intro b W h)
    | (refine a_st h ?_; clear h; intro W h))
      have hsm := hc.small _ _ hd
      refine u_ap h (e := T_p_tree_knot) (xs := (d.2.map L2.at).flatMap ptrC) (by repeat (first | exact Take.head | apply Take.tail)) (Take.knows (by repeat (first | exact Take.head | apply Take.tail))) (Nat.le_of_ble_eq_true rfl) (by rfl) (by rw [List.length_map]; omega) (by decide) ?_
      clear h
      intro v W h
      obtain ⟨va, vc, rfl⟩ := slc_shape h .head
      repeat (first
    | simp only [↓ld66, ↓rd66, ↓bd193_0_1, ↓fa177_0, ↓ld175, ↓rd175, ↓eqneq189_n, ↓eqneq189_s, ↓fa193_2, ↓ld190, ↓rd190, ↓bs190_1_0, ↓ap190, ↓st190, ↓GG, NN, Nat.reduceAdd]
    | refine a_ld1 h ?_
    | refine a_ldN h ?_
    | refine a_rs1 h ?_
    | refine a_rsN h ?_
    | (refine u_draw h ?_; clear h; intro W h)
    | refine a_rd1 h ?_
    | refine a_rdN h ?_
    | (refine u_nr h ?_; clear h; intro b W h)
    | (refine u_bx h ?_; clear h; intro b W h)
    | (refine u_al h ?_; clear h; intro b W h)
    | (refine a_st h ?_; clear h; intro W h))
      have e6 : slc T_p_tree_knot 1 (.slice va ((d.2.map L2.at).length + 1) vc) ((d.2.map L2.at).length + 1) ((d.2.map L2.at).flatMap ptrC ++ [.pointer (some ⟨kb, 0, none⟩)]) = knotsC (.slice va ((d.2.map L2.at).length + 1) vc) ((d.2 ++ [s]).map L2.at) := by
        rw [knotsC_snoc, List.map_append, List.map_cons, List.map_nil, hat2]
      have h' := h.take (c := slc T_p_tree_knot 1 (.slice va ((d.2.map L2.at).length + 1) vc) ((d.2.map L2.at).length + 1) ((d.2.map L2.at).flatMap ptrC ++ [.pointer (some ⟨kb, 0, none⟩)])) (by repeat (first | exact Take.head | apply Take.tail))
      rw [e6] at h'
      have hne : ∀ x ∈ M1 ++ M2, x.1 ≠ q := by
        intro x hx hq
        have hnd := hf2.nodup
        rw [hM, List.map_append, List.map_cons] at hnd
        have h4 := (List.perm_middle (a := q) (l₁ := M1.map (·.1)) (l₂ := M2.map (·.1))).nodup_iff.1 hnd
        rw [List.nodup_cons, ← List.map_append] at h4
        exact h4.1 (List.mem_map.2 ⟨x, hx, hq⟩)
      have hT'0 : ∀ x, x ≠ q → T' x = T0 x := by
        intro x hx
        rw [← hT, ← hT0]
        simp only [hpp, Option.some.injEq, hx, if_false]
      have hT'q : T' q = some (d.1, d.2 ++ [s]) := by
        rw [← hT]
        simp only [hpp, hqs, if_false, if_true, hd, Option.map_some]
      have h1 := knots_unpick (e := (q, blk, born)) (L := L2) (L1 := M1) (L2 := M2) (T' := T') (d := (d.1, d.2 ++ [s])) (ch := .slice va ((d.2.map L2.at).length + 1) vc) h' (by repeat (first | exact Take.head | apply Take.tail)) (by repeat (first | exact Take.head | apply Take.tail)) (T := T0) (by repeat (first | exact Take.head | apply Take.tail)) hT'q (fun x hx => hT'0 x.1 (hne x hx))
      rw [← hM] at h1
      refine ⟨rfl, treeC_shut ((treeL_shut h1 (by repeat (first | exact Take.head | apply Take.tail)) (by repeat (first | exact Take.head | apply Take.tail)) (by repeat (first | exact Take.head | apply Take.tail)) ⟨hf2.nodup, fun x => ?_⟩).subA)⟩
      by_cases hx : x = q
      · subst hx
        rw [hT'q, ← hf2.dom, hd0]
        simp
      · rw [hT'0 x hx, hf2.dom]

def Tree.root (T : Tree) (s : Slot) : Int × Tree := T.add s none

theorem tRoot {s : Slot} (hc : T.Cl) (h : S w0 (treeC t T :: Γ) W) : Calls Try.prog F_tree_Tree_Root #[.pointer (some ⟨t, 0, none⟩), slotV s] W
    (Ret fun v W' => v = .int .i64 (T.add s none).1 ∧ S w0 (treeC t (T.add s none).2 :: Γ) W') := by
  obtain ⟨m, L, clock, h⟩ := treeC_open h
  refine c_tree_Tree_Root ?_
  unfold h_tree_Tree_Root slotV
  repeat (first
    | simp only [↓ld66, ↓rd66, ↓GG, NN, Nat.reduceAdd]
    | refine a_ld1 h ?_
    | refine a_ldN h ?_
    | refine a_rs1 h ?_
    | refine a_rsN h ?_
    | (refine u_draw h ?_; clear h; intro W h)
    | refine a_rd1 h ?_
    | refine a_rdN h ?_
    | (refine u_nr h ?_; clear h; intro b W h)
    | (refine u_bx h ?_; clear h; intro b W h)
    | (refine u_al h ?_; clear h; intro b W h)
    | (refine a_st h ?_; clear h; intro W h))
  refine r_call (tAdd (s := s) (par := none) hc (fun q hq => by cases hq) (h.take (by repeat (first | exact Take.head | apply Take.tail)))) ?_
  clear h
  rintro v W ⟨rfl, h⟩
  exact ⟨rfl, h.subA⟩

theorem tChild {of s : Slot} (hc : T.Cl) (h : S w0 (treeC t T :: Γ) W) : Calls Try.prog F_tree_Tree_Child #[.pointer (some ⟨t, 0, none⟩), slotV of, slotV s] W
    (Ret fun v W' => v = .int .i64 (T.child of s).1 ∧ S w0 (treeC t (T.child of s).2 :: Γ) W') := by
  obtain ⟨m, L, clock, h⟩ := treeC_open h
  refine c_tree_Tree_Child ?_
  unfold h_tree_Tree_Child slotV
  obtain ⟨hf, h'⟩ := treeL_open h
  clear h
  have h := h'
  clear h'
  repeat (first
    | simp only [↓fa177_0, ↓ld175, ↓rd175, ↓ld66, ↓rd66, ↓eqeql189_n, ↓eqeql189_s, ↓GG, NN, Nat.reduceAdd]
    | refine a_ld1 h ?_
    | refine a_ldN h ?_
    | refine a_rs1 h ?_
    | refine a_rsN h ?_
    | (refine u_draw h ?_; clear h; intro W h)
    | refine a_rd1 h ?_
    | refine a_rdN h ?_
    | (refine u_nr h ?_; clear h; intro b W h)
    | (refine u_bx h ?_; clear h; intro b W h)
    | (refine u_al h ?_; clear h; intro b W h)
    | (refine a_st h ?_; clear h; intro W h))
  refine r_lookup keyS (by kernel_rfl) (by kernel_rfl : zeroB Try.prog 189 = some (.pointer none)) h (Take.knows (by repeat (first | exact Take.head | apply Take.tail))) of ?_
  cases hs : T of with
  | none =>
    rw [hf.none hs]
    simp only [Option.getD_none]
    repeat (first
    | simp only [↓fa177_0, ↓ld175, ↓rd175, ↓ld66, ↓rd66, ↓eqeql189_n, ↓eqeql189_s, ↓GG, NN, Nat.reduceAdd]
    | refine a_ld1 h ?_
    | refine a_ldN h ?_
    | refine a_rs1 h ?_
    | refine a_rsN h ?_
    | (refine u_draw h ?_; clear h; intro W h)
    | refine a_rd1 h ?_
    | refine a_rdN h ?_
    | (refine u_nr h ?_; clear h; intro b W h)
    | (refine u_bx h ?_; clear h; intro b W h)
    | (refine u_al h ?_; clear h; intro b W h)
    | (refine a_st h ?_; clear h; intro W h))
    have hp : T.child of s = (3, T) := by simp [Tree.child, hs]
    rw [hp]
    exact ⟨rfl, treeC_shut ((treeL_shut h (by repeat (first | exact Take.head | apply Take.tail)) (by repeat (first | exact Take.head | apply Take.tail)) (by repeat (first | exact Take.head | apply Take.tail)) hf).subA)⟩
  | some d =>
    obtain ⟨blk, born, hm, hg, ha⟩ := hf.some (s := of) (by rw [hs]; rfl)
    rw [hg]
    simp only [Option.getD_some, ptrV]
    repeat (first
    | simp only [↓fa177_0, ↓ld175, ↓rd175, ↓ld66, ↓rd66, ↓eqeql189_n, ↓eqeql189_s, ↓GG, NN, Nat.reduceAdd]
    | refine a_ld1 h ?_
    | refine a_ldN h ?_
    | refine a_rs1 h ?_
    | refine a_rsN h ?_
    | (refine u_draw h ?_; clear h; intro W h)
    | refine a_rd1 h ?_
    | refine a_rdN h ?_
    | (refine u_nr h ?_; clear h; intro b W h)
    | (refine u_bx h ?_; clear h; intro b W h)
    | (refine u_al h ?_; clear h; intro b W h)
    | (refine a_st h ?_; clear h; intro W h))
    have hp : T.child of s = T.add s (some of) := by simp [Tree.child, hs]
    rw [hp]
    have e : (.pointer (some ⟨blk, 0, none⟩) : Value) = parV L (some of) := by unfold parV; simp [ha]
    rw [e]
    refine r_call (tAdd (s := s) (par := some of) hc (fun q hq => by injection hq with hq; subst hq; rw [hs]; rfl) (treeL_shut h (by repeat (first | exact Take.head | apply Take.tail)) (by repeat (first | exact Take.head | apply Take.tail)) (by repeat (first | exact Take.head | apply Take.tail)) hf)) ?_
    clear h
    rintro v W ⟨rfl, h⟩
    exact ⟨rfl, h.subA⟩
end
end Go.Proofs.Ytpghhaobcikdhaa
