/- A tree: Drop. -/
import Derived.Test.YtpghhaobcikdhaaA10
namespace Go.Proofs.Ytpghhaobcikdhaa
open Go Go.Hw
set_option linter.unusedSimpArgs false
set_option linter.unusedVariables false
set_option maxRecDepth 100000

/-- a tree that is one -/
structure Tree.Wf (T : Tree) : Prop extends T.Cl where
  nodup : ∀ x d, T x = some d → d.2.Nodup
  link : ∀ x d, T x = some d → ∀ c dc, T c = some dc → (c ∈ d.2 ↔ dc.1 = some x)
  rank : ∃ (r : Slot → Nat) (N : Nat), (∀ x, r x ≤ N) ∧ ∀ x d q, T x = some d → d.1 = some q → r q < r x

def Tree.drop (T : Tree) (s : Slot) : Int × Tree :=
  match T s with
  | none => (3, T)
  | some d => (0, fun x => if x = s then none else (T x).map fun e => (if e.1 = some s then d.1 else e.1, e.2.flatMap fun c => if c = s then d.2 else [c]))

theorem Tree.Wf.self {T : Tree} (h : T.Wf) {x : Slot} {d : Option Slot × List Slot} (hd : T x = some d) : d.1 ≠ some x := by
  obtain ⟨r, N, _, hr⟩ := h.rank
  intro hx
  exact Nat.lt_irrefl _ (hr x d x hd hx)
theorem Tree.Wf.selfkid {T : Tree} (h : T.Wf) {x : Slot} {d : Option Slot × List Slot} (hd : T x = some d) : x ∉ d.2 := fun hx => h.self hd ((h.link x d hd x d hd).1 hx)
theorem Tree.Wf.parkid {T : Tree} (h : T.Wf) {x p : Slot} {d : Option Slot × List Slot} (hd : T x = some d) (hp : d.1 = some p) : p ∉ d.2 := by
  obtain ⟨r, N, _, hr⟩ := h.rank
  intro hx
  obtain ⟨dp, hdp⟩ := Option.isSome_iff_exists.1 (h.par _ _ _ hd hp)
  have h1 := hr x d p hd hp
  have h2 := hr p dp x hdp ((h.link x d hd p dp hdp).1 hx)
  omega

theorem flat_id {s : Slot} {k l : List Slot} (h : s ∉ l) : (l.flatMap fun c => if c = s then k else [c]) = l := by
  induction l with
  | nil => rfl
  | cons a l ih =>
    rw [List.mem_cons, not_or] at h
    rw [List.flatMap_cons, ih h.2, if_neg (fun e => h.1 e.symm)]
    rfl
theorem flat_mid {s : Slot} {k a b : List Slot} (ha : s ∉ a) (hb : s ∉ b) : ((a ++ s :: b).flatMap fun c => if c = s then k else [c]) = a ++ k ++ b := by
  rw [List.flatMap_append, List.flatMap_cons, flat_id ha, flat_id hb, if_pos rfl, List.append_assoc]

section
variable {w0 : World} {Γ Γ' : List Chunk} {W : World} {t m clock : Nat} {L L' L1 L2 : KLay} {T T' : Tree}

theorem Take.perm {c : Chunk} {Γ0 Γ1 : List Chunk} (tk : Take c Γ0 Γ1) : Γ0.Perm (c :: Γ1) := by
  induction tk with
  | head => exact List.Perm.refl _
  | tail _ ih => exact (ih.cons _).trans (List.Perm.swap _ _ _)
theorem S.get2 {c1 c2 : Chunk} {Γ0 Γ1 Γ2 : List Chunk} (h : S w0 Γ0 W) (t1 : Take c1 Γ0 Γ1) (t2 : Take c2 Γ1 Γ2) : S w0 (c1 :: c2 :: Γ2) W := ((h.take t1).take (.tail t2)).take (.tail .head)
theorem S.get3 {c1 c2 c3 : Chunk} {Γ0 Γ1 Γ2 Γ3 : List Chunk} (h : S w0 Γ0 W) (t1 : Take c1 Γ0 Γ1) (t2 : Take c2 Γ1 Γ2) (t3 : Take c3 Γ2 Γ3) : S w0 (c1 :: c2 :: c3 :: Γ3) W :=
  ((S.get2 h t1 t2).take (.tail (.tail t3))).perm (((List.Perm.swap _ _ _).trans ((List.Perm.swap _ _ _).cons _)))
theorem S.get4 {c1 c2 c3 c4 : Chunk} {Γ0 Γ1 Γ2 Γ3 Γ4 : List Chunk} (h : S w0 Γ0 W) (t1 : Take c1 Γ0 Γ1) (t2 : Take c2 Γ1 Γ2) (t3 : Take c3 Γ2 Γ3) (t4 : Take c4 Γ3 Γ4) : S w0 (c1 :: c2 :: c3 :: c4 :: Γ4) W :=
  (S.get3 h t1 t2 t3).perm (l4 t4)
where l4 {Γ3 Γ4 : List Chunk} {c1 c2 c3 c4 : Chunk} (t : Take c4 Γ3 Γ4) : (c1 :: c2 :: c3 :: Γ3).Perm (c1 :: c2 :: c3 :: c4 :: Γ4) := (((Take.perm t).cons _).cons _).cons _
theorem S.get6 {c1 c2 c3 c4 c5 c6 : Chunk} {Γ0 Γ1 Γ2 Γ3 Γ4 Γ5 Γ6 : List Chunk} (h : S w0 Γ0 W) (t1 : Take c1 Γ0 Γ1) (t2 : Take c2 Γ1 Γ2) (t3 : Take c3 Γ2 Γ3) (t4 : Take c4 Γ3 Γ4) (t5 : Take c5 Γ4 Γ5) (t6 : Take c6 Γ5 Γ6) :
    S w0 (c1 :: c2 :: c3 :: c4 :: c5 :: c6 :: Γ6) W :=
  (S.get4 h t1 t2 t3 t4).perm ((((((((Take.perm t5).trans ((Take.perm t6).cons _)).cons _).cons _).cons _).cons _)))

/-- the tree when the first of a slot's kids have another parent -/
def Tree.lift (T : Tree) (p : Option Slot) (l : List Slot) : Tree := fun x => if x ∈ l then (T x).map fun e => (p, e.2) else T x

theorem kids_at {x : Value} {bs : List Nat} (h : S w0 Γ W) (tk : Take (knotsC x bs) Γ Γ') {i : Nat} (hi : i < bs.length) :
    ∃ g cap cur, x = .slice (some ⟨g, 0, none⟩) bs.length cap ∧ W.heap[g]? = some (.cells cur T_p_tree_knot (0, 0)) ∧ cur.toList[i]? = some (ptrV bs[i]) := by
  obtain ⟨g, cap, cur, hv, hg, hr, hs⟩ := row_read ptrC_len h tk hi
  refine ⟨g, cap, cur, hv, hg, ?_⟩
  have := congrArg (fun l : List Value => l[0]?) hr
  simp only [List.getElem?_take, List.getElem?_drop] at this
  simpa [ptrC] using this

theorem Kn.len {v : Value} {s n n' : Nat} {xs : List Value} (k : Kn Γ v s xs n) (e : n = n') : Kn Γ v s xs n' := e ▸ k
theorem Kn.use2 {c1 c2 : Chunk} {v : Value} {s n : Nat} {xs : List Value} (h : S w0 (c2 :: c1 :: Γ) W) (kn : ∀ Γ', Kn (c1 :: Γ') v s xs n) : Kn (c2 :: c1 :: Γ) v s xs n := (kn Γ).tail
theorem Kn.use1 {c1 : Chunk} {v : Value} {s n : Nat} {xs : List Value} (h : S w0 (c1 :: Γ) W) (kn : ∀ Γ', Kn (c1 :: Γ') v s xs n) : Kn (c1 :: Γ) v s xs n := kn Γ

theorem nodup_ne {l M1 M2 : KLay} {e : Slot × Nat × Nat} (hn : (l.map (·.1)).Nodup) (hM : l = M1 ++ e :: M2) : ∀ x ∈ M1 ++ M2, x.1 ≠ e.1 := by
  intro x hx hq
  rw [hM, List.map_append, List.map_cons] at hn
  have h4 := (List.perm_middle (a := e.1) (l₁ := M1.map (·.1)) (l₂ := M2.map (·.1))).nodup_iff.1 hn
  rw [List.nodup_cons, ← List.map_append] at h4
  exact h4.1 (List.mem_map.2 ⟨x, hx, hq⟩)

theorem tDrop {sa : Slot} (hw : T.Wf) (h : S w0 (treeC t T :: Γ) W) : Calls Try.prog F_tree_Tree_Drop #[.pointer (some ⟨t, 0, none⟩), slotV sa] W
    (Ret fun v W' => v = .int .i64 (T.drop sa).1 ∧ S w0 (treeC t (T.drop sa).2 :: Γ) W') := by
  obtain ⟨m, L, clock, h⟩ := treeC_open h
  refine c_tree_Tree_Drop ?_
  unfold h_tree_Tree_Drop
  simp only [slotV]
  obtain ⟨hf, h'⟩ := treeL_open h
  have hinj : ∀ x y, (T x).isSome = true → (T y).isSome = true → L.at x = L.at y → x = y := fun x y hx hy => at_inj h' (.tail (.tail .head)) hf hx hy
  clear h
  have h := h'
  clear h'
  repeat (first
    | simp only [↓fa177_0, ↓ld175, ↓rd175, ↓ld66, ↓rd66, ↓eqeql189_n, ↓eqeql189_s, ↓fa193_2, ↓ld190, ↓rd190, ↓len190, ↓ia190, ↓ld189, ↓rd189, ↓fa193_1, ↓st189, ↓eqneq189_n, ↓eqneq189_s, ↓bs238_3_0_1_2, ↓st190, ↓GG, NN, Nat.reduceAdd]
    | refine a_ld1 h ?_
    | refine a_ldN h ?_
    | refine a_rs1 h ?_
    | refine a_rsN h ?_
    | (refine u_draw h ?_; clear h; intro W h)
    | refine a_rd1 h ?_
    | refine a_rdN h ?_
    | (refine u_nr h ?_; clear h; intro b W h)
    | (refine u_bx h ?_; clear h; intro b W h)
    | (refine u_al h ?_; clear h; intro b W h)
    | (refine a_st h ?_; clear h; intro W h))
  refine r_lookup keyS (by kernel_rfl) (by kernel_rfl : zeroB Try.prog 189 = some (.pointer none)) h (Take.knows (by repeat (first | exact Take.head | apply Take.tail))) sa ?_
  cases hs : T sa with
  | none =>
    rw [hf.none hs]
    simp only [Option.getD_none]
    repeat (first
    | simp only [↓fa177_0, ↓ld175, ↓rd175, ↓ld66, ↓rd66, ↓eqeql189_n, ↓eqeql189_s, ↓fa193_2, ↓ld190, ↓rd190, ↓len190, ↓ia190, ↓ld189, ↓rd189, ↓fa193_1, ↓st189, ↓eqneq189_n, ↓eqneq189_s, ↓bs238_3_0_1_2, ↓st190, ↓GG, NN, Nat.reduceAdd]
    | refine a_ld1 h ?_
    | refine a_ldN h ?_
    | refine a_rs1 h ?_
    | refine a_rsN h ?_
    | (refine u_draw h ?_; clear h; intro W h)
    | refine a_rd1 h ?_
    | refine a_rdN h ?_
    | (refine u_nr h ?_; clear h; intro b W h)
    | (refine u_bx h ?_; clear h; intro b W h)
    | (refine u_al h ?_; clear h; intro b W h)
    | (refine a_st h ?_; clear h; intro W h))
    have hp : T.drop sa = (3, T) := by simp [Tree.drop, hs]
    rw [hp]
    exact ⟨rfl, treeC_shut ((treeL_shut h (by repeat (first | exact Take.head | apply Take.tail)) (by repeat (first | exact Take.head | apply Take.tail)) (by repeat (first | exact Take.head | apply Take.tail)) hf).subA)⟩
  | some d =>
    obtain ⟨blk, born, hm, hg, ha⟩ := hf.some (s := sa) (by rw [hs]; rfl)
    rw [hg]
    simp only [Option.getD_some, ptrV]
    obtain ⟨L1, L2, hL⟩ := List.append_of_mem hm
    have e1 : knotsR L L T = knotsR L (L1 ++ (sa, blk, born) :: L2) T := by rw [← hL]
    rw [e1] at h
    obtain ⟨ch, h1⟩ := knots_pick (e := (sa, blk, born)) h (by repeat (first | exact Take.head | apply Take.tail)) hs
    clear h
    have h := h1
    clear h1
    simp only [knotP, knotCells] at h
    obtain ⟨va, vc, rfl⟩ := slc_shape h (.tail .head)
    repeat (first
    | simp only [↓fa177_0, ↓ld175, ↓rd175, ↓ld66, ↓rd66, ↓eqeql189_n, ↓eqeql189_s, ↓fa193_2, ↓ld190, ↓rd190, ↓len190, ↓ia190, ↓ld189, ↓rd189, ↓fa193_1, ↓st189, ↓eqneq189_n, ↓eqneq189_s, ↓bs238_3_0_1_2, ↓st190, ↓GG, NN, Nat.reduceAdd]
    | refine a_ld1 h ?_
    | refine a_ldN h ?_
    | refine a_rs1 h ?_
    | refine a_rsN h ?_
    | (refine u_draw h ?_; clear h; intro W h)
    | refine a_rd1 h ?_
    | refine a_rdN h ?_
    | (refine u_nr h ?_; clear h; intro b W h)
    | (refine u_bx h ?_; clear h; intro b W h)
    | (refine u_al h ?_; clear h; intro b W h)
    | (refine a_st h ?_; clear h; intro W h))
    have hkl : (d.2.map L.at).length = d.2.length := List.length_map _
    have hsm := hw.small _ _ hs
    have hself := hw.selfkid hs
    have hmemL : ∀ x, (T x).isSome = true → x ≠ sa → ∃ e ∈ L1 ++ L2, e.1 = x := by
      intro x hx hxs
      obtain ⟨e, he, rfl⟩ := List.mem_map.1 ((hf.dom x).1 hx)
      refine ⟨e, ?_, rfl⟩
      rw [hL] at he
      rcases List.mem_append.1 he with he | he
      · exact List.mem_append.2 (.inl he)
      · rcases List.mem_cons.1 he with rfl | he
        · exact absurd rfl hxs
        · exact List.mem_append.2 (.inr he)
    refine u_loop (fun s' w => ∃ i : Nat, i ≤ d.2.length ∧ s' = .int .i64 i ∧
      S w0 (pts blk (.cells #[.int .i64 sa.1, .int .i64 sa.2, parV L d.1, .slice va (d.2.map L.at).length vc] T_tree_knot (0, 0)) :: knotsC (.slice va (d.2.map L.at).length vc) (d.2.map L.at) :: knotsR L (L1 ++ L2) (T.lift d.1 (d.2.take i)) ::
        pts t (.cells #[.map (some m)] T_tree_Tree (0, 0)) :: pts m (mapO slotV L.ents clock) :: pts b (.cells (Value.agg #[.int .i64 sa.1, .int .i64 sa.2]).cells 66 (0, 0)) :: Γ) w) (fun s' _ => d.2.length - (vInt s').toNat) ⟨0, by omega, rfl, ?_⟩ ?_
    · have e0 : T.lift d.1 (d.2.take 0) = T := by funext x; simp [Tree.lift]
      rw [e0]
      exact S.get6 h (by repeat (first | exact Take.head | apply Take.tail)) (by repeat (first | exact Take.head | apply Take.tail)) (by repeat (first | exact Take.head | apply Take.tail)) (by repeat (first | exact Take.head | apply Take.tail)) (by repeat (first | exact Take.head | apply Take.tail)) (by repeat (first | exact Take.head | apply Take.tail))
    clear h
    rintro j iv W ⟨i, hi, hsv, h⟩
    cases hsv
    by_cases hlt : i < d.2.length
    · have d1 : decide ((i : Int) < ((d.2.map L.at).length : Int)) = true := by simp; omega
      obtain ⟨g, cap, cur, hv, hg, hr⟩ := kids_at h (.tail .head) (i := i) (by omega)
      injection hv with q1 q2 q3
      subst q1 q3
      repeat (first
    | simp only [d1, ↓fa177_0, ↓ld175, ↓rd175, ↓ld66, ↓rd66, ↓eqeql189_n, ↓eqeql189_s, ↓fa193_2, ↓ld190, ↓rd190, ↓len190, ↓ia190, ↓ld189, ↓rd189, ↓fa193_1, ↓st189, ↓eqneq189_n, ↓eqneq189_s, ↓bs238_3_0_1_2, ↓st190, ↓GG, NN, Nat.reduceAdd]
    | refine a_ld1 h ?_
    | refine a_ldN h ?_
    | refine a_rs1 h ?_
    | refine a_rsN h ?_
    | (refine u_draw h ?_; clear h; intro W h)
    | refine a_rd1 h ?_
    | refine a_rdN h ?_
    | (refine u_nr h ?_; clear h; intro b W h)
    | (refine u_bx h ?_; clear h; intro b W h)
    | (refine u_al h ?_; clear h; intro b W h)
    | (refine a_st h ?_; clear h; intro W h))
      rw [ia190 (by omega)]
      refine v_ld1 (v := ptrV (L.at d.2[i])) hg (by simpa using hr) ?_
      have hck : (T d.2[i]).isSome = true := hw.kids _ _ hs _ (List.getElem_mem hlt)
      have hcs : d.2[i] ≠ sa := fun hh => hself (hh ▸ List.getElem_mem hlt)
      obtain ⟨e, he, hec⟩ := hmemL _ hck hcs
      have hemL : e ∈ L := by rw [hL]; simp only [List.mem_append, List.mem_cons] at he ⊢; rcases he with he | he; exact .inl he; exact .inr (.inr he)
      have hea : L.at d.2[i] = e.2.1 := by rw [← hec]; exact hf.at hemL
      rw [hea]
      simp only [ptrV]
      obtain ⟨dc, hdc⟩ := Option.isSome_iff_exists.1 hck
      have hnt : d.2[i] ∉ d.2.take i := by
        have hnd := hw.nodup _ _ hs
        intro hh
        rw [← List.take_append_drop i d.2, List.nodup_append] at hnd
        exact hnd.2.2 _ hh _ (by rw [List.drop_eq_getElem_cons hlt]; exact List.mem_cons_self ..) rfl
      have hdl : T.lift d.1 (d.2.take i) e.1 = some dc := by rw [hec, Tree.lift, if_neg hnt, hdc]
      obtain ⟨M1, M2, hM⟩ := List.append_of_mem he
      rw [hM] at h
      obtain ⟨chc, h1⟩ := knots_pick (e := e) h (by repeat (first | exact Take.head | apply Take.tail)) hdl
      clear h
      have h := h1
      clear h1
      simp only [knotP, knotCells] at h
      simp only [parV] at h
      repeat (first
    | simp only [↓fa177_0, ↓ld175, ↓rd175, ↓ld66, ↓rd66, ↓eqeql189_n, ↓eqeql189_s, ↓fa193_2, ↓ld190, ↓rd190, ↓len190, ↓ia190, ↓ld189, ↓rd189, ↓fa193_1, ↓st189, ↓eqneq189_n, ↓eqneq189_s, ↓bs238_3_0_1_2, ↓st190, ↓GG, NN, Nat.reduceAdd]
    | refine a_ld1 h ?_
    | refine a_ldN h ?_
    | refine a_rs1 h ?_
    | refine a_rsN h ?_
    | (refine u_draw h ?_; clear h; intro W h)
    | refine a_rd1 h ?_
    | refine a_rdN h ?_
    | (refine u_nr h ?_; clear h; intro b W h)
    | (refine u_bx h ?_; clear h; intro b W h)
    | (refine u_al h ?_; clear h; intro b W h)
    | (refine a_st h ?_; clear h; intro W h))
      rw [wrap_succ (by omega)]
      have hT1 : T.lift d.1 (d.2.take (i + 1)) e.1 = some (d.1, dc.2) := by
        rw [hec, Tree.lift, if_pos (by rw [List.take_succ_eq_append_getElem hlt]; exact List.mem_append_right _ (List.mem_singleton_self _)), hdc]
        rfl
      have ho : ∀ x ∈ M1 ++ M2, T.lift d.1 (d.2.take (i + 1)) x.1 = T.lift d.1 (d.2.take i) x.1 := by
        intro x hx
        have hne := nodup_ne (hf.nodup_del hL) hM x hx
        rw [hec] at hne
        unfold Tree.lift
        rw [List.take_succ_eq_append_getElem hlt]
        simp only [List.mem_append, List.mem_singleton, hne, or_false]
      have h1 := knots_unpick (e := e) (L := L) (L1 := M1) (L2 := M2) (T' := T.lift d.1 (d.2.take (i + 1))) (d := (d.1, dc.2)) (ch := chc) h (by repeat (first | exact Take.head | apply Take.tail)) (by repeat (first | exact Take.head | apply Take.tail)) (T := T.lift d.1 (d.2.take i)) (by repeat (first | exact Take.head | apply Take.tail)) hT1 ho
      rw [← hM] at h1
      refine ⟨⟨i + 1, by omega, rfl, S.get6 h1 (by repeat (first | exact Take.head | apply Take.tail)) (by repeat (first | exact Take.head | apply Take.tail)) (by repeat (first | exact Take.head | apply Take.tail)) (by repeat (first | exact Take.head | apply Take.tail)) (by repeat (first | exact Take.head | apply Take.tail)) (by repeat (first | exact Take.head | apply Take.tail))⟩, ?_⟩
      simp only [vInt]
      omega
    · have d1 : decide ((i : Int) < ((d.2.map L.at).length : Int)) = false := by simp; omega
      have : i = d.2.length := by omega
      subst this
      rw [List.take_length] at h
      repeat (first
    | simp only [d1, ↓fa177_0, ↓ld175, ↓rd175, ↓ld66, ↓rd66, ↓eqeql189_n, ↓eqeql189_s, ↓fa193_2, ↓ld190, ↓rd190, ↓len190, ↓ia190, ↓ld189, ↓rd189, ↓fa193_1, ↓st189, ↓eqneq189_n, ↓eqneq189_s, ↓bs238_3_0_1_2, ↓st190, ↓GG, NN, Nat.reduceAdd]
    | refine a_ld1 h ?_
    | refine a_ldN h ?_
    | refine a_rs1 h ?_
    | refine a_rsN h ?_
    | (refine u_draw h ?_; clear h; intro W h)
    | refine a_rd1 h ?_
    | refine a_rdN h ?_
    | (refine u_nr h ?_; clear h; intro b W h)
    | (refine u_bx h ?_; clear h; intro b W h)
    | (refine u_al h ?_; clear h; intro b W h)
    | (refine a_st h ?_; clear h; intro W h))
      have hp : T.drop sa = (0, fun x => if x = sa then none else (T x).map fun e => (if e.1 = some sa then d.1 else e.1, e.2.flatMap fun c => if c = sa then d.2 else [c])) := by simp [Tree.drop, hs]
      rw [hp]
      generalize hT : (fun x => if x = sa then none else (T x).map fun e => (if e.1 = some sa then d.1 else e.1, e.2.flatMap fun c => if c = sa then d.2 else [c]) : Tree) = T'
      have hTs : T' sa = none := by rw [← hT]; simp
      have hTx : ∀ x e, x ≠ sa → T x = some e → T' x = some (if e.1 = some sa then d.1 else e.1, e.2.flatMap fun c => if c = sa then d.2 else [c]) := by
        intro x e hx he; rw [← hT]; simp [hx, he]
      have hTn : ∀ x, x ≠ sa → d.1 ≠ some x → T' x = T.lift d.1 d.2 x := by
        intro x hx hdx
        unfold Tree.lift
        cases he : T x with
        | none => rw [← hT]; simp [hx, he]
        | some e =>
          rw [hTx x e hx he]
          have k1 : sa ∉ e.2 := fun hh => hdx ((hw.link x e he sa d hs).1 hh)
          rw [flat_id k1]
          have k2 := hw.link sa d hs x e he
          by_cases hxe : e.1 = some sa
          · rw [if_pos hxe, if_pos (k2.2 hxe)]; rfl
          · rw [if_neg hxe, if_neg (fun hh => hxe (k2.1 hh))]
      refine u_join (fun _ w => S w0 (knotsR L (L1 ++ L2) T' :: pts t (.cells #[.map (some m)] T_tree_Tree (0, 0)) :: pts m (mapO slotV L.ents clock) :: pts b (.cells #[.int .i64 sa.1, .int .i64 sa.2] 66 (0, 0)) :: Γ) w) ?_ ?_
      · cases hpp : d.1 with
        | none =>
          simp only [parV, hpp, Option.map_none] at h
          repeat (first
    | simp only [↓fa177_0, ↓ld175, ↓rd175, ↓ld66, ↓rd66, ↓eqeql189_n, ↓eqeql189_s, ↓fa193_2, ↓ld190, ↓rd190, ↓len190, ↓ia190, ↓ld189, ↓rd189, ↓fa193_1, ↓st189, ↓eqneq189_n, ↓eqneq189_s, ↓bs238_3_0_1_2, ↓st190, ↓GG, NN, Nat.reduceAdd]
    | refine a_ld1 h ?_
    | refine a_ldN h ?_
    | refine a_rs1 h ?_
    | refine a_rsN h ?_
    | (refine u_draw h ?_; clear h; intro W h)
    | refine a_rd1 h ?_
    | refine a_rdN h ?_
    | (refine u_nr h ?_; clear h; intro b W h)
    | (refine u_bx h ?_; clear h; intro b W h)
    | (refine u_al h ?_; clear h; intro b W h)
    | (refine a_st h ?_; clear h; intro W h))
          have e2 : knotsR L (L1 ++ L2) (T.lift none d.2) = knotsR L (L1 ++ L2) T' := by
            unfold knotsR
            congr 1
            refine List.map_congr_left fun e he => ?_
            rw [hTn e.1 (hf.ne hL e he) (by rw [hpp]; simp), hpp]
          rw [e2] at h
          exact (S.get4 h (by repeat (first | exact Take.head | apply Take.tail)) (by repeat (first | exact Take.head | apply Take.tail)) (by repeat (first | exact Take.head | apply Take.tail)) (by repeat (first | exact Take.head | apply Take.tail))).subA
        | some p =>
          obtain ⟨dp, hdp⟩ := Option.isSome_iff_exists.1 (hw.par _ _ _ hs hpp)
          have hps : p ≠ sa := fun hh => hw.self hs (hh ▸ hpp)
          have hpk : p ∉ d.2 := hw.parkid hs hpp
          obtain ⟨e, he, hec⟩ := hmemL p (by rw [hdp]; rfl) hps
          have hemL : e ∈ L := by rw [hL]; simp only [List.mem_append, List.mem_cons] at he ⊢; rcases he with he | he; exact .inl he; exact .inr (.inr he)
          have hea : L.at p = e.2.1 := by rw [← hec]; exact hf.at hemL
          have hdl : T.lift (some p) d.2 e.1 = some dp := by rw [hec, Tree.lift, if_neg hpk, hdp]
          have hskid : sa ∈ dp.2 := (hw.link p dp hdp sa d hs).2 hpp
          obtain ⟨M1, M2, hM⟩ := List.append_of_mem he
          simp only [parV, hpp, Option.map_some, hea] at h
          rw [hM] at h
          obtain ⟨chp, h1⟩ := knots_pick (e := e) h (by repeat (first | exact Take.head | apply Take.tail)) hdl
          clear h
          have h := h1
          clear h1
          simp only [knotP, knotCells] at h
          obtain ⟨wa, wc, rfl⟩ := slc_shape h (.tail .head)
          repeat (first
    | simp only [↓fa177_0, ↓ld175, ↓rd175, ↓ld66, ↓rd66, ↓eqeql189_n, ↓eqeql189_s, ↓fa193_2, ↓ld190, ↓rd190, ↓len190, ↓ia190, ↓ld189, ↓rd189, ↓fa193_1, ↓st189, ↓eqneq189_n, ↓eqneq189_s, ↓bs238_3_0_1_2, ↓st190, ↓GG, NN, Nat.reduceAdd]
    | refine a_ld1 h ?_
    | refine a_ldN h ?_
    | refine a_rs1 h ?_
    | refine a_rsN h ?_
    | (refine u_draw h ?_; clear h; intro W h)
    | refine a_rd1 h ?_
    | refine a_rdN h ?_
    | (refine u_nr h ?_; clear h; intro b W h)
    | (refine u_bx h ?_; clear h; intro b W h)
    | (refine u_al h ?_; clear h; intro b W h)
    | (refine a_st h ?_; clear h; intro W h))
          obtain ⟨A, B, hAB⟩ := List.append_of_mem hskid
          have hnd := hw.nodup _ _ hdp
          rw [hAB] at hnd
          have hnA : sa ∉ A := by
            intro hh
            rw [List.nodup_append] at hnd
            exact hnd.2.2 sa hh sa (List.mem_cons_self ..) rfl
          have hnB : sa ∉ B := by
            rw [List.nodup_append, List.nodup_cons] at hnd
            exact hnd.2.1.1
          have hAl : (A.length + (B.length + 1)) ≤ 2000 := by
            have := hw.small _ _ hdp
            rw [hAB, List.length_append, List.length_cons] at this
            exact this
          have hmap : dp.2.map L.at = A.map L.at ++ blk :: B.map L.at := by rw [hAB, List.map_append, List.map_cons, ha]
          have hbA : blk ∉ A.map L.at := by
            intro hh
            obtain ⟨c, hc, hce⟩ := List.mem_map.1 hh
            have : c = sa := hinj c sa (hw.kids _ _ hdp c (by rw [hAB]; exact List.mem_append_left _ hc)) (by rw [hs]; rfl) (by rw [hce, ha])
            exact hnA (this ▸ hc)
          have hidx : (if blk ∈ dp.2.map L.at then (((dp.2.map L.at).idxOf blk : Nat) : Int) else -1) = (A.length : Int) := by
            rw [if_pos (by rw [hmap]; simp), hmap, List.idxOf_append, if_neg hbA, List.idxOf_cons_self, List.length_map]
            simp
          have hdpl : (dp.2.map L.at).length = A.length + (B.length + 1) := by rw [List.length_map, hAB, List.length_append, List.length_cons]
          obtain ⟨c1, h1, kn1, back1⟩ := slc_fix (h.take (c := knotsC (.slice wa (dp.2.map L.at).length wc) (dp.2.map L.at)) (by repeat (first | exact Take.head | apply Take.tail)))
          clear h
          obtain ⟨c2, h, kn2, back2⟩ := slc_fix (h1.take (c := knotsC (.slice va (d.2.map L.at).length vc) (d.2.map L.at)) (by repeat (first | exact Take.head | apply Take.tail)))
          clear h1
          refine r_call (Index_knot_spec (b := blk) (bs := dp.2.map L.at) h ((kn1 _).tail) (by omega) ?_) ?_
          · intro w hw' y hy
            have hlive : ∃ c T, w.heap[blk]? = some (.cells c T (0, 0)) := ⟨_, _, (Take.knows (b := blk) (by repeat (first | exact Take.head | apply Take.tail))).get hw'⟩
            rcases List.mem_cons.1 hy with rfl | hy
            · exact hlive
            · obtain ⟨c, hc, rfl⟩ := List.mem_map.1 hy
              by_cases hcs : c = sa
              · subst hcs; rw [ha]; exact hlive
              · have hck := hw.kids _ _ hdp c hc
                obtain ⟨e', he', hec'⟩ := hmemL c hck hcs
                have hemL' : e' ∈ L := by rw [hL]; simp only [List.mem_append, List.mem_cons] at he' ⊢; rcases he' with he' | he'; exact .inl he'; exact .inr (.inr he')
                have hcp : c ≠ p := fun hh => hw.selfkid hdp (hh ▸ hc)
                rw [← hec', hf.at hemL']
                refine knots_live hw' (L := L) (L' := M1 ++ M2) (T := T.lift (some p) d.2) (by repeat (first | exact Take.head | apply Take.tail)) (e := e') ?_
                rw [hM] at he'
                rcases List.mem_append.1 he' with hh | hh
                · exact List.mem_append_left _ hh
                · rcases List.mem_cons.1 hh with rfl | hh
                  · exact absurd (hec'.symm.trans hec) hcp
                  · exact List.mem_append_right _ hh
          clear h
          rintro v W ⟨rfl, h⟩
          rw [hidx]
          have d4 : IntKind.i64.wrap ((A.length : Int) + 1) = ((A.length + 1 : Nat) : Int) := by rw [wrap_succ (by omega)]
          have kp := Kn.use2 h kn1
          have kk := Kn.use1 h kn2
          obtain ⟨v1, hv1, k1⟩ := Kn.hi (P := Try.prog) (T := 190) (e := 189) (q := .i64) (i := A.length) (by kernel_rfl) (by kernel_rfl) kp (by omega)
          obtain ⟨v3, hv3, k3⟩ := Kn.lo (P := Try.prog) (T := 190) (e := 189) (q := .i64) (i := A.length + 1) (by kernel_rfl) (by kernel_rfl) kp (by omega) (by omega)
          obtain ⟨x1, y1, rfl⟩ := k1.shape
          obtain ⟨x3, y3, rfl⟩ := k3.shape
          repeat (first
    | simp only [d4, ↓fa177_0, ↓ld175, ↓rd175, ↓ld66, ↓rd66, ↓eqeql189_n, ↓eqeql189_s, ↓fa193_2, ↓ld190, ↓rd190, ↓len190, ↓ia190, ↓ld189, ↓rd189, ↓fa193_1, ↓st189, ↓eqneq189_n, ↓eqneq189_s, ↓bs238_3_0_1_2, ↓st190, ↓GG, NN, Nat.reduceAdd]
    | refine a_ld1 h ?_
    | refine a_ldN h ?_
    | refine a_rs1 h ?_
    | refine a_rsN h ?_
    | (refine u_draw h ?_; clear h; intro W h)
    | refine a_rd1 h ?_
    | refine a_rdN h ?_
    | (refine u_nr h ?_; clear h; intro b W h)
    | (refine u_bx h ?_; clear h; intro b W h)
    | (refine u_al h ?_; clear h; intro b W h)
    | (refine a_st h ?_; clear h; intro W h))
          rw [hv1]
          repeat (first
    | simp only [↓fa177_0, ↓ld175, ↓rd175, ↓ld66, ↓rd66, ↓eqeql189_n, ↓eqeql189_s, ↓fa193_2, ↓ld190, ↓rd190, ↓len190, ↓ia190, ↓ld189, ↓rd189, ↓fa193_1, ↓st189, ↓eqneq189_n, ↓eqneq189_s, ↓bs238_3_0_1_2, ↓st190, ↓GG, NN, Nat.reduceAdd]
    | refine a_ld1 h ?_
    | refine a_ldN h ?_
    | refine a_rs1 h ?_
    | refine a_rsN h ?_
    | (refine u_draw h ?_; clear h; intro W h)
    | refine a_rd1 h ?_
    | refine a_rdN h ?_
    | (refine u_nr h ?_; clear h; intro b W h)
    | (refine u_bx h ?_; clear h; intro b W h)
    | (refine u_al h ?_; clear h; intro b W h)
    | (refine a_st h ?_; clear h; intro W h))
          rw [hv3]
          repeat (first
    | simp only [↓fa177_0, ↓ld175, ↓rd175, ↓ld66, ↓rd66, ↓eqeql189_n, ↓eqeql189_s, ↓fa193_2, ↓ld190, ↓rd190, ↓len190, ↓ia190, ↓ld189, ↓rd189, ↓fa193_1, ↓st189, ↓eqneq189_n, ↓eqneq189_s, ↓bs238_3_0_1_2, ↓st190, ↓GG, NN, Nat.reduceAdd]
    | refine a_ld1 h ?_
    | refine a_ldN h ?_
    | refine a_rs1 h ?_
    | refine a_rsN h ?_
    | (refine u_draw h ?_; clear h; intro W h)
    | refine a_rd1 h ?_
    | refine a_rdN h ?_
    | (refine u_nr h ?_; clear h; intro b W h)
    | (refine u_bx h ?_; clear h; intro b W h)
    | (refine u_al h ?_; clear h; intro b W h)
    | (refine a_st h ?_; clear h; intro W h))
          have hlA : ((A.map L.at).flatMap ptrC).length = A.length := by rw [flat_len ptrC_len, List.length_map, Nat.mul_one]
          have eA : ((dp.2.map L.at).flatMap ptrC).take (A.length * 1) = (A.map L.at).flatMap ptrC := by
            rw [hmap, List.flatMap_append, Nat.mul_one, ← hlA]
            exact List.take_left
          have eB : ((dp.2.map L.at).flatMap ptrC).drop ((A.length + 1) * 1) = (B.map L.at).flatMap ptrC := by
            rw [hmap, List.flatMap_append, Nat.mul_one, ← hlA, List.drop_length_add_append]
            rfl
          have nB : (dp.2.map L.at).length - (A.length + 1) = (B.map L.at).length := by rw [hdpl, List.length_map]; omega
          rw [eA] at k1
          rw [eB, nB] at k3
          have kA : A.length = (A.map L.at).length := by rw [List.length_map]
          have k1' := Kn.len k1 kA
          rw [nB] at h
          have hsk := hw.small _ _ hs
          refine r_call (Concat_knot_spec (g := b) (m := 3) (args := [(.slice x1 A.length y1, A.map L.at), (.slice va (d.2.map L.at).length vc, d.2.map L.at), (.slice x3 (B.map L.at).length y3, B.map L.at)]) h (Take.knows (by repeat (first | exact Take.head | apply Take.tail))) rfl ?_ ?_ (by omega)) ?_
          · intro a ha
            simp only [List.mem_cons, List.not_mem_nil, or_false] at ha
            rcases ha with rfl | rfl | rfl
            · exact k1'.tail
            · exact kk.tail
            · exact k3.tail
          · simp only [argsLen, List.map_cons, List.map_nil, List.sum_cons, List.sum_nil, List.length_map]
            omega
          clear h
          intro v W h
          have hall : argsAll [((.slice x1 A.length y1 : Value), A.map L.at), (.slice va (d.2.map L.at).length vc, d.2.map L.at), (.slice x3 (B.map L.at).length y3, B.map L.at)] = (A ++ d.2 ++ B).map L.at := by
            simp [argsAll]
          rw [hall] at h
          obtain ⟨ra, rc, rfl⟩ := slc_shape h .head
          repeat (first
    | simp only [↓fa177_0, ↓ld175, ↓rd175, ↓ld66, ↓rd66, ↓eqeql189_n, ↓eqeql189_s, ↓fa193_2, ↓ld190, ↓rd190, ↓len190, ↓ia190, ↓ld189, ↓rd189, ↓fa193_1, ↓st189, ↓eqneq189_n, ↓eqneq189_s, ↓bs238_3_0_1_2, ↓st190, ↓GG, NN, Nat.reduceAdd]
    | refine a_ld1 h ?_
    | refine a_ldN h ?_
    | refine a_rs1 h ?_
    | refine a_rsN h ?_
    | (refine u_draw h ?_; clear h; intro W h)
    | refine a_rd1 h ?_
    | refine a_rdN h ?_
    | (refine u_nr h ?_; clear h; intro b W h)
    | (refine u_bx h ?_; clear h; intro b W h)
    | (refine u_al h ?_; clear h; intro b W h)
    | (refine a_st h ?_; clear h; intro W h))
          have hT1 : T' e.1 = some (dp.1, A ++ d.2 ++ B) := by
            rw [hec, hTx p dp hps hdp, if_neg (fun hh => hpk ((hw.link sa d hs p dp hdp).2 hh)), hAB, flat_mid hnA hnB]
          have ho : ∀ x ∈ M1 ++ M2, T' x.1 = T.lift (some p) d.2 x.1 := by
            intro x hx
            have hne := nodup_ne (hf.nodup_del hL) hM x hx
            have hxs : x.1 ≠ sa := hf.ne hL x (by
              rw [hM]
              rcases List.mem_append.1 hx with hx | hx
              · exact List.mem_append_left _ hx
              · exact List.mem_append_right _ (List.mem_cons_of_mem _ hx))
            rw [hTn x.1 hxs (by rw [hpp, ← hec]; intro hh; injection hh with hh; exact hne hh.symm), hpp]
          have h1 := knots_unpick (e := e) (L := L) (L1 := M1) (L2 := M2) (T' := T') (d := (dp.1, A ++ d.2 ++ B)) (ch := .slice ra ((A ++ d.2 ++ B).map L.at).length rc) h (by repeat (first | exact Take.head | apply Take.tail)) (by repeat (first | exact Take.head | apply Take.tail)) (T := T.lift (some p) d.2) (by repeat (first | exact Take.head | apply Take.tail)) hT1 ho
          rw [← hM] at h1
          exact (S.get4 h1 (by repeat (first | exact Take.head | apply Take.tail)) (by repeat (first | exact Take.head | apply Take.tail)) (by repeat (first | exact Take.head | apply Take.tail)) (by repeat (first | exact Take.head | apply Take.tail))).subA
      · clear h
        rintro j _ W h
        repeat (first
    | simp only [↓fa177_0, ↓ld175, ↓rd175, ↓ld66, ↓rd66, ↓eqeql189_n, ↓eqeql189_s, ↓fa193_2, ↓ld190, ↓rd190, ↓len190, ↓ia190, ↓ld189, ↓rd189, ↓fa193_1, ↓st189, ↓eqneq189_n, ↓eqneq189_s, ↓bs238_3_0_1_2, ↓st190, ↓GG, NN, Nat.reduceAdd]
    | refine a_ld1 h ?_
    | refine a_ldN h ?_
    | refine a_rs1 h ?_
    | refine a_rsN h ?_
    | (refine u_draw h ?_; clear h; intro W h)
    | refine a_rd1 h ?_
    | refine a_rdN h ?_
    | (refine u_nr h ?_; clear h; intro b W h)
    | (refine u_bx h ?_; clear h; intro b W h)
    | (refine u_al h ?_; clear h; intro b W h)
    | (refine a_st h ?_; clear h; intro W h))
        refine r_delete (El := T_p_tree_knot) keyS (by kernel_rfl) h (by repeat (first | exact Take.head | apply Take.tail)) (by rw [kents_fst]; exact hf.nodup) sa ?_
        clear h
        intro W h
        rw [show mDel sa L.ents = KLay.ents (L1 ++ L2) from hf.mdel hL] at h
        obtain ⟨L3, hL3⟩ : ∃ L3 : KLay, L1 ++ L2 = L3 := ⟨_, rfl⟩
        have hat : ∀ x, x ≠ sa → L.at x = L3.at x := by
          intro x hx
          rw [← hL3, hL]
          exact (at_del (e := (sa, blk, born)) hx).symm
        have e3 : knotsR L (L1 ++ L2) T' = knotsR L3 L3 T' := by
          unfold knotsR
          rw [hL3]
          congr 1
          refine List.map_congr_left fun e he => ?_
          rw [← hL3] at he
          have hes := hf.ne hL e he
          have hemL : e ∈ L := by rw [hL]; simp only [List.mem_append, List.mem_cons] at he ⊢; rcases he with he | he; exact .inl he; exact .inr (.inr he)
          obtain ⟨de, hde⟩ := Option.isSome_iff_exists.1 ((hf.dom e.1).2 (List.mem_map.2 ⟨e, hemL, rfl⟩))
          rw [hTx e.1 de hes hde]
          refine knotC_congr (fun q hq => hat q ?_) (fun c hc => hat c ?_)
          · rintro rfl
            simp only at hq
            split at hq
            · exact hw.self hs hq
            · exact absurd hq (by assumption)
          · rintro rfl
            obtain ⟨y, hy, hyc⟩ := List.mem_flatMap.1 hc
            split at hyc
            · exact hself hyc
            · rename_i hne
              exact hne (List.mem_singleton.1 hyc).symm
        rw [e3, hL3] at h
        refine ⟨rfl, treeC_shut ((treeL_shut h (by repeat (first | exact Take.head | apply Take.tail)) (by repeat (first | exact Take.head | apply Take.tail)) (by repeat (first | exact Take.head | apply Take.tail)) ⟨?_, fun x => ?_⟩).subA)⟩
        · rw [← hL3]; exact hf.nodup_del hL
        · by_cases hx : x = sa
          · subst hx
            rw [hTs]
            simp only [Option.isSome_none, Bool.false_eq_true, false_iff]
            intro hh
            rw [← hL3] at hh
            obtain ⟨y, hy, hye⟩ := List.mem_map.1 hh
            exact hf.ne hL y hy hye
          · have : (T' x).isSome = (T x).isSome := by rw [← hT]; simp [hx]
            rw [this, hf.dom, ← hL3, hL]
            simp only [List.map_append, List.map_cons, List.mem_append, List.mem_cons, hx, false_or]
end
end Go.Proofs.Ytpghhaobcikdhaa
