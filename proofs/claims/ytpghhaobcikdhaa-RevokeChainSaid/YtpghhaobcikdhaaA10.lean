/- A tree: Move. -/
import Derived.Test.YtpghhaobcikdhaaA9
namespace Go.Proofs.Ytpghhaobcikdhaa
open Go Go.Hw
set_option linter.unusedSimpArgs false
set_option linter.unusedVariables false
set_option maxRecDepth 100000

def ren (a b x : Slot) : Slot := if x = a then b else x
def renD (a b : Slot) (d : Option Slot × List Slot) : Option Slot × List Slot := (d.1.map (ren a b), d.2.map (ren a b))
def Tree.move (T : Tree) (a b : Slot) : Int × Tree :=
  if (T a).isSome then if (T b).isSome then (4, T) else (0, fun x => if x = b then (T a).map (renD a b) else if x = a then none else (T x).map (renD a b))
  else (3, T)

section
variable {w0 : World} {Γ Γ' : List Chunk} {W : World} {t m clock : Nat} {L L' L1 L2 : KLay} {T T' : Tree}

theorem at_del {e : Slot × Nat × Nat} {x : Slot} (h : x ≠ e.1) : KLay.at (L1 ++ L2) x = KLay.at (L1 ++ e :: L2) x := by
  unfold KLay.at
  rw [List.find?_append, List.find?_append, List.find?_cons, decide_eq_false h]

theorem TL.ne (hf : TL L T) {e : Slot × Nat × Nat} (hL : L = L1 ++ e :: L2) : ∀ x ∈ L1 ++ L2, x.1 ≠ e.1 := by
  intro x hx hq
  have hnd := hf.nodup
  rw [hL, List.map_append, List.map_cons] at hnd
  have h4 := (List.perm_middle (a := e.1) (l₁ := L1.map (·.1)) (l₂ := L2.map (·.1))).nodup_iff.1 hnd
  rw [List.nodup_cons, ← List.map_append] at h4
  exact h4.1 (List.mem_map.2 ⟨x, hx, hq⟩)

theorem TL.nodup_del (hf : TL L T) {e : Slot × Nat × Nat} (hL : L = L1 ++ e :: L2) : ((L1 ++ L2).map (·.1)).Nodup := by
  have hnd := hf.nodup
  rw [hL, List.map_append, List.map_cons] at hnd
  have h4 := (List.perm_middle (a := e.1) (l₁ := L1.map (·.1)) (l₂ := L2.map (·.1))).nodup_iff.1 hnd
  rw [List.nodup_cons, ← List.map_append] at h4
  exact h4.2

theorem TL.mdel (hf : TL L T) {e : Slot × Nat × Nat} (hL : L = L1 ++ e :: L2) : mDel e.1 L.ents = KLay.ents (L1 ++ L2) := by
  have e1 : mDel e.1 L.ents = KLay.ents (L.filter fun x => decide (e.1 ≠ x.1)) := by simp only [mDel, KLay.ents, List.filter_map]; rfl
  rw [e1, hL, List.filter_append, List.filter_cons]
  simp only [ne_eq, not_true_eq_false, decide_false, Bool.false_eq_true, if_false]
  rw [← List.filter_append, List.filter_eq_self.2]
  intro x hx
  simpa using (hf.ne hL x hx).symm

theorem tMove {sa sb : Slot} (hc : T.Cl) (h : S w0 (treeC t T :: Γ) W) : Calls Try.prog F_tree_Tree_Move #[.pointer (some ⟨t, 0, none⟩), slotV sa, slotV sb] W
    (Ret fun v W' => v = .int .i64 (T.move sa sb).1 ∧ S w0 (treeC t (T.move sa sb).2 :: Γ) W') := by
  obtain ⟨m, L, clock, h⟩ := treeC_open h
  refine c_tree_Tree_Move ?_
  unfold h_tree_Tree_Move
  simp only [slotV]
  obtain ⟨hf, h'⟩ := treeL_open h
  clear h
  have h := h'
  clear h'
  repeat (first
    | simp only [↓fa177_0, ↓ld175, ↓rd175, ↓ld66, ↓rd66, ↓eqeql189_n, ↓eqeql189_s, ↓fa193_0, ↓st66, ↓GG, NN, Nat.reduceAdd]
    | refine a_ld1 h ?_
    | refine a_ldN h ?_
    | refine a_rs1 h ?_
    | refine a_rsN h ?_
    | (refine u_draw h ?_; clear h; intro W h)
    | refine a_rd1 h ?_
    | refine a_rdN h ?_
    | (refine u_nr h ?_; clear h; intro b W h)
    | (refine u_bx h ?_; clear h; intro b W h)
    | (refine u_al h ?_; clear h; intro b W h)
    | (refine a_st h ?_; clear h; intro W h))
  refine r_lookup keyS (by kernel_rfl) (by kernel_rfl : zeroB Try.prog 189 = some (.pointer none)) h (Take.knows (by repeat (first | exact Take.head | apply Take.tail))) sa ?_
  cases hs : T sa with
  | none =>
    rw [hf.none hs]
    simp only [Option.getD_none]
    repeat (first
    | simp only [↓fa177_0, ↓ld175, ↓rd175, ↓ld66, ↓rd66, ↓eqeql189_n, ↓eqeql189_s, ↓fa193_0, ↓st66, ↓GG, NN, Nat.reduceAdd]
    | refine a_ld1 h ?_
    | refine a_ldN h ?_
    | refine a_rs1 h ?_
    | refine a_rsN h ?_
    | (refine u_draw h ?_; clear h; intro W h)
    | refine a_rd1 h ?_
    | refine a_rdN h ?_
    | (refine u_nr h ?_; clear h; intro b W h)
    | (refine u_bx h ?_; clear h; intro b W h)
    | (refine u_al h ?_; clear h; intro b W h)
    | (refine a_st h ?_; clear h; intro W h))
    have hp : T.move sa sb = (3, T) := by simp [Tree.move, hs]
    rw [hp]
    exact ⟨rfl, treeC_shut ((treeL_shut h (by repeat (first | exact Take.head | apply Take.tail)) (by repeat (first | exact Take.head | apply Take.tail)) (by repeat (first | exact Take.head | apply Take.tail)) hf).subA)⟩
  | some d =>
    obtain ⟨blk, born, hm, hg, ha⟩ := hf.some (s := sa) (by rw [hs]; rfl)
    rw [hg]
    simp only [Option.getD_some, ptrV]
    repeat (first
    | simp only [↓fa177_0, ↓ld175, ↓rd175, ↓ld66, ↓rd66, ↓eqeql189_n, ↓eqeql189_s, ↓fa193_0, ↓st66, ↓GG, NN, Nat.reduceAdd]
    | refine a_ld1 h ?_
    | refine a_ldN h ?_
    | refine a_rs1 h ?_
    | refine a_rsN h ?_
    | (refine u_draw h ?_; clear h; intro W h)
    | refine a_rd1 h ?_
    | refine a_rdN h ?_
    | (refine u_nr h ?_; clear h; intro b W h)
    | (refine u_bx h ?_; clear h; intro b W h)
    | (refine u_al h ?_; clear h; intro b W h)
    | (refine a_st h ?_; clear h; intro W h))
    refine r_call (tHas (s := sb) (treeL_shut h (by repeat (first | exact Take.head | apply Take.tail)) (by repeat (first | exact Take.head | apply Take.tail)) (by repeat (first | exact Take.head | apply Take.tail)) hf)) ?_
    clear h
    rintro v W ⟨rfl, h⟩
    cases hb : T sb with
    | some db =>
      simp only [Option.isSome_some]
      repeat (first
    | simp only [↓fa177_0, ↓ld175, ↓rd175, ↓ld66, ↓rd66, ↓eqeql189_n, ↓eqeql189_s, ↓fa193_0, ↓st66, ↓GG, NN, Nat.reduceAdd]
    | refine a_ld1 h ?_
    | refine a_ldN h ?_
    | refine a_rs1 h ?_
    | refine a_rsN h ?_
    | (refine u_draw h ?_; clear h; intro W h)
    | refine a_rd1 h ?_
    | refine a_rdN h ?_
    | (refine u_nr h ?_; clear h; intro b W h)
    | (refine u_bx h ?_; clear h; intro b W h)
    | (refine u_al h ?_; clear h; intro b W h)
    | (refine a_st h ?_; clear h; intro W h))
      have hp : T.move sa sb = (4, T) := by simp [Tree.move, hs, hb]
      rw [hp]
      exact ⟨rfl, treeC_shut (h.subA)⟩
    | none =>
      simp only [Option.isSome_none]
      obtain ⟨_, h'⟩ := treeL_open h
      clear h
      have h := h'
      clear h'
      repeat (first
    | simp only [↓fa177_0, ↓ld175, ↓rd175, ↓ld66, ↓rd66, ↓eqeql189_n, ↓eqeql189_s, ↓fa193_0, ↓st66, ↓GG, NN, Nat.reduceAdd]
    | refine a_ld1 h ?_
    | refine a_ldN h ?_
    | refine a_rs1 h ?_
    | refine a_rsN h ?_
    | (refine u_draw h ?_; clear h; intro W h)
    | refine a_rd1 h ?_
    | refine a_rdN h ?_
    | (refine u_nr h ?_; clear h; intro b W h)
    | (refine u_bx h ?_; clear h; intro b W h)
    | (refine u_al h ?_; clear h; intro b W h)
    | (refine a_st h ?_; clear h; intro W h))
      refine r_delete (El := T_p_tree_knot) keyS (by kernel_rfl) h (by repeat (first | exact Take.head | apply Take.tail)) (by rw [kents_fst]; exact hf.nodup) sa ?_
      clear h
      intro W h
      obtain ⟨L1, L2, hL⟩ := List.append_of_mem hm
      have e0 : mDel sa L.ents = KLay.ents (L1 ++ L2) := hf.mdel hL
      rw [e0] at h
      have e1 : knotsR L L T = knotsR L (L1 ++ (sa, blk, born) :: L2) T := by rw [← hL]
      rw [e1] at h
      obtain ⟨ch, h1⟩ := knots_pick (e := (sa, blk, born)) h (by repeat (first | exact Take.head | apply Take.tail)) hs
      clear h
      have h := h1
      clear h1
      simp only [knotP, knotCells] at h
      repeat (first
    | simp only [↓fa177_0, ↓ld175, ↓rd175, ↓ld66, ↓rd66, ↓eqeql189_n, ↓eqeql189_s, ↓fa193_0, ↓st66, ↓GG, NN, Nat.reduceAdd]
    | refine a_ld1 h ?_
    | refine a_ldN h ?_
    | refine a_rs1 h ?_
    | refine a_rsN h ?_
    | (refine u_draw h ?_; clear h; intro W h)
    | refine a_rd1 h ?_
    | refine a_rdN h ?_
    | (refine u_nr h ?_; clear h; intro b W h)
    | (refine u_bx h ?_; clear h; intro b W h)
    | (refine u_al h ?_; clear h; intro b W h)
    | (refine a_st h ?_; clear h; intro W h))
      have hbn : sb ∉ L.map (·.1) := fun hh => by have := (hf.dom sb).2 hh; rw [hb] at this; cases this
      have hbn2 : sb ∉ (L1 ++ L2).map (·.1) := by
        intro hh
        apply hbn
        rw [hL]
        simp only [List.map_append, List.map_cons, List.mem_append, List.mem_cons] at hh ⊢
        rcases hh with hh | hh
        · exact .inl hh
        · exact .inr (.inr hh)
      have hnone : mGet sb (KLay.ents (L1 ++ L2)) = none := by
        rw [mGet_kents, List.find?_eq_none.2]
        · rfl
        · intro e he
          simp only [decide_eq_true_eq]
          rintro rfl
          exact hbn2 (List.mem_map.2 ⟨e, he, rfl⟩)
      refine r_update (El := T_p_tree_knot) keyS (by kernel_rfl) h (by repeat (first | exact Take.head | apply Take.tail)) (by rw [kents_fst]; exact hf.nodup_del hL) sb _ ?_
      clear h
      intro W h
      have e2 : mPut sb (.pointer (some ⟨blk, 0, none⟩)) clock (KLay.ents (L1 ++ L2)) = KLay.ents (L1 ++ L2 ++ [(sb, blk, clock)]) := by unfold mPut; rw [hnone]; simp [KLay.ents, ptrV]
      rw [e2] at h
      have hp : T.move sa sb = (0, fun x => if x = sb then (T sa).map (renD sa sb) else if x = sa then none else (T x).map (renD sa sb)) := by simp [Tree.move, hs, hb]
      rw [hp]
      have hab : sa ≠ sb := by rintro rfl; rw [hs] at hb; cases hb
      generalize hT : (fun x => if x = sb then (T sa).map (renD sa sb) else if x = sa then none else (T x).map (renD sa sb) : Tree) = T'
      have hT1 : T' sb = some (renD sa sb d) := by rw [← hT]; simp [hs]
      have hT2 : T' sa = none := by rw [← hT]; simp [hab]
      have hT3 : ∀ x, x ≠ sa → x ≠ sb → T' x = (T x).map (renD sa sb) := by intro x h1 h2; rw [← hT]; simp [h1, h2]
      obtain ⟨L3, hL3⟩ : ∃ L3 : KLay, L1 ++ L2 ++ [(sb, blk, clock)] = L3 := ⟨_, rfl⟩
      rw [hL3] at h
      have hat : ∀ x, (T x).isSome = true → L.at x = L3.at (ren sa sb x) := by
        intro x hx
        rw [← hL3]
        unfold ren
        by_cases hxa : x = sa
        · subst hxa
          rw [if_pos rfl, at_snoc_same hbn2, ha]
        · have hxb : x ≠ sb := by rintro rfl; rw [hb] at hx; cases hx
          rw [if_neg hxa, at_snoc hxb, at_del (e := (sa, blk, born)) hxa, ← hL]
      have hpar : ∀ p, (∀ q, p = some q → (T q).isSome = true) → parV L p = parV L3 (p.map (ren sa sb)) := by
        intro p hp
        unfold parV
        cases p with
        | none => rfl
        | some q => simp only [Option.map_some]; rw [hat q (hp q rfl)]
      have hkid : ∀ l : List Slot, (∀ c ∈ l, (T c).isSome = true) → l.map L.at = (l.map (ren sa sb)).map L3.at := by
        intro l hl
        rw [List.map_map]
        exact List.map_congr_left fun c hc => hat c (hl c hc)
      have e3 : knotsR L (L1 ++ L2) T = knotsR L3 (L1 ++ L2 ++ []) T' := by
        unfold knotsR
        rw [List.append_nil]
        congr 1
        refine List.map_congr_left fun e he => ?_
        have hea := hf.ne hL e he
        have heb : e.1 ≠ sb := fun hh => hbn2 (hh ▸ List.mem_map.2 ⟨e, he, rfl⟩)
        have hem : e ∈ L := by rw [hL]; simp only [List.mem_append, List.mem_cons] at he ⊢; rcases he with he | he; exact .inl he; exact .inr (.inr he)
        obtain ⟨d', hd⟩ := Option.isSome_iff_exists.1 ((hf.dom e.1).2 (List.mem_map.2 ⟨e, hem, rfl⟩))
        rw [hT3 _ hea heb, hd]
        show knotC L e.1 e.2.1 (some d') = knotC L3 e.1 e.2.1 (some (renD sa sb d'))
        have k1 := hpar d'.1 (fun q hq => hc.par _ _ _ hd hq)
        have k2 := hkid d'.2 (fun c hc' => hc.kids _ _ hd c hc')
        show (ex fun ch => star (pts e.2.1 (.cells #[.int .i64 e.1.1, .int .i64 e.1.2, parV L d'.1, ch] T_tree_knot (0, 0))) (knotsC ch (d'.2.map L.at))) = ex fun ch => star (pts e.2.1 (.cells #[.int .i64 e.1.1, .int .i64 e.1.2, parV L3 (d'.1.map (ren sa sb)), ch] T_tree_knot (0, 0))) (knotsC ch ((d'.2.map (ren sa sb)).map L3.at))
        rw [k1, k2]
      rw [e3, hpar d.1 (fun q hq => hc.par _ _ _ hs hq), hkid d.2 (fun c hc' => hc.kids _ _ hs c hc')] at h
      have h1 := knots_unpick (e := (sb, blk, clock)) (L := L3) (L1 := L1 ++ L2) (L2 := []) (T' := T') (d := renD sa sb d) (ch := ch) h (by repeat (first | exact Take.head | apply Take.tail)) (by repeat (first | exact Take.head | apply Take.tail)) (T := T') (by repeat (first | exact Take.head | apply Take.tail)) hT1 (fun x hx => rfl)
      rw [hL3] at h1
      refine ⟨rfl, treeC_shut ((treeL_shut h1 (by repeat (first | exact Take.head | apply Take.tail)) (by repeat (first | exact Take.head | apply Take.tail)) (by repeat (first | exact Take.head | apply Take.tail)) ⟨?_, fun x => ?_⟩).subA)⟩
      · rw [← hL3, List.map_append, List.nodup_append]
        refine ⟨hf.nodup_del hL, by simp, fun sa ha c hc => ?_⟩
        simp only [List.map_cons, List.map_nil, List.mem_singleton] at hc
        rintro rfl
        exact hbn2 (hc ▸ ha)
      · rw [← hL3, List.map_append, List.mem_append]
        simp only [List.map_cons, List.map_nil, List.mem_singleton]
        by_cases hxb : x = sb
        · subst hxb; simp [hT1]
        · by_cases hxa : x = sa
          · subst hxa
            rw [hT2]
            simp only [Option.isSome_none, Bool.false_eq_true, false_iff, not_or]
            refine ⟨fun hh => ?_, hxb⟩
            obtain ⟨y, hy, hye⟩ := List.mem_map.1 hh
            exact hf.ne hL y hy hye
          · rw [hT3 x hxa hxb, Option.isSome_map, hf.dom, hL]
            simp only [List.map_append, List.map_cons, List.mem_append, List.mem_cons, hxa, hxb, false_or, or_false]
end
end Go.Proofs.Ytpghhaobcikdhaa
