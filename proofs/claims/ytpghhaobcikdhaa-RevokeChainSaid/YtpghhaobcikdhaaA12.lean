/- A tree: Kin. -/
import Derived.Test.YtpghhaobcikdhaaA11
namespace Go.Proofs.Ytpghhaobcikdhaa
open Go Go.Hw
set_option linter.unusedSimpArgs false
set_option linter.unusedVariables false
set_option maxRecDepth 100000

/-- all that comes of a row of slots, they themselves among them, each ahead of its own -/
inductive Pre (T : Tree) : List Slot → List Slot → Prop
  | nil : Pre T [] []
  | cons {c : Slot} {rest l : List Slot} {d : Option Slot × List Slot} (hd : T c = some d) (h : Pre T (d.2 ++ rest) l) : Pre T (c :: rest) (c :: l)

theorem Pre.len {T : Tree} {o l : List Slot} (h : Pre T o l) : o.length ≤ l.length := by
  induction h with
  | nil => exact Nat.le_refl _
  | cons hd h ih => simp only [List.length_append, List.length_cons] at ih ⊢; omega

def KinOf (T : Tree) (s : Slot) (l : List Slot) : Prop := match T s with
  | none => l = []
  | some d => Pre T d.2 l

def vLen : Value → Nat | .slice _ n _ => n | _ => 0

section
variable {w0 : World} {Γ Γ' : List Chunk} {W : World} {t m clock : Nat} {L L' L1 L2 : KLay} {T T' : Tree}

theorem tKin {sa : Slot} {l : List Slot} (hc : T.Cl) (hk : KinOf T sa l) (hl : l.length ≤ 100000) (h : S w0 (treeC t T :: Γ) W) : Calls Try.prog F_tree_Tree_Kin #[.pointer (some ⟨t, 0, none⟩), slotV sa] W
    (Ret fun v W' => S w0 (slotsC v l :: treeC t T :: Γ) W') := by
  obtain ⟨m, L, clock, h⟩ := treeC_open h
  refine c_tree_Tree_Kin ?_
  unfold h_tree_Tree_Kin
  simp only [slotV]
  obtain ⟨hf, h'⟩ := treeL_open h
  clear h
  have h := h'
  clear h'
  unfold KinOf at hk
  repeat (first
    | simp only [↓fa177_0, ↓ld175, ↓rd175, ↓ld66, ↓rd66, ↓eqeql189_n, ↓eqeql189_s, ↓fa193_2, ↓ld190, ↓rd190, ↓len190, ↓ia190, ↓ld189, ↓rd189, ↓fa193_0, ↓bs72_1_0, ↓ap72, ↓bs238_2_0_1, ↓GG, NN, Nat.reduceAdd]
    | refine a_ld1 h ?_
    | refine a_ldN h ?_
    | refine a_rs1 h ?_
    | refine a_rsN h ?_
    | (refine u_draw h ?_; clear h; intro W h)
    | refine a_rd1 h ?_
    | refine a_rdN h ?_
    | (refine u_nr h ?_; clear h; intro b W h)
    | (refine u_bx h ?_; clear h; intro b W h)
    | (refine u_al h ?_; clear h; intro b W h)
    | (refine a_st h ?_; clear h; intro W h))
  refine r_lookup keyS (by kernel_rfl) (by kernel_rfl : zeroB Try.prog 189 = some (.pointer none)) h (Take.knows (by repeat (first | exact Take.head | apply Take.tail))) sa ?_
  cases hs : T sa with
  | none =>
    rw [hs] at hk
    subst hk
    rw [hf.none hs]
    simp only [Option.getD_none]
    repeat (first
    | simp only [↓fa177_0, ↓ld175, ↓rd175, ↓ld66, ↓rd66, ↓eqeql189_n, ↓eqeql189_s, ↓fa193_2, ↓ld190, ↓rd190, ↓len190, ↓ia190, ↓ld189, ↓rd189, ↓fa193_0, ↓bs72_1_0, ↓ap72, ↓bs238_2_0_1, ↓GG, NN, Nat.reduceAdd]
    | refine a_ld1 h ?_
    | refine a_ldN h ?_
    | refine a_rs1 h ?_
    | refine a_rsN h ?_
    | (refine u_draw h ?_; clear h; intro W h)
    | refine a_rd1 h ?_
    | refine a_rdN h ?_
    | (refine u_nr h ?_; clear h; intro b W h)
    | (refine u_bx h ?_; clear h; intro b W h)
    | (refine u_al h ?_; clear h; intro b W h)
    | (refine a_st h ?_; clear h; intro W h))
    exact S.nilSlice _ _ (treeC_shut ((treeL_shut h (by repeat (first | exact Take.head | apply Take.tail)) (by repeat (first | exact Take.head | apply Take.tail)) (by repeat (first | exact Take.head | apply Take.tail)) hf).subA))
  | some d =>
    rw [hs] at hk
    obtain ⟨blk, born, hm, hg, ha⟩ := hf.some (s := sa) (by rw [hs]; rfl)
    rw [hg]
    simp only [Option.getD_some, ptrV]
    obtain ⟨L1, L2, hL⟩ := List.append_of_mem hm
    have e1 : knotsR L L T = knotsR L (L1 ++ (sa, blk, born) :: L2) T := by rw [← hL]
    rw [e1] at h
    obtain ⟨ch, h1⟩ := knots_pick (e := (sa, blk, born)) h (by repeat (first | exact Take.head | apply Take.tail)) hs
    clear h
    have h := h1
    clear h1
    simp only [knotP, knotCells] at h
    repeat (first
    | simp only [↓fa177_0, ↓ld175, ↓rd175, ↓ld66, ↓rd66, ↓eqeql189_n, ↓eqeql189_s, ↓fa193_2, ↓ld190, ↓rd190, ↓len190, ↓ia190, ↓ld189, ↓rd189, ↓fa193_0, ↓bs72_1_0, ↓ap72, ↓bs238_2_0_1, ↓GG, NN, Nat.reduceAdd]
    | refine a_ld1 h ?_
    | refine a_ldN h ?_
    | refine a_rs1 h ?_
    | refine a_rsN h ?_
    | (refine u_draw h ?_; clear h; intro W h)
    | refine a_rd1 h ?_
    | refine a_rdN h ?_
    | (refine u_nr h ?_; clear h; intro b W h)
    | (refine u_bx h ?_; clear h; intro b W h)
    | (refine u_al h ?_; clear h; intro b W h)
    | (refine a_st h ?_; clear h; intro W h))
    have hsm := hc.small _ _ hs
    obtain ⟨c1, h1, kn1, back1⟩ := slc_fix (h.take (c := knotsC ch (d.2.map L.at)) (by repeat (first | exact Take.head | apply Take.tail)))
    clear h
    refine r_call (Clone_knot_spec (bs := d.2.map L.at) h1 (Kn.use1 h1 kn1) (by rw [List.length_map]; omega)) ?_
    intro ov W h
    clear h1
    have h2 := back1 (h.take (c := c1) (by repeat (first | exact Take.head | apply Take.tail)))
    clear h
    have h3 := knots_unpick (e := (sa, blk, born)) (L := L) (L1 := L1) (L2 := L2) (T' := T) (d := d) (ch := ch) h2 (by repeat (first | exact Take.head | apply Take.tail)) (by repeat (first | exact Take.head | apply Take.tail)) (T := T) (by repeat (first | exact Take.head | apply Take.tail)) hs (fun _ _ => rfl)
    rw [← hL] at h3
    clear h2
    have h := treeL_shut h3 (by repeat (first | exact Take.head | apply Take.tail)) (by repeat (first | exact Take.head | apply Take.tail)) (by repeat (first | exact Take.head | apply Take.tail)) hf
    clear h3
    refine u_loop (fun s' w => ∃ opn dn rest : List Slot, Pre T opn rest ∧ l = dn ++ rest ∧ S w0 (slotsC s'.1 dn :: knotsC s'.2 (opn.map L.at) :: treeL t m L clock T :: Γ) w)
      (fun s' _ => l.length - vLen s'.1) ⟨d.2, [], l, hk, rfl, ?_⟩ ?_
    · exact S.nilSlice _ _ ((S.get2 (c1 := knotsC ov (d.2.map L.at)) (c2 := treeL t m L clock T) h (by repeat (first | exact Take.head | apply Take.tail)) (by repeat (first | exact Take.head | apply Take.tail))).subA)
    clear h
    rintro j ⟨lv, ov⟩ W ⟨opn, dn, rest, hpre, hlr, h⟩
    obtain ⟨a1, q1, hv1⟩ := slc_shape h (.head)
    obtain ⟨a2, q2, hv2⟩ := slc_shape h (.tail .head)
    simp only at hv1 hv2
    subst hv1 hv2
    have hll : dn.length + rest.length = l.length := by rw [hlr, List.length_append]
    cases hpre with
    | nil =>
      have d1 : decide (((([] : List Slot).map L.at).length : Int) > 0) = false := by simp
      repeat (first
    | simp only [d1, ↓fa177_0, ↓ld175, ↓rd175, ↓ld66, ↓rd66, ↓eqeql189_n, ↓eqeql189_s, ↓fa193_2, ↓ld190, ↓rd190, ↓len190, ↓ia190, ↓ld189, ↓rd189, ↓fa193_0, ↓bs72_1_0, ↓ap72, ↓bs238_2_0_1, ↓GG, NN, Nat.reduceAdd]
    | refine a_ld1 h ?_
    | refine a_ldN h ?_
    | refine a_rs1 h ?_
    | refine a_rsN h ?_
    | (refine u_draw h ?_; clear h; intro W h)
    | refine a_rd1 h ?_
    | refine a_rdN h ?_
    | (refine u_nr h ?_; clear h; intro b W h)
    | (refine u_bx h ?_; clear h; intro b W h)
    | (refine u_al h ?_; clear h; intro b W h)
    | (refine a_st h ?_; clear h; intro W h))
      rw [List.append_nil] at hlr
      subst hlr
      have h2 := treeC_shut (h.take (c := treeL t m L clock T) (by repeat (first | exact Take.head | apply Take.tail)))
      exact (h2.take (.tail .head)).subA
    | @cons c rest' l' d' hd hp =>
      have d1 : decide ((((c :: rest').map L.at).length : Int) > 0) = true := by simp
      have hplen := hp.len
      have hol : ((c :: rest').map L.at).length = rest'.length + 1 := by rw [List.length_map, List.length_cons]
      rw [List.length_append] at hplen
      simp only [List.length_cons] at hll
      obtain ⟨g, cap, cur, hv, hg, hr⟩ := kids_at h (.tail .head) (i := 0) (by rw [hol]; omega)
      injection hv with w1 w2 w3
      subst w1 w3
      repeat (first
    | simp only [d1, ↓fa177_0, ↓ld175, ↓rd175, ↓ld66, ↓rd66, ↓eqeql189_n, ↓eqeql189_s, ↓fa193_2, ↓ld190, ↓rd190, ↓len190, ↓ia190, ↓ld189, ↓rd189, ↓fa193_0, ↓bs72_1_0, ↓ap72, ↓bs238_2_0_1, ↓GG, NN, Nat.reduceAdd]
    | refine a_ld1 h ?_
    | refine a_ldN h ?_
    | refine a_rs1 h ?_
    | refine a_rsN h ?_
    | (refine u_draw h ?_; clear h; intro W h)
    | refine a_rd1 h ?_
    | refine a_rdN h ?_
    | (refine u_nr h ?_; clear h; intro b W h)
    | (refine u_bx h ?_; clear h; intro b W h)
    | (refine u_al h ?_; clear h; intro b W h)
    | (refine a_st h ?_; clear h; intro W h))
      rw [ia190 (by rw [hol]; omega)]
      refine v_ld1 (v := ptrV (L.at c)) hg (by simpa using hr) ?_
      clear hg hr
      obtain ⟨hf', h'⟩ := treeL_open (h.take (c := treeL t m L clock T) (by repeat (first | exact Take.head | apply Take.tail)))
      clear h
      have h := h'
      clear h'
      obtain ⟨blk', born', hm', hg', ha'⟩ := hf.some (s := c) (by rw [hd]; rfl)
      rw [ha']
      simp only [ptrV]
      obtain ⟨M1, M2, hM⟩ := List.append_of_mem hm'
      have e2 : knotsR L L T = knotsR L (M1 ++ (c, blk', born') :: M2) T := by rw [← hM]
      rw [e2] at h
      obtain ⟨chc, h1⟩ := knots_pick (e := (c, blk', born')) h (by repeat (first | exact Take.head | apply Take.tail)) hd
      clear h
      have h := h1
      clear h1
      simp only [knotP, knotCells] at h
      obtain ⟨ca, cc, rfl⟩ := slc_shape h (.tail .head)
      repeat (first
    | simp only [↓fa177_0, ↓ld175, ↓rd175, ↓ld66, ↓rd66, ↓eqeql189_n, ↓eqeql189_s, ↓fa193_2, ↓ld190, ↓rd190, ↓len190, ↓ia190, ↓ld189, ↓rd189, ↓fa193_0, ↓bs72_1_0, ↓ap72, ↓bs238_2_0_1, ↓GG, NN, Nat.reduceAdd]
    | refine a_ld1 h ?_
    | refine a_ldN h ?_
    | refine a_rs1 h ?_
    | refine a_rsN h ?_
    | (refine u_draw h ?_; clear h; intro W h)
    | refine a_rd1 h ?_
    | refine a_rdN h ?_
    | (refine u_nr h ?_; clear h; intro b W h)
    | (refine u_bx h ?_; clear h; intro b W h)
    | (refine u_al h ?_; clear h; intro b W h)
    | (refine a_st h ?_; clear h; intro W h))
      refine u_ap h (e := T_api_Slot) (xs := dn.flatMap slotCells) (by repeat (first | exact Take.head | apply Take.tail)) (Take.knows (by repeat (first | exact Take.head | apply Take.tail))) (Nat.le_of_ble_eq_true rfl) (by rfl) (by omega) (by decide) ?_
      clear h
      intro v W h
      repeat (first
    | simp only [↓fa177_0, ↓ld175, ↓rd175, ↓ld66, ↓rd66, ↓eqeql189_n, ↓eqeql189_s, ↓fa193_2, ↓ld190, ↓rd190, ↓len190, ↓ia190, ↓ld189, ↓rd189, ↓fa193_0, ↓bs72_1_0, ↓ap72, ↓bs238_2_0_1, ↓GG, NN, Nat.reduceAdd]
    | refine a_ld1 h ?_
    | refine a_ldN h ?_
    | refine a_rs1 h ?_
    | refine a_rsN h ?_
    | (refine u_draw h ?_; clear h; intro W h)
    | refine a_rd1 h ?_
    | refine a_rdN h ?_
    | (refine u_nr h ?_; clear h; intro b W h)
    | (refine u_bx h ?_; clear h; intro b W h)
    | (refine u_al h ?_; clear h; intro b W h)
    | (refine a_st h ?_; clear h; intro W h))
      obtain ⟨c2, h1, kn2, back2⟩ := slc_fix (h.take (c := knotsC (.slice (some ⟨g, 0, none⟩) ((c :: rest').map L.at).length q2) ((c :: rest').map L.at)) (by repeat (first | exact Take.head | apply Take.tail)))
      clear h
      obtain ⟨c3, h, kn3, back3⟩ := slc_fix (h1.take (c := knotsC (.slice ca (d'.2.map L.at).length cc) (d'.2.map L.at)) (by repeat (first | exact Take.head | apply Take.tail)))
      clear h1
      have kp := Kn.use2 h kn2
      have kk := Kn.use1 h kn3
      obtain ⟨v3, hv3, k3⟩ := Kn.lo (P := Try.prog) (T := 190) (e := 189) (q := .i64) (i := 1) (by kernel_rfl) (by kernel_rfl) kp (by omega) (by omega)
      obtain ⟨x3, y3, rfl⟩ := k3.shape
      have hv3' : ∀ (k : Value → World → Prop) (W : World), oP Try.prog (Instr.sliceAt 190 (.slice (some ⟨g, 0, none⟩) ((c :: rest').map L.at).length q2) (some (.int .i64 1)) none none) k W = k (.slice x3 (((c :: rest').map L.at).length - 1) y3) W := hv3
      rw [hv3']
      repeat (first
    | simp only [↓fa177_0, ↓ld175, ↓rd175, ↓ld66, ↓rd66, ↓eqeql189_n, ↓eqeql189_s, ↓fa193_2, ↓ld190, ↓rd190, ↓len190, ↓ia190, ↓ld189, ↓rd189, ↓fa193_0, ↓bs72_1_0, ↓ap72, ↓bs238_2_0_1, ↓GG, NN, Nat.reduceAdd]
    | refine a_ld1 h ?_
    | refine a_ldN h ?_
    | refine a_rs1 h ?_
    | refine a_rsN h ?_
    | (refine u_draw h ?_; clear h; intro W h)
    | refine a_rd1 h ?_
    | refine a_rdN h ?_
    | (refine u_nr h ?_; clear h; intro b W h)
    | (refine u_bx h ?_; clear h; intro b W h)
    | (refine u_al h ?_; clear h; intro b W h)
    | (refine a_st h ?_; clear h; intro W h))
      have e3 : (((c :: rest').map L.at).flatMap ptrC).drop (1 * 1) = (rest'.map L.at).flatMap ptrC := rfl
      have e4 : ((c :: rest').map L.at).length - 1 = (rest'.map L.at).length := by rw [hol, List.length_map]; omega
      rw [e3, e4] at k3
      rw [e4] at h
      have hsd := hc.small _ _ hd
      refine r_call (Concat_knot_spec (g := b) (m := 2) (args := [(.slice ca (d'.2.map L.at).length cc, d'.2.map L.at), (.slice x3 (rest'.map L.at).length y3, rest'.map L.at)]) h (Take.knows (by repeat (first | exact Take.head | apply Take.tail))) rfl ?_ ?_ (by omega)) ?_
      · intro a ha
        simp only [List.mem_cons, List.not_mem_nil, or_false] at ha
        rcases ha with rfl | rfl
        · exact kk.tail
        · exact k3.tail
      · simp only [argsLen, List.map_cons, List.map_nil, List.sum_cons, List.sum_nil, List.length_map]
        omega
      clear h
      intro nv W h
      have hall : argsAll [((.slice ca (d'.2.map L.at).length cc : Value), d'.2.map L.at), (.slice x3 (rest'.map L.at).length y3, rest'.map L.at)] = (d'.2 ++ rest').map L.at := by
        simp [argsAll]
      rw [hall] at h
      have h2 := back3 (h.take (c := c3) (by repeat (first | exact Take.head | apply Take.tail)))
      clear h
      have h3 := knots_unpick (e := (c, blk', born')) (L := L) (L1 := M1) (L2 := M2) (T' := T) (d := d') (ch := .slice ca (d'.2.map L.at).length cc) h2 (by repeat (first | exact Take.head | apply Take.tail)) (by repeat (first | exact Take.head | apply Take.tail)) (T := T) (by repeat (first | exact Take.head | apply Take.tail)) hd (fun _ _ => rfl)
      rw [← hM] at h3
      clear h2
      have h4 := treeL_shut h3 (by repeat (first | exact Take.head | apply Take.tail)) (by repeat (first | exact Take.head | apply Take.tail)) (by repeat (first | exact Take.head | apply Take.tail)) hf
      clear h3
      have h5 := h4.take (c := slc T_api_Slot 2 v (dn.length + 1) (dn.flatMap slotCells ++ slotCells c)) (by repeat (first | exact Take.head | apply Take.tail))
      clear h4
      rw [slotsC_snoc] at h5
      obtain ⟨sa', sc', rfl⟩ := slc_shape h5 .head
      refine ⟨⟨d'.2 ++ rest', dn ++ [c], l', hp, by rw [hlr]; simp, (S.get3 h5 (by repeat (first | exact Take.head | apply Take.tail)) (c2 := knotsC nv ((d'.2 ++ rest').map L.at)) (by repeat (first | exact Take.head | apply Take.tail)) (c3 := treeL t m L clock T) (by repeat (first | exact Take.head | apply Take.tail))).subA⟩, ?_⟩
      simp only [vLen, List.length_append, List.length_cons, List.length_nil]
      omega
end
end Go.Proofs.Ytpghhaobcikdhaa
