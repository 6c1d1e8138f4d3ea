/- What is done with slots: the small functions. -/
import Derived.Test.YtpghhaobcikdhaaA12
namespace Go.Proofs.Ytpghhaobcikdhaa
open Go Go.Hw
set_option linter.unusedSimpArgs false
set_option linter.unusedVariables false
set_option maxRecDepth 100000

structure Caps where
  s : Store
  t : Tree

def capsC (c : Nat) (X : Caps) : Chunk :=
  ex fun p : Nat × Nat => star (pts c (.cells #[.pointer (some ⟨p.1, 0, none⟩), .pointer (some ⟨p.2, 0, none⟩)] T_moves_Caps (0, 0))) (star (storeC p.1 X.s) (treeC p.2 X.t))

def Caps.new : Caps := ⟨fun _ => none, fun _ => none⟩
def Caps.source (X : Caps) (a : Slot) : Cap × Int := ((X.s.geta a).1, if (X.s.geta a).2 = 0 ∧ (X.s.geta a).1.kind = 0 then 3 else (X.s.geta a).2)
def Caps.place (X : Caps) (a : Slot) : Int := if (X.s.geta a).2 = 0 ∧ (X.s.geta a).1.kind ≠ 0 then 4 else (X.s.geta a).2
def Caps.both (X : Caps) (a b : Slot) : Cap × Int := ((X.source a).1, if (X.source a).2 = 0 then X.place b else (X.source a).2)
def Caps.plant (X : Caps) (a : Slot) (x : Cap) : Int × Caps :=
  ((X.s.put a x).1, ⟨(X.s.put a x).2, if (X.s.put a x).1 = 0 then (X.t.add a none).2 else X.t⟩)
def Caps.child (X : Caps) (o a : Slot) (x : Cap) : Int × Caps :=
  if (X.both o a).2 ≠ 0 then ((X.both o a).2, X) else ((X.s.put a x).1, ⟨(X.s.put a x).2, if (X.s.put a x).1 = 0 then (X.t.child o a).2 else X.t⟩)
def Caps.carry (X : Caps) (a b : Slot) (x : Cap) : Caps := ⟨((X.s.takeOut a).2.put b x).2, (X.t.move a b).2⟩
def Caps.move (X : Caps) (a b : Slot) : Int × Caps := if (X.both a b).2 = 0 then (0, X.carry a b (X.both a b).1) else ((X.both a b).2, X)
def Caps.take (X : Caps) (a : Slot) : (Cap × Int) × Caps := ((X.s.takeOut a).1, ⟨(X.s.takeOut a).2, if (X.s.takeOut a).1.2 = 0 then (X.t.drop a).2 else X.t⟩)
def Caps.clear (X : Caps) (id : Int) : Int × Caps := ((X.s.drop id).1, ⟨(X.s.drop id).2, X.t⟩)
def Caps.node (X : Caps) (id r : Int) : Int × Caps := ((X.s.add id r).1, ⟨(X.s.add id r).2, X.t⟩)

section
variable {w0 : World} {Γ Γ' : List Chunk} {W : World} {c s t : Nat} {X : Caps}

theorem caps_open (h : S w0 (capsC c X :: Γ) W) : ∃ s t, S w0 (pts c (.cells #[.pointer (some ⟨s, 0, none⟩), .pointer (some ⟨t, 0, none⟩)] T_moves_Caps (0, 0)) :: storeC s X.s :: treeC t X.t :: Γ) W := by
  obtain ⟨⟨s, t⟩, h⟩ := S.ex h
  have h1 := (S.star h).take (.tail .head)
  exact ⟨s, t, ((S.star h1).perm ((List.Perm.swap _ _ _).cons _)).perm (((List.Perm.swap _ _ _).cons _)) |>.take (.tail (.tail .head))⟩
theorem caps_shut {Γ0 Γ1 Γ2 : List Chunk} (h : S w0 Γ0 W) (t1 : Take (pts c (.cells #[.pointer (some ⟨s, 0, none⟩), .pointer (some ⟨t, 0, none⟩)] T_moves_Caps (0, 0))) Γ0 Γ1) (t2 : Take (storeC s X.s) Γ1 Γ2) (t3 : Take (treeC t X.t) Γ2 Γ) :
    S w0 (capsC c X :: Γ) W := by
  have h1 := S.get3 h t1 t2 t3
  have h2 := S.unstar (h1.perm ((List.Perm.swap _ _ _).trans ((List.Perm.swap _ _ _).cons _)))
  exact S.unex (c := fun p : Nat × Nat => star (pts c (.cells #[.pointer (some ⟨p.1, 0, none⟩), .pointer (some ⟨p.2, 0, none⟩)] T_moves_Caps (0, 0))) (star (storeC p.1 X.s) (treeC p.2 X.t))) (s, t) (S.unstar (h2.take (.tail .head)))

theorem mNew (h : S w0 Γ W) : Calls Try.prog F_moves_New #[] W (Ret fun v W' => ∃ c, v = .pointer (some ⟨c, 0, none⟩) ∧ S w0 (capsC c Caps.new :: Γ) W') := by
  refine c_moves_New ?_
  unfold h_moves_New
  refine r_call (sNew h) ?_
  clear h
  rintro v W ⟨s, rfl, h⟩
  repeat (first
    | simp only [↓bd60_0, ↓bd63_0_1, ↓GG, NN, Nat.reduceAdd]
    | refine a_ld1 h ?_
    | refine a_ldN h ?_
    | refine a_rs1 h ?_
    | refine a_rsN h ?_
    | (refine u_draw h ?_; clear h; intro W h)
    | refine a_rd1 h ?_
    | refine a_rdN h ?_
    | (refine u_nr h ?_; clear h; intro b W h)
    | (refine u_bx h ?_; clear h; intro b W h)
    | (refine u_al h ?_; clear h; intro b W h)
    | (refine a_st h ?_; clear h; intro W h))
  refine r_call (tNew h) ?_
  clear h
  rintro v W ⟨t, rfl, h⟩
  repeat (first
    | simp only [↓bd60_0, ↓bd63_0_1, ↓GG, NN, Nat.reduceAdd]
    | refine a_ld1 h ?_
    | refine a_ldN h ?_
    | refine a_rs1 h ?_
    | refine a_rsN h ?_
    | (refine u_draw h ?_; clear h; intro W h)
    | refine a_rd1 h ?_
    | refine a_rdN h ?_
    | (refine u_nr h ?_; clear h; intro b W h)
    | (refine u_bx h ?_; clear h; intro b W h)
    | (refine u_al h ?_; clear h; intro b W h)
    | (refine a_st h ?_; clear h; intro W h))
  exact ⟨_, rfl, caps_shut (X := Caps.new) h (by repeat (first | exact Take.head | apply Take.tail)) (by repeat (first | exact Take.head | apply Take.tail)) (by repeat (first | exact Take.head | apply Take.tail))⟩

theorem mNode {id r : Int} {s : Nat} {σ : Store} (h : S w0 (storeC s σ :: Γ) W) : Calls Try.prog F_moves_store_Node #[.agg #[.pointer (some ⟨s, 0, none⟩)], .int .i64 id, .int .i64 r] W
    (Ret fun v W' => v = .int .i64 (σ.add id r).1 ∧ S w0 (storeC s (σ.add id r).2 :: Γ) W') := by
  refine c_moves_store_Node ?_
  unfold h_moves_store_Node
  repeat (first
    | simp only [↓fa60_0, ↓ld58, ↓rd58, ↓GG, NN, Nat.reduceAdd]
    | refine a_ld1 h ?_
    | refine a_ldN h ?_
    | refine a_rs1 h ?_
    | refine a_rsN h ?_
    | (refine u_draw h ?_; clear h; intro W h)
    | refine a_rd1 h ?_
    | refine a_rdN h ?_
    | (refine u_nr h ?_; clear h; intro b W h)
    | (refine u_bx h ?_; clear h; intro b W h)
    | (refine u_al h ?_; clear h; intro b W h)
    | (refine a_st h ?_; clear h; intro W h))
  refine r_call (sAdd (h.take (by repeat (first | exact Take.head | apply Take.tail)))) ?_
  clear h
  rintro v W ⟨rfl, h⟩
  exact ⟨rfl, h.subA⟩

theorem mClear {id : Int} {s : Nat} {σ : Store} (h : S w0 (storeC s σ :: Γ) W) : Calls Try.prog F_moves_store_Clear #[.agg #[.pointer (some ⟨s, 0, none⟩)], .int .i64 id] W
    (Ret fun v W' => v = .int .i64 (σ.drop id).1 ∧ S w0 (storeC s (σ.drop id).2 :: Γ) W') := by
  refine c_moves_store_Clear ?_
  unfold h_moves_store_Clear
  repeat (first
    | simp only [↓fa60_0, ↓ld58, ↓rd58, ↓GG, NN, Nat.reduceAdd]
    | refine a_ld1 h ?_
    | refine a_ldN h ?_
    | refine a_rs1 h ?_
    | refine a_rsN h ?_
    | (refine u_draw h ?_; clear h; intro W h)
    | refine a_rd1 h ?_
    | refine a_rdN h ?_
    | (refine u_nr h ?_; clear h; intro b W h)
    | (refine u_bx h ?_; clear h; intro b W h)
    | (refine u_al h ?_; clear h; intro b W h)
    | (refine a_st h ?_; clear h; intro W h))
  refine r_call (sDrop (h.take (by repeat (first | exact Take.head | apply Take.tail)))) ?_
  clear h
  rintro v W ⟨rfl, h⟩
  exact ⟨rfl, h.subA⟩

theorem mPlant {sa : Slot} {x : Cap} (hc : X.t.Cl) (h : S w0 (capsC c X :: Γ) W) : Calls Try.prog F_moves_Caps_Plant #[.pointer (some ⟨c, 0, none⟩), slotV sa, x.v] W
    (Ret fun v W' => v = .int .i64 (X.plant sa x).1 ∧ S w0 (capsC c (X.plant sa x).2 :: Γ) W') := by
  obtain ⟨s, t, h⟩ := caps_open h
  refine c_moves_Caps_Plant ?_
  unfold h_moves_Caps_Plant
  rw [slotV, Cap.v]
  repeat (first
    | simp only [↓fa63_0, ↓fa60_0, ↓ld58, ↓rd58, ↓ld66, ↓rd66, ↓ld68, ↓rd68, ↓fa63_1, ↓ld61, ↓rd61, ↓GG, NN, Nat.reduceAdd]
    | refine a_ld1 h ?_
    | refine a_ldN h ?_
    | refine a_rs1 h ?_
    | refine a_rsN h ?_
    | (refine u_draw h ?_; clear h; intro W h)
    | refine a_rd1 h ?_
    | refine a_rdN h ?_
    | (refine u_nr h ?_; clear h; intro b W h)
    | (refine u_bx h ?_; clear h; intro b W h)
    | (refine u_al h ?_; clear h; intro b W h)
    | (refine a_st h ?_; clear h; intro W h))
  refine r_call (sPut (at_ := sa) (c := x) (h.take (by repeat (first | exact Take.head | apply Take.tail)))) ?_
  clear h
  rintro v W ⟨rfl, h⟩
  by_cases he : (X.s.put sa x).1 = 0
  · have d1 : ((X.s.put sa x).1 == 0) = true := by simp [he]
    repeat (first
    | simp only [d1, ↓fa63_0, ↓fa60_0, ↓ld58, ↓rd58, ↓ld66, ↓rd66, ↓ld68, ↓rd68, ↓fa63_1, ↓ld61, ↓rd61, ↓GG, NN, Nat.reduceAdd]
    | refine a_ld1 h ?_
    | refine a_ldN h ?_
    | refine a_rs1 h ?_
    | refine a_rsN h ?_
    | (refine u_draw h ?_; clear h; intro W h)
    | refine a_rd1 h ?_
    | refine a_rdN h ?_
    | (refine u_nr h ?_; clear h; intro b W h)
    | (refine u_bx h ?_; clear h; intro b W h)
    | (refine u_al h ?_; clear h; intro b W h)
    | (refine a_st h ?_; clear h; intro W h))
    refine r_call (tRoot (s := sa) hc (h.take (by repeat (first | exact Take.head | apply Take.tail)))) ?_
    clear h
    rintro v W ⟨rfl, h⟩
    refine ⟨rfl, ?_⟩
    have e : X.plant sa x = ((X.s.put sa x).1, ⟨(X.s.put sa x).2, (X.t.add sa none).2⟩) := by simp [Caps.plant, he]
    rw [e]
    exact (caps_shut (X := ⟨(X.s.put sa x).2, (X.t.add sa none).2⟩) h (by repeat (first | exact Take.head | apply Take.tail)) (by repeat (first | exact Take.head | apply Take.tail)) (by repeat (first | exact Take.head | apply Take.tail))).subA
  · have d1 : ((X.s.put sa x).1 == 0) = false := by simp [he]
    repeat (first
    | simp only [d1, ↓fa63_0, ↓fa60_0, ↓ld58, ↓rd58, ↓ld66, ↓rd66, ↓ld68, ↓rd68, ↓fa63_1, ↓ld61, ↓rd61, ↓GG, NN, Nat.reduceAdd]
    | refine a_ld1 h ?_
    | refine a_ldN h ?_
    | refine a_rs1 h ?_
    | refine a_rsN h ?_
    | (refine u_draw h ?_; clear h; intro W h)
    | refine a_rd1 h ?_
    | refine a_rdN h ?_
    | (refine u_nr h ?_; clear h; intro b W h)
    | (refine u_bx h ?_; clear h; intro b W h)
    | (refine u_al h ?_; clear h; intro b W h)
    | (refine a_st h ?_; clear h; intro W h))
    refine ⟨rfl, ?_⟩
    have e : X.plant sa x = ((X.s.put sa x).1, ⟨(X.s.put sa x).2, X.t⟩) := by simp [Caps.plant, he]
    rw [e]
    exact (caps_shut (X := ⟨(X.s.put sa x).2, X.t⟩) h (by repeat (first | exact Take.head | apply Take.tail)) (by repeat (first | exact Take.head | apply Take.tail)) (by repeat (first | exact Take.head | apply Take.tail))).subA

theorem mKin {sa : Slot} {l : List Slot} (hc : X.t.Cl) (hk : KinOf X.t sa l) (hl : l.length ≤ 100000) (h : S w0 (capsC c X :: Γ) W) : Calls Try.prog F_moves_Caps_Kin #[.pointer (some ⟨c, 0, none⟩), slotV sa] W
    (Ret fun v W' => S w0 (slotsC v l :: capsC c X :: Γ) W') := by
  obtain ⟨s, t, h⟩ := caps_open h
  refine c_moves_Caps_Kin ?_
  unfold h_moves_Caps_Kin
  rw [slotV]
  repeat (first
    | simp only [↓fa63_1, ↓ld61, ↓rd61, ↓ld66, ↓rd66, ↓GG, NN, Nat.reduceAdd]
    | refine a_ld1 h ?_
    | refine a_ldN h ?_
    | refine a_rs1 h ?_
    | refine a_rsN h ?_
    | (refine u_draw h ?_; clear h; intro W h)
    | refine a_rd1 h ?_
    | refine a_rdN h ?_
    | (refine u_nr h ?_; clear h; intro b W h)
    | (refine u_bx h ?_; clear h; intro b W h)
    | (refine u_al h ?_; clear h; intro b W h)
    | (refine a_st h ?_; clear h; intro W h))
  refine r_call (tKin (sa := sa) hc hk hl (h.take (by repeat (first | exact Take.head | apply Take.tail)))) ?_
  clear h
  intro v W h
  exact ((caps_shut h (by repeat (first | exact Take.head | apply Take.tail)) (by repeat (first | exact Take.head | apply Take.tail)) (by repeat (first | exact Take.head | apply Take.tail))).take (c := slotsC v l) (.tail .head)).subA

theorem mPlace {sa : Slot} (h : S w0 (capsC c X :: Γ) W) : Calls Try.prog F_moves_Caps_place #[.pointer (some ⟨c, 0, none⟩), slotV sa] W
    (Ret fun v W' => v = .int .i64 (X.place sa) ∧ S w0 (capsC c X :: Γ) W') := by
  obtain ⟨s, t, h⟩ := caps_open h
  refine c_moves_Caps_place ?_
  unfold h_moves_Caps_place
  rw [slotV]
  repeat (first
    | simp only [↓fa63_0, ↓fa60_0, ↓ld58, ↓rd58, ↓ld66, ↓rd66, ↓al68, ↓st68, ↓fa68_0, ↓ld3, ↓rd3, ↓GG, NN, Nat.reduceAdd]
    | refine a_ld1 h ?_
    | refine a_ldN h ?_
    | refine a_rs1 h ?_
    | refine a_rsN h ?_
    | (refine u_draw h ?_; clear h; intro W h)
    | refine a_rd1 h ?_
    | refine a_rdN h ?_
    | (refine u_nr h ?_; clear h; intro b W h)
    | (refine u_bx h ?_; clear h; intro b W h)
    | (refine u_al h ?_; clear h; intro b W h)
    | (refine a_st h ?_; clear h; intro W h))
  refine u_join (fun v w => ∃ k, v = (.pointer (some ⟨k, 0, none⟩), .int .i64 (X.s.geta sa).2) ∧ S w0 (pts k (.cells (X.s.geta sa).1.cells.toArray 68 (0, 0)) :: capsC c X :: Γ) w) ?_ ?_
  · repeat (first
    | simp only [↓fa63_0, ↓fa60_0, ↓ld58, ↓rd58, ↓ld66, ↓rd66, ↓al68, ↓st68, ↓fa68_0, ↓ld3, ↓rd3, ↓GG, NN, Nat.reduceAdd]
    | refine a_ld1 h ?_
    | refine a_ldN h ?_
    | refine a_rs1 h ?_
    | refine a_rsN h ?_
    | (refine u_draw h ?_; clear h; intro W h)
    | refine a_rd1 h ?_
    | refine a_rdN h ?_
    | (refine u_nr h ?_; clear h; intro b W h)
    | (refine u_bx h ?_; clear h; intro b W h)
    | (refine u_al h ?_; clear h; intro b W h)
    | (refine a_st h ?_; clear h; intro W h))
    constructor
    · repeat (first
    | simp only [↓fa63_0, ↓fa60_0, ↓ld58, ↓rd58, ↓ld66, ↓rd66, ↓al68, ↓st68, ↓fa68_0, ↓ld3, ↓rd3, ↓GG, NN, Nat.reduceAdd]
    | refine a_ld1 h ?_
    | refine a_ldN h ?_
    | refine a_rs1 h ?_
    | refine a_rsN h ?_
    | (refine u_draw h ?_; clear h; intro W h)
    | refine a_rd1 h ?_
    | refine a_rdN h ?_
    | (refine u_nr h ?_; clear h; intro b W h)
    | (refine u_bx h ?_; clear h; intro b W h)
    | (refine u_al h ?_; clear h; intro b W h)
    | (refine a_st h ?_; clear h; intro W h))
      refine r_call (sGet (at_ := sa) (h.take (by repeat (first | exact Take.head | apply Take.tail)))) ?_
      clear h
      rintro v W ⟨rfl, h⟩
      repeat (first
    | simp only [↓fa63_0, ↓fa60_0, ↓ld58, ↓rd58, ↓ld66, ↓rd66, ↓al68, ↓st68, ↓fa68_0, ↓ld3, ↓rd3, ↓GG, NN, Nat.reduceAdd]
    | refine a_ld1 h ?_
    | refine a_ldN h ?_
    | refine a_rs1 h ?_
    | refine a_rsN h ?_
    | (refine u_draw h ?_; clear h; intro W h)
    | refine a_rd1 h ?_
    | refine a_rdN h ?_
    | (refine u_nr h ?_; clear h; intro b W h)
    | (refine u_bx h ?_; clear h; intro b W h)
    | (refine u_al h ?_; clear h; intro b W h)
    | (refine a_st h ?_; clear h; intro W h))
      exact ⟨_, rfl, ((S.get2 (c2 := pts _ (.cells (X.s.geta sa).1.cells.toArray 68 (0, 0))) (caps_shut h (by repeat (first | exact Take.head | apply Take.tail)) (by repeat (first | exact Take.head | apply Take.tail)) (by repeat (first | exact Take.head | apply Take.tail))) .head (by repeat (first | exact Take.head | apply Take.tail))).take (.tail .head)).subA⟩
    · repeat (first
    | simp only [↓fa63_0, ↓fa60_0, ↓ld58, ↓rd58, ↓ld66, ↓rd66, ↓al68, ↓st68, ↓fa68_0, ↓ld3, ↓rd3, ↓GG, NN, Nat.reduceAdd]
    | refine a_ld1 h ?_
    | refine a_ldN h ?_
    | refine a_rs1 h ?_
    | refine a_rsN h ?_
    | (refine u_draw h ?_; clear h; intro W h)
    | refine a_rd1 h ?_
    | refine a_rdN h ?_
    | (refine u_nr h ?_; clear h; intro b W h)
    | (refine u_bx h ?_; clear h; intro b W h)
    | (refine u_al h ?_; clear h; intro b W h)
    | (refine a_st h ?_; clear h; intro W h))
      refine r_call (sGet (at_ := sa) (h.take (by repeat (first | exact Take.head | apply Take.tail)))) ?_
      clear h
      rintro v W ⟨rfl, h⟩
      repeat (first
    | simp only [↓fa63_0, ↓fa60_0, ↓ld58, ↓rd58, ↓ld66, ↓rd66, ↓al68, ↓st68, ↓fa68_0, ↓ld3, ↓rd3, ↓GG, NN, Nat.reduceAdd]
    | refine a_ld1 h ?_
    | refine a_ldN h ?_
    | refine a_rs1 h ?_
    | refine a_rsN h ?_
    | (refine u_draw h ?_; clear h; intro W h)
    | refine a_rd1 h ?_
    | refine a_rdN h ?_
    | (refine u_nr h ?_; clear h; intro b W h)
    | (refine u_bx h ?_; clear h; intro b W h)
    | (refine u_al h ?_; clear h; intro b W h)
    | (refine a_st h ?_; clear h; intro W h))
      exact ⟨_, rfl, ((S.get2 (c2 := pts _ (.cells (X.s.geta sa).1.cells.toArray 68 (0, 0))) (caps_shut h (by repeat (first | exact Take.head | apply Take.tail)) (by repeat (first | exact Take.head | apply Take.tail)) (by repeat (first | exact Take.head | apply Take.tail))) .head (by repeat (first | exact Take.head | apply Take.tail))).take (.tail .head)).subA⟩
  · clear h
    rintro j v W ⟨k, rfl, h⟩
    simp only [Cap.cells] at h
    repeat' (first
    | simp only [*, ↓fa63_0, ↓fa60_0, ↓ld58, ↓rd58, ↓ld66, ↓rd66, ↓al68, ↓st68, ↓fa68_0, ↓ld3, ↓rd3, ↓GG, NN, Nat.reduceAdd]
    | refine a_ld1 h ?_
    | refine a_ldN h ?_
    | refine a_rs1 h ?_
    | refine a_rsN h ?_
    | (refine u_draw h ?_; clear h; intro W h)
    | refine a_rd1 h ?_
    | refine a_rdN h ?_
    | (refine u_nr h ?_; clear h; intro b W h)
    | (refine u_bx h ?_; clear h; intro b W h)
    | (refine u_al h ?_; clear h; intro b W h)
    | (refine a_st h ?_; clear h; intro W h)
    | (refine oCond_split ?_ ?_ <;> intro d)
    | (refine oGk_split ?_ ?_ <;> intro d))
    all_goals try simp only [Bool.not_true, beq_iff_eq, beq_eq_false_iff_ne, bne_iff_ne, bne_eq_false_iff_eq] at *
    all_goals refine ⟨?_, h.subA⟩
    all_goals simp [Caps.place, *]

def zeroCells6 : Array Value := #[.int .i64 0, .int .i64 0, .int .i64 0, .int .u64 0, .int .u64 0, .int .i64 0]

theorem mSource {sa : Slot} (h : S w0 (capsC c X :: Γ) W) : Calls Try.prog F_moves_Caps_source #[.pointer (some ⟨c, 0, none⟩), slotV sa] W
    (Ret fun v W' => v = .tuple #[(X.source sa).1.v, .int .i64 (X.source sa).2] ∧ S w0 (capsC c X :: Γ) W') := by
  obtain ⟨s, t, h⟩ := caps_open h
  refine c_moves_Caps_source ?_
  unfold h_moves_Caps_source
  rw [slotV]
  repeat (first
    | simp only [↓rs68, ↓al68, ↓fa63_0, ↓fa60_0, ↓ld58, ↓rd58, ↓ld66, ↓rd66, ↓st68, ↓fa68_0, ↓ld3, ↓rd3, ↓ld68, ↓rd68, ↓GG, NN, Nat.reduceAdd]
    | refine a_ld1 h ?_
    | refine a_ldN h ?_
    | refine a_rs1 h ?_
    | refine a_rsN h ?_
    | (refine u_draw h ?_; clear h; intro W h)
    | refine a_rd1 h ?_
    | refine a_rdN h ?_
    | (refine u_nr h ?_; clear h; intro b W h)
    | (refine u_bx h ?_; clear h; intro b W h)
    | (refine u_al h ?_; clear h; intro b W h)
    | (refine a_st h ?_; clear h; intro W h))
  obtain ⟨rb, hrb⟩ : ∃ x, x = b := ⟨_, rfl⟩
  subst hrb
  refine u_join (fun v w => ∃ k, v = (.pointer (some ⟨k, 0, none⟩), .int .i64 (X.s.geta sa).2) ∧ S w0 (pts k (.cells (X.s.geta sa).1.cells.toArray 68 (0, 0)) :: pts rb (.cells zeroCells6 68 (0, 0)) :: capsC c X :: Γ) w) ?_ ?_
  · repeat (first
    | simp only [↓rs68, ↓al68, ↓fa63_0, ↓fa60_0, ↓ld58, ↓rd58, ↓ld66, ↓rd66, ↓st68, ↓fa68_0, ↓ld3, ↓rd3, ↓ld68, ↓rd68, ↓GG, NN, Nat.reduceAdd]
    | refine a_ld1 h ?_
    | refine a_ldN h ?_
    | refine a_rs1 h ?_
    | refine a_rsN h ?_
    | (refine u_draw h ?_; clear h; intro W h)
    | refine a_rd1 h ?_
    | refine a_rdN h ?_
    | (refine u_nr h ?_; clear h; intro b W h)
    | (refine u_bx h ?_; clear h; intro b W h)
    | (refine u_al h ?_; clear h; intro b W h)
    | (refine a_st h ?_; clear h; intro W h))
    constructor
    · repeat (first
    | simp only [↓rs68, ↓al68, ↓fa63_0, ↓fa60_0, ↓ld58, ↓rd58, ↓ld66, ↓rd66, ↓st68, ↓fa68_0, ↓ld3, ↓rd3, ↓ld68, ↓rd68, ↓GG, NN, Nat.reduceAdd]
    | refine a_ld1 h ?_
    | refine a_ldN h ?_
    | refine a_rs1 h ?_
    | refine a_rsN h ?_
    | (refine u_draw h ?_; clear h; intro W h)
    | refine a_rd1 h ?_
    | refine a_rdN h ?_
    | (refine u_nr h ?_; clear h; intro b W h)
    | (refine u_bx h ?_; clear h; intro b W h)
    | (refine u_al h ?_; clear h; intro b W h)
    | (refine a_st h ?_; clear h; intro W h))
      refine r_call (sGet (at_ := sa) (h.take (by repeat (first | exact Take.head | apply Take.tail)))) ?_
      clear h
      rintro v W ⟨rfl, h⟩
      repeat (first
    | simp only [↓rs68, ↓al68, ↓fa63_0, ↓fa60_0, ↓ld58, ↓rd58, ↓ld66, ↓rd66, ↓st68, ↓fa68_0, ↓ld3, ↓rd3, ↓ld68, ↓rd68, ↓GG, NN, Nat.reduceAdd]
    | refine a_ld1 h ?_
    | refine a_ldN h ?_
    | refine a_rs1 h ?_
    | refine a_rsN h ?_
    | (refine u_draw h ?_; clear h; intro W h)
    | refine a_rd1 h ?_
    | refine a_rdN h ?_
    | (refine u_nr h ?_; clear h; intro b W h)
    | (refine u_bx h ?_; clear h; intro b W h)
    | (refine u_al h ?_; clear h; intro b W h)
    | (refine a_st h ?_; clear h; intro W h))
      exact ⟨_, rfl, (S.get3 (c1 := pts _ (.cells (X.s.geta sa).1.cells.toArray 68 (0, 0))) (c2 := pts rb (.cells zeroCells6 68 (0, 0))) (c3 := capsC c X) (caps_shut h (by repeat (first | exact Take.head | apply Take.tail)) (by repeat (first | exact Take.head | apply Take.tail)) (by repeat (first | exact Take.head | apply Take.tail))) (by repeat (first | exact Take.head | apply Take.tail)) (by repeat (first | exact Take.head | apply Take.tail)) (by repeat (first | exact Take.head | apply Take.tail))).subA⟩
    · repeat (first
    | simp only [↓rs68, ↓al68, ↓fa63_0, ↓fa60_0, ↓ld58, ↓rd58, ↓ld66, ↓rd66, ↓st68, ↓fa68_0, ↓ld3, ↓rd3, ↓ld68, ↓rd68, ↓GG, NN, Nat.reduceAdd]
    | refine a_ld1 h ?_
    | refine a_ldN h ?_
    | refine a_rs1 h ?_
    | refine a_rsN h ?_
    | (refine u_draw h ?_; clear h; intro W h)
    | refine a_rd1 h ?_
    | refine a_rdN h ?_
    | (refine u_nr h ?_; clear h; intro b W h)
    | (refine u_bx h ?_; clear h; intro b W h)
    | (refine u_al h ?_; clear h; intro b W h)
    | (refine a_st h ?_; clear h; intro W h))
      refine r_call (sGet (at_ := sa) (h.take (by repeat (first | exact Take.head | apply Take.tail)))) ?_
      clear h
      rintro v W ⟨rfl, h⟩
      repeat (first
    | simp only [↓rs68, ↓al68, ↓fa63_0, ↓fa60_0, ↓ld58, ↓rd58, ↓ld66, ↓rd66, ↓st68, ↓fa68_0, ↓ld3, ↓rd3, ↓ld68, ↓rd68, ↓GG, NN, Nat.reduceAdd]
    | refine a_ld1 h ?_
    | refine a_ldN h ?_
    | refine a_rs1 h ?_
    | refine a_rsN h ?_
    | (refine u_draw h ?_; clear h; intro W h)
    | refine a_rd1 h ?_
    | refine a_rdN h ?_
    | (refine u_nr h ?_; clear h; intro b W h)
    | (refine u_bx h ?_; clear h; intro b W h)
    | (refine u_al h ?_; clear h; intro b W h)
    | (refine a_st h ?_; clear h; intro W h))
      exact ⟨_, rfl, (S.get3 (c1 := pts _ (.cells (X.s.geta sa).1.cells.toArray 68 (0, 0))) (c2 := pts rb (.cells zeroCells6 68 (0, 0))) (c3 := capsC c X) (caps_shut h (by repeat (first | exact Take.head | apply Take.tail)) (by repeat (first | exact Take.head | apply Take.tail)) (by repeat (first | exact Take.head | apply Take.tail))) (by repeat (first | exact Take.head | apply Take.tail)) (by repeat (first | exact Take.head | apply Take.tail)) (by repeat (first | exact Take.head | apply Take.tail))).subA⟩
  · clear h
    rintro j v W ⟨k, rfl, h⟩
    simp only [Cap.cells, zeroCells6] at h
    repeat' (first
    | simp only [*, ↓rs68, ↓al68, ↓fa63_0, ↓fa60_0, ↓ld58, ↓rd58, ↓ld66, ↓rd66, ↓st68, ↓fa68_0, ↓ld3, ↓rd3, ↓ld68, ↓rd68, ↓GG, NN, Nat.reduceAdd]
    | refine a_ld1 h ?_
    | refine a_ldN h ?_
    | refine a_rs1 h ?_
    | refine a_rsN h ?_
    | (refine u_draw h ?_; clear h; intro W h)
    | refine a_rd1 h ?_
    | refine a_rdN h ?_
    | (refine u_nr h ?_; clear h; intro b W h)
    | (refine u_bx h ?_; clear h; intro b W h)
    | (refine u_al h ?_; clear h; intro b W h)
    | (refine a_st h ?_; clear h; intro W h)
    | refine oJoin_inl ?_
    | (refine oCond_split ?_ ?_ <;> intro d)
    | (refine oGk_split ?_ ?_ <;> intro d))
    all_goals try simp only [Bool.not_true, beq_iff_eq, beq_eq_false_iff_ne, bne_iff_ne, bne_eq_false_iff_eq] at *
    all_goals refine ⟨?_, h.subA⟩
    all_goals simp [Caps.source, Cap.v, putL, *]

theorem mBoth {sa sb : Slot} (h : S w0 (capsC c X :: Γ) W) : Calls Try.prog F_moves_Caps_both #[.pointer (some ⟨c, 0, none⟩), slotV sa, slotV sb] W
    (Ret fun v W' => v = .tuple #[(X.both sa sb).1.v, .int .i64 (X.both sa sb).2] ∧ S w0 (capsC c X :: Γ) W') := by
  refine c_moves_Caps_both ?_
  unfold h_moves_Caps_both
  simp only [slotV]
  repeat (first
    | simp only [↓rs68, ↓al68, ↓ld66, ↓rd66, ↓st68, ↓ld68, ↓rd68, ↓GG, NN, Nat.reduceAdd]
    | refine a_ld1 h ?_
    | refine a_ldN h ?_
    | refine a_rs1 h ?_
    | refine a_rsN h ?_
    | (refine u_draw h ?_; clear h; intro W h)
    | refine a_rd1 h ?_
    | refine a_rdN h ?_
    | (refine u_nr h ?_; clear h; intro b W h)
    | (refine u_bx h ?_; clear h; intro b W h)
    | (refine u_al h ?_; clear h; intro b W h)
    | (refine a_st h ?_; clear h; intro W h))
  refine r_call (mSource (sa := sa) (h.take (by repeat (first | exact Take.head | apply Take.tail)))) ?_
  clear h
  rintro v W ⟨rfl, h⟩
  simp only [Cap.v]
  repeat (first
    | simp only [↓rs68, ↓al68, ↓ld66, ↓rd66, ↓st68, ↓ld68, ↓rd68, ↓GG, NN, Nat.reduceAdd]
    | refine a_ld1 h ?_
    | refine a_ldN h ?_
    | refine a_rs1 h ?_
    | refine a_rsN h ?_
    | (refine u_draw h ?_; clear h; intro W h)
    | refine a_rd1 h ?_
    | refine a_rdN h ?_
    | (refine u_nr h ?_; clear h; intro b W h)
    | (refine u_bx h ?_; clear h; intro b W h)
    | (refine u_al h ?_; clear h; intro b W h)
    | (refine a_st h ?_; clear h; intro W h))
  by_cases he : (X.source sa).2 = 0
  · have d1 : ((X.source sa).2 == 0) = true := by simp [he]
    repeat (first
    | simp only [d1, ↓rs68, ↓al68, ↓ld66, ↓rd66, ↓st68, ↓ld68, ↓rd68, ↓GG, NN, Nat.reduceAdd]
    | refine a_ld1 h ?_
    | refine a_ldN h ?_
    | refine a_rs1 h ?_
    | refine a_rsN h ?_
    | (refine u_draw h ?_; clear h; intro W h)
    | refine a_rd1 h ?_
    | refine a_rdN h ?_
    | (refine u_nr h ?_; clear h; intro b W h)
    | (refine u_bx h ?_; clear h; intro b W h)
    | (refine u_al h ?_; clear h; intro b W h)
    | (refine a_st h ?_; clear h; intro W h)
    | refine oJoin_inl ?_)
    refine r_call (mPlace (sa := sb) (h.take (by repeat (first | exact Take.head | apply Take.tail)))) ?_
    clear h
    rintro v W ⟨rfl, h⟩
    repeat (first
    | simp only [d1, ↓rs68, ↓al68, ↓ld66, ↓rd66, ↓st68, ↓ld68, ↓rd68, ↓GG, NN, Nat.reduceAdd]
    | refine a_ld1 h ?_
    | refine a_ldN h ?_
    | refine a_rs1 h ?_
    | refine a_rsN h ?_
    | (refine u_draw h ?_; clear h; intro W h)
    | refine a_rd1 h ?_
    | refine a_rdN h ?_
    | (refine u_nr h ?_; clear h; intro b W h)
    | (refine u_bx h ?_; clear h; intro b W h)
    | (refine u_al h ?_; clear h; intro b W h)
    | (refine a_st h ?_; clear h; intro W h)
    | refine oJoin_inl ?_)
    exact ⟨by simp [Caps.both, Cap.v, putL, he], h.subA⟩
  · have d1 : ((X.source sa).2 == 0) = false := by simp [he]
    repeat (first
    | simp only [d1, ↓rs68, ↓al68, ↓ld66, ↓rd66, ↓st68, ↓ld68, ↓rd68, ↓GG, NN, Nat.reduceAdd]
    | refine a_ld1 h ?_
    | refine a_ldN h ?_
    | refine a_rs1 h ?_
    | refine a_rsN h ?_
    | (refine u_draw h ?_; clear h; intro W h)
    | refine a_rd1 h ?_
    | refine a_rdN h ?_
    | (refine u_nr h ?_; clear h; intro b W h)
    | (refine u_bx h ?_; clear h; intro b W h)
    | (refine u_al h ?_; clear h; intro b W h)
    | (refine a_st h ?_; clear h; intro W h)
    | refine oJoin_inl ?_)
    exact ⟨by simp [Caps.both, Cap.v, putL, he], h.subA⟩
end
end Go.Proofs.Ytpghhaobcikdhaa
