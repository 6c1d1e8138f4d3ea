/- Revoke: Final, get, check. -/
import Derived.Test.YtpghhaobcikdhaaA15
namespace Go.Proofs.Ytpghhaobcikdhaa
open Go Go.Hw
set_option linter.unusedSimpArgs false
set_option linter.unusedVariables false
set_option maxRecDepth 100000

def Caps.final (X : Caps) (a : Slot) : Bool := (X.s.geta a).2 == 0 && ((X.s.geta a).1.kind != 0 && X.s.count (X.s.geta a).1.kind (X.s.geta a).1.object == 1)
def Caps.inner (X : Caps) (node : Int) (but : List Slot) : Option Slot :=
  ((List.range (2 ^ X.s.radix node)).map fun i : Nat => (node, (i : Int))).find? fun s => decide (X.s.radix node ≠ 0) && (decide (s ∉ but) && (X.s.geta s).1.kind != 0)
abbrev capsS (v : Value) (ts : List Cap) : Chunk := slc T_api_Cap 6 v ts.length (ts.flatMap Cap.cells)
/-- who takes away: whose slots, the steps that are left, and what was told -/
def takC (k c : Nat) (n : Int) (ts : List Cap) : Chunk := ex fun v => star (pts k (.cells #[.pointer (some ⟨c, 0, none⟩), .int .i64 n, v] T_revoke_taker (0, 0))) (capsS v ts)

section
variable {w0 : World} {Γ Γ' : List Chunk} {W : World} {c s t k : Nat} {X : Caps} {σ : Store} {n : Int} {ts : List Cap}

theorem storeC_wf (h : S w0 (storeC s σ :: Γ) W) : σ.Wf := by
  intro id n hn
  obtain ⟨m, L, clock, h⟩ := storeC_open h
  obtain ⟨hf, _⟩ := storeL_open h
  obtain ⟨e, he, rfl⟩ := List.mem_map.1 ((hf.2 id).1 (by rw [hn]; rfl))
  obtain ⟨n', hn', hw, _⟩ := storeL_at (id := e.1) (blk := e.2.1) (born := e.2.2) h he
  rw [hn] at hn'
  cases hn'
  exact hw

theorem Store.Wf.full {σ : Store} (hw : σ.Wf) : ∀ a ∈ σ.full, (σ.get a).isSome = true := by
  intro a ha
  obtain ⟨⟨c, hc, _⟩, _⟩ := (Store.mem_full hw).1 ha
  rw [hc]
  rfl

theorem sCount {kind object : Int} (h : S w0 (storeC s σ :: Γ) W) :
    Calls Try.prog F_slots_Store_Count #[.pointer (some ⟨s, 0, none⟩), .int .i64 kind, .int .i64 object] W (Ret fun v W' => v = .int .i64 (σ.count kind object) ∧ S w0 (storeC s σ :: Γ) W') :=
  Store_Count_spec h (storeC_wf h).full

theorem mFinal {sa : Slot} (h : S w0 (capsC c X :: Γ) W) : Calls Try.prog F_revoke_Final #[.pointer (some ⟨c, 0, none⟩), slotV sa] W
    (Ret fun v W' => v = .bool (X.final sa) ∧ S w0 (capsC c X :: Γ) W') := by
  obtain ⟨s, t, h⟩ := caps_open h
  refine c_revoke_Final ?_
  unfold h_revoke_Final
  rw [slotV]
  repeat (first
    | simp only [↓fa63_0, ↓fa60_0, ↓ld58, ↓rd58, ↓ld66, ↓rd66, ↓al68, ↓st68, ↓fa68_0, ↓ld3, ↓rd3, ↓fa68_1, ↓GG, NN, Nat.reduceAdd]
    | refine a_ld1 h ?_
    | refine a_ldN h ?_
    | refine a_rs1 h ?_
    | refine a_rsN h ?_
    | (refine u_draw h ?_; clear h; intro W h)
    | refine a_rd1 h ?_
    | refine a_rdN h ?_
    | (refine u_nr h ?_; clear h; intro b W h)
    | (refine u_bx h ?_; clear h; intro b W h)
    | (refine u_al h ?_; clear h; intro b W h)
    | (refine a_st h ?_; clear h; intro W h))
  refine u_join (fun v w => ∃ k, v = (.pointer (some ⟨k, 0, none⟩), .int .i64 (X.s.geta sa).2) ∧ S w0 (pts k (.cells (X.s.geta sa).1.cells.toArray 68 (0, 0)) :: capsC c X :: Γ) w) ?_ ?_
  · repeat (first
    | simp only [↓fa63_0, ↓fa60_0, ↓ld58, ↓rd58, ↓ld66, ↓rd66, ↓al68, ↓st68, ↓fa68_0, ↓ld3, ↓rd3, ↓fa68_1, ↓GG, NN, Nat.reduceAdd]
    | refine a_ld1 h ?_
    | refine a_ldN h ?_
    | refine a_rs1 h ?_
    | refine a_rsN h ?_
    | (refine u_draw h ?_; clear h; intro W h)
    | refine a_rd1 h ?_
    | refine a_rdN h ?_
    | (refine u_nr h ?_; clear h; intro b W h)
    | (refine u_bx h ?_; clear h; intro b W h)
    | (refine u_al h ?_; clear h; intro b W h)
    | (refine a_st h ?_; clear h; intro W h))
    constructor
    · repeat (first
    | simp only [↓fa63_0, ↓fa60_0, ↓ld58, ↓rd58, ↓ld66, ↓rd66, ↓al68, ↓st68, ↓fa68_0, ↓ld3, ↓rd3, ↓fa68_1, ↓GG, NN, Nat.reduceAdd]
    | refine a_ld1 h ?_
    | refine a_ldN h ?_
    | refine a_rs1 h ?_
    | refine a_rsN h ?_
    | (refine u_draw h ?_; clear h; intro W h)
    | refine a_rd1 h ?_
    | refine a_rdN h ?_
    | (refine u_nr h ?_; clear h; intro b W h)
    | (refine u_bx h ?_; clear h; intro b W h)
    | (refine u_al h ?_; clear h; intro b W h)
    | (refine a_st h ?_; clear h; intro W h))
      refine r_call (sGet (at_ := sa) (h.take (by repeat (first | exact Take.head | apply Take.tail)))) ?_
      clear h
      rintro v W ⟨rfl, h⟩
      repeat (first
    | simp only [↓fa63_0, ↓fa60_0, ↓ld58, ↓rd58, ↓ld66, ↓rd66, ↓al68, ↓st68, ↓fa68_0, ↓ld3, ↓rd3, ↓fa68_1, ↓GG, NN, Nat.reduceAdd]
    | refine a_ld1 h ?_
    | refine a_ldN h ?_
    | refine a_rs1 h ?_
    | refine a_rsN h ?_
    | (refine u_draw h ?_; clear h; intro W h)
    | refine a_rd1 h ?_
    | refine a_rdN h ?_
    | (refine u_nr h ?_; clear h; intro b W h)
    | (refine u_bx h ?_; clear h; intro b W h)
    | (refine u_al h ?_; clear h; intro b W h)
    | (refine a_st h ?_; clear h; intro W h))
      exact ⟨_, rfl, ((S.get2 (c2 := pts _ (.cells (X.s.geta sa).1.cells.toArray 68 (0, 0))) (caps_shut h (by repeat (first | exact Take.head | apply Take.tail)) (by repeat (first | exact Take.head | apply Take.tail)) (by repeat (first | exact Take.head | apply Take.tail))) .head (by repeat (first | exact Take.head | apply Take.tail))).take (.tail .head)).subA⟩
    · repeat (first
    | simp only [↓fa63_0, ↓fa60_0, ↓ld58, ↓rd58, ↓ld66, ↓rd66, ↓al68, ↓st68, ↓fa68_0, ↓ld3, ↓rd3, ↓fa68_1, ↓GG, NN, Nat.reduceAdd]
    | refine a_ld1 h ?_
    | refine a_ldN h ?_
    | refine a_rs1 h ?_
    | refine a_rsN h ?_
    | (refine u_draw h ?_; clear h; intro W h)
    | refine a_rd1 h ?_
    | refine a_rdN h ?_
    | (refine u_nr h ?_; clear h; intro b W h)
    | (refine u_bx h ?_; clear h; intro b W h)
    | (refine u_al h ?_; clear h; intro b W h)
    | (refine a_st h ?_; clear h; intro W h))
      refine r_call (sGet (at_ := sa) (h.take (by repeat (first | exact Take.head | apply Take.tail)))) ?_
      clear h
      rintro v W ⟨rfl, h⟩
      repeat (first
    | simp only [↓fa63_0, ↓fa60_0, ↓ld58, ↓rd58, ↓ld66, ↓rd66, ↓al68, ↓st68, ↓fa68_0, ↓ld3, ↓rd3, ↓fa68_1, ↓GG, NN, Nat.reduceAdd]
    | refine a_ld1 h ?_
    | refine a_ldN h ?_
    | refine a_rs1 h ?_
    | refine a_rsN h ?_
    | (refine u_draw h ?_; clear h; intro W h)
    | refine a_rd1 h ?_
    | refine a_rdN h ?_
    | (refine u_nr h ?_; clear h; intro b W h)
    | (refine u_bx h ?_; clear h; intro b W h)
    | (refine u_al h ?_; clear h; intro b W h)
    | (refine a_st h ?_; clear h; intro W h))
      exact ⟨_, rfl, ((S.get2 (c2 := pts _ (.cells (X.s.geta sa).1.cells.toArray 68 (0, 0))) (caps_shut h (by repeat (first | exact Take.head | apply Take.tail)) (by repeat (first | exact Take.head | apply Take.tail)) (by repeat (first | exact Take.head | apply Take.tail))) .head (by repeat (first | exact Take.head | apply Take.tail))).take (.tail .head)).subA⟩
  · clear h
    rintro j v W ⟨k, rfl, h⟩
    simp only [Cap.cells] at h
    obtain ⟨s, t, h'⟩ := caps_open (h.take (c := capsC c X) (by repeat (first | exact Take.head | apply Take.tail)))
    clear h
    have h := h'
    clear h'
    cases d1 : (X.s.geta sa).2 == 0
    · repeat (first
    | simp only [d1, ↓fa63_0, ↓fa60_0, ↓ld58, ↓rd58, ↓ld66, ↓rd66, ↓al68, ↓st68, ↓fa68_0, ↓ld3, ↓rd3, ↓fa68_1, ↓GG, NN, Nat.reduceAdd]
    | refine a_ld1 h ?_
    | refine a_ldN h ?_
    | refine a_rs1 h ?_
    | refine a_rsN h ?_
    | (refine u_draw h ?_; clear h; intro W h)
    | refine a_rd1 h ?_
    | refine a_rdN h ?_
    | (refine u_nr h ?_; clear h; intro b W h)
    | (refine u_bx h ?_; clear h; intro b W h)
    | (refine u_al h ?_; clear h; intro b W h)
    | (refine a_st h ?_; clear h; intro W h))
      exact ⟨by simp [Caps.final, d1], (caps_shut h (by repeat (first | exact Take.head | apply Take.tail)) (by repeat (first | exact Take.head | apply Take.tail)) (by repeat (first | exact Take.head | apply Take.tail))).subA⟩
    · cases d2 : (X.s.geta sa).1.kind != 0
      · repeat (first
    | simp only [d1, d2, ↓fa63_0, ↓fa60_0, ↓ld58, ↓rd58, ↓ld66, ↓rd66, ↓al68, ↓st68, ↓fa68_0, ↓ld3, ↓rd3, ↓fa68_1, ↓GG, NN, Nat.reduceAdd]
    | refine a_ld1 h ?_
    | refine a_ldN h ?_
    | refine a_rs1 h ?_
    | refine a_rsN h ?_
    | (refine u_draw h ?_; clear h; intro W h)
    | refine a_rd1 h ?_
    | refine a_rdN h ?_
    | (refine u_nr h ?_; clear h; intro b W h)
    | (refine u_bx h ?_; clear h; intro b W h)
    | (refine u_al h ?_; clear h; intro b W h)
    | (refine a_st h ?_; clear h; intro W h))
        exact ⟨by simp [Caps.final, d2], (caps_shut h (by repeat (first | exact Take.head | apply Take.tail)) (by repeat (first | exact Take.head | apply Take.tail)) (by repeat (first | exact Take.head | apply Take.tail))).subA⟩
      · repeat (first
    | simp only [d1, d2, ↓fa63_0, ↓fa60_0, ↓ld58, ↓rd58, ↓ld66, ↓rd66, ↓al68, ↓st68, ↓fa68_0, ↓ld3, ↓rd3, ↓fa68_1, ↓GG, NN, Nat.reduceAdd]
    | refine a_ld1 h ?_
    | refine a_ldN h ?_
    | refine a_rs1 h ?_
    | refine a_rsN h ?_
    | (refine u_draw h ?_; clear h; intro W h)
    | refine a_rd1 h ?_
    | refine a_rdN h ?_
    | (refine u_nr h ?_; clear h; intro b W h)
    | (refine u_bx h ?_; clear h; intro b W h)
    | (refine u_al h ?_; clear h; intro b W h)
    | (refine a_st h ?_; clear h; intro W h))
        refine r_call (sCount (kind := (X.s.geta sa).1.kind) (object := (X.s.geta sa).1.object) (h.take (by repeat (first | exact Take.head | apply Take.tail)))) ?_
        clear h
        rintro v W ⟨rfl, h⟩
        repeat (first
    | simp only [d1, d2, ↓fa63_0, ↓fa60_0, ↓ld58, ↓rd58, ↓ld66, ↓rd66, ↓al68, ↓st68, ↓fa68_0, ↓ld3, ↓rd3, ↓fa68_1, ↓GG, NN, Nat.reduceAdd]
    | refine a_ld1 h ?_
    | refine a_ldN h ?_
    | refine a_rs1 h ?_
    | refine a_rsN h ?_
    | (refine u_draw h ?_; clear h; intro W h)
    | refine a_rd1 h ?_
    | refine a_rdN h ?_
    | (refine u_nr h ?_; clear h; intro b W h)
    | (refine u_bx h ?_; clear h; intro b W h)
    | (refine u_al h ?_; clear h; intro b W h)
    | (refine a_st h ?_; clear h; intro W h))
        refine ⟨?_, (caps_shut h (by repeat (first | exact Take.head | apply Take.tail)) (by repeat (first | exact Take.head | apply Take.tail)) (by repeat (first | exact Take.head | apply Take.tail))).subA⟩
        simp only [Caps.final, d1, d2, Bool.true_and]
        congr 1
        rw [Bool.eq_iff_iff, beq_iff_eq, beq_iff_eq]
        omega

theorem tak_open (h : S w0 (takC k c n ts :: Γ) W) : ∃ v, S w0 (pts k (.cells #[.pointer (some ⟨c, 0, none⟩), .int .i64 n, v] T_revoke_taker (0, 0)) :: capsS v ts :: Γ) W := by
  obtain ⟨v, h⟩ := S.ex h
  exact ⟨v, S.star h⟩
theorem tak_shut {v : Value} {Γ0 Γ1 : List Chunk} (h : S w0 Γ0 W) (t1 : Take (pts k (.cells #[.pointer (some ⟨c, 0, none⟩), .int .i64 n, v] T_revoke_taker (0, 0))) Γ0 Γ1) (t2 : Take (capsS v ts) Γ1 Γ) :
    S w0 (takC k c n ts :: Γ) W :=
  S.unex (c := fun v => star (pts k (.cells #[.pointer (some ⟨c, 0, none⟩), .int .i64 n, v] T_revoke_taker (0, 0))) (capsS v ts)) v (S.unstar (S.get2 h t1 t2))

theorem kGet {sa : Slot} (h : S w0 (takC k c n ts :: capsC c X :: Γ) W) : Calls Try.prog F_revoke_taker_get #[.pointer (some ⟨k, 0, none⟩), slotV sa] W
    (Ret fun v W' => v = (X.s.geta sa).1.v ∧ S w0 (takC k c n ts :: capsC c X :: Γ) W') := by
  obtain ⟨tv, h⟩ := tak_open h
  obtain ⟨s, t, h'⟩ := caps_open (h.take (c := capsC c X) (by repeat (first | exact Take.head | apply Take.tail)))
  clear h
  have h := h'
  clear h'
  refine c_revoke_taker_get ?_
  unfold h_revoke_taker_get
  rw [slotV]
  repeat (first
    | simp only [↓rs68, ↓al68, ↓fa143_0, ↓ld55, ↓rd55, ↓fa63_0, ↓fa60_0, ↓ld58, ↓rd58, ↓ld66, ↓rd66, ↓st68, ↓ld68, ↓rd68, ↓GG, NN, Nat.reduceAdd]
    | refine a_ld1 h ?_
    | refine a_ldN h ?_
    | refine a_rs1 h ?_
    | refine a_rsN h ?_
    | (refine u_draw h ?_; clear h; intro W h)
    | refine a_rd1 h ?_
    | refine a_rdN h ?_
    | (refine u_nr h ?_; clear h; intro b W h)
    | (refine u_bx h ?_; clear h; intro b W h)
    | (refine u_al h ?_; clear h; intro b W h)
    | (refine a_st h ?_; clear h; intro W h))
  obtain ⟨rb, hrb⟩ : ∃ x, x = b := ⟨_, rfl⟩
  subst hrb
  refine u_join (fun v w => ∃ k', v = .pointer (some ⟨k', 0, none⟩) ∧ S w0 (pts k' (.cells (X.s.geta sa).1.cells.toArray 68 (0, 0)) :: pts rb (.cells zeroCells6 68 (0, 0)) :: takC k c n ts :: capsC c X :: Γ) w) ?_ ?_
  · repeat (first
    | simp only [↓rs68, ↓al68, ↓fa143_0, ↓ld55, ↓rd55, ↓fa63_0, ↓fa60_0, ↓ld58, ↓rd58, ↓ld66, ↓rd66, ↓st68, ↓ld68, ↓rd68, ↓GG, NN, Nat.reduceAdd]
    | refine a_ld1 h ?_
    | refine a_ldN h ?_
    | refine a_rs1 h ?_
    | refine a_rsN h ?_
    | (refine u_draw h ?_; clear h; intro W h)
    | refine a_rd1 h ?_
    | refine a_rdN h ?_
    | (refine u_nr h ?_; clear h; intro b W h)
    | (refine u_bx h ?_; clear h; intro b W h)
    | (refine u_al h ?_; clear h; intro b W h)
    | (refine a_st h ?_; clear h; intro W h))
    constructor
    · repeat (first
    | simp only [↓rs68, ↓al68, ↓fa143_0, ↓ld55, ↓rd55, ↓fa63_0, ↓fa60_0, ↓ld58, ↓rd58, ↓ld66, ↓rd66, ↓st68, ↓ld68, ↓rd68, ↓GG, NN, Nat.reduceAdd]
    | refine a_ld1 h ?_
    | refine a_ldN h ?_
    | refine a_rs1 h ?_
    | refine a_rsN h ?_
    | (refine u_draw h ?_; clear h; intro W h)
    | refine a_rd1 h ?_
    | refine a_rdN h ?_
    | (refine u_nr h ?_; clear h; intro b W h)
    | (refine u_bx h ?_; clear h; intro b W h)
    | (refine u_al h ?_; clear h; intro b W h)
    | (refine a_st h ?_; clear h; intro W h))
      refine r_call (sGet (at_ := sa) (h.take (by repeat (first | exact Take.head | apply Take.tail)))) ?_
      clear h
      rintro v W ⟨rfl, h⟩
      repeat (first
    | simp only [↓rs68, ↓al68, ↓fa143_0, ↓ld55, ↓rd55, ↓fa63_0, ↓fa60_0, ↓ld58, ↓rd58, ↓ld66, ↓rd66, ↓st68, ↓ld68, ↓rd68, ↓GG, NN, Nat.reduceAdd]
    | refine a_ld1 h ?_
    | refine a_ldN h ?_
    | refine a_rs1 h ?_
    | refine a_rsN h ?_
    | (refine u_draw h ?_; clear h; intro W h)
    | refine a_rd1 h ?_
    | refine a_rdN h ?_
    | (refine u_nr h ?_; clear h; intro b W h)
    | (refine u_bx h ?_; clear h; intro b W h)
    | (refine u_al h ?_; clear h; intro b W h)
    | (refine a_st h ?_; clear h; intro W h))
      have h2 := caps_shut h (by repeat (first | exact Take.head | apply Take.tail)) (by repeat (first | exact Take.head | apply Take.tail)) (by repeat (first | exact Take.head | apply Take.tail))
      have h3 := tak_shut (ts := ts) h2 (by repeat (first | exact Take.head | apply Take.tail)) (by repeat (first | exact Take.head | apply Take.tail))
      exact ⟨_, rfl, (S.get4 (c1 := pts _ (.cells (X.s.geta sa).1.cells.toArray 68 (0, 0))) (c2 := pts rb (.cells zeroCells6 68 (0, 0))) (c3 := takC k c n ts) (c4 := capsC c X) h3 (by repeat (first | exact Take.head | apply Take.tail)) (by repeat (first | exact Take.head | apply Take.tail)) (by repeat (first | exact Take.head | apply Take.tail)) (by repeat (first | exact Take.head | apply Take.tail))).subA⟩
    · repeat (first
    | simp only [↓rs68, ↓al68, ↓fa143_0, ↓ld55, ↓rd55, ↓fa63_0, ↓fa60_0, ↓ld58, ↓rd58, ↓ld66, ↓rd66, ↓st68, ↓ld68, ↓rd68, ↓GG, NN, Nat.reduceAdd]
    | refine a_ld1 h ?_
    | refine a_ldN h ?_
    | refine a_rs1 h ?_
    | refine a_rsN h ?_
    | (refine u_draw h ?_; clear h; intro W h)
    | refine a_rd1 h ?_
    | refine a_rdN h ?_
    | (refine u_nr h ?_; clear h; intro b W h)
    | (refine u_bx h ?_; clear h; intro b W h)
    | (refine u_al h ?_; clear h; intro b W h)
    | (refine a_st h ?_; clear h; intro W h))
      refine r_call (sGet (at_ := sa) (h.take (by repeat (first | exact Take.head | apply Take.tail)))) ?_
      clear h
      rintro v W ⟨rfl, h⟩
      repeat (first
    | simp only [↓rs68, ↓al68, ↓fa143_0, ↓ld55, ↓rd55, ↓fa63_0, ↓fa60_0, ↓ld58, ↓rd58, ↓ld66, ↓rd66, ↓st68, ↓ld68, ↓rd68, ↓GG, NN, Nat.reduceAdd]
    | refine a_ld1 h ?_
    | refine a_ldN h ?_
    | refine a_rs1 h ?_
    | refine a_rsN h ?_
    | (refine u_draw h ?_; clear h; intro W h)
    | refine a_rd1 h ?_
    | refine a_rdN h ?_
    | (refine u_nr h ?_; clear h; intro b W h)
    | (refine u_bx h ?_; clear h; intro b W h)
    | (refine u_al h ?_; clear h; intro b W h)
    | (refine a_st h ?_; clear h; intro W h))
      have h2 := caps_shut h (by repeat (first | exact Take.head | apply Take.tail)) (by repeat (first | exact Take.head | apply Take.tail)) (by repeat (first | exact Take.head | apply Take.tail))
      have h3 := tak_shut (ts := ts) h2 (by repeat (first | exact Take.head | apply Take.tail)) (by repeat (first | exact Take.head | apply Take.tail))
      exact ⟨_, rfl, (S.get4 (c1 := pts _ (.cells (X.s.geta sa).1.cells.toArray 68 (0, 0))) (c2 := pts rb (.cells zeroCells6 68 (0, 0))) (c3 := takC k c n ts) (c4 := capsC c X) h3 (by repeat (first | exact Take.head | apply Take.tail)) (by repeat (first | exact Take.head | apply Take.tail)) (by repeat (first | exact Take.head | apply Take.tail)) (by repeat (first | exact Take.head | apply Take.tail))).subA⟩
  · clear h
    rintro j v W ⟨k', rfl, h⟩
    simp only [Cap.cells, zeroCells6] at h
    repeat (first
    | simp only [↓rs68, ↓al68, ↓fa143_0, ↓ld55, ↓rd55, ↓fa63_0, ↓fa60_0, ↓ld58, ↓rd58, ↓ld66, ↓rd66, ↓st68, ↓ld68, ↓rd68, ↓GG, NN, Nat.reduceAdd]
    | refine a_ld1 h ?_
    | refine a_ldN h ?_
    | refine a_rs1 h ?_
    | refine a_rsN h ?_
    | (refine u_draw h ?_; clear h; intro W h)
    | refine a_rd1 h ?_
    | refine a_rdN h ?_
    | (refine u_nr h ?_; clear h; intro b W h)
    | (refine u_bx h ?_; clear h; intro b W h)
    | (refine u_al h ?_; clear h; intro b W h)
    | (refine a_st h ?_; clear h; intro W h))
    exact ⟨by simp [Cap.v, putL, Value.cells], h.subA⟩

def Caps.check (X : Caps) (a : Slot) (n : Int) : Int := if n < 1 ∨ n > 1000 then 1 else (X.source a).2

theorem kCheck {sa : Slot} (h : S w0 (capsC c X :: Γ) W) : Calls Try.prog F_revoke_check #[.pointer (some ⟨c, 0, none⟩), slotV sa, .int .i64 n] W
    (Ret fun v W' => v = .int .i64 (X.check sa n) ∧ S w0 (capsC c X :: Γ) W') := by
  obtain ⟨s, t, h⟩ := caps_open h
  refine c_revoke_check ?_
  unfold h_revoke_check
  rw [slotV]
  by_cases hr : n < 1 ∨ n > 1000
  · have hp : X.check sa n = 1 := by simp [Caps.check, hr]
    rw [hp]
    cases d1 : decide (n < 1)
    · have d2 : decide (n > 1000) = true := by simp at d1 ⊢; omega
      repeat (first
    | simp only [d1, d2, ↓fa63_0, ↓fa60_0, ↓ld58, ↓rd58, ↓ld66, ↓rd66, ↓al68, ↓st68, ↓fa68_0, ↓ld3, ↓rd3, ↓GG, NN, Nat.reduceAdd]
    | refine a_ld1 h ?_
    | refine a_ldN h ?_
    | refine a_rs1 h ?_
    | refine a_rsN h ?_
    | (refine u_draw h ?_; clear h; intro W h)
    | refine a_rd1 h ?_
    | refine a_rdN h ?_
    | (refine u_nr h ?_; clear h; intro b W h)
    | (refine u_bx h ?_; clear h; intro b W h)
    | (refine u_al h ?_; clear h; intro b W h)
    | (refine a_st h ?_; clear h; intro W h))
      exact ⟨rfl, (caps_shut h (by repeat (first | exact Take.head | apply Take.tail)) (by repeat (first | exact Take.head | apply Take.tail)) (by repeat (first | exact Take.head | apply Take.tail))).subA⟩
    · repeat (first
    | simp only [d1, ↓fa63_0, ↓fa60_0, ↓ld58, ↓rd58, ↓ld66, ↓rd66, ↓al68, ↓st68, ↓fa68_0, ↓ld3, ↓rd3, ↓GG, NN, Nat.reduceAdd]
    | refine a_ld1 h ?_
    | refine a_ldN h ?_
    | refine a_rs1 h ?_
    | refine a_rsN h ?_
    | (refine u_draw h ?_; clear h; intro W h)
    | refine a_rd1 h ?_
    | refine a_rdN h ?_
    | (refine u_nr h ?_; clear h; intro b W h)
    | (refine u_bx h ?_; clear h; intro b W h)
    | (refine u_al h ?_; clear h; intro b W h)
    | (refine a_st h ?_; clear h; intro W h))
      exact ⟨rfl, (caps_shut h (by repeat (first | exact Take.head | apply Take.tail)) (by repeat (first | exact Take.head | apply Take.tail)) (by repeat (first | exact Take.head | apply Take.tail))).subA⟩
  · have d1 : decide (n < 1) = false := by simp; omega
    have d2 : decide (n > 1000) = false := by simp; omega
    have hp : X.check sa n = (X.source sa).2 := by simp only [Caps.check, hr, if_false]
    rw [hp]
    repeat (first
    | simp only [d1, d2, ↓fa63_0, ↓fa60_0, ↓ld58, ↓rd58, ↓ld66, ↓rd66, ↓al68, ↓st68, ↓fa68_0, ↓ld3, ↓rd3, ↓GG, NN, Nat.reduceAdd]
    | refine a_ld1 h ?_
    | refine a_ldN h ?_
    | refine a_rs1 h ?_
    | refine a_rsN h ?_
    | (refine u_draw h ?_; clear h; intro W h)
    | refine a_rd1 h ?_
    | refine a_rdN h ?_
    | (refine u_nr h ?_; clear h; intro b W h)
    | (refine u_bx h ?_; clear h; intro b W h)
    | (refine u_al h ?_; clear h; intro b W h)
    | (refine a_st h ?_; clear h; intro W h))
    refine u_join (fun v w => ∃ k, v = (.pointer (some ⟨k, 0, none⟩), .int .i64 (X.s.geta sa).2) ∧ S w0 (pts k (.cells (X.s.geta sa).1.cells.toArray 68 (0, 0)) :: capsC c X :: Γ) w) ?_ ?_
    · repeat (first
    | simp only [↓fa63_0, ↓fa60_0, ↓ld58, ↓rd58, ↓ld66, ↓rd66, ↓al68, ↓st68, ↓fa68_0, ↓ld3, ↓rd3, ↓GG, NN, Nat.reduceAdd]
    | refine a_ld1 h ?_
    | refine a_ldN h ?_
    | refine a_rs1 h ?_
    | refine a_rsN h ?_
    | (refine u_draw h ?_; clear h; intro W h)
    | refine a_rd1 h ?_
    | refine a_rdN h ?_
    | (refine u_nr h ?_; clear h; intro b W h)
    | (refine u_bx h ?_; clear h; intro b W h)
    | (refine u_al h ?_; clear h; intro b W h)
    | (refine a_st h ?_; clear h; intro W h))
      constructor
      · repeat (first
    | simp only [↓fa63_0, ↓fa60_0, ↓ld58, ↓rd58, ↓ld66, ↓rd66, ↓al68, ↓st68, ↓fa68_0, ↓ld3, ↓rd3, ↓GG, NN, Nat.reduceAdd]
    | refine a_ld1 h ?_
    | refine a_ldN h ?_
    | refine a_rs1 h ?_
    | refine a_rsN h ?_
    | (refine u_draw h ?_; clear h; intro W h)
    | refine a_rd1 h ?_
    | refine a_rdN h ?_
    | (refine u_nr h ?_; clear h; intro b W h)
    | (refine u_bx h ?_; clear h; intro b W h)
    | (refine u_al h ?_; clear h; intro b W h)
    | (refine a_st h ?_; clear h; intro W h))
        refine r_call (sGet (at_ := sa) (h.take (by repeat (first | exact Take.head | apply Take.tail)))) ?_
        clear h
        rintro v W ⟨rfl, h⟩
        repeat (first
    | simp only [↓fa63_0, ↓fa60_0, ↓ld58, ↓rd58, ↓ld66, ↓rd66, ↓al68, ↓st68, ↓fa68_0, ↓ld3, ↓rd3, ↓GG, NN, Nat.reduceAdd]
    | refine a_ld1 h ?_
    | refine a_ldN h ?_
    | refine a_rs1 h ?_
    | refine a_rsN h ?_
    | (refine u_draw h ?_; clear h; intro W h)
    | refine a_rd1 h ?_
    | refine a_rdN h ?_
    | (refine u_nr h ?_; clear h; intro b W h)
    | (refine u_bx h ?_; clear h; intro b W h)
    | (refine u_al h ?_; clear h; intro b W h)
    | (refine a_st h ?_; clear h; intro W h))
        exact ⟨_, rfl, ((S.get2 (c2 := pts _ (.cells (X.s.geta sa).1.cells.toArray 68 (0, 0))) (caps_shut h (by repeat (first | exact Take.head | apply Take.tail)) (by repeat (first | exact Take.head | apply Take.tail)) (by repeat (first | exact Take.head | apply Take.tail))) .head (by repeat (first | exact Take.head | apply Take.tail))).take (.tail .head)).subA⟩
      · repeat (first
    | simp only [↓fa63_0, ↓fa60_0, ↓ld58, ↓rd58, ↓ld66, ↓rd66, ↓al68, ↓st68, ↓fa68_0, ↓ld3, ↓rd3, ↓GG, NN, Nat.reduceAdd]
    | refine a_ld1 h ?_
    | refine a_ldN h ?_
    | refine a_rs1 h ?_
    | refine a_rsN h ?_
    | (refine u_draw h ?_; clear h; intro W h)
    | refine a_rd1 h ?_
    | refine a_rdN h ?_
    | (refine u_nr h ?_; clear h; intro b W h)
    | (refine u_bx h ?_; clear h; intro b W h)
    | (refine u_al h ?_; clear h; intro b W h)
    | (refine a_st h ?_; clear h; intro W h))
        refine r_call (sGet (at_ := sa) (h.take (by repeat (first | exact Take.head | apply Take.tail)))) ?_
        clear h
        rintro v W ⟨rfl, h⟩
        repeat (first
    | simp only [↓fa63_0, ↓fa60_0, ↓ld58, ↓rd58, ↓ld66, ↓rd66, ↓al68, ↓st68, ↓fa68_0, ↓ld3, ↓rd3, ↓GG, NN, Nat.reduceAdd]
    | refine a_ld1 h ?_
    | refine a_ldN h ?_
    | refine a_rs1 h ?_
    | refine a_rsN h ?_
    | (refine u_draw h ?_; clear h; intro W h)
    | refine a_rd1 h ?_
    | refine a_rdN h ?_
    | (refine u_nr h ?_; clear h; intro b W h)
    | (refine u_bx h ?_; clear h; intro b W h)
    | (refine u_al h ?_; clear h; intro b W h)
    | (refine a_st h ?_; clear h; intro W h))
        exact ⟨_, rfl, ((S.get2 (c2 := pts _ (.cells (X.s.geta sa).1.cells.toArray 68 (0, 0))) (caps_shut h (by repeat (first | exact Take.head | apply Take.tail)) (by repeat (first | exact Take.head | apply Take.tail)) (by repeat (first | exact Take.head | apply Take.tail))) .head (by repeat (first | exact Take.head | apply Take.tail))).take (.tail .head)).subA⟩
    · clear h
      rintro j v W ⟨k, rfl, h⟩
      simp only [Cap.cells] at h
      repeat' (first
    | simp only [*, ↓fa63_0, ↓fa60_0, ↓ld58, ↓rd58, ↓ld66, ↓rd66, ↓al68, ↓st68, ↓fa68_0, ↓ld3, ↓rd3, ↓GG, NN, Nat.reduceAdd]
    | refine a_ld1 h ?_
    | refine a_ldN h ?_
    | refine a_rs1 h ?_
    | refine a_rsN h ?_
    | (refine u_draw h ?_; clear h; intro W h)
    | refine a_rd1 h ?_
    | refine a_rdN h ?_
    | (refine u_nr h ?_; clear h; intro b W h)
    | (refine u_bx h ?_; clear h; intro b W h)
    | (refine u_al h ?_; clear h; intro b W h)
    | (refine a_st h ?_; clear h; intro W h)
    | refine oJoin_inl ?_
    | (refine oCond_split ?_ ?_ <;> intro d)
    | (refine oGk_split ?_ ?_ <;> intro d))
      all_goals try simp only [Bool.not_true, beq_iff_eq, beq_eq_false_iff_ne, bne_iff_ne, bne_eq_false_iff_eq] at *
      all_goals refine ⟨?_, h.subA⟩
      all_goals simp [Caps.source, *]
end
end Go.Proofs.Ytpghhaobcikdhaa
