/- Capabilities: what their functions come to. -/
import Derived.Test.YtpghhaobcikdhaaA1
namespace Go.Proofs.Ytpghhaobcikdhaa
open Go Go.Hw
set_option linter.unusedSimpArgs false
set_option linter.unusedVariables false
set_option maxRecDepth 100000

section
variable {w0 : World} {Γ : List Chunk} {W : World}

def rightsOk (r : Int) : Bool := IntKind.i64.wrap (BitVec.ofInt IntKind.i64.bits r &&& ~~~ BitVec.ofInt IntKind.i64.bits 7).toNat == 0
def shr64 (g n : Int) : Int := g.fdiv (2 ^ (min n.toNat IntKind.u64.bits))
def fitsB (g n : Int) : Bool := decide (n ≥ 0) && (decide (n ≤ 16) && (shr64 g n == 0))
def Cap.plain (c : Cap) : Cap :=
  if c.kind = 0 ∨ c.kind = 10 then { Cap.zero with kind := c.kind }
  else if c.kind = 4 ∨ c.kind = 5 then { Cap.zero with kind := c.kind, object := c.object, rights := c.rights, badge := c.badge }
  else if c.kind = 6 then { Cap.zero with kind := c.kind, object := c.object, rights := c.rights }
  else if c.kind = 2 then { Cap.zero with kind := c.kind, object := c.object, guard := c.guard, bits := c.bits }
  else { Cap.zero with kind := c.kind, object := c.object }
def Cap.bad (c : Cap) : Bool :=
  decide (c.plain ≠ c) || (decide (c.object < 0) || (c.object.fdiv (2 ^ (min (6 : Int).toNat IntKind.i64.bits)) != 0) || (!rightsOk c.rights || ((shr64 c.badge 28 != 0) || !fitsB c.guard c.bits)))
def Cap.check (c : Cap) : Int := if c.kind < 0 ∨ c.kind > 11 then 2 else if c.bad then 10 else 0

theorem rights_Check_spec {r : Int} (h : S w0 Γ W) : Calls Try.prog F_rights_Check #[.int .i64 r] W (Ret fun v W' => v = .bool (rightsOk r) ∧ W' = W) := by
  refine c_rights_Check ?_
  unfold h_rights_Check
  repeat (first
    | simp only [↓GG, NN, Nat.reduceAdd]
    | refine a_ld1 h ?_
    | refine a_ldN h ?_
    | refine a_rs1 h ?_
    | refine a_rsN h ?_
    | (refine u_draw h ?_; clear h; intro W h)
    | refine a_rd1 h ?_
    | refine a_rdN h ?_
    | (refine u_nr h ?_; clear h; intro b W h)
    | (refine u_bx h ?_; clear h; intro b W h)
    | (refine u_al h ?_; clear h; intro b W h)
    | (refine a_st h ?_; clear h; intro W h))
  exact ⟨rfl, rfl⟩

theorem cap_fits_spec {g n : Int} (h : S w0 Γ W) : Calls Try.prog F_cap_fits #[.int .u64 g, .int .i64 n] W (Ret fun v W' => v = .bool (fitsB g n) ∧ W' = W) := by
  refine c_cap_fits ?_
  unfold h_cap_fits
  cases d1 : decide (n ≥ 0) <;> cases d2 : decide (n ≤ 16)
  all_goals repeat (first
    | simp only [d1, d2, ↓GG, NN, Nat.reduceAdd]
    | refine a_ld1 h ?_
    | refine a_ldN h ?_
    | refine a_rs1 h ?_
    | refine a_rsN h ?_
    | (refine u_draw h ?_; clear h; intro W h)
    | refine a_rd1 h ?_
    | refine a_rdN h ?_
    | (refine u_nr h ?_; clear h; intro b W h)
    | (refine u_bx h ?_; clear h; intro b W h)
    | (refine u_al h ?_; clear h; intro b W h)
    | (refine a_st h ?_; clear h; intro W h))
  case true.true =>
    have : 0 ≤ n := by simpa using d1
    rw [b_shr this]
    repeat (first
    | simp only [d1, d2, ↓GG, NN, Nat.reduceAdd]
    | refine a_ld1 h ?_
    | refine a_ldN h ?_
    | refine a_rs1 h ?_
    | refine a_rsN h ?_
    | (refine u_draw h ?_; clear h; intro W h)
    | refine a_rd1 h ?_
    | refine a_rdN h ?_
    | (refine u_nr h ?_; clear h; intro b W h)
    | (refine u_bx h ?_; clear h; intro b W h)
    | (refine u_al h ?_; clear h; intro b W h)
    | (refine a_st h ?_; clear h; intro W h))
    exact ⟨by simp [fitsB, d1, d2, shr64], rfl⟩
  all_goals exact ⟨by simp [fitsB, d1, d2], rfl⟩

set_option maxHeartbeats 2000000 in
theorem cap_plain_spec {c : Cap} (h : S w0 Γ W) : Calls Try.prog F_cap_plain #[c.v] W (Ret fun v W' => v = c.plain.v ∧ S w0 Γ W') := by
  refine c_cap_plain ?_
  unfold h_cap_plain Cap.v
  cases d0 : c.kind == 0 <;> cases d1 : c.kind == 10 <;> cases d2 : c.kind == 4 <;> cases d3 : c.kind == 5 <;> cases d4 : c.kind == 6 <;> cases d5 : c.kind == 2
  all_goals try (exfalso; simp at d0 d1 d2 d3 d4 d5; omega)
  all_goals
    repeat (first
    | simp only [d0, d1, d2, d3, d4, d5, ↓rs68, ↓al68, ↓fa68_0, ↓ld3, ↓rd3, ↓bd68_0, ↓st68, ↓fa68_1, ↓fa68_2, ↓fa68_3, ↓ld54, ↓rd54, ↓st3, ↓st54, ↓fa68_4, ↓fa68_5, ↓ld68, ↓rd68, ↓GG, NN, Nat.reduceAdd]
    | refine a_ld1 h ?_
    | refine a_ldN h ?_
    | refine a_rs1 h ?_
    | refine a_rsN h ?_
    | (refine u_draw h ?_; clear h; intro W h)
    | refine a_rd1 h ?_
    | refine a_rdN h ?_
    | (refine u_nr h ?_; clear h; intro b W h)
    | (refine u_bx h ?_; clear h; intro b W h)
    | (refine u_al h ?_; clear h; intro b W h)
    | (refine a_st h ?_; clear h; intro W h)
    | refine oJoin_inl ?_)
    refine ⟨?_, h.subA⟩
    simp at d0 d1 d2 d3 d4 d5
    simp [Cap.plain, Cap.v, Cap.zero, putL, Value.cells, *]

theorem capNe (a c : Cap) : (!(a.kind == c.kind && (a.object == c.object && (a.rights == c.rights && (a.badge == c.badge && (a.guard == c.guard && (a.bits == c.bits && true))))))) = decide (a ≠ c) := by
  rcases a with ⟨a1, a2, a3, a4, a5, a6⟩
  rcases c with ⟨c1, c2, c3, c4, c5, c6⟩
  by_cases h1 : a1 = c1 <;> by_cases h2 : a2 = c2 <;> by_cases h3 : a3 = c3 <;> by_cases h4 : a4 = c4 <;> by_cases h5 : a5 = c5 <;> by_cases h6 : a6 = c6 <;> simp [*]

set_option maxHeartbeats 2000000 in
theorem cap_Check_spec {c : Cap} (h : S w0 Γ W) : Calls Try.prog F_cap_Check #[c.v] W (Ret fun v W' => v = .int .i64 c.check ∧ S w0 Γ W') := by
  refine c_cap_Check ?_
  unfold h_cap_Check
  rw [Cap.v]
  repeat' (first
    | simp only [*, ↓fa68_0, ↓ld3, ↓rd3, ↓ld68, ↓rd68, ↓eqneq68_false, ↓fa68_1, ↓fa68_2, ↓fa68_3, ↓ld54, ↓rd54, ↓fa68_4, ↓fa68_5, ↓GG, NN, Nat.reduceAdd]
    | (refine r_call (cap_plain_spec (c := c) h) ?_; clear h; rintro v W ⟨rfl, h⟩; refine And.intro (u_rdN h (Take.knows (by repeat (first | exact Take.head | apply Take.tail))) (Nat.le_of_ble_eq_true rfl) (by rfl)) ?_; rw [Cap.v])
    | (refine r_call (rights_Check_spec h) ?_; rintro v W' ⟨rfl, rfl⟩)
    | (refine r_call (cap_fits_spec h) ?_; rintro v W' ⟨rfl, rfl⟩)
    | rw [b_shr (by omega)]
    | refine a_ld1 h ?_
    | refine a_ldN h ?_
    | refine a_rs1 h ?_
    | refine a_rsN h ?_
    | (refine u_draw h ?_; clear h; intro W h)
    | refine a_rd1 h ?_
    | refine a_rdN h ?_
    | (refine u_nr h ?_; clear h; intro b W h)
    | (refine u_bx h ?_; clear h; intro b W h)
    | (refine u_al h ?_; clear h; intro b W h)
    | (refine a_st h ?_; clear h; intro W h)
    | refine oJoin_inl ?_
    | (refine oCond_split ?_ ?_ <;> intro d)
    | (refine oGk_split ?_ ?_ <;> intro d))
  all_goals
    refine ⟨?_, h.subA⟩
    clear h
    try simp only [capNe] at *
    simp_all [Cap.check, Cap.bad, shr64]
    try omega
end
end Go.Proofs.Ytpghhaobcikdhaa
