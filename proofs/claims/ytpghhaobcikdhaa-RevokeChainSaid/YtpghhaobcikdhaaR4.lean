/- The law RevokeChain returns true for every input: of nodes in one another, each with the next one's only capability, to delete the first one's takes all of them, the innermost first, and tells each once.
   No condition. -/
import Derived.Test.YtpghhaobcikdhaaC11
import Derived.Test.YtpghhaobcikdhaaR0
namespace Go.Proofs.Ytpghhaobcikdhaa
open Go Go.Hw
open Go.ChangeShapes Go.WideShapes Go.ChangeAt Go.RowKit
set_option linter.unusedVariables false
set_option linter.unusedSimpArgs false

theorem und52 : Try.prog.underlying 52 = some (.slice 3) := by kernel_rfl
theorem kinds3 : kindsOf Try.prog 2 3 = some [.i64] := by kernel_rfl
theorem cells3 : Try.prog.cellsOf 3 = List.length [IntKind.i64] := by kernel_rfl
theorem rd_ints {W : World} {H : Type} {enc : TypeId × Value → H} {t : TypeId} {a : Option Addr} {len cap : Nat} {d : DataW H} {ps : List MemPlace} (ht : Try.prog.underlying t = some (.slice 3))
    (h : DataW.Trod enc Try.prog W 0 (fun _ => true) true t (.slice a len cap) d ps) : ∃ zs : List Int, Rd W 1 intC (.slice a len cap) zs := by
  obtain ⟨fuel, hf⟩ := h
  obtain ⟨rows, hr, hfit, hat⟩ := slice_rows ht kinds3 (by decide) cells3 hf
  refine ⟨rows.map fun r => r.getD 0 0, a, cap, by rw [List.length_map, hr], fun i hi => ?_⟩
  rw [List.length_map] at hi
  obtain ⟨b, off, cur, T, fr, h1, h2, h3, h4⟩ := hat i hi
  refine ⟨b, off, cur, T, fr, h1, h2, ?_, h4⟩
  have h5 := (hfit _ (List.getElem_mem hi)).1
  rw [List.getElem_map]
  generalize rows[i] = r at h3 h5
  obtain ⟨z, r0, rfl, h6⟩ := cons_of h5
  have : r0 = [] := List.eq_nil_of_length_eq_zero h6
  subst this
  exact h3

theorem func4 : Try.prog.funcs[4]? = some Try.f4 := by kernel_rfl
theorem params4 : Try.f4.params = #[3, 3, 52] := by kernel_rfl
set_option maxRecDepth 100000 in
theorem revokeChain_lifted (os : Os) (started : os.Started) (H : Type) (enc : TypeId × Value → H) :
    ReturnsInHanded {} Try.checked os 4 .any (Rows.revokeChainSpec.pre6 enc Try.prog Try.f4 Rows.revokeChainRow.domain false) (Rows.revokeChainSpec.post enc Try.prog Try.f4 false true false false) := by
  refine returnsInHanded_of_change_sized (C := Try.checked) ownK started (by kernel_rfl) func4
    (ChangeSpec.witness6 (enc := enc) (C := Try.checked) false ⟨#[], #[.int .i64 0, .int .i64 0, .slice none 0 0], []⟩ 8 (by kernel_rfl) (by kernel_rfl) (by kernel_rfl) (by kernel_rfl)) ?_
  intro W base args ds gs before hval0 hW hcnd hsz0 _
  have hval : ∀ (j : Nat) t v, Try.f4.params[j]? = some t → args[j]? = some v → Value.okWide Try.prog W .any base t v := hval0
  have hW' := hW
  obtain ⟨p, q, hA0, hV, rfl, hfz, hnd⟩ := hW
  have hA : DataW.TrodAll enc Try.prog W 0 (fun _ => true) true Try.f4.params.toList args.toList ds p := hA0
  rw [params4] at hA hval
  obtain ⟨v0, vs0, d0, ds0, p0, q0, hargs, rfl, rfl, h0, r0⟩ := trodAll_cons hA
  obtain ⟨v1, vs1, d1, ds1, p1, q1, rfl, rfl, rfl, h1, r1⟩ := trodAll_cons r0
  obtain ⟨v2, vs2, d2, ds2, p2, q2, rfl, rfl, rfl, h2, r2⟩ := trodAll_cons r1
  obtain ⟨rfl, rfl, rfl⟩ := trodAll_nil r2
  obtain rfl : args = #[v0, v1, v2] := by cases args; simp_all
  obtain ⟨rfl, rfl⟩ := trodVars_none hV
  obtain ⟨a0, rfl, rfl, rfl, w0⟩ := open_int und3 (hval 0 3 v0 rfl rfl) h0
  obtain ⟨a1, rfl, rfl, rfl, w1⟩ := open_int und3 (hval 1 3 v1 rfl rfl) h1
  obtain ⟨a2, len2, cap2, rfl⟩ := okWide_slice und52 (hval 2 52 v2 rfl rfl)
  have lt2 : ∀ x ∈ p2, x.block < W.heap.size := by obtain ⟨m, hm⟩ := h2; exact DataW.trod_lt m _ _ _ hm
  obtain ⟨zs, hrd⟩ := rd_ints und52 h2
  clear hA0 hval0 hsz0
  refine Calls.mono (lRevokeChain (w0 := W) (Γ := []) (zs := zs) (a0 := a0) (a1 := a1) hrd (S.start W)) fun e W' he => ?_
  cases e with
  | returned v =>
    obtain ⟨rfl, hS⟩ := he
    have bel := S.below hS .head
    exact ⟨_, rfl, _, _, _, [], _, [], hW', trodAll_mk1 (shut_bool und4 _), (trodAll_cons_mk (shut_int und3 w0) (trodAll_cons_mk (shut_int und3 w1)
      (trodAll_cons_mk (Below.trod laidOut (by kernel_rfl) (of_decide_eq_true (by kernel_rfl)) h2 bel lt2) trodAll_mk0))), rfl, bel.frame _, fun h => by cases h⟩
  | panicked _ => exact he.elim
  | outgrown => exact he.elim

theorem revokeChain_holds : Rows.RevokeChainSaid :=
  OpenClaim.holds_of_wide 4 Try.f4 rfl rfl rfl rfl rfl rfl rfl ⟨rfl, rfl, rfl, rfl, rfl⟩ rfl rfl rfl rfl rfl (by kernel_rfl) func4 (by kernel_rfl)
    (of_decide_eq_true (by kernel_rfl)) (by unfold Func.isWrapper; first | (rw [if_pos (by decide +kernel)]; kernel_rfl) | (rw [if_neg (by decide +kernel)]; exact ⟨rfl, rfl⟩))
    (fun os started H enc _ => revokeChain_lifted os started H enc)
#print axioms revokeChain_holds
end Go.Proofs.Ytpghhaobcikdhaa
