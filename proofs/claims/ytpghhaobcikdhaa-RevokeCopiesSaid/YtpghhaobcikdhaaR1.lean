/- The law RevokeCopies returns true for every input: a capability that was copied again and again is left alone by a revoke, and is final then.
   No condition. -/
import Derived.Test.YtpghhaobcikdhaaC4
import Derived.Test.YtpghhaobcikdhaaRows
import Derived.WalkKit
import Derived.ProofKit
import Derived.OpenShut
import Derived.ChangeOld
import Derived.Carry
import Derived.SizedLaws
namespace Go.Proofs.Ytpghhaobcikdhaa
open Go Go.Hw
open Go.ChangeShapes Go.WideShapes Go.ChangeAt Go.RowKit
set_option linter.unusedVariables false
set_option linter.unusedSimpArgs false

theorem ownK : ownKnob Try.prog.godebug = none := by kernel_rfl
theorem laidOut : laidOutB Try.prog = true := by kernel_rfl
theorem und3 : Try.prog.underlying 3 = some (.int .i64) := by kernel_rfl
theorem und4 : Try.prog.underlying 4 = some .bool := by kernel_rfl
theorem und52 : Try.prog.underlying 52 = some (.slice 3) := by kernel_rfl

/-- whole numbers that came in -/
theorem rd_ints {W : World} {H : Type} {enc : TypeId × Value → H} {t : TypeId} {a : Option Addr} {len cap : Nat} {d : DataW H} {ps : List MemPlace} (ht : Try.prog.underlying t = some (.slice 3))
    (h : DataW.Trod enc Try.prog W 0 (fun _ => true) true t (.slice a len cap) d ps) : ∃ zs : List Int, zs.length = len ∧ zs.length ≤ maxLen ∧ Rd W 1 intCell (.slice a len cap) zs := by
  obtain ⟨fuel, hf⟩ := h
  rcases open_ints ht und3 (by kernel_rfl) hf with ⟨hcs, _⟩ | ⟨x, l, c, zs, hcs, _, hl, hm, hz, _, hcell, hwz⟩
  · simp [Value.cells] at hcs
    obtain ⟨rfl, rfl, rfl⟩ := hcs
    exact ⟨[], rfl, by simp, none, 0, rfl, fun i hi => by simp at hi⟩
  · simp [Value.cells] at hcs
    obtain ⟨rfl, rfl, rfl⟩ := hcs
    simp only [if_true] at hz
    have hlen : (zs.take len).length = len := by rw [List.length_take]; omega
    refine ⟨zs.take len, hlen, by omega, some x, cap, by rw [hlen], fun i hi => ?_⟩
    rw [hlen] at hi
    obtain ⟨b, off, rfl, hat⟩ := ints_at hcell (by omega)
    have h1 := hat i (by omega)
    have hb : ∃ cur T fr, W.heap[b]? = some (.cells cur T fr) := by
      unfold World.cell? at h1
      simp only at h1
      split at h1
      · rename_i cur T fr hh
        exact ⟨cur, T, fr, hh⟩
      · cases h1
    obtain ⟨cur, T, fr, hb⟩ := hb
    have h2 : cur[off + i]? = some (.int .i64 (zs.getD i 0)) := by
      unfold World.cell? at h1
      simpa [hb] using h1
    have h3 : off + i < cur.size := by
      rcases Nat.lt_or_ge (off + i) cur.size with h' | h'
      · exact h'
      · rw [Array.getElem?_eq_none h'] at h2; cases h2
    refine ⟨b, off, cur, T, fr, rfl, hb, ?_, by omega⟩
    have hiz : i < zs.length := by omega
    have e1 : (zs.take len)[i]'(by rw [hlen]; exact hi) = zs.getD i 0 := by simp [hiz]
    rw [e1, Nat.mul_one]
    have h4 : cur.toList[off + i]? = some (.int .i64 (zs.getD i 0)) := by simpa using h2
    obtain ⟨hlt, hge⟩ := List.getElem?_eq_some_iff.1 h4
    rw [List.drop_eq_getElem_cons hlt, hge]
    rfl

theorem func5 : Try.prog.funcs[5]? = some Try.f5 := by kernel_rfl
theorem params5 : Try.f5.params = #[52, 3] := by kernel_rfl
set_option maxRecDepth 100000 in
theorem revokeCopies_lifted (os : Os) (started : os.Started) (H : Type) (enc : TypeId × Value → H) :
    ReturnsInHanded {} Try.checked os 5 .any (Rows.revokeCopiesSpec.pre6 enc Try.prog Try.f5 Rows.revokeCopiesRow.domain false) (Rows.revokeCopiesSpec.post enc Try.prog Try.f5 false true false false) := by
  refine returnsInHanded_of_change_sized (C := Try.checked) ownK started (by kernel_rfl) func5
    (ChangeSpec.witness6 (enc := enc) (C := Try.checked) false ⟨#[], #[.slice none 0 0, .int .i64 0], []⟩ 8 (by kernel_rfl) (by kernel_rfl) (by kernel_rfl) (by kernel_rfl)) ?_
  intro W base args ds gs before hval0 hW hcnd hsz0 _
  have hval : ∀ (j : Nat) t v, Try.f5.params[j]? = some t → args[j]? = some v → Value.okWide Try.prog W .any base t v := hval0
  have hW' := hW
  obtain ⟨p, q, hA0, hV, rfl, hfz, hnd⟩ := hW
  have hA : DataW.TrodAll enc Try.prog W 0 (fun _ => true) true Try.f5.params.toList args.toList ds p := hA0
  rw [params5] at hA hval
  obtain ⟨v0, vs0, d0, ds0, p0, q0, hargs, rfl, rfl, h0, r0⟩ := trodAll_cons hA
  obtain ⟨v1, vs1, d1, ds1, p1, q1, rfl, rfl, rfl, h1, r1⟩ := trodAll_cons r0
  obtain ⟨rfl, rfl, rfl⟩ := trodAll_nil r1
  obtain rfl : args = #[v0, v1] := by cases args; simp_all
  obtain ⟨rfl, rfl⟩ := trodVars_none hV
  obtain ⟨a0, len0, cap0, rfl⟩ := okWide_slice und52 (hval 0 52 v0 rfl rfl)
  have lt0 : ∀ x ∈ p0, x.block < W.heap.size := by obtain ⟨m, hm⟩ := h0; exact DataW.trod_lt m _ _ _ hm
  obtain ⟨zs, hz1, hz2, hrd⟩ := rd_ints und52 h0
  obtain ⟨a1, rfl, rfl, rfl, w1⟩ := open_int und3 (hval 1 3 v1 rfl rfl) h1
  clear hA0 hval0 hsz0
  refine Calls.mono (lRevokeCopies (w0 := W) (Γ := []) (zs := zs) (steps := a1) hrd (S.start W)) fun e W' he => ?_
  cases e with
  | returned v =>
    obtain ⟨rfl, hS⟩ := he
    have bel := S.below hS .head
    exact ⟨_, rfl, _, _, _, [], _, [], hW', trodAll_mk1 (shut_bool und4 _), (trodAll_cons_mk (Below.trod laidOut (by kernel_rfl) (of_decide_eq_true (by kernel_rfl)) h0 bel lt0) (trodAll_cons_mk (shut_int und3 w1) trodAll_mk0)), rfl, bel.frame _, fun h => by cases h⟩
  | panicked _ => exact he.elim
  | outgrown => exact he.elim

theorem revokeCopies_holds : Rows.RevokeCopiesSaid :=
  OpenClaim.holds_of_wide 5 Try.f5 rfl rfl rfl rfl rfl rfl rfl ⟨rfl, rfl, rfl, rfl, rfl⟩ rfl rfl rfl rfl rfl (by kernel_rfl) func5 (by kernel_rfl)
    (of_decide_eq_true (by kernel_rfl)) (by unfold Func.isWrapper; first | (rw [if_pos (by decide +kernel)]; kernel_rfl) | (rw [if_neg (by decide +kernel)]; exact ⟨rfl, rfl⟩))
    (fun os started H enc _ => revokeCopies_lifted os started H enc)
#print axioms revokeCopies_holds
end Go.Proofs.Ytpghhaobcikdhaa
