/- RevokeOthers. -/
import Derived.Test.YtpghhaobcikdhaaC5
namespace Go.Proofs.Ytpghhaobcikdhaa
open Go Go.Hw
set_option linter.unusedSimpArgs false
set_option linter.unusedVariables false
set_option maxRecDepth 100000

theorem S.frame {w0 : World} {Γ Γ' : List Chunk} {W : World} {c : Chunk} (h : S w0 Γ W) (t : Take c Γ Γ' := by repeat (first | exact Take.head | apply Take.tail)) : ∃ Δ, Γ' = Δ ∧ S w0 (c :: Δ) W := ⟨Γ', rfl, h.take t⟩

theorem S.frame2 {w0 : World} {Γ Γ1 Γ2 : List Chunk} {W : World} {c1 c2 : Chunk} (h : S w0 Γ W) (t1 : Take c1 Γ Γ1 := by repeat (first | exact Take.head | apply Take.tail))
    (t2 : Take c2 Γ1 Γ2 := by repeat (first | exact Take.head | apply Take.tail)) : ∃ Δ, Γ2 = Δ ∧ S w0 (c1 :: c2 :: Δ) W := ⟨Γ2, rfl, S.get2 h t1 t2⟩

/-- a slice of some elements, its array laid open -/
theorem slc_pts {w0 : World} {Γ : List Chunk} {W : World} {e : TypeId} {size n : Nat} {v : Value} {xs : List Value} (hn : 0 < n) (h : S w0 (slc e size v n xs :: Γ) W) :
    ∃ g cap cur, v = .slice (some ⟨g, 0, none⟩) n cap ∧ S w0 (pts g (.cells cur e (0, 0)) :: Γ) W ∧ n * size ≤ cur.size ∧ cur.toList.take (n * size) = xs := by
  obtain ⟨h1, h2, h3, fp, f, g, hc, hr, hd, hu⟩ := h
  obtain ⟨hl, hc⟩ := hc
  rcases hc with ⟨rfl, rfl, hf⟩ | ⟨gb, cap, cur, rfl, hg, hn, hcap, hs, ht, hfp⟩
  · omega
  · exact ⟨gb, cap, cur, rfl, ⟨h1, h2, h3, fp, f, g, ⟨hg, hfp⟩, hr, hd, hu⟩, by rw [hs]; exact Nat.mul_le_mul_right _ hn, ht⟩
/-- an element of such an array -/
theorem row_at {α : Type} {f : α → List Value} {m : Nat} (hf : ∀ a, (f a).length = m) {l : List α} {cur : Array Value} (ht : cur.toList.take (l.length * m) = l.flatMap f) (hs : l.length * m ≤ cur.size) {i : Nat} (hi : i < l.length) :
    (cur.toList.drop ((i : Int).toNat * m)).take m = f l[i] ∧ (i : Int).toNat * m + m ≤ cur.size := by
  have e : (i : Int).toNat = i := by omega
  have hle : i * m + m ≤ l.length * m := by
    have := Nat.mul_le_mul_right m (show i + 1 ≤ l.length from hi)
    rw [Nat.add_mul] at this
    omega
  rw [e]
  refine ⟨?_, by omega⟩
  rw [← flat_drop hf l i hi, ← ht, List.drop_take, List.take_take]
  congr 1
  omega

section
variable {κ : Type} [DecidableEq κ]
theorem mGet_put_same {k : κ} {v : Value} {c : Nat} {es : List (κ × Value × Nat)} : mGet k (mPut k v c es) = some v := by
  unfold mPut
  by_cases h : (mGet k es).isSome
  · rw [if_pos h]
    unfold mGet at h ⊢
    rw [List.find?_map]
    have e : ((fun e : κ × Value × Nat => decide (k = e.1)) ∘ fun e : κ × Value × Nat => if k = e.1 then (e.1, v, e.2.2) else e) = fun e => decide (k = e.1) := by
      funext e
      simp only [Function.comp_apply]
      split <;> rfl
    rw [e]
    cases hf : es.find? fun e => decide (k = e.1) with
    | none => rw [hf] at h; cases h
    | some e =>
      have := List.find?_some hf
      simp only [decide_eq_true_eq] at this
      simp [this]
  · rw [if_neg h]
    unfold mGet at h ⊢
    rw [List.find?_append]
    cases hf : es.find? fun e => decide (k = e.1) with
    | none => simp
    | some e => rw [hf] at h; exact absurd rfl h
theorem mGet_put_ne {k k' : κ} {v : Value} {c : Nat} {es : List (κ × Value × Nat)} (hne : k' ≠ k) : mGet k' (mPut k v c es) = mGet k' es := by
  unfold mPut
  by_cases h : (mGet k es).isSome
  · rw [if_pos h]
    unfold mGet
    rw [List.find?_map]
    have e : ((fun e : κ × Value × Nat => decide (k' = e.1)) ∘ fun e : κ × Value × Nat => if k = e.1 then (e.1, v, e.2.2) else e) = fun e => decide (k' = e.1) := by
      funext e
      simp only [Function.comp_apply]
      split <;> rfl
    rw [e]
    cases hf : es.find? fun e => decide (k' = e.1) with
    | none => rfl
    | some e =>
      have := List.find?_some hf
      simp only [decide_eq_true_eq] at this
      simp only [Option.map_some]
      rw [if_neg (fun e' => hne (this.trans e'.symm))]
  · rw [if_neg h]
    unfold mGet
    rw [List.find?_append]
    cases hf : es.find? fun e => decide (k' = e.1) with
    | none => simp [hne]
    | some e => rfl
theorem nodup_put {k : κ} {v : Value} {c : Nat} {es : List (κ × Value × Nat)} (hn : (es.map (·.1)).Nodup) : ((mPut k v c es).map (·.1)).Nodup := by
  unfold mPut
  by_cases h : (mGet k es).isSome
  · rw [if_pos h, List.map_map]
    have e : ((fun e : κ × Value × Nat => e.1) ∘ fun e : κ × Value × Nat => if k = e.1 then (e.1, v, e.2.2) else e) = fun e => e.1 := by
      funext e
      simp only [Function.comp_apply]
      split <;> rfl
    rw [e]
    exact hn
  · rw [if_neg h, List.map_append, List.nodup_append]
    refine ⟨hn, by simp, fun x hx y hy e => h ?_⟩
    simp only [List.map_cons, List.map_nil, List.mem_singleton] at hy
    obtain ⟨z, hz, hzx⟩ := List.mem_map.1 hx
    unfold mGet
    cases hf : es.find? fun e => decide (k = e.1) with
    | none =>
      have := List.find?_eq_none.1 hf z hz
      simp only [decide_eq_true_eq] at this
      exact absurd (by rw [hzx, e, hy]) this
    | some e => rfl
end

section
variable {w0 : World} {Γ Γ' : List Chunk} {W : World} {c s t k : Nat} {X : Caps}

set_option maxHeartbeats 1000000 in
theorem lRevokeOthers {x : Value} {l : List Act} {a : Slot} (hx : Rd w0 19 Act.cells x l) (h : S w0 (init w0 :: Γ) W) :
    Calls Try.prog F_donjonlaw11_RevokeOthers #[x, slotV a] W (Ret fun v W' => v = .bool true ∧ S w0 (init w0 :: Γ) W') := by
  refine c_donjonlaw11_RevokeOthers ?_
  unfold h_donjonlaw11_RevokeOthers slotV
  repeat (first
    | simp only [↓fa63_0, ↓fa60_0, ↓ld58, ↓rd58, ↓ld66, ↓rd66, ↓al68, ↓st68, ↓fa68_0, ↓ld3, ↓rd3, ↓len72, ↓ia72, ↓ld68, ↓rd68, ↓eqeql66_false, ↓len69, ↓ia69, ↓fa68_1, ↓fa66_0, ↓eqneq68_false, ↓GG, NN, Nat.reduceAdd]
    | refine a_ld1 h ?_
    | refine a_ldN h ?_
    | refine a_rs1 h ?_
    | refine a_rsN h ?_
    | (refine u_draw h ?_; clear h; intro W h)
    | refine a_rd1 h ?_
    | refine a_rdN h ?_
    | (refine u_nr h ?_; clear h; intro b W h)
    | (refine u_bx h ?_; clear h; intro b W h)
    | (refine u_al h ?_; clear h; intro b W h)
    | (refine a_st h ?_; clear h; intro W h))
  obtain ⟨pb, hpb⟩ : ∃ x, x = b := ⟨_, rfl⟩
  subst hpb
  refine r_call (lWorks h) ?_
  clear h
  rintro v W ⟨rfl, h⟩
  repeat (first
    | simp only [↓fa63_0, ↓fa60_0, ↓ld58, ↓rd58, ↓ld66, ↓rd66, ↓al68, ↓st68, ↓fa68_0, ↓ld3, ↓rd3, ↓len72, ↓ia72, ↓ld68, ↓rd68, ↓eqeql66_false, ↓len69, ↓ia69, ↓fa68_1, ↓fa66_0, ↓eqneq68_false, ↓GG, NN, Nat.reduceAdd]
    | refine a_ld1 h ?_
    | refine a_ldN h ?_
    | refine a_rs1 h ?_
    | refine a_rsN h ?_
    | (refine u_draw h ?_; clear h; intro W h)
    | refine a_rd1 h ?_
    | refine a_rdN h ?_
    | (refine u_nr h ?_; clear h; intro b W h)
    | (refine u_bx h ?_; clear h; intro b W h)
    | (refine u_al h ?_; clear h; intro b W h)
    | (refine a_st h ?_; clear h; intro W h))
  refine r_call (lMade hx h.takeA) ?_
  clear h
  rintro v W ⟨c, rfl, h⟩
  obtain ⟨hX, hX3⟩ := madeX_inv l
  obtain ⟨X, hXe⟩ : ∃ X, X = madeX l := ⟨_, rfl⟩
  rw [← hXe] at h hX hX3
  obtain ⟨Δ, hΔ, h'⟩ := S.frame (c := capsC c X) h
  clear h
  have h := h'
  clear h'
  have kpb : Knows Δ pb (.cells #[.int .i64 a.1, .int .i64 a.2] 66 (0, 0)) := by rw [← hΔ]; exact Take.knows (by repeat (first | exact Take.head | apply Take.tail))
  repeat (first
    | simp only [↓fa63_0, ↓fa60_0, ↓ld58, ↓rd58, ↓ld66, ↓rd66, ↓al68, ↓st68, ↓fa68_0, ↓ld3, ↓rd3, ↓len72, ↓ia72, ↓ld68, ↓rd68, ↓eqeql66_false, ↓len69, ↓ia69, ↓fa68_1, ↓fa66_0, ↓eqneq68_false, ↓GG, NN, Nat.reduceAdd]
    | refine a_ld1 h ?_
    | refine a_ldN h ?_
    | refine a_rs1 h ?_
    | refine a_rsN h ?_
    | (refine u_draw h ?_; clear h; intro W h)
    | refine a_rd1 h ?_
    | refine a_rdN h ?_
    | (refine u_nr h ?_; clear h; intro b W h)
    | (refine u_bx h ?_; clear h; intro b W h)
    | (refine u_al h ?_; clear h; intro b W h)
    | (refine a_st h ?_; clear h; intro W h))
  refine u_join (fun v w => ∃ k, v = (.pointer (some ⟨k, 0, none⟩), .int .i64 (X.s.geta a).2) ∧ S w0 (pts k (.cells (X.s.geta a).1.cells.toArray 68 (0, 0)) :: capsC c X :: Δ) w) ?_ ?_
  · obtain ⟨s, t, h'⟩ := caps_open h
    clear h
    have h := h'
    clear h'
    repeat (first
    | simp only [↓fa63_0, ↓fa60_0, ↓ld58, ↓rd58, ↓ld66, ↓rd66, ↓al68, ↓st68, ↓fa68_0, ↓ld3, ↓rd3, ↓len72, ↓ia72, ↓ld68, ↓rd68, ↓eqeql66_false, ↓len69, ↓ia69, ↓fa68_1, ↓fa66_0, ↓eqneq68_false, ↓GG, NN, Nat.reduceAdd]
    | refine a_ld1 h ?_
    | refine a_ldN h ?_
    | refine a_rs1 h ?_
    | refine a_rsN h ?_
    | (refine u_draw h ?_; clear h; intro W h)
    | refine a_rd1 h ?_
    | refine a_rdN h ?_
    | (refine u_nr h ?_; clear h; intro b W h)
    | (refine u_bx h ?_; clear h; intro b W h)
    | (refine u_al h ?_; clear h; intro b W h)
    | (refine a_st h ?_; clear h; intro W h))
    constructor
    · repeat (first
    | simp only [↓fa63_0, ↓fa60_0, ↓ld58, ↓rd58, ↓ld66, ↓rd66, ↓al68, ↓st68, ↓fa68_0, ↓ld3, ↓rd3, ↓len72, ↓ia72, ↓ld68, ↓rd68, ↓eqeql66_false, ↓len69, ↓ia69, ↓fa68_1, ↓fa66_0, ↓eqneq68_false, ↓GG, NN, Nat.reduceAdd]
    | (refine u_ldN h (by repeat (first | exact kpb | apply Knows.tail)) (Nat.le_of_ble_eq_true rfl) ?_)
    | (refine And.intro (u_rdN h (by repeat (first | exact kpb | apply Knows.tail)) (Nat.le_of_ble_eq_true rfl) (by rfl)) ?_)
    | refine a_ld1 h ?_
    | refine a_ldN h ?_
    | refine a_rs1 h ?_
    | refine a_rsN h ?_
    | (refine u_draw h ?_; clear h; intro W h)
    | refine a_rd1 h ?_
    | refine a_rdN h ?_
    | (refine u_nr h ?_; clear h; intro b W h)
    | (refine u_bx h ?_; clear h; intro b W h)
    | (refine u_al h ?_; clear h; intro b W h)
    | (refine a_st h ?_; clear h; intro W h))
      refine r_call (sGet (at_ := a) h.takeA) ?_
      clear h
      rintro v W ⟨rfl, h⟩
      repeat (first
    | simp only [↓fa63_0, ↓fa60_0, ↓ld58, ↓rd58, ↓ld66, ↓rd66, ↓al68, ↓st68, ↓fa68_0, ↓ld3, ↓rd3, ↓len72, ↓ia72, ↓ld68, ↓rd68, ↓eqeql66_false, ↓len69, ↓ia69, ↓fa68_1, ↓fa66_0, ↓eqneq68_false, ↓GG, NN, Nat.reduceAdd]
    | refine a_ld1 h ?_
    | refine a_ldN h ?_
    | refine a_rs1 h ?_
    | refine a_rsN h ?_
    | (refine u_draw h ?_; clear h; intro W h)
    | refine a_rd1 h ?_
    | refine a_rdN h ?_
    | (refine u_nr h ?_; clear h; intro b W h)
    | (refine u_bx h ?_; clear h; intro b W h)
    | (refine u_al h ?_; clear h; intro b W h)
    | (refine a_st h ?_; clear h; intro W h))
      exact ⟨_, rfl, (S.get2 (c1 := pts _ (.cells (X.s.geta a).1.cells.toArray 68 (0, 0))) (c2 := capsC c X) (caps_shut h (by repeat (first | exact Take.head | apply Take.tail)) (by repeat (first | exact Take.head | apply Take.tail)) (by repeat (first | exact Take.head | apply Take.tail))) (by repeat (first | exact Take.head | apply Take.tail)) (by repeat (first | exact Take.head | apply Take.tail))).subA⟩
    · repeat (first
    | simp only [↓fa63_0, ↓fa60_0, ↓ld58, ↓rd58, ↓ld66, ↓rd66, ↓al68, ↓st68, ↓fa68_0, ↓ld3, ↓rd3, ↓len72, ↓ia72, ↓ld68, ↓rd68, ↓eqeql66_false, ↓len69, ↓ia69, ↓fa68_1, ↓fa66_0, ↓eqneq68_false, ↓GG, NN, Nat.reduceAdd]
    | (refine u_ldN h (by repeat (first | exact kpb | apply Knows.tail)) (Nat.le_of_ble_eq_true rfl) ?_)
    | (refine And.intro (u_rdN h (by repeat (first | exact kpb | apply Knows.tail)) (Nat.le_of_ble_eq_true rfl) (by rfl)) ?_)
    | refine a_ld1 h ?_
    | refine a_ldN h ?_
    | refine a_rs1 h ?_
    | refine a_rsN h ?_
    | (refine u_draw h ?_; clear h; intro W h)
    | refine a_rd1 h ?_
    | refine a_rdN h ?_
    | (refine u_nr h ?_; clear h; intro b W h)
    | (refine u_bx h ?_; clear h; intro b W h)
    | (refine u_al h ?_; clear h; intro b W h)
    | (refine a_st h ?_; clear h; intro W h))
      refine r_call (sGet (at_ := a) h.takeA) ?_
      clear h
      rintro v W ⟨rfl, h⟩
      repeat (first
    | simp only [↓fa63_0, ↓fa60_0, ↓ld58, ↓rd58, ↓ld66, ↓rd66, ↓al68, ↓st68, ↓fa68_0, ↓ld3, ↓rd3, ↓len72, ↓ia72, ↓ld68, ↓rd68, ↓eqeql66_false, ↓len69, ↓ia69, ↓fa68_1, ↓fa66_0, ↓eqneq68_false, ↓GG, NN, Nat.reduceAdd]
    | refine a_ld1 h ?_
    | refine a_ldN h ?_
    | refine a_rs1 h ?_
    | refine a_rsN h ?_
    | (refine u_draw h ?_; clear h; intro W h)
    | refine a_rd1 h ?_
    | refine a_rdN h ?_
    | (refine u_nr h ?_; clear h; intro b W h)
    | (refine u_bx h ?_; clear h; intro b W h)
    | (refine u_al h ?_; clear h; intro b W h)
    | (refine a_st h ?_; clear h; intro W h))
      exact ⟨_, rfl, (S.get2 (c1 := pts _ (.cells (X.s.geta a).1.cells.toArray 68 (0, 0))) (c2 := capsC c X) (caps_shut h (by repeat (first | exact Take.head | apply Take.tail)) (by repeat (first | exact Take.head | apply Take.tail)) (by repeat (first | exact Take.head | apply Take.tail))) (by repeat (first | exact Take.head | apply Take.tail)) (by repeat (first | exact Take.head | apply Take.tail))).subA⟩
  · clear h
    rintro j v W ⟨kb, rfl, h⟩
    simp only [Cap.cells] at h
    by_cases he : (X.s.geta a).2 = 0
    case neg =>
      have d1 : ((X.s.geta a).2 != 0) = true := by simp [he]
      repeat (first
    | simp only [d1, ↓fa63_0, ↓fa60_0, ↓ld58, ↓rd58, ↓ld66, ↓rd66, ↓al68, ↓st68, ↓fa68_0, ↓ld3, ↓rd3, ↓len72, ↓ia72, ↓ld68, ↓rd68, ↓eqeql66_false, ↓len69, ↓ia69, ↓fa68_1, ↓fa66_0, ↓eqneq68_false, ↓GG, NN, Nat.reduceAdd]
    | refine a_ld1 h ?_
    | refine a_ldN h ?_
    | refine a_rs1 h ?_
    | refine a_rsN h ?_
    | (refine u_draw h ?_; clear h; intro W h)
    | refine a_rd1 h ?_
    | refine a_rdN h ?_
    | (refine u_nr h ?_; clear h; intro b W h)
    | (refine u_bx h ?_; clear h; intro b W h)
    | (refine u_al h ?_; clear h; intro b W h)
    | (refine a_st h ?_; clear h; intro W h))
      subst hΔ
      exact ⟨rfl, h.subA⟩
    have d1 : ((X.s.geta a).2 != 0) = false := by simp [he]
    by_cases hk : (X.s.geta a).1.kind = 0
    · have d2 : ((X.s.geta a).1.kind == 0) = true := by simp [hk]
      repeat (first
    | simp only [d1, d2, ↓fa63_0, ↓fa60_0, ↓ld58, ↓rd58, ↓ld66, ↓rd66, ↓al68, ↓st68, ↓fa68_0, ↓ld3, ↓rd3, ↓len72, ↓ia72, ↓ld68, ↓rd68, ↓eqeql66_false, ↓len69, ↓ia69, ↓fa68_1, ↓fa66_0, ↓eqneq68_false, ↓GG, NN, Nat.reduceAdd]
    | refine a_ld1 h ?_
    | refine a_ldN h ?_
    | refine a_rs1 h ?_
    | refine a_rsN h ?_
    | (refine u_draw h ?_; clear h; intro W h)
    | refine a_rd1 h ?_
    | refine a_rdN h ?_
    | (refine u_nr h ?_; clear h; intro b W h)
    | (refine u_bx h ?_; clear h; intro b W h)
    | (refine u_al h ?_; clear h; intro b W h)
    | (refine a_st h ?_; clear h; intro W h))
      subst hΔ
      exact ⟨rfl, h.subA⟩
    have d2 : ((X.s.geta a).1.kind == 0) = false := by simp [hk]
    have hfa : X.s.fl a := hk
    obtain ⟨lk, hlk⟩ := Tree.kin_of hX.ok.t a
    have hlk48 := three_len hX.ok.s hX3 hlk.nodup fun y hy => (hX.ok.same y).1 (hlk.dom y hy)
    repeat (first
    | simp only [d1, d2, ↓fa63_0, ↓fa60_0, ↓ld58, ↓rd58, ↓ld66, ↓rd66, ↓al68, ↓st68, ↓fa68_0, ↓ld3, ↓rd3, ↓len72, ↓ia72, ↓ld68, ↓rd68, ↓eqeql66_false, ↓len69, ↓ia69, ↓fa68_1, ↓fa66_0, ↓eqneq68_false, ↓GG, NN, Nat.reduceAdd]
    | (refine u_ldN h (by repeat (first | exact kpb | apply Knows.tail)) (Nat.le_of_ble_eq_true rfl) ?_)
    | (refine And.intro (u_rdN h (by repeat (first | exact kpb | apply Knows.tail)) (Nat.le_of_ble_eq_true rfl) (by rfl)) ?_)
    | refine a_ld1 h ?_
    | refine a_ldN h ?_
    | refine a_rs1 h ?_
    | refine a_rsN h ?_
    | (refine u_draw h ?_; clear h; intro W h)
    | refine a_rd1 h ?_
    | refine a_rdN h ?_
    | (refine u_nr h ?_; clear h; intro b W h)
    | (refine u_bx h ?_; clear h; intro b W h)
    | (refine u_al h ?_; clear h; intro b W h)
    | (refine a_st h ?_; clear h; intro W h))
    refine r_call (mKin (sa := a) hX.ok.t.toCl hlk.kin (by omega) (h.takeA (c := capsC c X))) ?_
    clear h
    intro v W h
    obtain ⟨kinv, hkinv⟩ : ∃ y, y = v := ⟨_, rfl⟩
    rw [hkinv.symm] at h ⊢
    clear hkinv v
    obtain ⟨s, t, h'⟩ := caps_open (h.takeA (c := capsC c X))
    clear h
    have h := h'
    clear h'
    repeat (first
    | simp only [↓fa63_0, ↓fa60_0, ↓ld58, ↓rd58, ↓ld66, ↓rd66, ↓al68, ↓st68, ↓fa68_0, ↓ld3, ↓rd3, ↓len72, ↓ia72, ↓ld68, ↓rd68, ↓eqeql66_false, ↓len69, ↓ia69, ↓fa68_1, ↓fa66_0, ↓eqneq68_false, ↓GG, NN, Nat.reduceAdd]
    | refine a_ld1 h ?_
    | refine a_ldN h ?_
    | refine a_rs1 h ?_
    | refine a_rsN h ?_
    | (refine u_draw h ?_; clear h; intro W h)
    | refine a_rd1 h ?_
    | refine a_rdN h ?_
    | (refine u_nr h ?_; clear h; intro b W h)
    | (refine u_bx h ?_; clear h; intro b W h)
    | (refine u_al h ?_; clear h; intro b W h)
    | (refine a_st h ?_; clear h; intro W h))
    refine r_call (Store_Full_spec (h.takeA (c := storeC s X.s))) ?_
    clear h
    intro v W h
    have hfa' : a ∈ X.s.full := (Store.full_iff hX.ok.s).2 hfa
    have hfull48 := three_len hX.ok.s hX3 (Store.full_nodup hX.ok.s.wf) fun y hy => (Store.full_iff hX.ok.s).1 hy
    obtain ⟨fg, fcap, fcur, rfl, h', hfs, hft⟩ := slc_pts (List.length_pos_of_mem hfa') h
    clear h
    obtain ⟨ck, h1, knk, _⟩ := slc_fix (caps_shut (X := X) h' (by repeat (first | exact Take.head | apply Take.tail)) (by repeat (first | exact Take.head | apply Take.tail)) (by repeat (first | exact Take.head | apply Take.tail)) |>.takeA (c := slotsC kinv lk))
    clear h'
    have h := h1
    clear h1
    refine r_makeMap (enc := slotV) h ?_
    clear h
    intro mp W h
    obtain ⟨Δ2, hΔ2, h'⟩ := S.frame2 (c1 := capsC c X) (c2 := pts mp (mapO slotV [] 0)) h
    clear h
    have h := h'
    clear h'
    have kfg : Knows Δ2 fg (.cells fcur T_api_Slot (0, 0)) := by rw [← hΔ2]; exact Take.knows (by repeat (first | exact Take.head | apply Take.tail))
    have kpb2 : Knows Δ2 pb (.cells #[.int .i64 a.1, .int .i64 a.2] 66 (0, 0)) := by rw [← hΔ2]; repeat (first | exact kpb | apply Knows.tail)
    have knk2 : Kn Δ2 kinv 2 (lk.flatMap slotCells) lk.length := by rw [← hΔ2]; repeat (first | exact knk _ | apply Kn.tail)
    obtain ⟨ls, hls⟩ : ∃ ls, ls = X.s.full := ⟨_, rfl⟩
    rw [← hls] at hfs hft hfull48 ⊢
    refine u_loop (fun s' w => ∃ (i : Nat) (es : List (Slot × Value × Nat)) (clock : Nat), i ≤ ls.length ∧ s' = .int .i64 i ∧ (es.map (·.1)).Nodup ∧ (∀ j (hj : j < ls.length), j < i → mGet ls[j] es = some (X.s.cap ls[j]).v) ∧
      S w0 (capsC c X :: pts mp (mapO slotV es clock) :: Δ2) w) (fun s' _ => ls.length - (vInt s').toNat) ⟨0, [], 0, by omega, rfl, by simp, fun j _ hj => by omega, h⟩ ?_
    clear h
    rintro j iv W ⟨i, es, clock, hi, hs, hnd, hget, h⟩
    cases hs
    by_cases hlt : i < ls.length
    · have d1' : decide ((i : Int) < (ls.length : Int)) = true := by simp; omega
      have hrow := row_at slotCells_len hft hfs hlt
      repeat (first
    | simp only [d1', ↓fa63_0, ↓fa60_0, ↓ld58, ↓rd58, ↓ld66, ↓rd66, ↓al68, ↓st68, ↓fa68_0, ↓ld3, ↓rd3, ↓len72, ↓ia72, ↓ld68, ↓rd68, ↓eqeql66_false, ↓len69, ↓ia69, ↓fa68_1, ↓fa66_0, ↓eqneq68_false, ↓GG, NN, Nat.reduceAdd]
    | refine a_ld1 h ?_
    | refine a_ldN h ?_
    | refine a_rs1 h ?_
    | refine a_rsN h ?_
    | (refine u_draw h ?_; clear h; intro W h)
    | refine a_rd1 h ?_
    | refine a_rdN h ?_
    | (refine u_nr h ?_; clear h; intro b W h)
    | (refine u_bx h ?_; clear h; intro b W h)
    | (refine u_al h ?_; clear h; intro b W h)
    | (refine a_st h ?_; clear h; intro W h))
      refine u_join (fun v w => ∃ k, v = .pointer (some ⟨k, 0, none⟩) ∧ S w0 (pts k (.cells (X.s.geta ls[i]).1.cells.toArray 68 (0, 0)) :: capsC c X :: pts mp (mapO slotV es clock) :: Δ2) w) ?_ ?_
      · obtain ⟨s, t, h'⟩ := caps_open h
        clear h
        have h := h'
        clear h'
        repeat (first
    | simp only [↓fa63_0, ↓fa60_0, ↓ld58, ↓rd58, ↓ld66, ↓rd66, ↓al68, ↓st68, ↓fa68_0, ↓ld3, ↓rd3, ↓len72, ↓ia72, ↓ld68, ↓rd68, ↓eqeql66_false, ↓len69, ↓ia69, ↓fa68_1, ↓fa66_0, ↓eqneq68_false, ↓GG, NN, Nat.reduceAdd]
    | refine a_ld1 h ?_
    | refine a_ldN h ?_
    | refine a_rs1 h ?_
    | refine a_rsN h ?_
    | (refine u_draw h ?_; clear h; intro W h)
    | refine a_rd1 h ?_
    | refine a_rdN h ?_
    | (refine u_nr h ?_; clear h; intro b W h)
    | (refine u_bx h ?_; clear h; intro b W h)
    | (refine u_al h ?_; clear h; intro b W h)
    | (refine a_st h ?_; clear h; intro W h))
        constructor
        · repeat (first
    | simp only [↓fa63_0, ↓fa60_0, ↓ld58, ↓rd58, ↓ld66, ↓rd66, ↓al68, ↓st68, ↓fa68_0, ↓ld3, ↓rd3, ↓len72, ↓ia72, ↓ld68, ↓rd68, ↓eqeql66_false, ↓len69, ↓ia69, ↓fa68_1, ↓fa66_0, ↓eqneq68_false, ↓GG, NN, Nat.reduceAdd]
    | rw [ia72 (by omega)]
    | (refine u_ldN h (by repeat (first | exact kfg | apply Knows.tail)) hrow.2 ?_; rw [hrow.1]; simp only [slotCells])
    | (refine And.intro (u_rdN h (by repeat (first | exact kfg | apply Knows.tail)) hrow.2 (by rw [hrow.1]; rfl)) ?_)
    | refine a_ld1 h ?_
    | refine a_ldN h ?_
    | refine a_rs1 h ?_
    | refine a_rsN h ?_
    | (refine u_draw h ?_; clear h; intro W h)
    | refine a_rd1 h ?_
    | refine a_rdN h ?_
    | (refine u_nr h ?_; clear h; intro b W h)
    | (refine u_bx h ?_; clear h; intro b W h)
    | (refine u_al h ?_; clear h; intro b W h)
    | (refine a_st h ?_; clear h; intro W h))
          refine r_call (sGet (at_ := ls[i]) h.takeA) ?_
          clear h
          rintro v W ⟨rfl, h⟩
          repeat (first
    | simp only [↓fa63_0, ↓fa60_0, ↓ld58, ↓rd58, ↓ld66, ↓rd66, ↓al68, ↓st68, ↓fa68_0, ↓ld3, ↓rd3, ↓len72, ↓ia72, ↓ld68, ↓rd68, ↓eqeql66_false, ↓len69, ↓ia69, ↓fa68_1, ↓fa66_0, ↓eqneq68_false, ↓GG, NN, Nat.reduceAdd]
    | refine a_ld1 h ?_
    | refine a_ldN h ?_
    | refine a_rs1 h ?_
    | refine a_rsN h ?_
    | (refine u_draw h ?_; clear h; intro W h)
    | refine a_rd1 h ?_
    | refine a_rdN h ?_
    | (refine u_nr h ?_; clear h; intro b W h)
    | (refine u_bx h ?_; clear h; intro b W h)
    | (refine u_al h ?_; clear h; intro b W h)
    | (refine a_st h ?_; clear h; intro W h))
          exact ⟨_, rfl, (S.get3 (c1 := pts _ (.cells (X.s.geta ls[i]).1.cells.toArray 68 (0, 0))) (c2 := capsC c X) (c3 := pts mp (mapO slotV es clock)) (caps_shut h (by repeat (first | exact Take.head | apply Take.tail)) (by repeat (first | exact Take.head | apply Take.tail)) (by repeat (first | exact Take.head | apply Take.tail))) (by repeat (first | exact Take.head | apply Take.tail)) (by repeat (first | exact Take.head | apply Take.tail)) (by repeat (first | exact Take.head | apply Take.tail))).subA⟩
        · repeat (first
    | simp only [↓fa63_0, ↓fa60_0, ↓ld58, ↓rd58, ↓ld66, ↓rd66, ↓al68, ↓st68, ↓fa68_0, ↓ld3, ↓rd3, ↓len72, ↓ia72, ↓ld68, ↓rd68, ↓eqeql66_false, ↓len69, ↓ia69, ↓fa68_1, ↓fa66_0, ↓eqneq68_false, ↓GG, NN, Nat.reduceAdd]
    | rw [ia72 (by omega)]
    | (refine u_ldN h (by repeat (first | exact kfg | apply Knows.tail)) hrow.2 ?_; rw [hrow.1]; simp only [slotCells])
    | (refine And.intro (u_rdN h (by repeat (first | exact kfg | apply Knows.tail)) hrow.2 (by rw [hrow.1]; rfl)) ?_)
    | refine a_ld1 h ?_
    | refine a_ldN h ?_
    | refine a_rs1 h ?_
    | refine a_rsN h ?_
    | (refine u_draw h ?_; clear h; intro W h)
    | refine a_rd1 h ?_
    | refine a_rdN h ?_
    | (refine u_nr h ?_; clear h; intro b W h)
    | (refine u_bx h ?_; clear h; intro b W h)
    | (refine u_al h ?_; clear h; intro b W h)
    | (refine a_st h ?_; clear h; intro W h))
          refine r_call (sGet (at_ := ls[i]) h.takeA) ?_
          clear h
          rintro v W ⟨rfl, h⟩
          repeat (first
    | simp only [↓fa63_0, ↓fa60_0, ↓ld58, ↓rd58, ↓ld66, ↓rd66, ↓al68, ↓st68, ↓fa68_0, ↓ld3, ↓rd3, ↓len72, ↓ia72, ↓ld68, ↓rd68, ↓eqeql66_false, ↓len69, ↓ia69, ↓fa68_1, ↓fa66_0, ↓eqneq68_false, ↓GG, NN, Nat.reduceAdd]
    | refine a_ld1 h ?_
    | refine a_ldN h ?_
    | refine a_rs1 h ?_
    | refine a_rsN h ?_
    | (refine u_draw h ?_; clear h; intro W h)
    | refine a_rd1 h ?_
    | refine a_rdN h ?_
    | (refine u_nr h ?_; clear h; intro b W h)
    | (refine u_bx h ?_; clear h; intro b W h)
    | (refine u_al h ?_; clear h; intro b W h)
    | (refine a_st h ?_; clear h; intro W h))
          exact ⟨_, rfl, (S.get3 (c1 := pts _ (.cells (X.s.geta ls[i]).1.cells.toArray 68 (0, 0))) (c2 := capsC c X) (c3 := pts mp (mapO slotV es clock)) (caps_shut h (by repeat (first | exact Take.head | apply Take.tail)) (by repeat (first | exact Take.head | apply Take.tail)) (by repeat (first | exact Take.head | apply Take.tail))) (by repeat (first | exact Take.head | apply Take.tail)) (by repeat (first | exact Take.head | apply Take.tail)) (by repeat (first | exact Take.head | apply Take.tail))).subA⟩
      · clear h
        rintro j v W ⟨k, rfl, h⟩
        simp only [Cap.cells] at h
        repeat (first
    | simp only [↓fa63_0, ↓fa60_0, ↓ld58, ↓rd58, ↓ld66, ↓rd66, ↓al68, ↓st68, ↓fa68_0, ↓ld3, ↓rd3, ↓len72, ↓ia72, ↓ld68, ↓rd68, ↓eqeql66_false, ↓len69, ↓ia69, ↓fa68_1, ↓fa66_0, ↓eqneq68_false, ↓GG, NN, Nat.reduceAdd]
    | rw [ia72 (by omega)]
    | (refine u_ldN h (by repeat (first | exact kfg | apply Knows.tail)) hrow.2 ?_; rw [hrow.1]; simp only [slotCells])
    | (refine And.intro (u_rdN h (by repeat (first | exact kfg | apply Knows.tail)) hrow.2 (by rw [hrow.1]; rfl)) ?_)
    | refine a_ld1 h ?_
    | refine a_ldN h ?_
    | refine a_rs1 h ?_
    | refine a_rsN h ?_
    | (refine u_draw h ?_; clear h; intro W h)
    | refine a_rd1 h ?_
    | refine a_rdN h ?_
    | (refine u_nr h ?_; clear h; intro b W h)
    | (refine u_bx h ?_; clear h; intro b W h)
    | (refine u_al h ?_; clear h; intro b W h)
    | (refine a_st h ?_; clear h; intro W h))
        refine r_update (El := T_api_Cap) keyS (by kernel_rfl) h (by repeat (first | exact Take.head | apply Take.tail)) hnd ls[i] _ ?_
        clear h
        intro W h
        repeat (first
    | simp only [↓fa63_0, ↓fa60_0, ↓ld58, ↓rd58, ↓ld66, ↓rd66, ↓al68, ↓st68, ↓fa68_0, ↓ld3, ↓rd3, ↓len72, ↓ia72, ↓ld68, ↓rd68, ↓eqeql66_false, ↓len69, ↓ia69, ↓fa68_1, ↓fa66_0, ↓eqneq68_false, ↓GG, NN, Nat.reduceAdd]
    | refine a_ld1 h ?_
    | refine a_ldN h ?_
    | refine a_rs1 h ?_
    | refine a_rsN h ?_
    | (refine u_draw h ?_; clear h; intro W h)
    | refine a_rd1 h ?_
    | refine a_rdN h ?_
    | (refine u_nr h ?_; clear h; intro b W h)
    | (refine u_bx h ?_; clear h; intro b W h)
    | (refine u_al h ?_; clear h; intro b W h)
    | (refine a_st h ?_; clear h; intro W h))
        rw [wrap_succ (by omega)]
        refine ⟨⟨i + 1, _, _, by omega, rfl, nodup_put hnd, fun j' hj' hlt' => ?_, (S.get2 (c1 := capsC c X) (c2 := pts mp _) h (by repeat (first | exact Take.head | apply Take.tail)) (by repeat (first | exact Take.head | apply Take.tail))).subA⟩, ?_⟩
        · by_cases hjj : ls[j'] = ls[i]
          · rw [hjj, mGet_put_same]
            rfl
          · rw [mGet_put_ne hjj]
            refine hget j' hj' ?_
            rcases Nat.lt_or_ge j' i with h1 | h1
            · exact h1
            · have : j' = i := by omega
              subst this
              exact absurd rfl hjj
        · simp only [vInt]
          omega
    · have d1' : decide ((i : Int) < (ls.length : Int)) = false := by simp; omega
      have : i = ls.length := by omega
      subst this
      repeat (first
    | simp only [d1', ↓fa63_0, ↓fa60_0, ↓ld58, ↓rd58, ↓ld66, ↓rd66, ↓al68, ↓st68, ↓fa68_0, ↓ld3, ↓rd3, ↓len72, ↓ia72, ↓ld68, ↓rd68, ↓eqeql66_false, ↓len69, ↓ia69, ↓fa68_1, ↓fa66_0, ↓eqneq68_false, ↓GG, NN, Nat.reduceAdd]
    | (refine u_ldN h (by repeat (first | exact kpb2 | apply Knows.tail)) (Nat.le_of_ble_eq_true rfl) ?_)
    | (refine And.intro (u_rdN h (by repeat (first | exact kpb2 | apply Knows.tail)) (Nat.le_of_ble_eq_true rfl) (by rfl)) ?_)
    | refine a_ld1 h ?_
    | refine a_ldN h ?_
    | refine a_rs1 h ?_
    | refine a_rsN h ?_
    | (refine u_draw h ?_; clear h; intro W h)
    | refine a_rd1 h ?_
    | refine a_rdN h ?_
    | (refine u_nr h ?_; clear h; intro b W h)
    | (refine u_bx h ?_; clear h; intro b W h)
    | (refine u_al h ?_; clear h; intro b W h)
    | (refine a_st h ?_; clear h; intro W h))
      refine r_call (lRevoke (X := X) (a := a) (n := 1000) hX hfa hlk (by omega) (by omega) (h.takeA (c := capsC c X))) ?_
      clear h
      rintro v W ⟨tv, rfl, h⟩
      rw [revO_ts] at h
      have e : revO X lk 1000 [] = .ok ⟨takes X lk.reverse, (1000 : Nat) - lk.length, []⟩ := by unfold revO; rw [if_pos (by omega)]
      rw [e] at h ⊢
      obtain ⟨ta, tc, rfl⟩ := slc_shape h .head
      simp only [Out.st, outV] at h ⊢
      obtain ⟨hX2, hfa2, hk2, hcap2⟩ := takes_kin hX hfa lk.length (l := []) (l2 := lk) rfl hlk
      obtain ⟨X2, hX2e⟩ : ∃ X2, X2 = takes X lk.reverse := ⟨_, rfl⟩
      rw [← hX2e] at h hX2 hfa2 hk2 hcap2
      repeat (first
    | simp only [↓fa63_0, ↓fa60_0, ↓ld58, ↓rd58, ↓ld66, ↓rd66, ↓al68, ↓st68, ↓fa68_0, ↓ld3, ↓rd3, ↓len72, ↓ia72, ↓ld68, ↓rd68, ↓eqeql66_false, ↓len69, ↓ia69, ↓fa68_1, ↓fa66_0, ↓eqneq68_false, ↓GG, NN, Nat.reduceAdd]
    | refine a_ld1 h ?_
    | refine a_ldN h ?_
    | refine a_rs1 h ?_
    | refine a_rsN h ?_
    | (refine u_draw h ?_; clear h; intro W h)
    | refine a_rd1 h ?_
    | refine a_rdN h ?_
    | (refine u_nr h ?_; clear h; intro b W h)
    | (refine u_bx h ?_; clear h; intro b W h)
    | (refine u_al h ?_; clear h; intro b W h)
    | (refine a_st h ?_; clear h; intro W h))
      obtain ⟨Δ3, hΔ3, h'⟩ := S.frame2 (c1 := capsC c X2) (c2 := pts mp (mapO slotV es clock)) h
      clear h
      have h := h'
      clear h'
      have kfg3 : Knows Δ3 fg (.cells fcur T_api_Slot (0, 0)) := by rw [← hΔ3]; repeat (first | exact kfg | apply Knows.tail)
      have knk3 : Kn Δ3 kinv 2 (lk.flatMap slotCells) lk.length := by rw [← hΔ3]; repeat (first | exact knk2 | apply Kn.tail)
      obtain ⟨ka, kc, rfl⟩ := knk3.shape
      refine u_loop (fun s' w => ∃ i : Nat, i ≤ ls.length ∧ s' = .int .i64 i ∧ S w0 (capsC c X2 :: pts mp (mapO slotV es clock) :: Δ3) w) (fun s' _ => ls.length - (vInt s').toNat) ⟨0, by omega, rfl, h⟩ ?_
      clear h
      rintro j iv W ⟨i, hi, hs, h⟩
      cases hs
      by_cases hlt : i < ls.length
      · have d1' : decide ((i : Int) < (ls.length : Int)) = true := by simp; omega
        have hrow := row_at slotCells_len hft hfs hlt
        repeat (first
    | simp only [d1', ↓fa63_0, ↓fa60_0, ↓ld58, ↓rd58, ↓ld66, ↓rd66, ↓al68, ↓st68, ↓fa68_0, ↓ld3, ↓rd3, ↓len72, ↓ia72, ↓ld68, ↓rd68, ↓eqeql66_false, ↓len69, ↓ia69, ↓fa68_1, ↓fa66_0, ↓eqneq68_false, ↓GG, NN, Nat.reduceAdd]
    | refine a_ld1 h ?_
    | refine a_ldN h ?_
    | refine a_rs1 h ?_
    | refine a_rsN h ?_
    | (refine u_draw h ?_; clear h; intro W h)
    | refine a_rd1 h ?_
    | refine a_rdN h ?_
    | (refine u_nr h ?_; clear h; intro b W h)
    | (refine u_bx h ?_; clear h; intro b W h)
    | (refine u_al h ?_; clear h; intro b W h)
    | (refine a_st h ?_; clear h; intro W h))
        refine u_loop (fun s' w => ∃ q : Nat, q ≤ lk.length ∧ s' = (.bool (decide (ls[i] ∈ lk.take q)), .int .i64 q) ∧ S w0 (capsC c X2 :: pts mp (mapO slotV es clock) :: Δ3) w) (fun s' _ => lk.length - (vInt s'.2).toNat) ⟨0, by omega, by simp, h⟩ ?_
        clear h
        rintro j2 iv2 W ⟨q, hq, hs, h⟩
        cases hs
        by_cases hql : q < lk.length
        · have d3 : decide ((q : Int) < (lk.length : Int)) = true := by simp; omega
          have htk : lk.take (q + 1) = lk.take q ++ [lk[q]] := List.take_succ_eq_append_getElem hql
          by_cases hmem : ls[i] ∈ lk.take q
          · have d4 : decide (ls[i] ∈ lk.take q) = true := decide_eq_true hmem
            repeat (first
    | simp only [d3, d4, ↓fa63_0, ↓fa60_0, ↓ld58, ↓rd58, ↓ld66, ↓rd66, ↓al68, ↓st68, ↓fa68_0, ↓ld3, ↓rd3, ↓len72, ↓ia72, ↓ld68, ↓rd68, ↓eqeql66_false, ↓len69, ↓ia69, ↓fa68_1, ↓fa66_0, ↓eqneq68_false, ↓GG, NN, Nat.reduceAdd]
    | refine a_ld1 h ?_
    | refine a_ldN h ?_
    | refine a_rs1 h ?_
    | refine a_rsN h ?_
    | (refine u_draw h ?_; clear h; intro W h)
    | refine a_rd1 h ?_
    | refine a_rdN h ?_
    | (refine u_nr h ?_; clear h; intro b W h)
    | (refine u_bx h ?_; clear h; intro b W h)
    | (refine u_al h ?_; clear h; intro b W h)
    | (refine a_st h ?_; clear h; intro W h))
            rw [wrap_succ (by omega)]
            refine ⟨⟨q + 1, by omega, ?_, h⟩, ?_⟩
            · rw [htk, decide_eq_true (List.mem_append.2 (.inl hmem))]
            · simp only [vInt]; omega
          · have d4 : decide (ls[i] ∈ lk.take q) = false := decide_eq_false hmem
            repeat (first
    | simp only [d3, d4, ↓fa63_0, ↓fa60_0, ↓ld58, ↓rd58, ↓ld66, ↓rd66, ↓al68, ↓st68, ↓fa68_0, ↓ld3, ↓rd3, ↓len72, ↓ia72, ↓ld68, ↓rd68, ↓eqeql66_false, ↓len69, ↓ia69, ↓fa68_1, ↓fa66_0, ↓eqneq68_false, ↓GG, NN, Nat.reduceAdd]
    | refine a_ld1 h ?_
    | refine a_ldN h ?_
    | refine a_rs1 h ?_
    | refine a_rsN h ?_
    | (refine u_draw h ?_; clear h; intro W h)
    | refine a_rd1 h ?_
    | refine a_rdN h ?_
    | (refine u_nr h ?_; clear h; intro b W h)
    | (refine u_bx h ?_; clear h; intro b W h)
    | (refine u_al h ?_; clear h; intro b W h)
    | (refine a_st h ?_; clear h; intro W h))
            obtain ⟨kg, koff, kcap, kcur, kT, kfr, hkv, hkg, hkr, hks⟩ := Kn.read slotCells_len h (knk3.tail.tail) hql
            injection hkv with e1 e2 e3
            subst e1 e3
            have e0 : koff + (q : Int).toNat * 2 = koff + q * 2 := by omega
            repeat (first
    | simp only [d3, d4, ↓fa63_0, ↓fa60_0, ↓ld58, ↓rd58, ↓ld66, ↓rd66, ↓al68, ↓st68, ↓fa68_0, ↓ld3, ↓rd3, ↓len72, ↓ia72, ↓ld68, ↓rd68, ↓eqeql66_false, ↓len69, ↓ia69, ↓fa68_1, ↓fa66_0, ↓eqneq68_false, ↓GG, NN, Nat.reduceAdd]
    | rw [ia72 (by omega)]
    | rw [e0]
    | (refine v_ldN hkg hks ?_; rw [hkr]; simp only [slotCells])
    | (refine u_ldN h (by repeat (first | exact kfg3 | apply Knows.tail)) hrow.2 ?_; rw [hrow.1]; simp only [slotCells])
    | (refine And.intro (u_rdN h (by repeat (first | exact kfg3 | apply Knows.tail)) hrow.2 (by rw [hrow.1]; rfl)) ?_)
    | refine a_ld1 h ?_
    | refine a_ldN h ?_
    | refine a_rs1 h ?_
    | refine a_rsN h ?_
    | (refine u_draw h ?_; clear h; intro W h)
    | refine a_rd1 h ?_
    | refine a_rdN h ?_
    | (refine u_nr h ?_; clear h; intro b W h)
    | (refine u_bx h ?_; clear h; intro b W h)
    | (refine u_al h ?_; clear h; intro b W h)
    | (refine a_st h ?_; clear h; intro W h))
            by_cases hb : lk[q] = ls[i]
            · have d5 : (lk[q].1 == ls[i].1 && (lk[q].2 == ls[i].2 && true)) = true := by rw [hb]; simp
              repeat (first
    | simp only [d5, ↓fa63_0, ↓fa60_0, ↓ld58, ↓rd58, ↓ld66, ↓rd66, ↓al68, ↓st68, ↓fa68_0, ↓ld3, ↓rd3, ↓len72, ↓ia72, ↓ld68, ↓rd68, ↓eqeql66_false, ↓len69, ↓ia69, ↓fa68_1, ↓fa66_0, ↓eqneq68_false, ↓GG, NN, Nat.reduceAdd]
    | refine a_ld1 h ?_
    | refine a_ldN h ?_
    | refine a_rs1 h ?_
    | refine a_rsN h ?_
    | (refine u_draw h ?_; clear h; intro W h)
    | refine a_rd1 h ?_
    | refine a_rdN h ?_
    | (refine u_nr h ?_; clear h; intro b W h)
    | (refine u_bx h ?_; clear h; intro b W h)
    | (refine u_al h ?_; clear h; intro b W h)
    | (refine a_st h ?_; clear h; intro W h))
              rw [wrap_succ (by omega)]
              refine ⟨⟨q + 1, by omega, ?_, h.subA⟩, ?_⟩
              · rw [htk, decide_eq_true (List.mem_append.2 (.inr (by rw [hb]; simp)))]
              · simp only [vInt]; omega
            · have d5 : (lk[q].1 == ls[i].1 && (lk[q].2 == ls[i].2 && true)) = false := by
                rw [Bool.eq_false_iff]
                intro hh
                simp only [Bool.and_eq_true, beq_iff_eq, and_true] at hh
                exact hb (Prod.ext hh.1 hh.2)
              repeat (first
    | simp only [d5, ↓fa63_0, ↓fa60_0, ↓ld58, ↓rd58, ↓ld66, ↓rd66, ↓al68, ↓st68, ↓fa68_0, ↓ld3, ↓rd3, ↓len72, ↓ia72, ↓ld68, ↓rd68, ↓eqeql66_false, ↓len69, ↓ia69, ↓fa68_1, ↓fa66_0, ↓eqneq68_false, ↓GG, NN, Nat.reduceAdd]
    | refine a_ld1 h ?_
    | refine a_ldN h ?_
    | refine a_rs1 h ?_
    | refine a_rsN h ?_
    | (refine u_draw h ?_; clear h; intro W h)
    | refine a_rd1 h ?_
    | refine a_rdN h ?_
    | (refine u_nr h ?_; clear h; intro b W h)
    | (refine u_bx h ?_; clear h; intro b W h)
    | (refine u_al h ?_; clear h; intro b W h)
    | (refine a_st h ?_; clear h; intro W h))
              rw [wrap_succ (by omega)]
              refine ⟨⟨q + 1, by omega, ?_, h.subA⟩, ?_⟩
              · rw [htk, decide_eq_false]
                rw [List.mem_append, List.mem_singleton]
                rintro (hm | hm)
                · exact hmem hm
                · exact hb hm.symm
              · simp only [vInt]; omega
        · have d3 : decide ((q : Int) < (lk.length : Int)) = false := by simp; omega
          have : q = lk.length := by omega
          subst this
          rw [List.take_length]
          repeat (first
    | simp only [d3, ↓fa63_0, ↓fa60_0, ↓ld58, ↓rd58, ↓ld66, ↓rd66, ↓al68, ↓st68, ↓fa68_0, ↓ld3, ↓rd3, ↓len72, ↓ia72, ↓ld68, ↓rd68, ↓eqeql66_false, ↓len69, ↓ia69, ↓fa68_1, ↓fa66_0, ↓eqneq68_false, ↓GG, NN, Nat.reduceAdd]
    | refine a_ld1 h ?_
    | refine a_ldN h ?_
    | refine a_rs1 h ?_
    | refine a_rsN h ?_
    | (refine u_draw h ?_; clear h; intro W h)
    | refine a_rd1 h ?_
    | refine a_rdN h ?_
    | (refine u_nr h ?_; clear h; intro b W h)
    | (refine u_bx h ?_; clear h; intro b W h)
    | (refine u_al h ?_; clear h; intro b W h)
    | (refine a_st h ?_; clear h; intro W h))
          refine u_loop (fun s' w => s' = (.bool (decide (ls[i] ∈ lk)), .int .i64 0) ∧ S w0 (capsC c X2 :: pts mp (mapO slotV es clock) :: Δ3) w) (fun _ _ => 0) ⟨rfl, h⟩ ?_
          clear h
          rintro j3 iv3 W ⟨rfl, h⟩
          have d6 : decide ((0 : Int) < (([] : List Cap).length : Int)) = false := rfl
          repeat (first
    | simp only [d6, ↓fa63_0, ↓fa60_0, ↓ld58, ↓rd58, ↓ld66, ↓rd66, ↓al68, ↓st68, ↓fa68_0, ↓ld3, ↓rd3, ↓len72, ↓ia72, ↓ld68, ↓rd68, ↓eqeql66_false, ↓len69, ↓ia69, ↓fa68_1, ↓fa66_0, ↓eqneq68_false, ↓GG, NN, Nat.reduceAdd]
    | refine a_ld1 h ?_
    | refine a_ldN h ?_
    | refine a_rs1 h ?_
    | refine a_rsN h ?_
    | (refine u_draw h ?_; clear h; intro W h)
    | refine a_rd1 h ?_
    | refine a_rdN h ?_
    | (refine u_nr h ?_; clear h; intro b W h)
    | (refine u_bx h ?_; clear h; intro b W h)
    | (refine u_al h ?_; clear h; intro b W h)
    | (refine a_st h ?_; clear h; intro W h))
          refine u_join (fun v w => ∃ k, v = (.pointer (some ⟨k, 0, none⟩), .int .i64 (X2.s.geta ls[i]).2) ∧ S w0 (pts k (.cells (X2.s.geta ls[i]).1.cells.toArray 68 (0, 0)) :: capsC c X2 :: pts mp (mapO slotV es clock) :: Δ3) w) ?_ ?_
          · obtain ⟨s, t, h'⟩ := caps_open h
            clear h
            have h := h'
            clear h'
            repeat (first
    | simp only [↓fa63_0, ↓fa60_0, ↓ld58, ↓rd58, ↓ld66, ↓rd66, ↓al68, ↓st68, ↓fa68_0, ↓ld3, ↓rd3, ↓len72, ↓ia72, ↓ld68, ↓rd68, ↓eqeql66_false, ↓len69, ↓ia69, ↓fa68_1, ↓fa66_0, ↓eqneq68_false, ↓GG, NN, Nat.reduceAdd]
    | refine a_ld1 h ?_
    | refine a_ldN h ?_
    | refine a_rs1 h ?_
    | refine a_rsN h ?_
    | (refine u_draw h ?_; clear h; intro W h)
    | refine a_rd1 h ?_
    | refine a_rdN h ?_
    | (refine u_nr h ?_; clear h; intro b W h)
    | (refine u_bx h ?_; clear h; intro b W h)
    | (refine u_al h ?_; clear h; intro b W h)
    | (refine a_st h ?_; clear h; intro W h))
            constructor
            · repeat (first
    | simp only [↓fa63_0, ↓fa60_0, ↓ld58, ↓rd58, ↓ld66, ↓rd66, ↓al68, ↓st68, ↓fa68_0, ↓ld3, ↓rd3, ↓len72, ↓ia72, ↓ld68, ↓rd68, ↓eqeql66_false, ↓len69, ↓ia69, ↓fa68_1, ↓fa66_0, ↓eqneq68_false, ↓GG, NN, Nat.reduceAdd]
    | rw [ia72 (by omega)]
    | (refine u_ldN h (by repeat (first | exact kfg3 | apply Knows.tail)) hrow.2 ?_; rw [hrow.1]; simp only [slotCells])
    | (refine And.intro (u_rdN h (by repeat (first | exact kfg3 | apply Knows.tail)) hrow.2 (by rw [hrow.1]; rfl)) ?_)
    | refine a_ld1 h ?_
    | refine a_ldN h ?_
    | refine a_rs1 h ?_
    | refine a_rsN h ?_
    | (refine u_draw h ?_; clear h; intro W h)
    | refine a_rd1 h ?_
    | refine a_rdN h ?_
    | (refine u_nr h ?_; clear h; intro b W h)
    | (refine u_bx h ?_; clear h; intro b W h)
    | (refine u_al h ?_; clear h; intro b W h)
    | (refine a_st h ?_; clear h; intro W h))
              refine r_call (sGet (at_ := ls[i]) h.takeA) ?_
              clear h
              rintro v W ⟨rfl, h⟩
              repeat (first
    | simp only [↓fa63_0, ↓fa60_0, ↓ld58, ↓rd58, ↓ld66, ↓rd66, ↓al68, ↓st68, ↓fa68_0, ↓ld3, ↓rd3, ↓len72, ↓ia72, ↓ld68, ↓rd68, ↓eqeql66_false, ↓len69, ↓ia69, ↓fa68_1, ↓fa66_0, ↓eqneq68_false, ↓GG, NN, Nat.reduceAdd]
    | refine a_ld1 h ?_
    | refine a_ldN h ?_
    | refine a_rs1 h ?_
    | refine a_rsN h ?_
    | (refine u_draw h ?_; clear h; intro W h)
    | refine a_rd1 h ?_
    | refine a_rdN h ?_
    | (refine u_nr h ?_; clear h; intro b W h)
    | (refine u_bx h ?_; clear h; intro b W h)
    | (refine u_al h ?_; clear h; intro b W h)
    | (refine a_st h ?_; clear h; intro W h))
              exact ⟨_, rfl, (S.get3 (c1 := pts _ (.cells (X2.s.geta ls[i]).1.cells.toArray 68 (0, 0))) (c2 := capsC c X2) (c3 := pts mp (mapO slotV es clock)) (caps_shut h (by repeat (first | exact Take.head | apply Take.tail)) (by repeat (first | exact Take.head | apply Take.tail)) (by repeat (first | exact Take.head | apply Take.tail))) (by repeat (first | exact Take.head | apply Take.tail)) (by repeat (first | exact Take.head | apply Take.tail)) (by repeat (first | exact Take.head | apply Take.tail))).subA⟩
            · repeat (first
    | simp only [↓fa63_0, ↓fa60_0, ↓ld58, ↓rd58, ↓ld66, ↓rd66, ↓al68, ↓st68, ↓fa68_0, ↓ld3, ↓rd3, ↓len72, ↓ia72, ↓ld68, ↓rd68, ↓eqeql66_false, ↓len69, ↓ia69, ↓fa68_1, ↓fa66_0, ↓eqneq68_false, ↓GG, NN, Nat.reduceAdd]
    | rw [ia72 (by omega)]
    | (refine u_ldN h (by repeat (first | exact kfg3 | apply Knows.tail)) hrow.2 ?_; rw [hrow.1]; simp only [slotCells])
    | (refine And.intro (u_rdN h (by repeat (first | exact kfg3 | apply Knows.tail)) hrow.2 (by rw [hrow.1]; rfl)) ?_)
    | refine a_ld1 h ?_
    | refine a_ldN h ?_
    | refine a_rs1 h ?_
    | refine a_rsN h ?_
    | (refine u_draw h ?_; clear h; intro W h)
    | refine a_rd1 h ?_
    | refine a_rdN h ?_
    | (refine u_nr h ?_; clear h; intro b W h)
    | (refine u_bx h ?_; clear h; intro b W h)
    | (refine u_al h ?_; clear h; intro b W h)
    | (refine a_st h ?_; clear h; intro W h))
              refine r_call (sGet (at_ := ls[i]) h.takeA) ?_
              clear h
              rintro v W ⟨rfl, h⟩
              repeat (first
    | simp only [↓fa63_0, ↓fa60_0, ↓ld58, ↓rd58, ↓ld66, ↓rd66, ↓al68, ↓st68, ↓fa68_0, ↓ld3, ↓rd3, ↓len72, ↓ia72, ↓ld68, ↓rd68, ↓eqeql66_false, ↓len69, ↓ia69, ↓fa68_1, ↓fa66_0, ↓eqneq68_false, ↓GG, NN, Nat.reduceAdd]
    | refine a_ld1 h ?_
    | refine a_ldN h ?_
    | refine a_rs1 h ?_
    | refine a_rsN h ?_
    | (refine u_draw h ?_; clear h; intro W h)
    | refine a_rd1 h ?_
    | refine a_rdN h ?_
    | (refine u_nr h ?_; clear h; intro b W h)
    | (refine u_bx h ?_; clear h; intro b W h)
    | (refine u_al h ?_; clear h; intro b W h)
    | (refine a_st h ?_; clear h; intro W h))
              exact ⟨_, rfl, (S.get3 (c1 := pts _ (.cells (X2.s.geta ls[i]).1.cells.toArray 68 (0, 0))) (c2 := capsC c X2) (c3 := pts mp (mapO slotV es clock)) (caps_shut h (by repeat (first | exact Take.head | apply Take.tail)) (by repeat (first | exact Take.head | apply Take.tail)) (by repeat (first | exact Take.head | apply Take.tail))) (by repeat (first | exact Take.head | apply Take.tail)) (by repeat (first | exact Take.head | apply Take.tail)) (by repeat (first | exact Take.head | apply Take.tail))).subA⟩
          · clear h
            rintro j4 v W ⟨k, rfl, h⟩
            simp only [Cap.cells] at h
            by_cases hmem : ls[i] ∈ lk
            · have d7 : decide (ls[i] ∈ lk) = true := decide_eq_true hmem
              repeat (first
    | simp only [d7, ↓fa63_0, ↓fa60_0, ↓ld58, ↓rd58, ↓ld66, ↓rd66, ↓al68, ↓st68, ↓fa68_0, ↓ld3, ↓rd3, ↓len72, ↓ia72, ↓ld68, ↓rd68, ↓eqeql66_false, ↓len69, ↓ia69, ↓fa68_1, ↓fa66_0, ↓eqneq68_false, ↓GG, NN, Nat.reduceAdd]
    | refine a_ld1 h ?_
    | refine a_ldN h ?_
    | refine a_rs1 h ?_
    | refine a_rsN h ?_
    | (refine u_draw h ?_; clear h; intro W h)
    | refine a_rd1 h ?_
    | refine a_rdN h ?_
    | (refine u_nr h ?_; clear h; intro b W h)
    | (refine u_bx h ?_; clear h; intro b W h)
    | (refine u_al h ?_; clear h; intro b W h)
    | (refine a_st h ?_; clear h; intro W h))
              rw [wrap_succ (by omega)]
              exact ⟨⟨i + 1, by omega, rfl, h.subA⟩, by simp only [vInt]; omega⟩
            · have d7 : decide (ls[i] ∈ lk) = false := decide_eq_false hmem
              have hcap := hcap2 ls[i]
              rw [if_neg hmem] at hcap
              have hfi : X.s.fl ls[i] := (Store.full_iff hX.ok.s).1 (by rw [← hls]; exact List.getElem_mem hlt)
              have hfi2 : X2.s.fl ls[i] := by unfold Store.fl; rw [hcap]; exact hfi
              have hg2 : (X2.s.geta ls[i]).2 = 0 := by
                obtain ⟨cc, hcc, _⟩ := Store.fl_get hfi2
                unfold Store.geta
                rw [hcc]
                rfl
              have hg1 : (X2.s.geta ls[i]).1 = X.s.cap ls[i] := hcap
              rw [hg1] at h
              have hmg := hget i hlt hlt
              have d8 : ((X2.s.geta ls[i]).2 != 0) = false := by rw [hg2]; rfl
              repeat (first
    | simp only [d7, d8, ↓fa63_0, ↓fa60_0, ↓ld58, ↓rd58, ↓ld66, ↓rd66, ↓al68, ↓st68, ↓fa68_0, ↓ld3, ↓rd3, ↓len72, ↓ia72, ↓ld68, ↓rd68, ↓eqeql66_false, ↓len69, ↓ia69, ↓fa68_1, ↓fa66_0, ↓eqneq68_false, ↓GG, NN, Nat.reduceAdd]
    | rw [ia72 (by omega)]
    | (refine u_ldN h (by repeat (first | exact kfg3 | apply Knows.tail)) hrow.2 ?_; rw [hrow.1]; simp only [slotCells])
    | (refine And.intro (u_rdN h (by repeat (first | exact kfg3 | apply Knows.tail)) hrow.2 (by rw [hrow.1]; rfl)) ?_)
    | refine a_ld1 h ?_
    | refine a_ldN h ?_
    | refine a_rs1 h ?_
    | refine a_rsN h ?_
    | (refine u_draw h ?_; clear h; intro W h)
    | refine a_rd1 h ?_
    | refine a_rdN h ?_
    | (refine u_nr h ?_; clear h; intro b W h)
    | (refine u_bx h ?_; clear h; intro b W h)
    | (refine u_al h ?_; clear h; intro b W h)
    | (refine a_st h ?_; clear h; intro W h))
              refine r_lookup (enc := slotV) keyS (by kernel_rfl) (by kernel_rfl : zeroB Try.prog 68 = some Cap.zero.v) h (Take.knows (by repeat (first | exact Take.head | apply Take.tail))) ls[i] ?_
              rw [hmg, Option.getD_some, Cap.v]
              have d9 := capNe (X.s.cap ls[i]) (X.s.cap ls[i])
              rw [decide_eq_false (by simp)] at d9
              repeat (first
    | simp only [d7, d8, d9, ↓fa63_0, ↓fa60_0, ↓ld58, ↓rd58, ↓ld66, ↓rd66, ↓al68, ↓st68, ↓fa68_0, ↓ld3, ↓rd3, ↓len72, ↓ia72, ↓ld68, ↓rd68, ↓eqeql66_false, ↓len69, ↓ia69, ↓fa68_1, ↓fa66_0, ↓eqneq68_false, ↓GG, NN, Nat.reduceAdd]
    | refine a_ld1 h ?_
    | refine a_ldN h ?_
    | refine a_rs1 h ?_
    | refine a_rsN h ?_
    | (refine u_draw h ?_; clear h; intro W h)
    | refine a_rd1 h ?_
    | refine a_rdN h ?_
    | (refine u_nr h ?_; clear h; intro b W h)
    | (refine u_bx h ?_; clear h; intro b W h)
    | (refine u_al h ?_; clear h; intro b W h)
    | (refine a_st h ?_; clear h; intro W h))
              rw [wrap_succ (by omega)]
              exact ⟨⟨i + 1, by omega, rfl, h.subA⟩, by simp only [vInt]; omega⟩
      · have d1' : decide ((i : Int) < (ls.length : Int)) = false := by simp; omega
        repeat (first
    | simp only [d1', ↓fa63_0, ↓fa60_0, ↓ld58, ↓rd58, ↓ld66, ↓rd66, ↓al68, ↓st68, ↓fa68_0, ↓ld3, ↓rd3, ↓len72, ↓ia72, ↓ld68, ↓rd68, ↓eqeql66_false, ↓len69, ↓ia69, ↓fa68_1, ↓fa66_0, ↓eqneq68_false, ↓GG, NN, Nat.reduceAdd]
    | refine a_ld1 h ?_
    | refine a_ldN h ?_
    | refine a_rs1 h ?_
    | refine a_rsN h ?_
    | (refine u_draw h ?_; clear h; intro W h)
    | refine a_rd1 h ?_
    | refine a_rdN h ?_
    | (refine u_nr h ?_; clear h; intro b W h)
    | (refine u_bx h ?_; clear h; intro b W h)
    | (refine u_al h ?_; clear h; intro b W h)
    | (refine a_st h ?_; clear h; intro W h))
        subst hΔ3 hΔ2 hΔ
        exact ⟨rfl, h.subA⟩
end
end Go.Proofs.Ytpghhaobcikdhaa
