/- Maps: keys that are structs; an entry that is changed in its place. -/
import Derived.Test.YtpghhaobcikdhaaHwO
namespace Go.Hw
open Go
set_option linter.unusedSimpArgs false

section
variable {P : Program} {E : List PanicEntry → World → Prop} {k : Value → World → Prop} {W : World} {w0 : World} {Γ Γ' : List Chunk}
variable {κ : Type} [DecidableEq κ]

theorem keyOk_agg {K : TypeId} {cells : κ → Array Value} {fs : Array Field} (hK : P.underlying K = some (.struct fs)) (hcheck : ∀ e k w, (Instr.checkKey e 10000 K (.agg (cells k))).run P w = .ok () w)
    (heq : ∀ x y w, (Op.equal K (.agg (cells x)) (.agg (cells y))).run P w = .ok (decide (x = y)) w) (hs : ∀ k, Instr.sameBits 10000 (.agg (cells k)) (.agg (cells k)) = true) : KeyOk P K (fun k => .agg (cells k)) := by
  refine ⟨hcheck, fun k es w => ?_, hs⟩
  unfold Instr.findKey
  simp only [Sem.run_bind, run_underlying hK, Result.andThen]
  have hask : ∀ (es : List (κ × Value × Nat)) (i : Nat) w, (Instr.findAsking K (.agg (cells k)) (es.map (mEnt fun k => .agg (cells k))) i).run P w = .ok (mFind k es i) w := by
    intro es
    induction es with
    | nil => intro i w; rfl
    | cons e es ih =>
      intro i w
      simp only [List.map_cons, Instr.findAsking, mEnt, Sem.run_bind]
      rw [heq k e.1 w]
      simp only [Result.andThen, mFind]
      by_cases h : k = e.1
      · simp [h, Sem.run, pure]
      · simp only [h, decide_false, Bool.false_eq_true, if_false]
        exact ih (i + 1) w
  cases es with
  | nil => rfl
  | cons e es =>
    simp only [List.map_cons, Instr.findNow, mEnt, Instr.sameNow]
    exact hask (e :: es) 0 w

theorem r_mapEntry {T K El : TypeId} {enc : κ → Value} (hk : KeyOk P K enc) (hT : P.underlying T = some (.map K El)) {z : Value} (hz : zeroB P El = some z) {m : Nat} {es : List (κ × Value × Nat)} {clock : Nat}
    (h : S w0 Γ W) (tk : Take (pts m (mapO enc es clock)) Γ Γ') (hn : (es.map (·.1)).Nodup) (key : κ)
    (h1 : ∀ (es' : List (κ × Value × Nat)) (clock' stamp : Nat) W', (∃ e ∈ es', e.2.2 = stamp) → (mGet key es').getD z = (mGet key es).getD z → (es'.map (·.1)).Nodup → (∀ e ∈ es', e ∈ es ∨ e.2.1 = z) →
      S w0 (pts m (mapO enc es' clock') :: Γ') W' → k (.tuple #[(mGet key es).getD z, .int .i64 stamp]) W') : oV P E (Instr.mapEntry T (.map (some m)) (enc key)) k W := by
  have hb := tk.knows.get h
  have e1 : (getObj m).run P W = .ok (mapO enc es clock) W := run_getObj hb (by intro c e f h; cases h)
  have hset : ∀ o', (setObj m o').run P W = .ok () { W with heap := W.heap.setIfInBounds m o' } := by
    intro o'
    simp [setObj, Sem.run, hb, mapO]
  have e2 := mFind_get key es 0
  cases hf : mFind key es 0 with
  | none =>
    rw [hf] at e2
    simp only [Option.map_none] at e2
    have hr : (Instr.mapEntry T (.map (some m)) (enc key)).run P W = .ok (.tuple #[z, .int .i64 clock]) { W with heap := W.heap.setIfInBounds m (mapO enc (es ++ [(key, z, clock)]) (clock + 1)) } := by
      unfold Instr.mapEntry
      simp only [Sem.run_bind, run_underlying hT, Result.andThen, e1, mapO]
      rw [hk.check]
      simp only [hk.find, hf, Sem.run_bind, run_zeroValue hz, Result.andThen]
      rw [hset]
      simp only [List.map_append, List.map_cons, List.map_nil, mEnt, Result.andThen]
      simp [Sem.run, pure, goInt]
    rw [oV_run hr]
    have hs := S.setObj (h.take tk) (o' := mapO enc (es ++ [(key, z, clock)]) (clock + 1))
    have := h1 (es ++ [(key, z, clock)]) (clock + 1) clock _ ⟨_, List.mem_append.2 (.inr (List.mem_singleton.2 rfl)), rfl⟩ ?_ ?_ ?_ hs
    · rw [← e2, Option.getD_none] at this
      exact this
    · unfold mGet at e2 ⊢
      rw [List.find?_append]
      cases hfi : es.find? fun e => decide (key = e.1) with
      | none => simp
      | some e => rw [hfi] at e2; cases e2
    · rw [List.map_append, List.nodup_append]
      refine ⟨hn, by simp, fun x hx y hy e => ?_⟩
      simp only [List.map_cons, List.map_nil, List.mem_singleton] at hy
      obtain ⟨q, hq, hqx⟩ := List.mem_map.1 hx
      unfold mGet at e2
      cases hfi : es.find? fun e => decide (key = e.1) with
      | none =>
        have := List.find?_eq_none.1 hfi q hq
        simp only [decide_eq_true_eq] at this
        exact this (by rw [hqx, e, hy])
      | some e => rw [hfi] at e2; cases e2
    · intro e he
      rcases List.mem_append.1 he with he | he
      · exact .inl he
      · rw [List.mem_singleton.1 he]; exact .inr rfl
  | some p =>
    obtain ⟨j, u⟩ := p
    rw [hf] at e2
    simp only [Option.map_some] at e2
    obtain ⟨_, b, hj⟩ := mFind_some es 0 j u hf
    simp only [Nat.sub_zero] at hj
    have hkey : (((es.map (mEnt enc)).toArray[j]?).map (·.key)).getD (enc key) = enc key := by simp [hj, mEnt]
    have hborn : (((es.map (mEnt enc)).toArray[j]?).map fun x => (x.born : Int)).getD 0 = (b : Int) := by simp [hj, mEnt]
    have hstay : (Instr.keyThatStays (enc key) (enc key)).run P W = .ok (enc key) W := by
      unfold Instr.keyThatStays
      rw [hk.same]
      rfl
    have hmod : Obj.map ((es.map (mEnt enc)).toArray.modify j fun e => { e with key := enc key }) clock = mapO enc es clock := by
      unfold mapO
      congr 1
      apply Array.ext'
      simp only [Array.toList_modify]
      apply List.ext_getElem?
      intro x
      simp only [List.getElem?_map, List.getElem?_modify]
      by_cases hx : j = x
      · subst hx
        simp [hj, mEnt]
      · simp [hx]
    have hr : (Instr.mapEntry T (.map (some m)) (enc key)).run P W = .ok (.tuple #[u, .int .i64 b]) { W with heap := W.heap.setIfInBounds m (mapO enc es clock) } := by
      unfold Instr.mapEntry
      simp only [Sem.run_bind, run_underlying hT, Result.andThen, e1, mapO]
      rw [hk.check]
      simp only [hk.find, hf, Sem.run_bind, hkey, hstay, Result.andThen]
      rw [hset, hmod]
      simp only [Result.andThen, hborn]
      rfl
    rw [oV_run hr]
    have hs := S.setObj (h.take tk) (o' := mapO enc es clock)
    have := h1 es clock b _ ⟨_, List.mem_of_getElem? hj, rfl⟩ rfl hn (fun e he => .inl he) hs
    rw [← e2, Option.getD_some] at this
    exact this

omit [DecidableEq κ] in
theorem modify_enc {enc : κ → Value} {v : Value} (es : List (κ × Value × Nat)) (i : Nat) :
    (es.map (mEnt enc)).toArray.modify i (fun e => { e with val := v }) = ((es.modify i fun e => (e.1, v, e.2.2)).map (mEnt enc)).toArray := by
  apply Array.ext'
  simp only [Array.toList_modify]
  apply List.ext_getElem?
  intro x
  simp only [List.getElem?_map, List.getElem?_modify]
  by_cases hx : i = x
  · subst hx
    cases es[i]? <;> simp [mEnt]
  · simp [hx]

omit [DecidableEq κ] in
theorem r_entryStore {T : TypeId} {enc : κ → Value} {m : Nat} {es : List (κ × Value × Nat)} {clock stamp : Nat} {v : Value} (h : S w0 Γ W) (tk : Take (pts m (mapO enc es clock)) Γ Γ') (hs : ∃ e ∈ es, e.2.2 = stamp)
    (h1 : ∀ (i : Nat) W', S w0 (pts m (mapO enc (es.modify i fun e => (e.1, v, e.2.2)) clock) :: Γ') W' → k undef W') : oS P E (Instr.entryStore T (.map (some m)) (.int .i64 stamp) v) k W := by
  have hb := tk.knows.get h
  have e1 : (getObj m).run P W = .ok (mapO enc es clock) W := run_getObj hb (by intro c e f h; cases h)
  have hset : ∀ o', (setObj m o').run P W = .ok () { W with heap := W.heap.setIfInBounds m o' } := by
    intro o'
    simp [setObj, Sem.run, hb, mapO]
  obtain ⟨e, he, hes⟩ := hs
  have hfi : ∃ i, (es.map (mEnt enc)).toArray.findIdx? (fun e => (e.born : Int) == (stamp : Int)) = some i := by
    cases hf : (es.map (mEnt enc)).toArray.findIdx? (fun e => (e.born : Int) == (stamp : Int)) with
    | some i => exact ⟨i, rfl⟩
    | none =>
      exfalso
      have := Array.findIdx?_eq_none_iff.1 hf (mEnt enc e) (by simpa using ⟨e.1, e.2.1, e.2.2, he, rfl⟩)
      simp [mEnt, hes] at this
  obtain ⟨i, hi⟩ := hfi
  have hai : (asInt (.int .i64 stamp)).run P W = .ok (stamp : Int) W := rfl
  have hr : (Instr.entryStore T (.map (some m)) (.int .i64 stamp) v).run P W = .ok () { W with heap := W.heap.setIfInBounds m (mapO enc (es.modify i fun e => (e.1, v, e.2.2)) clock) } := by
    unfold Instr.entryStore
    simp only [Sem.run_bind, Result.andThen, e1, mapO, hai, hi]
    rw [hset, modify_enc]
  rw [oS_run hr]
  exact h1 i _ (S.setObj (h.take tk) (o' := mapO enc (es.modify i fun e => (e.1, v, e.2.2)) clock))
end
end Go.Hw
