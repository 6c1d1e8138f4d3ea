/- Slices of the call's own, and maps. -/
import Derived.Test.YtpghhaobcikdhaaHwR
import Derived.Laws.AppendOwn
import Derived.Laws.StructEq
namespace Go.Hw
open Go
set_option linter.unusedSimpArgs false

/-- a slice value that owns the array behind it -/
def slc (e : TypeId) (size : Nat) (v : Value) (n : Nat) (xs : List Value) : Chunk where
  hold h fp := xs.length = n * size ∧ ((v = .slice none 0 0 ∧ n = 0 ∧ ∀ b, ¬ fp b) ∨
    ∃ g cap cur, v = .slice (some ⟨g, 0, none⟩) n cap ∧ h g = some (.cells cur e (0, 0)) ∧ n ≤ cap ∧ cap ≤ maxLen ∧ cur.size = cap * size ∧ cur.toList.take (n * size) = xs ∧ ∀ b, fp b ↔ b = g)
  loc h h' fp hh k := by
    refine ⟨k.1, k.2.imp id ?_⟩
    rintro ⟨g, cap, cur, h1, h2, h3⟩
    exact ⟨g, cap, cur, h1, by rw [hh g ((h3.2.2.2.2 g).2 rfl)]; exact h2, h3⟩
  dom h fp k b hb := by
    rcases k.2 with ⟨_, _, h⟩ | ⟨g, cap, cur, h1, h2, h3, h4, h5, h6, h7⟩
    · exact absurd hb (h b)
    · rw [(h7 b).1 hb, h2]; rfl

section
variable {P : Program} {E : List PanicEntry → World → Prop} {k : Value → World → Prop} {W : World} {w0 : World} {Γ Γ' : List Chunk}

theorem S.nilSlice (e : TypeId) (size : Nat) (h : S w0 Γ W) : S w0 (slc e size (.slice none 0 0) 0 [] :: Γ) W :=
  h.map fun _ fp hh => ⟨fp, fun _ => False, fp, ⟨by simp, .inl ⟨rfl, rfl, fun _ h => h⟩⟩, hh, fun _ h => h.1, fun _ => ⟨.inr, fun h => h.elim False.elim id⟩⟩

/-- a row of cells that was just made, as a slice -/
theorem S.toSlc {b n cap : Nat} {cur : Array Value} {e : TypeId} {size : Nat} (h : S w0 (pts b (.cells cur e (0, 0)) :: Γ) W) (h1 : n ≤ cap) (h2 : cap ≤ maxLen) (h3 : cur.size = cap * size) :
    S w0 (slc e size (.slice (some ⟨b, 0, none⟩) n cap) n (cur.toList.take (n * size)) :: Γ) W := by
  refine S.imp (c := pts b (.cells cur e (0, 0))) (d := slc e size (.slice (some ⟨b, 0, none⟩) n cap) n (cur.toList.take (n * size))) (fun h fp hh => ⟨?_, .inr ⟨b, cap, cur, rfl, hh.1, h1, h2, h3, rfl, hh.2⟩⟩) h
  rw [List.length_take, Array.length_toList, h3]
  exact Nat.min_eq_left (Nat.mul_le_mul_right _ h1)

theorem S.append {t ty e : TypeId} {i : TypeInfo} {z : Value} {size bytes : Nat} (ht : P.underlying t = some (.slice e)) (hi : P.info? e = some i) (hz : i.zero = some z)
    (hsize : i.size = size) (hby : i.bytes = bytes) (hzs : z.cells.size = size) (hsz : 0 < size) {v : Value} {n : Nat} {xs : List Value} (h : S w0 (slc e size v n xs :: Γ) W)
    {a : Addr} {m c : Nat} {news : List Value} (hl : news.length = m * size) (hnews : ∀ (j : Nat) u, news[j]? = some u → W.cell? (a.add j) = some u) (h1 : ∀ u ∈ news, u.oneCell' = true)
    (h63 : n + m ≤ maxLen) (hbytes : (n + m) * bytes ≤ 140737488355328) :
    ∃ v' W', (Builtin.append_ #[t, t] ty #[v, .slice (some a) m c]).run P W = .ok v' W' ∧ S w0 (slc e size v' (n + m) (xs ++ news) :: Γ) W' := by
  subst hsize
  subst hby
  obtain ⟨q1, q2, q3, fp, f1, g1, hc, hrest, hdis, hun⟩ := id h
  have hsmall : n + m ≤ 9223372036854775807 := by simp only [maxLen] at h63; omega
  have hlen : (xs ++ news).length = (n + m) * i.size := by rw [List.length_append, hc.1, hl, Nat.add_mul]
  have grown : ∀ (old : Nat), old < n + m →
      S w0 (slc e i.size (.slice (some ⟨W.heap.size, 0, none⟩) (n + m) (grownCap W (n + m) old e)) (n + m) (xs ++ news) :: Γ)
        (W.drew.alloc (.cells (xs.toArray ++ news.toArray ++ Builtin.zeroCells z.cells (grownCap W (n + m) old e - (n + m))) e)) := by
    intro old ho
    have hge := grownCap_ge W (n + m) old e
    have hcm : grownCap W (n + m) old e ≤ maxLen := grownCap_le_maxLen W (n + m) old e h63
    have hs := (h.drop.drew).alloc (.cells (xs.toArray ++ news.toArray ++ Builtin.zeroCells z.cells (grownCap W (n + m) old e - (n + m))) e)
    have := S.toSlc (n := n + m) (cap := grownCap W (n + m) old e) (size := i.size) hs hge hcm (by
      simp only [Array.size_append, List.size_toArray, size_zeroCells, hzs, hc.1, hl, ← Nat.add_mul]
      congr 1
      omega)
    have e1 : ((xs.toArray ++ news.toArray ++ Builtin.zeroCells z.cells (grownCap W (n + m) old e - (n + m))).toList.take ((n + m) * i.size)) = xs ++ news := by
      simp only [Array.toList_append, List.append_assoc]
      rw [← List.append_assoc, ← hlen]
      exact List.take_left
    rw [e1] at this
    exact this
  rcases hc.2 with ⟨rfl, rfl, hf⟩ | ⟨g, cap, cur, rfl, hg, hnc, hcm, hcs, htake, hfp⟩
  · have hx : xs = [] := List.eq_nil_of_length_eq_zero (by simpa using hc.1)
    subst hx
    by_cases hm : m = 0
    · subst hm
      have hn : news = [] := List.eq_nil_of_length_eq_zero (by simpa using hl)
      subst hn
      refine ⟨.slice none 0 0, W, ?_, h⟩
      simp [Builtin.append_, Go.run_underlying ht, sizeOf, typeInfo, hi, Builtin.lenOf, Builtin.firstCells, loadCells, loadCellsFrom]
    · have hr := run_append_nil (P := P) W t ty e i z ht hi hz a m c news hl hnews (by omega) (by omega) (by have hb := hbytes; simp only [Nat.zero_add] at hb; omega)
      have hgr := grown 0 (by omega)
      simp only [Nat.zero_add, List.nil_append, Array.empty_append] at hgr ⊢
      exact ⟨_, _, hr, hgr⟩
  · by_cases hroom : n + m ≤ cap
    · have hfit : n * i.size + news.length ≤ cur.size := by rw [hl, hcs, ← Nat.add_mul]; exact Nat.mul_le_mul_right _ hroom
      have hr := run_append_room (P := P) W t ty e i ht hi g n cap cur hg a m c news hl hnews h1 hroom hfit
      refine ⟨_, _, hr, ?_⟩
      refine h.turn rfl rfl rfl fun fp' hh => ?_
      obtain ⟨_, hh2⟩ := hh
      rcases hh2 with ⟨hh2, _⟩ | ⟨g', cap', cur', hv', hg', _, _, _, _, hfp'⟩
      · cases hh2
      · injection hv' with e1 _ e2
        injection e1 with e1
        injection e1 with e1
        subst e1
        refine ⟨fun b hb _ => setRow_other W g b _ (fun e => hb ((hfp' b).2 e)), fp', ⟨hlen, .inr ⟨g, cap, _, rfl, setRow_heap W g cur _ e _ hg, hroom, hcm, ?_, ?_, hfp'⟩⟩, fun _ => .inl⟩
        · simp only [List.size_toArray, List.length_append, List.length_take, List.length_drop, Array.length_toList]
          omega
        · rw [htake, ← hlen]
          exact List.take_left
    · have holds : ∀ (j : Nat) u, xs[j]? = some u → W.cell? ((⟨g, 0, none⟩ : Addr).add j) = some u := by
        intro j u hj
        rw [addr_add]
        rw [← htake, List.getElem?_take] at hj
        split at hj
        · have hg2 : W.heap[g]? = some (.cells cur e (0, 0)) := hg
          simp only [World.cell?, hg2, Option.isSome_none, Bool.false_eq_true, if_false, Nat.zero_add]
          simpa using hj
        · cases hj
      have hr := run_append_grow (P := P) W t ty e i z ht hi hz ⟨g, 0, none⟩ n cap xs hc.1 holds a m c news hl hnews (by omega) (by omega) (growslice_fits (by omega) hbytes)
      exact ⟨_, _, hr, grown cap (by omega)⟩

/- maps -/
variable {κ : Type} [DecidableEq κ]

def mEnt (enc : κ → Value) (e : κ × Value × Nat) : MapEntry := { key := enc e.1, val := e.2.1, born := e.2.2 }
def mapO (enc : κ → Value) (es : List (κ × Value × Nat)) (clock : Nat) : Obj := .map (es.map (mEnt enc)).toArray clock
def mFind (k : κ) : List (κ × Value × Nat) → Nat → Option (Nat × Value)
  | [], _ => none
  | e :: es, i => if k = e.1 then some (i, e.2.1) else mFind k es (i + 1)
def mGet (k : κ) (es : List (κ × Value × Nat)) : Option Value := (es.find? fun e => k = e.1).map (·.2.1)
def mPut (k : κ) (v : Value) (clock : Nat) (es : List (κ × Value × Nat)) : List (κ × Value × Nat) :=
  if (mGet k es).isSome then es.map fun e => if k = e.1 then (e.1, v, e.2.2) else e else es ++ [(k, v, clock)]
def mClock (k : κ) (clock : Nat) (es : List (κ × Value × Nat)) : Nat := if (mGet k es).isSome then clock else clock + 1
def mDel (k : κ) (es : List (κ × Value × Nat)) : List (κ × Value × Nat) := es.filter fun e => k ≠ e.1

structure KeyOk (P : Program) (K : TypeId) (enc : κ → Value) : Prop where
  check : ∀ e k w, (Instr.checkKey e 10000 K (enc k)).run P w = .ok () w
  find : ∀ k (es : List (κ × Value × Nat)) w, (Instr.findKey K (enc k) (es.map (mEnt enc))).run P w = .ok (mFind k es 0) w
  same : ∀ k, Instr.sameBits 10000 (enc k) (enc k) = true

theorem mFind_some {k : κ} : ∀ (es : List (κ × Value × Nat)) (i j : Nat) (v : Value), mFind k es i = some (j, v) → i ≤ j ∧ ∃ b, es[j - i]? = some (k, v, b)
  | [], _, _, _, h => by simp [mFind] at h
  | e :: es, i, j, v, h => by
    unfold mFind at h
    split at h
    · rename_i hk
      simp only [Option.some.injEq, Prod.mk.injEq] at h
      obtain ⟨rfl, rfl⟩ := h
      exact ⟨Nat.le_refl _, e.2.2, by simp [hk]⟩
    · obtain ⟨h1, b, h2⟩ := mFind_some es (i + 1) j v h
      refine ⟨by omega, b, ?_⟩
      rw [show j - i = (j - (i + 1)) + 1 from by omega]
      simpa using h2

theorem mFind_get (k : κ) : ∀ (es : List (κ × Value × Nat)) (i : Nat), (mFind k es i).map (·.2) = mGet k es
  | [], _ => rfl
  | e :: es, i => by
    unfold mFind mGet
    by_cases h : k = e.1
    · simp [h]
    · have := mFind_get k es (i + 1)
      unfold mGet at this
      simp [h, this]

theorem run_getObj {r : Nat} {o : Obj} (h : W.heap[r]? = some o) (ho : ∀ c e f, o ≠ .cells c e f) : (getObj r).run P W = .ok o W := by
  cases o <;> first
    | exact absurd rfl (ho _ _ _)
    | simp [getObj, Sem.run, h]

theorem run_lookup {T K El : TypeId} {enc : κ → Value} (hk : KeyOk P K enc) (hT : P.underlying T = some (.map K El)) {z : Value} (hz : zeroB P El = some z) {m : Nat} {es : List (κ × Value × Nat)} {clock : Nat}
    (hb : W.heap[m]? = some (mapO enc es clock)) (key : κ) (ok : Bool) :
    (Instr.lookup T (.map (some m)) (enc key) ok).run P W = .ok (if ok then .tuple #[(mGet key es).getD z, .bool (mGet key es).isSome] else (mGet key es).getD z) W := by
  unfold Instr.lookup
  have e1 : (getObj m).run P W = .ok (mapO enc es clock) W := run_getObj hb (by intro c e f h; cases h)
  simp only [Sem.run_bind, run_underlying hT, Result.andThen, e1, mapO, Sem.run_pure]
  rw [hk.check]
  simp only [hk.find]
  have e2 := mFind_get key es 0
  cases hf : mFind key es 0 with
  | none =>
    rw [hf] at e2
    simp only [Option.map_none] at e2
    simp only [Sem.run_bind, run_zeroValue hz, Result.andThen, ← e2]
    cases ok <;> rfl
  | some p =>
    rw [hf] at e2
    simp only [Option.map_some] at e2
    simp only [← e2]
    cases ok <;> rfl

theorem r_lookup {T K El : TypeId} {enc : κ → Value} (hk : KeyOk P K enc) (hT : P.underlying T = some (.map K El)) {z : Value} (hz : zeroB P El = some z) {m : Nat} {es : List (κ × Value × Nat)} {clock : Nat}
    (h : S w0 Γ W) (hb : Knows Γ m (mapO enc es clock)) (key : κ) (h1 : k ((mGet key es).getD z) W) : oR P (Instr.lookup T (.map (some m)) (enc key) false) k W :=
  ⟨_, by rw [run_lookup hk hT hz (hb.get h)]; rfl, h1⟩
theorem r_lookup2 {T K El : TypeId} {enc : κ → Value} (hk : KeyOk P K enc) (hT : P.underlying T = some (.map K El)) {z : Value} (hz : zeroB P El = some z) {m : Nat} {es : List (κ × Value × Nat)} {clock : Nat}
    (h : S w0 Γ W) (hb : Knows Γ m (mapO enc es clock)) (key : κ) (h1 : k (.tuple #[(mGet key es).getD z, .bool (mGet key es).isSome]) W) : oR P (Instr.lookup T (.map (some m)) (enc key) true) k W :=
  ⟨_, by rw [run_lookup hk hT hz (hb.get h)]; rfl, h1⟩

theorem modify_put {enc : κ → Value} {key : κ} {v : Value} : ∀ {es : List (κ × Value × Nat)} {j : Nat} {u : Value} {b : Nat}, (es.map (·.1)).Nodup → es[j]? = some (key, u, b) →
    (es.map fun e => if key = e.1 then (e.1, v, e.2.2) else e) = es.modify j fun e => (e.1, v, e.2.2)
  | [], _, _, _, _, h => by simp at h
  | e :: es, 0, u, b, hn, h => by
    simp only [List.getElem?_cons_zero, Option.some.injEq] at h
    subst h
    simp only [List.map_cons, if_true, List.modify_zero_cons, List.cons.injEq, true_and]
    simp only [List.map_cons, List.nodup_cons, List.mem_map, not_exists, not_and] at hn
    exact (List.map_congr_left (g := id) fun x hx => by
      have := hn.1 x hx
      rw [if_neg (fun e => this e.symm)]; rfl).trans (by simp)
  | e :: es, j + 1, u, b, hn, h => by
    simp only [List.getElem?_cons_succ] at h
    simp only [List.map_cons, List.nodup_cons] at hn
    have hne : key ≠ e.1 := fun he => hn.1 (by rw [← he]; exact List.mem_map.2 ⟨_, List.mem_of_getElem? h, rfl⟩)
    simp only [List.map_cons, if_neg hne, List.modify_succ_cons, List.cons.injEq, true_and]
    exact modify_put (enc := enc) hn.2 h

theorem r_update {T K El : TypeId} {enc : κ → Value} (hk : KeyOk P K enc) (hT : P.underlying T = some (.map K El)) {m : Nat} {es : List (κ × Value × Nat)} {clock : Nat}
    (h : S w0 Γ W) (tk : Take (pts m (mapO enc es clock)) Γ Γ') (hn : (es.map (·.1)).Nodup) (key : κ) (v : Value)
    (h1 : ∀ W', S w0 (pts m (mapO enc (mPut key v clock es) (mClock key clock es)) :: Γ') W' → k undef W') : oS P E (Instr.mapUpdate T (.map (some m)) (enc key) v) k W := by
  have hb := tk.knows.get h
  have e1 : (getObj m).run P W = .ok (mapO enc es clock) W := run_getObj hb (by intro c e f h; cases h)
  have hset : ∀ o', (setObj m o').run P W = .ok () { W with heap := W.heap.setIfInBounds m o' } := by
    intro o'
    simp [setObj, Sem.run, hb, mapO]
  have e2 := mFind_get key es 0
  have main : ∃ W', (Instr.mapUpdate T (.map (some m)) (enc key) v).run P W = .ok () W' ∧ S w0 (pts m (mapO enc (mPut key v clock es) (mClock key clock es)) :: Γ') W' := by
    unfold Instr.mapUpdate
    simp only [Sem.run_bind, run_underlying hT, Result.andThen, e1, mapO]
    rw [hk.check]
    simp only [hk.find]
    cases hf : mFind key es 0 with
    | none =>
      rw [hf] at e2
      simp only [Option.map_none] at e2
      refine ⟨_, hset _, ?_⟩
      have := S.setObj (h.take tk) (o' := mapO enc (mPut key v clock es) (mClock key clock es))
      unfold mPut mClock at this ⊢
      simp only [← e2, Option.isSome_none, Bool.false_eq_true, if_false, mapO, List.map_append, List.map_cons, List.map_nil, mEnt] at this ⊢
      simpa using this
    | some p =>
      obtain ⟨j, u⟩ := p
      rw [hf] at e2
      simp only [Option.map_some] at e2
      obtain ⟨_, b, hj⟩ := mFind_some es 0 j u hf
      simp only [Nat.sub_zero] at hj
      have hkey : (((es.map (mEnt enc)).toArray[j]?).map (·.key)).getD (enc key) = enc key := by simp [hj, mEnt]
      have hstay : (Instr.keyThatStays (enc key) (enc key)).run P W = .ok (enc key) W := by
        unfold Instr.keyThatStays
        rw [hk.same]
        rfl
      simp only [Sem.run_bind, hkey, hstay, Result.andThen]
      refine ⟨_, hset _, ?_⟩
      have := S.setObj (h.take tk) (o' := mapO enc (mPut key v clock es) (mClock key clock es))
      have e3 : mapO enc (mPut key v clock es) (mClock key clock es) = .map ((es.map (mEnt enc)).toArray.modify j fun e => { e with key := enc key, val := v }) clock := by
        unfold mPut mClock
        simp only [← e2, Option.isSome_some, if_true, mapO]
        rw [modify_put (enc := enc) hn hj]
        congr 1
        apply Array.ext'
        simp only [Array.toList_modify]
        apply List.ext_getElem?
        intro x
        simp only [List.getElem?_map, List.getElem?_modify]
        by_cases hx : j = x
        · subst hx
          simp [hj, mEnt]
        · simp [hx]
      rw [← e3]
      exact this
  obtain ⟨W', hr, hs⟩ := main
  rw [oS_run hr]
  exact h1 _ hs

omit [DecidableEq κ] in
theorem eraseIdx_map' {α β : Type} (f : α → β) : ∀ (l : List α) (j : Nat), (l.eraseIdx j).map f = (l.map f).eraseIdx j
  | [], _ => rfl
  | _ :: _, 0 => rfl
  | a :: l, j + 1 => by simp [eraseIdx_map' f l j]

theorem r_delete {T K El ty : TypeId} {enc : κ → Value} (hk : KeyOk P K enc) (hT : P.underlying T = some (.map K El)) {m : Nat} {es : List (κ × Value × Nat)} {clock : Nat}
    (h : S w0 Γ W) (tk : Take (pts m (mapO enc es clock)) Γ Γ') (hn : (es.map (·.1)).Nodup) (key : κ) {kt : TypeId}
    (h1 : ∀ W', S w0 (pts m (mapO enc (mDel key es) clock) :: Γ') W' → k (.tuple #[]) W') : oV P E (Builtin.delete_ #[T, kt] ty #[.map (some m), enc key]) k W := by
  have hb := tk.knows.get h
  have e1 : (getObj m).run P W = .ok (mapO enc es clock) W := run_getObj hb (by intro c e f h; cases h)
  have hset : ∀ o', (setObj m o').run P W = .ok () { W with heap := W.heap.setIfInBounds m o' } := by
    intro o'
    simp [setObj, Sem.run, hb, mapO]
  have e2 := mFind_get key es 0
  have main : ∃ W', (Builtin.delete_ #[T, kt] ty #[.map (some m), enc key]).run P W = .ok (.tuple #[]) W' ∧ S w0 (pts m (mapO enc (mDel key es) clock) :: Γ') W' := by
    unfold Builtin.delete_
    have g0 : ((#[T, kt] : Array TypeId)[0]?, (#[Value.map (some m), enc key] : Array Value)[0]?, (#[Value.map (some m), enc key] : Array Value)[1]?) = (some T, some (.map (some m)), some (enc key)) := rfl
    simp only [g0, Sem.run_bind, run_underlying hT, Result.andThen, e1, mapO]
    rw [hk.check]
    simp only [hk.find]
    cases hf : mFind key es 0 with
    | none =>
      rw [hf] at e2
      simp only [Option.map_none] at e2
      refine ⟨_, by simp only [Sem.run_bind, hset]; rfl, ?_⟩
      have hd : mDel key es = es := by
        unfold mDel
        rw [List.filter_eq_self]
        intro x hx
        have hnone : es.find? (fun e => decide (key = e.1)) = none := by
          unfold mGet at e2
          cases hfi : es.find? (fun e => decide (key = e.1)) with
          | none => rfl
          | some y => rw [hfi] at e2; simp at e2
        have := List.find?_eq_none.1 hnone x hx
        simpa using this
      rw [hd]
      exact S.setObj (h.take tk) (o' := mapO enc es clock)
    | some p =>
      obtain ⟨j, u⟩ := p
      obtain ⟨_, b, hj⟩ := mFind_some es 0 j u hf
      simp only [Nat.sub_zero] at hj
      refine ⟨_, by simp only [Sem.run_bind, hset]; rfl, ?_⟩
      have hd : mDel key es = es.eraseIdx j := by
        clear e1 hf e2 hb hset h1 h tk
        unfold mDel
        induction es generalizing j with
        | nil => simp at hj
        | cons e es ih =>
          simp only [List.map_cons, List.nodup_cons] at hn
          cases j with
          | zero =>
            simp only [List.getElem?_cons_zero, Option.some.injEq] at hj
            subst hj
            simp only [List.eraseIdx_cons_zero, List.filter_cons, ne_eq, not_true_eq_false, decide_false, Bool.false_eq_true, if_false]
            rw [List.filter_eq_self]
            intro x hx
            have : x.1 ≠ key := fun e => hn.1 (List.mem_map.2 ⟨x, hx, e⟩)
            simp [this.symm]
          | succ j =>
            simp only [List.getElem?_cons_succ] at hj
            have hne : key ≠ e.1 := fun he => hn.1 (by rw [← he]; exact List.mem_map.2 ⟨_, List.mem_of_getElem? hj, rfl⟩)
            simp only [List.eraseIdx_cons_succ, List.filter_cons, ne_eq, hne, not_false_eq_true, decide_true, if_true]
            rw [← ih hn.2 j (Nat.zero_le _) hj]
            try simp
      have e3 : mapO enc (mDel key es) clock = .map ((es.map (mEnt enc)).toArray.eraseIdxIfInBounds j) clock := by
        rw [hd]
        unfold mapO
        congr 1
        apply Array.ext'
        simp [eraseIdx_map']
      rw [← e3]
      exact S.setObj (h.take tk) (o' := mapO enc (mDel key es) clock)
  obtain ⟨W', hr, hs⟩ := main
  rw [oV_run hr]
  exact h1 _ hs

omit [DecidableEq κ] in
theorem r_makeMap {T : TypeId} {enc : κ → Value} (h : S w0 Γ W) (h1 : ∀ m W', S w0 (pts m (mapO enc [] 0) :: Γ) W' → k (.map (some m)) W') : oV P E (Instr.makeMap T none) k W := by
  have : (Instr.makeMap T none).run P W = .ok (.map (some W.heap.size)) (W.alloc (.map #[] 0)) := rfl
  rw [oV_run this]
  exact h1 _ _ (h.alloc _)

theorem r_append {t ty e : TypeId} {i : TypeInfo} {z : Value} {size bytes : Nat} (ht : P.underlying t = some (.slice e)) (hi : P.info? e = some i) (hz : i.zero = some z)
    (hsize : i.size = size) (hby : i.bytes = bytes) (hzs : z.cells.size = size) (hsz : 0 < size) {v : Value} {n : Nat} {xs : List Value} (h : S w0 Γ W) (tk : Take (slc e size v n xs) Γ Γ')
    {b off : Nat} {c' : Array Value} {T' : TypeId} {fr : Nat × Nat} {m cap : Nat} (hb : Knows Γ b (.cells c' T' fr)) (hin : off + m * size ≤ c'.size)
    (h1 : ∀ u ∈ (c'.toList.drop off).take (m * size), u.oneCell' = true) (h63 : n + m ≤ maxLen) (hbytes : (n + m) * bytes ≤ 140737488355328)
    (hk : ∀ v' W', S w0 (slc e size v' (n + m) (xs ++ (c'.toList.drop off).take (m * size)) :: Γ') W' → k v' W') :
    oV P E (Builtin.append_ #[t, t] ty #[v, .slice (some ⟨b, off, none⟩) m cap]) k W := by
  have hbW := hb.get h
  obtain ⟨v', W', hr, hs⟩ := S.append (P := P) (ty := ty) ht hi hz hsize hby hzs hsz (h.take tk) (a := ⟨b, off, none⟩) (m := m) (c := cap) (news := (c'.toList.drop off).take (m * size))
    (by rw [List.length_take, List.length_drop, Array.length_toList]; omega) (by
      intro j u hj
      rw [addr_add]
      rw [List.getElem?_take] at hj
      split at hj
      · rw [List.getElem?_drop] at hj
        simp only [World.cell?, hbW, Option.isSome_none, Bool.false_eq_true, if_false]
        simpa using hj
      · cases hj) h1 h63 hbytes
  rw [oV_run hr]
  exact hk _ _ hs

/- keys -/
theorem keyOk_int {K : TypeId} (hK : P.underlying K = some (.int .i64)) : KeyOk P K (fun n : Int => .int .i64 n) where
  check e k w := by
    unfold Instr.checkKey
    simp only [Sem.run_bind, run_underlying hK, Result.andThen]
    rfl
  find k es w := by
    unfold Instr.findKey
    simp only [Sem.run_bind, run_underlying hK, Result.andThen]
    have : ∀ (es : List (Int × Value × Nat)) (i : Nat), Instr.findNow (.int .i64) (.int .i64 k) (es.map (mEnt fun n : Int => .int .i64 n)) i = some (mFind k es i) := by
      intro es
      induction es with
      | nil => intro i; rfl
      | cons e es ih =>
        intro i
        simp only [List.map_cons, Instr.findNow, mEnt, Instr.sameNow, if_true]
        by_cases h : k = e.1
        · simp [h, mFind]
        · have hb : (k == e.1) = false := by simpa using h
          rw [hb]
          simp only [mFind, if_neg h]
          exact ih (i + 1)
    rw [this]
    rfl
  same k := by simp [Instr.sameBits]

/-- a key of two ints -/
theorem keyOk_pair {K A B : TypeId} {f g : Field} (hK : P.underlying K = some (.struct #[f, g])) (hp : P.stoodInHeld K = false) (hf : f.type = A) (hg : g.type = B) (ho : f.offset = 0) (ho' : g.offset = 1)
    (hn : f.name ≠ "_") (hn' : g.name ≠ "_") (hA : P.underlying A = some (.int .i64)) (hB : P.underlying B = some (.int .i64)) (hF : P.fieldsOf K = #[f, g]) :
    KeyOk P K (fun p : Int × Int => .agg #[.int .i64 p.1, .int .i64 p.2]) := by
  have hpA : ∀ (cs : Array Value) (v : Value) (o : Nat) w, cs[o]? = some v → (part A cs o).run P w = .ok v w := by
    intro cs v o w hv
    unfold part
    have : (isAgg A).run P w = .ok false w := by
      unfold isAgg
      simp only [Sem.run_bind, run_underlying hA, Result.andThen]; rfl
    simp only [Sem.run_bind, this, Result.andThen, Bool.false_eq_true, if_false, hv]
    rfl
  have hpB : ∀ (cs : Array Value) (v : Value) (o : Nat) w, cs[o]? = some v → (part B cs o).run P w = .ok v w := by
    intro cs v o w hv
    unfold part
    have : (isAgg B).run P w = .ok false w := by
      unfold isAgg
      simp only [Sem.run_bind, run_underlying hB, Result.andThen]; rfl
    simp only [Sem.run_bind, this, Result.andThen, Bool.false_eq_true, if_false, hv]
    rfl
  have heq : ∀ (x y : Int × Int) w, (Op.equal K (.agg #[.int .i64 x.1, .int .i64 x.2]) (.agg #[.int .i64 y.1, .int .i64 y.2])).run P w = .ok (decide (x = y)) w := by
    intro x y w
    unfold Op.equal
    rw [show Op.maxDepth = 9999 + 1 from rfl]
    rw [run_equalIn_struct w 9999 K _ _ (by rw [hF]; exact hK) hp, hF]
    simp only [Op.eqFields, hf, hg, ho, ho', hn, hn', if_true, ne_eq, not_false_eq_true, Sem.run_bind]
    rw [hpA _ (.int .i64 x.1) 0 w rfl]
    simp only [Result.andThen]
    rw [hpA _ (.int .i64 y.1) 0 w rfl]
    simp only [Result.andThen]
    rw [run_equalIn_int _ _ _ _ _ _ _ hA]
    simp only [Result.andThen]
    by_cases h1 : x.1 = y.1
    · have hb : (x.1 == y.1) = true := by simpa using h1
      rw [hb]
      simp only [Bool.not_true, Bool.false_eq_true, if_false, Sem.run_bind]
      rw [hpB _ (.int .i64 x.2) 1 w rfl]
      simp only [Result.andThen]
      rw [hpB _ (.int .i64 y.2) 1 w rfl]
      simp only [Result.andThen]
      rw [run_equalIn_int _ _ _ _ _ _ _ hB]
      simp only [Result.andThen]
      by_cases h2 : x.2 = y.2
      · have hb : (x.2 == y.2) = true := by simpa using h2
        have : x = y := Prod.ext h1 h2
        rw [hb]
        simp [this, Sem.run, pure]
      · have hb : (x.2 == y.2) = false := by simpa using h2
        have : x ≠ y := fun e => h2 (by rw [e])
        rw [hb]
        simp [this, Sem.run, pure]
    · have hb : (x.1 == y.1) = false := by simpa using h1
      have : x ≠ y := fun e => h1 (by rw [e])
      rw [hb]
      simp [this, Sem.run, pure]
  refine ⟨fun e k w => ?_, fun k es w => ?_, fun k => ?_⟩
  · unfold Instr.checkKey
    have hcA : ∀ n w, (Instr.checkKey e 9999 A (.int .i64 n)).run P w = .ok () w := by
      intro n w
      unfold Instr.checkKey
      simp only [Sem.run_bind, run_underlying hA, Result.andThen]; rfl
    have hcB : ∀ n w, (Instr.checkKey e 9999 B (.int .i64 n)).run P w = .ok () w := by
      intro n w
      unfold Instr.checkKey
      simp only [Sem.run_bind, run_underlying hB, Result.andThen]; rfl
    simp only [Sem.run_bind, run_underlying hK, Result.andThen]
    rw [← Array.forIn_toList]
    simp only [List.forIn_cons, List.forIn_nil, hn, hn', hf, hg, ho, ho', ne_eq, not_false_eq_true, if_true, Sem.run_bind]
    rw [hpA _ (.int .i64 k.1) 0 w rfl]
    simp only [Result.andThen, hcA, Sem.run_pure, Sem.run_bind]
    rw [hpB _ (.int .i64 k.2) 1 w rfl]
    simp only [Result.andThen, hcB, Sem.run_pure]
  · unfold Instr.findKey
    simp only [Sem.run_bind, run_underlying hK, Result.andThen]
    have hask : ∀ (es : List ((Int × Int) × Value × Nat)) (i : Nat) w, (Instr.findAsking K (.agg #[.int .i64 k.1, .int .i64 k.2]) (es.map (mEnt fun p : Int × Int => .agg #[.int .i64 p.1, .int .i64 p.2])) i).run P w = .ok (mFind k es i) w := by
      intro es
      induction es with
      | nil => intro i w; rfl
      | cons e es ih =>
        intro i w
        simp only [List.map_cons, Instr.findAsking, mEnt, Sem.run_bind]
        rw [heq k e.1 w]
        simp only [Result.andThen, mFind]
        by_cases h : k = e.1
        · simp [h, Sem.run, pure]
        · simp only [h, decide_false, Bool.false_eq_true, if_false]
          exact ih (i + 1) w
    cases es with
    | nil => rfl
    | cons e es =>
      simp only [List.map_cons, Instr.findNow, mEnt, Instr.sameNow]
      exact hask (e :: es) 0 w
  · simp [Instr.sameBits]
end

section
variable {P : Program} {E : List PanicEntry → World → Prop} {k : Value → World → Prop} {W : World}

theorem eqF_at {t A : TypeId} {i o d : Nat} {xs ys : Array Value} {a b : Value} {r r' : Bool} {w : World}
    (hf : ((P.fieldsOf t).toList[i]?).map (fun f => (f.name != "_", f.type, f.offset)) = some (true, A, o)) (ha : (part A xs o).run P w = .ok a w) (hb : (part A ys o).run P w = .ok b w)
    (he : (Op.equalIn d A a b).run P w = .ok r w) (hfs : (Op.eqFields d xs ys ((P.fieldsOf t).toList.drop (i + 1))).run P w = .ok r' w) :
    (Op.eqFields d xs ys ((P.fieldsOf t).toList.drop i)).run P w = .ok (r && r') w := by
  cases hg : (P.fieldsOf t).toList[i]? with
  | none => rw [hg] at hf; cases hf
  | some f =>
    rw [hg] at hf
    simp only [Option.map_some, Option.some.injEq, Prod.mk.injEq, bne_iff_ne, ne_eq] at hf
    obtain ⟨h1, rfl, rfl⟩ := hf
    have hlt : i < (P.fieldsOf t).toList.length := by
      rcases Nat.lt_or_ge i (P.fieldsOf t).toList.length with h | h
      · exact h
      · rw [List.getElem?_eq_none h] at hg; cases hg
    rw [List.drop_eq_getElem_cons hlt]
    have : (P.fieldsOf t).toList[i] = f := by
      rw [List.getElem?_eq_getElem hlt] at hg
      exact Option.some.inj hg
    rw [this]
    simp only [Op.eqFields, h1, ne_eq, not_false_eq_true, if_true, Sem.run_bind, ha, hb, he, Result.andThen]
    cases r with
    | false => rfl
    | true => simpa using hfs

theorem eqF_end {t : TypeId} {i d : Nat} {xs ys : Array Value} {w : World} (hl : (P.fieldsOf t).toList.drop i = []) : (Op.eqFields d xs ys ((P.fieldsOf t).toList.drop i)).run P w = .ok true w := by
  rw [hl]; rfl

theorem eqIn_struct {t : TypeId} {d : Nat} {xs ys : Array Value} {r : Bool} {w : World} (ht : P.underlying t = some (.struct (P.fieldsOf t))) (hp : P.stoodInHeld t = false)
    (h : (Op.eqFields d xs ys ((P.fieldsOf t).toList.drop 0)).run P w = .ok r w) : (Op.equalIn (d + 1) t (.agg xs) (.agg ys)).run P w = .ok r w := by
  rw [run_equalIn_struct w d t xs ys ht hp]; exact h

theorem bs_eql {t : TypeId} {c : Bool} {xs ys : Array Value} {r : Bool} (hm : P.eqGuardType P.depth t = false) (h : ∀ w, (Op.equalIn (9999 + 1) t (.agg xs) (.agg ys)).run P w = .ok r w) (w : World) :
    (bsem .eql t c (.agg xs) (.agg ys)).run P w = .ok (.bool r) w := by
  unfold bsem
  simp only [Sem.run_bind, run_eqGuard_agg w _ _ _ _ _ _ hm, Result.andThen]
  rw [run_eql_struct]
  rw [show (10000 : Nat) = 9999 + 1 from rfl, h w]
  rfl
theorem bs_neq {t : TypeId} {c : Bool} {xs ys : Array Value} {r : Bool} (hm : P.eqGuardType P.depth t = false) (h : ∀ w, (Op.equalIn (9999 + 1) t (.agg xs) (.agg ys)).run P w = .ok r w) (w : World) :
    (bsem .neq t c (.agg xs) (.agg ys)).run P w = .ok (.bool (!r)) w := by
  unfold bsem
  simp only [Sem.run_bind, run_eqGuard_agg w _ _ _ _ _ _ hm, Result.andThen]
  rw [run_neq_struct]
  rw [show (10000 : Nat) = 9999 + 1 from rfl, h w]
  rfl
end

section
variable {P : Program} {E : List PanicEntry → World → Prop} {k : Value → World → Prop} {W : World} {w0 : World} {Γ Γ' : List Chunk}

theorem oV_same {s s' : Sem Value} (h : ∀ w, s.run P w = s'.run P w) : oV P E s k W = oV P E s' k W := by unfold oV; rw [h]

/-- a new row of cells, as a slice -/
def rowSem (e : TypeId) (cells : Array Value) (l c : Nat) : Sem Value := do pure (.slice (some (← newRow e cells)) l c)
def oNr (P : Program) (E : List PanicEntry → World → Prop) (e : TypeId) (cells : Array Value) (l c : Nat) (k : Value → World → Prop) (w : World) : Prop := oV P E (rowSem e cells l c) k w
theorem nr_of {s : Sem Value} {e : TypeId} {cells : Array Value} {l c : Nat} (h : ∀ w, s.run P w = (rowSem e cells l c).run P w) : oV P E s k W = oNr P E e cells l c k W := oV_same h
theorem u_nr {e : TypeId} {cells : Array Value} {l c : Nat} (h : S w0 Γ W) (hk : ∀ b W', S w0 (pts b (.cells cells e (0, 0)) :: Γ) W' → k (.slice (some ⟨b, 0, none⟩) l c) W') : oNr P E e cells l c k W := by
  have : (rowSem e cells l c).run P W = .ok (.slice (some ⟨W.heap.size, 0, none⟩) l c) (W.alloc (.cells cells e (0, 0))) := rfl
  unfold oNr
  rw [oV_run this]
  exact hk _ _ (h.alloc _)

def ApOk (P : Program) (t e : TypeId) (size bytes : Nat) : Prop :=
  P.underlying t = some (.slice e) ∧ (P.info? e).map (fun i => (i.size, i.bytes, i.zero.map (·.cells.size))) = some (size, bytes, some size) ∧ 0 < size
def oAp (P : Program) (E : List PanicEntry → World → Prop) (t ty e : TypeId) (size bytes : Nat) (v x : Value) (k : Value → World → Prop) (w : World) : Prop :=
  ApOk P t e size bytes → oV P E (Builtin.append_ #[t, t] ty #[v, x]) k w
theorem ap_of {t ty e : TypeId} {size bytes : Nat} {v x : Value} (h : ApOk P t e size bytes) : oV P E (Builtin.append_ #[t, t] ty #[v, x]) k W = oAp P E t ty e size bytes v x k W := by simp [oAp, h]

theorem u_ap {t ty e : TypeId} {size bytes : Nat} {v : Value} {n : Nat} {xs : List Value} (h : S w0 Γ W) (tk : Take (slc e size v n xs) Γ Γ')
    {b off : Nat} {c' : Array Value} {T' : TypeId} {fr : Nat × Nat} {m cap : Nat} (hb : Knows Γ b (.cells c' T' fr)) (hin : off + m * size ≤ c'.size)
    (h1 : ((c'.toList.drop off).take (m * size)).all Value.oneCell' = true) (h63 : n + m ≤ 1000000) (hbytes : bytes ≤ 1000000)
    (hk : ∀ v' W', S w0 (slc e size v' (n + m) (xs ++ (c'.toList.drop off).take (m * size)) :: Γ') W' → k v' W') :
    oAp P E t ty e size bytes v (.slice (some ⟨b, off, none⟩) m cap) k W := by
  rintro ⟨ht, hi, hsz⟩
  cases hinfo : P.info? e with
  | none => rw [hinfo] at hi; cases hi
  | some i =>
    rw [hinfo] at hi
    simp only [Option.map_some, Option.some.injEq, Prod.mk.injEq] at hi
    obtain ⟨e1, e2, e3⟩ := hi
    cases hz : i.zero with
    | none => rw [hz] at e3; cases e3
    | some z =>
      rw [hz] at e3
      simp only [Option.map_some, Option.some.injEq] at e3
      refine r_append ht hinfo hz e1 e2 e3 hsz h tk hb hin (fun u hu => ?_) (by unfold maxLen; omega) ?_ hk
      · rw [List.all_eq_true] at h1; exact h1 u hu
      · exact Nat.le_trans (Nat.mul_le_mul h63 hbytes) (by decide)

theorem u_loop {σ : Type} {body : Env → σ → (σ → World → Prop) → World → Prop} {s : σ} {w : World} (I : σ → World → Prop) (μ : σ → World → Nat) (h0 : I s w)
    (hr : ∀ j s w, I s w → body j s (fun s' w' => I s' w' ∧ μ s' w' < μ s w) w) : oLoop body s w := ⟨I, μ, h0, hr⟩
theorem u_join {σ : Type} {f : (σ → World → Prop) → Prop} {g : Env → σ → World → Prop} (I : σ → World → Prop) (h0 : f I) (hr : ∀ j s w, I s w → g j s w) : oJoin f g := ⟨I, h0, hr⟩
theorem oNr_c {e : TypeId} {cells cells' : Array Value} {l c : Nat} (h : cells = cells') : oNr P E e cells l c k W = oNr P E e cells' l c k W := by rw [h]
theorem oAp_c {t ty e : TypeId} {size bytes : Nat} {v v' x x' : Value} (h : v = v') (h' : x = x') : oAp P E t ty e size bytes v x k W = oAp P E t ty e size bytes v' x' k W := by rw [h, h']
end
attribute [congr] oNr_c oAp_c

section
variable {P : Program} {E : List PanicEntry → World → Prop} {k : Value → World → Prop} {W : World}

theorem run_isAggT {t : TypeId} (h : isAggB P t = true) (w : World) : (isAgg t).run P w = .ok true w := by
  unfold isAggB at h
  cases hd : P.underlying t with
  | none => rw [hd] at h; simp at h
  | some d =>
    rw [hd] at h
    unfold isAgg
    simp only [Sem.run_bind, run_underlying hd]
    cases d <;> first | rfl | simp at h

/-- an element, itself of many cells, of an array value -/
theorem ix_arr {t e : TypeId} {n len : Nat} {cs : Array Value} {i : Int} {q : IntKind} (hu : P.underlying t = some (.array len e)) (ha : isAggB P e = true) (hs : sizeB P e = some n) (hi : 0 ≤ i ∧ i < len) :
    oP P (Instr.index t (.agg cs) (.int q i)) k W = k (.agg ((cs.toList.drop (i.toNat * n)).take n).toArray) W := by
  refine oP_run fun w => ?_
  unfold Instr.index
  simp only [Sem.run_bind, run_asIntOf, run_underlying hu, Result.andThen]
  rw [if_pos hi]
  simp only [Sem.run_bind, run_sizeOf hs, Result.andThen]
  unfold part
  simp only [Sem.run_bind, run_isAggT ha, Result.andThen, if_true, run_sizeOf hs]
  have : cs.extract (i.toNat * n) (i.toNat * n + n) = ((cs.toList.drop (i.toNat * n)).take n).toArray := by
    apply Array.ext'
    simp [Array.toList_extract, List.extract_eq_take_drop]
  rw [this]
  rfl
end

section
variable {P : Program} {E : List PanicEntry → World → Prop} {k : Value → World → Prop} {W : World} {w0 : World} {Γ Γ' : List Chunk}

theorem slc_shape {e : TypeId} {size n : Nat} {v : Value} {xs : List Value} (h : S w0 Γ W) (tk : Take (slc e size v n xs) Γ Γ') : ∃ a c, v = .slice a n c := by
  obtain ⟨_, _, _, fp, hh⟩ := h
  obtain ⟨f, g, hc, _⟩ := tk.hold hh
  rcases hc.2 with ⟨rfl, rfl, _⟩ | ⟨g, cap, cur, rfl, _⟩
  · exact ⟨_, _, rfl⟩
  · exact ⟨_, _, rfl⟩

theorem flat_drop {α : Type} {f : α → List Value} {m : Nat} (hf : ∀ a, (f a).length = m) : ∀ (l : List α) (i : Nat) (h : i < l.length), ((l.flatMap f).drop (i * m)).take m = f l[i]
  | [], _, h => by simp at h
  | a :: l, 0, _ => by
    rw [List.flatMap_cons, Nat.zero_mul, List.drop_zero]
    rw [← hf a]
    exact List.take_left
  | a :: l, i + 1, h => by
    rw [List.flatMap_cons, show (i + 1) * m = (f a).length + i * m from by rw [hf, Nat.add_mul]; omega, List.drop_length_add_append]
    simpa using flat_drop hf l i (by simpa using h)

theorem flat_len {α : Type} {f : α → List Value} {m : Nat} (hf : ∀ a, (f a).length = m) (l : List α) : (l.flatMap f).length = l.length * m := by
  induction l with
  | nil => simp
  | cons a l ih => rw [List.flatMap_cons, List.length_append, ih, hf, List.length_cons, Nat.add_mul]; omega

/-- an element of a slice that owns its array -/
theorem row_read {α : Type} {e : TypeId} {f : α → List Value} {m : Nat} (hf : ∀ a, (f a).length = m) {l : List α} {v : Value} (h : S w0 Γ W) (tk : Take (slc e m v l.length (l.flatMap f)) Γ Γ') {i : Nat} (hi : i < l.length) :
    ∃ g cap cur, v = .slice (some ⟨g, 0, none⟩) l.length cap ∧ W.heap[g]? = some (.cells cur e (0, 0)) ∧ ((cur.toList.drop (i * m)).take m) = f l[i] ∧ i * m + m ≤ cur.size := by
  obtain ⟨_, _, _, fp, hh⟩ := h
  obtain ⟨f1, g1, hc, _⟩ := tk.hold hh
  rcases hc.2 with ⟨rfl, h0, _⟩ | ⟨g, cap, cur, rfl, hg, hn, _, hs, ht, _⟩
  · rw [h0] at hi; omega
  · have hle : i * m + m ≤ l.length * m := by
      have := Nat.mul_le_mul_right m (show i + 1 ≤ l.length from hi)
      rw [Nat.add_mul] at this
      omega
    have hle2 : l.length * m ≤ cur.size := by rw [hs]; exact Nat.mul_le_mul_right _ hn
    refine ⟨g, cap, cur, rfl, hg, ?_, by omega⟩
    rw [← flat_drop hf l i hi, ← ht, List.drop_take, List.take_take]
    congr 1
    omega

/- reads where the block itself is known of the world -/
theorem v_ld1 {t : TypeId} {b off : Nat} {c : Array Value} {T : TypeId} {fr : Nat × Nat} {v : Value} (hb : W.heap[b]? = some (.cells c T fr)) (hv : c.toList[off]? = some v) (hk : k v W) : oLd1 P t (.pointer (some ⟨b, off, none⟩)) k W :=
  fun f f' => ⟨v, run_loadVar1 f f' hb (by simpa using hv), hk⟩
theorem v_ldN {t : TypeId} {b off n : Nat} {c : Array Value} {T : TypeId} {fr : Nat × Nat} (hb : W.heap[b]? = some (.cells c T fr)) (hlen : off + n ≤ c.size) (hk : k (.agg ((c.toList.drop off).take n).toArray) W) :
    oLdN P t n (.pointer (some ⟨b, off, none⟩)) k W := fun f f' => ⟨_, run_loadVarN f f' hb hlen, hk⟩
end

def vInt : Value → Int | .int _ n => n | _ => 0

end Go.Hw
