/- Revoke: how many are left, what is told; a revoke of what was made by copies alone (plain). -/
import Derived.Test.YtpghhaobcikdhaaB4
namespace Go.Proofs.Ytpghhaobcikdhaa
open Go Go.Hw
set_option linter.unusedSimpArgs false
set_option linter.unusedVariables false

theorem St.step_full {st : St} (hok : st.X.Ok) {v : Slot} (hv : st.X.s.fl v) : (st.step v).X.s.full = st.X.s.full.filter fun a => decide (a ≠ v) := by
  rw [Store.full_eq (St.step_ok hok v).s.wf, Store.full_eq hok.s.wf, List.filter_filter]
  refine List.filter_congr fun a _ => ?_
  rw [St.step_cap hok hv]
  by_cases h : a = v <;> simp [h, Cap.zero]
theorem nodup_filter_ne {α : Type} [DecidableEq α] {l : List α} {v : α} (hn : l.Nodup) (hv : v ∈ l) : (l.filter fun a => decide (a ≠ v)).length + 1 = l.length := by
  have e : (l.filter fun a => decide (a ≠ v)) = l.erase v := by
    rw [List.Nodup.erase_eq_filter hn]
    refine List.filter_congr fun a _ => ?_
    by_cases h : a = v <;> simp [h]
  rw [e, List.length_erase_of_mem hv]
  have := List.length_pos_of_mem hv
  omega
theorem St.step_len {st : St} (hok : st.X.Ok) {v : Slot} (hv : st.X.s.fl v) : (st.step v).X.s.full.length + 1 = st.X.s.full.length := by
  rw [St.step_full hok hv]
  exact nodup_filter_ne (Store.full_nodup hok.s.wf) ((Store.full_iff hok.s).2 hv)

theorem Run.len {st : St} {way : List Slot} {a : Slot} {r : Out} (h : Run st way a r) (hok : st.X.Ok) (w : Way st.X way a) : (r.st.X.s.full.length : Int) - r.st.n = st.X.s.full.length - st.n :=
  (h.keeps (J := fun s => (s.X.s.full.length : Int) - s.n = st.X.s.full.length - st.n) (fun s v hok hv hj => by
    have := St.step_len hok hv
    rw [St.step_n]; omega) hok w rfl).1
/-- with as many steps as there are capabilities all is done -/
theorem Run.enough {st st' : St} {way : List Slot} {a : Slot} (h : Run st way a (.spent st')) (hok : st.X.Ok) (w : Way st.X way a) : st.n < st.X.s.full.length ∧ st'.X.s.full.length + st.n = st.X.s.full.length := by
  have h1 := h.len hok w
  have h2 := h.spent_n
  have w' := h.left hok w
  have hok' : st'.X.Ok := (h.keeps (J := fun _ => True) (fun _ _ _ _ _ => trivial) hok w trivial).2
  have := List.length_pos_of_mem ((Store.full_iff hok'.s).2 (w'.full a w'.mem))
  simp only [Out.st] at h1
  omega

theorem St.step_is {st : St} (hok : st.X.Ok) {v a : Slot} (hv : st.X.s.fl v) (ha : a ≠ v) {k o : Int} : (st.step v).X.s.is k o a = st.X.s.is k o a := by
  have := St.step_cap (b := a) hok hv
  rw [if_neg ha] at this
  unfold Store.cap at this
  unfold Store.is
  rw [this]
theorem St.step_count {st : St} (hok : st.X.Ok) {v : Slot} (hv : st.X.s.fl v) (k o : Int) : (st.step v).X.s.count k o + (if st.X.s.is k o v = true then 1 else 0) = st.X.s.count k o := by
  unfold Store.count
  rw [St.step_full hok hv, List.filter_filter]
  have hn := Store.full_nodup hok.s.wf
  have hm := (Store.full_iff hok.s).2 hv
  have e : (st.X.s.full.filter fun a => (st.step v).X.s.is k o a && decide (a ≠ v)) = (st.X.s.full.filter (st.X.s.is k o)).filter fun a => decide (a ≠ v) := by
    rw [List.filter_filter]
    refine List.filter_congr fun a _ => ?_
    by_cases h : a = v
    · simp [h]
    · rw [St.step_is hok hv h, Bool.and_comm]
  rw [e]
  split
  · rename_i hi
    exact nodup_filter_ne (hn.filter _) (List.mem_filter.2 ⟨hm, hi⟩)
  · rename_i hi
    rw [Nat.add_zero]
    congr 1
    rw [List.filter_eq_self]
    intro a ha
    have := (List.mem_filter.1 ha).2
    simp only [decide_eq_true_eq]
    rintro rfl
    exact hi this

/-- how often one of an object is told -/
def Told (ts : List Cap) (k o : Int) : Nat := (ts.filter fun x => x.kind == k && x.object == o).length
theorem told_append (a b : List Cap) (k o : Int) : Told (a ++ b) k o = Told a k o + Told b k o := by
  unfold Told
  rw [List.filter_append, List.length_append]

theorem St.step_told {st : St} (hok : st.X.Ok) {v : Slot} (hv : st.X.s.fl v) (k o : Int) :
    Told (st.step v).ts k o = Told st.ts k o + if st.X.s.is k o v = true ∧ st.X.s.count k o = 1 then 1 else 0 := by
  rw [St.step_ts hv, told_append]
  congr 1
  have hc := Store.count_one hok.s hv
  have hf := Caps.final_iff (a := v) hok.s
  have hfc : st.X.final v = true ↔ st.X.s.count (st.X.s.cap v).kind (st.X.s.cap v).object = 1 := by
    rw [hf, hc]
    exact ⟨fun h => h.2, fun h => ⟨hv, h⟩⟩
  have hi : st.X.s.is k o v = true ↔ (st.X.s.cap v).kind = k ∧ (st.X.s.cap v).object = o := by
    unfold Store.is Store.cap
    simp only [Bool.and_eq_true, beq_iff_eq]
  by_cases h : st.X.s.is k o v = true
  · obtain ⟨h1, h2⟩ := hi.1 h
    rw [h1, h2] at hfc
    by_cases h3 : st.X.s.count k o = 1
    · rw [if_pos (hfc.2 h3), if_pos ⟨h, h3⟩]
      simp [Told, h1, h2]
    · rw [if_neg (fun e => h3 (hfc.1 e)), if_neg (fun e => h3 e.2)]
      rfl
  · have h0 : ¬ (st.X.s.is k o v = true ∧ st.X.s.count k o = 1) := fun e => h e.1
    have : ¬ ((st.X.s.cap v).kind = k ∧ (st.X.s.cap v).object = o) := fun e => h (hi.2 e)
    have h1 : ((st.X.s.cap v).kind == k && (st.X.s.cap v).object == o) = false := by
      rw [Bool.eq_false_iff]
      simpa using this
    simp only [h0, if_false]
    split
    · simp [Told, h1]
    · rfl

/-- what is told is what is gone -/
def Counted (c0 : Int → Int → Nat) (st : St) : Prop := ∀ k o, Told st.ts k o = (if c0 k o ≠ 0 ∧ st.X.s.count k o = 0 then 1 else 0) ∧ st.X.s.count k o ≤ c0 k o
theorem Counted.step {c0 : Int → Int → Nat} (st : St) (v : Slot) (hok : st.X.Ok) (hv : st.X.s.fl v) (h : Counted c0 st) : Counted c0 (st.step v) := by
  intro k o
  obtain ⟨h1, h2⟩ := h k o
  have h3 := St.step_count hok hv k o
  have h4 := St.step_told hok hv k o
  refine ⟨?_, by omega⟩
  rw [h4, h1]
  by_cases hi : st.X.s.is k o v = true
  · simp only [hi, if_true, true_and] at h3 ⊢
    split <;> split <;> split <;> omega
  · simp only [hi, if_false, false_and, Bool.false_eq_true] at h3 ⊢
    split <;> split <;> omega
theorem Counted.start (X : Caps) (n : Int) : Counted X.s.count ⟨X, n, []⟩ := by
  intro k o
  refine ⟨?_, Nat.le_refl _⟩
  rw [if_neg (fun e => e.1 e.2)]
  rfl

/- a revoke -/
def takes (X : Caps) (l : List Slot) : Caps := l.foldl (fun X v => (X.take v).2) X
theorem takes_append (X : Caps) (a b : List Slot) : takes X (a ++ b) = takes (takes X a) b := List.foldl_append

theorem anc_key {X : Caps} (h : X.Made) {a c : Slot} (hc : X.t.Anc a c) : X.key c = X.key a := by
  induction hc with
  | par hd hp => exact h.key _ _ _ hd hp
  | up hd hp _ ih => exact (h.key _ _ _ hd hp).trans ih
theorem Tree.Kin.det {T : Tree} {a : Slot} {l l' : List Slot} (h : T.Kin a l) (h' : KinOf T a l') : l = l' := KinOf.det h.kin h'

theorem not_final {X : Caps} (h : X.Made) {a g : Slot} (ha : X.s.fl a) {l : List Slot} (hk : X.t.Kin a l) (hg : g ∈ l) : X.final g = false := by
  cases hf : X.final g with
  | false => rfl
  | true =>
    have hkey := anc_key h ((hk.anc g).1 hg)
    have := ((Caps.final_iff h.ok.s).1 hf).2 a ha (by injection hkey with e _; exact e.symm) (by injection hkey with _ e; exact e.symm)
    rw [← this] at hg
    exact absurd hg hk.self
theorem kin_take {X : Caps} (h : X.Made) {a g : Slot} (ha : X.s.fl a) {l : List Slot} (hk : X.t.Kin a (l ++ [g])) : (X.take g).2.Made ∧ (X.take g).2.s.fl a ∧ (X.take g).2.t.Kin a l ∧ X.s.fl g ∧ g ∉ l := by
  have hg : g ∈ l ++ [g] := by simp
  have hgf := (h.ok.same g).1 (hk.dom g hg)
  have hag : a ≠ g := fun e => hk.self (e ▸ hg)
  have hnd := List.nodup_append.1 hk.nodup
  have hgl : g ∉ l := fun hm => hnd.2.2 g hm g (by simp) rfl
  refine ⟨Caps.take_made h g, ?_, ?_, hgf, hgl⟩
  · rw [Caps.take_eq hgf]
    exact (fl_take hgf).2 ⟨hag, ha⟩
  · obtain ⟨l', hl'⟩ := Tree.kin_of (Caps.take_ok h.ok g).t a
    have h1 := KinOf.drop h.ok.t hk.kin (hk.dom g hg) hag
    have e : (X.take g).2.t = (X.t.drop g).2 := by rw [Caps.take_eq hgf]
    have e2 : ((l ++ [g]).filter fun x => decide (x ≠ g)) = l := by
      rw [List.filter_append]
      have : ([g].filter fun x => decide (x ≠ g)) = [] := by simp
      rw [this, List.append_nil, List.filter_eq_self]
      intro x hx
      simp only [decide_eq_true_eq]
      exact fun e => hgl (e ▸ hx)
    rw [e2, ← e] at h1
    have := hl'.det h1
    rw [← this]
    exact hl'

theorem snoc_cases {α : Type} (l : List α) : l = [] ∨ ∃ l' g, l = l' ++ [g] := by
  rcases List.eq_nil_or_concat l with h | ⟨l', g, h⟩
  · exact .inl h
  · exact .inr ⟨l', g, by rw [h, List.concat_eq_append]⟩

theorem takes_kin {X : Caps} (h : X.Made) {a : Slot} (ha : X.s.fl a) : ∀ (k : Nat) {l l2 : List Slot}, l2.length = k → X.t.Kin a (l ++ l2) →
    (takes X l2.reverse).Made ∧ (takes X l2.reverse).s.fl a ∧ (takes X l2.reverse).t.Kin a l ∧ ∀ b, (takes X l2.reverse).s.cap b = if b ∈ l2 then Cap.zero else X.s.cap b := by
  intro k
  induction k generalizing X with
  | zero =>
    intro l l2 h2 hk
    have : l2 = [] := List.eq_nil_of_length_eq_zero h2
    subst this
    rw [List.append_nil] at hk
    exact ⟨h, ha, hk, fun b => by simp [takes]⟩
  | succ k ih =>
    intro l l2 h2 hk
    rcases snoc_cases l2 with rfl | ⟨l2, g, rfl⟩
    · cases h2
    · rw [← List.append_assoc] at hk
      obtain ⟨h1, h3, h4, h5, h6⟩ := kin_take h ha hk
      rw [List.length_append, List.length_singleton] at h2
      obtain ⟨i1, i2, i3, i4⟩ := ih h1 h3 (by omega) h4
      have e : takes X (l2 ++ [g]).reverse = takes (X.take g).2 l2.reverse := by rw [List.reverse_append]; rfl
      rw [e]
      refine ⟨i1, i2, i3, fun b => ?_⟩
      rw [i4]
      have ec : (X.take g).2.s.cap b = if b = g then Cap.zero else X.s.cap b := by rw [Caps.take_eq h5]; exact Store.cap_take h5
      rw [ec]
      by_cases hb : b = g
      · simp [hb]
      · simp [hb]

/-- what a revoke of what was made does -/
def revO (X : Caps) (l : List Slot) (n : Nat) (ts : List Cap) : Out :=
  if l.length ≤ n then .ok ⟨takes X l.reverse, n - l.length, ts⟩ else .spent ⟨takes X (l.reverse.take n), 0, ts⟩

theorem rev_loop : ∀ (n : Nat) {X : Caps} {a : Slot} {l : List Slot} {ts : List Cap}, X.Made → X.s.fl a → X.t.Kin a l → ∃ m, m ≤ n + 1 ∧ RLoop m ⟨X, n, ts⟩ a (revO X l n ts) := by
  intro n
  induction n with
  | zero =>
    intro X a l ts h ha hk
    rcases snoc_cases l with rfl | ⟨l, g, rfl⟩
    · refine ⟨0, by omega, ?_⟩
      have e : revO X [] 0 ts = .ok ⟨X, (0 : Nat), ts⟩ := by simp [revO, takes]
      rw [e]
      exact .nokin ha hk.kin
    · refine ⟨1, by omega, ?_⟩
      have e : revO X (l ++ [g]) 0 ts = .spent ⟨X, (0 : Nat), ts⟩ := by simp [revO, takes]
      rw [e]
      have hlen := Store.nodup_len h.ok.s hk.nodup fun x hx => (h.ok.same x).1 (hk.dom x hx)
      rw [List.length_append, List.length_singleton] at hlen
      refine .spent (m := 0) (g := g) ha hk.kin (by omega) ?_
      have hst : (St.mk X (0 : Nat) ts).goes [g] g = none := by
        rw [goes_X]
        exact goes_not (not_final h ha hk (by simp))
      have : (St.mk X (0 : Nat) ts).stepO g = .spent ⟨X, (0 : Nat), ts⟩ := by simp [St.stepO]
      rw [← this]
      exact .stop hst
  | succ n ih =>
    intro X a l ts h ha hk
    rcases snoc_cases l with rfl | ⟨l, g, rfl⟩
    · refine ⟨0, by omega, ?_⟩
      have e : revO X [] (n + 1) ts = .ok ⟨X, ((n + 1 : Nat) : Int), ts⟩ := by simp [revO, takes]
      rw [e]
      exact .nokin ha hk.kin
    · have hf := not_final h ha hk (g := g) (by simp)
      obtain ⟨h1, h3, h4, h5, h6⟩ := kin_take h ha hk
      have hlen := Store.nodup_len h.ok.s hk.nodup fun x hx => (h.ok.same x).1 (hk.dom x hx)
      rw [List.length_append, List.length_singleton] at hlen
      obtain ⟨m, hm, hr⟩ := ih (ts := ts) h1 h3 h4
      refine ⟨0 + m + 1, by omega, ?_⟩
      have e : revO X (l ++ [g]) (n + 1) ts = revO (X.take g).2 l n ts := by
        unfold revO
        rw [List.length_append, List.length_singleton, List.reverse_append]
        by_cases hl : l.length ≤ n
        · rw [if_pos (by omega), if_pos hl]
          congr 2
          omega
        · rw [if_neg (by omega), if_neg hl]
          rfl
      rw [e]
      have hst : (St.mk X ((n + 1 : Nat) : Int) ts).goes [g] g = none := by
        rw [goes_X]
        exact goes_not hf
      have hso : (St.mk X ((n + 1 : Nat) : Int) ts).stepO g = .ok ⟨(X.take g).2, (n : Int), ts⟩ := by
        unfold St.stepO St.step
        rw [if_neg (by simp only; omega)]
        simp only [hf, Bool.false_eq_true, if_false]
        congr 2
        omega
      refine .go (m := 0) (g := g) ha hk.kin (by omega) ?_ hr
      rw [← hso]
      exact .stop hst
end Go.Proofs.Ytpghhaobcikdhaa
