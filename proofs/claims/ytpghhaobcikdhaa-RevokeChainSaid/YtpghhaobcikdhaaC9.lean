/- RevokeChain: nodes in one another (plain). -/
import Derived.Test.YtpghhaobcikdhaaC7
namespace Go.Proofs.Ytpghhaobcikdhaa
open Go Go.Hw
set_option linter.unusedSimpArgs false
set_option linter.unusedVariables false
set_option maxRecDepth 100000

/-- nodes 0 to nn; the capability of node i lies in node i - 1, for i up to k; frames in nodes 1 to k -/
structure Ch (X : Caps) (nn k : Nat) (F : List Slot) : Prop where
  ok : X.Ok
  z : ∀ a c, X.s.get a = some c → c.kind = 0 → c = Cap.zero
  node : ∀ id : Nat, id ≤ nn → X.s.radix id = 2
  gone : ∀ id : Nat, nn < id → X.s.radix id = 0
  kn : k ≤ nn
  fl : ∀ a, X.s.fl a ↔ (∃ i : Nat, i < k ∧ a = ((i : Int), 1)) ∨ a ∈ F
  nd : F.Nodup
  ncap : ∀ i : Nat, i < k → X.s.cap ((i : Int), 1) = ⟨2, ((i + 1 : Nat) : Int), 0, 0, 0, 0⟩
  fat : ∀ a ∈ F, (∃ i : Nat, 1 ≤ i ∧ i ≤ k ∧ a.1 = (i : Int)) ∧ (a.2 = 0 ∨ a.2 = 2)
  fcap : ∀ a ∈ F, (X.s.cap a).kind = 6
  uniq : ∀ a ∈ F, ∀ b ∈ F, (X.s.cap a).object = (X.s.cap b).object → a = b

theorem get_of_radix {X : Caps} (h : X.Ok) {id : Int} (hr : X.s.radix id = 2) {j : Int} (hj : 0 ≤ j ∧ j < 4) : (X.s.get (id, j)).isSome = true := by
  unfold Store.radix at hr
  cases hn : X.s id with
  | none => rw [hn] at hr; cases hr
  | some m =>
    rw [hn] at hr
    simp only at hr
    have hw := (h.s.wf _ _ hn).len
    unfold Store.get
    simp only [hn]
    rw [if_pos ⟨hj.1, by rw [hr]; omega⟩]
    rw [List.getElem?_eq_getElem (by omega)]
    rfl

theorem Ch.final {X : Caps} {nn k : Nat} {F : List Slot} (h : Ch X nn k F) {a : Slot} (ha : X.s.fl a) : X.final a = true := by
  rw [Caps.final_iff h.ok.s]
  refine ⟨ha, fun b hb h1 h2 => ?_⟩
  rcases (h.fl a).1 ha with ⟨i, hi, rfl⟩ | hF
  · rw [h.ncap i hi] at h1 h2
    rcases (h.fl b).1 hb with ⟨j, hj, rfl⟩ | hG
    · rw [h.ncap j hj] at h2
      simp only at h2
      have : j = i := by omega
      rw [this]
    · rw [h.fcap b hG] at h1
      cases h1
  · rcases (h.fl b).1 hb with ⟨j, hj, rfl⟩ | hG
    · rw [h.ncap j hj, h.fcap a hF] at h1
      cases h1
    · exact h.uniq b hG a hF h2

theorem inner_none {X : Caps} {node : Int} {but : List Slot} (h : X.inner node but = none) (hr : X.s.radix node ≠ 0) {i : Nat} (hi : i < 2 ^ X.s.radix node) (hb : (node, (i : Int)) ∉ but) : ¬ X.s.fl (node, (i : Int)) := by
  unfold Caps.inner at h
  have := List.find?_eq_none.1 h (node, (i : Int)) (List.mem_map.2 ⟨i, List.mem_range.2 hi, rfl⟩)
  simp only [Bool.and_eq_true, decide_eq_true_eq, bne_iff_ne, not_and] at this
  intro hf
  exact this hr hb hf

def wayTo (i : Nat) : List Slot := (List.range i).map fun j : Nat => ((j : Int), (1 : Int))
theorem wayTo_succ (i : Nat) : wayTo (i + 1) = wayTo i ++ [((i : Int), 1)] := by
  unfold wayTo
  rw [List.range_succ, List.map_append]
  rfl
theorem wayTo_mem {i : Nat} {a : Slot} (h : a ∈ wayTo i) : ∃ j : Nat, j < i ∧ a = ((j : Int), 1) := by
  obtain ⟨j, hj, rfl⟩ := List.mem_map.1 h
  exact ⟨j, List.mem_range.1 hj, rfl⟩

/-- what goes first: a frame, or the innermost node, which is empty -/
theorem Ch.victim {X : Caps} {k : Nat} {F : List Slot} (h : Ch X k k F) : ∀ (d i : Nat) {v : Slot}, i + d + 1 = k → Chain X (wayTo (i + 1)) ((i : Int), 1) v →
    v ∈ F ∨ (v = (((k - 1 : Nat) : Int), 1) ∧ ∀ a ∈ F, a.1 ≠ (k : Int)) := by
  intro d
  induction d with
  | zero =>
    intro i v hik hc
    have hfl : X.s.fl ((i : Int), 1) := (h.fl _).2 (.inl ⟨i, by omega, rfl⟩)
    have hcap := h.ncap i (by omega)
    have hgo := goes_of (X := X) (way := wayTo (i + 1)) (a := ((i : Int), 1)) (by rw [hcap]) (h.final hfl)
    rw [hcap] at hgo
    simp only at hgo
    have hki : i + 1 = k := by omega
    rw [hki] at hgo hc
    cases hc with
    | stop hs =>
      rw [hs] at hgo
      refine .inr ⟨by rw [← hki]; simp, fun a ha hak => ?_⟩
      have hr := h.node k (Nat.le_refl _)
      have hfa := (h.fl a).2 (.inr ha)
      obtain ⟨⟨q, hq1, hq2, hq3⟩, hq4⟩ := h.fat a ha
      obtain ⟨j, hj⟩ : ∃ j : Nat, a.2 = (j : Int) ∧ j < 4 := by
        rcases hq4 with e | e
        · exact ⟨0, e, by omega⟩
        · exact ⟨2, e, by omega⟩
      have ea : a = ((k : Int), (j : Int)) := Prod.ext hak hj.1
      refine inner_none hgo.symm (by rw [hr]; omega) (i := j) (by rw [hr]; omega) (fun hm => ?_) (by rw [← ea]; exact hfa)
      obtain ⟨j', hj', e⟩ := wayTo_mem hm
      injection e with e _
      omega
    | @go _ _ s _ hs h1 =>
      rw [hs] at hgo
      obtain ⟨n1, n2, n3, _⟩ := inner_some hgo.symm
      rcases (h.fl s).1 n3 with ⟨q, hq, rfl⟩ | hF
      · simp only at n1; omega
      · left
        cases h1 with
        | stop _ => exact hF
        | go h2 _ =>
          have := (goes_some h2).1
          rw [h.fcap s hF] at this
          cases this
  | succ d ih =>
    intro i v hik hc
    have hfl : X.s.fl ((i : Int), 1) := (h.fl _).2 (.inl ⟨i, by omega, rfl⟩)
    have hcap := h.ncap i (by omega)
    have hgo := goes_of (X := X) (way := wayTo (i + 1)) (a := ((i : Int), 1)) (by rw [hcap]) (h.final hfl)
    rw [hcap] at hgo
    simp only at hgo
    cases hc with
    | stop hs =>
      rw [hs] at hgo
      have hr := h.node (i + 1) (by omega)
      have hf2 : X.s.fl (((i + 1 : Nat) : Int), ((1 : Nat) : Int)) := (h.fl _).2 (.inl ⟨i + 1, by omega, rfl⟩)
      exfalso
      refine inner_none hgo.symm (by rw [hr]; omega) (i := 1) (by rw [hr]; omega) (fun hm => ?_) hf2
      obtain ⟨j', hj', e⟩ := wayTo_mem hm
      injection e with e _
      omega
    | @go _ _ s _ hs h1 =>
      rw [hs] at hgo
      obtain ⟨n1, n2, n3, _⟩ := inner_some hgo.symm
      rcases (h.fl s).1 n3 with ⟨q, hq, rfl⟩ | hF
      · simp only at n1
        have : q = i + 1 := by omega
        subst this
        rw [← wayTo_succ] at h1
        exact ih (i + 1) (by omega) h1
      · left
        cases h1 with
        | stop _ => exact hF
        | go h2 _ =>
          have := (goes_some h2).1
          rw [h.fcap s hF] at this
          cases this

theorem z_take {X : Caps} (hz : ∀ a c, X.s.get a = some c → c.kind = 0 → c = Cap.zero) {v : Slot} (hv : X.s.fl v) : ∀ a c, (X.take v).2.s.get a = some c → c.kind = 0 → c = Cap.zero := by
  intro a c hc hk
  rw [Caps.take_eq hv] at hc
  simp only at hc
  rw [get_take hv] at hc
  split at hc
  · injection hc with hc; exact hc.symm
  · exact hz a c hc hk
theorem get_drop {σ : Store} {id : Int} {a : Slot} {c : Cap} (h : (σ.drop id).2.get a = some c) : σ.get a = some c := by
  unfold Store.drop at h
  cases hn : σ id with
  | none => rw [hn] at h; exact h
  | some n =>
    rw [hn] at h
    simp only at h
    split at h
    · unfold Store.get at h ⊢
      by_cases hb : a.1 = id
      · simp only [hb, if_true] at h; cases h
      · simp only [hb, if_false] at h; exact h
    · exact h

/-- a frame is taken -/
theorem Ch.frame {st : St} {k : Nat} {F : List Slot} (h : Ch st.X k k F) {v : Slot} (hv : v ∈ F) : Ch (st.step v).X k k (F.erase v) ∧ (st.step v).ts = st.ts ++ [st.X.s.cap v] ∧ (st.X.s.cap v).kind = 6 := by
  have hf := (h.fl v).2 (.inr hv)
  have hfin := h.final hf
  have hk6 := h.fcap v hv
  have hx : (st.step v).X = (st.X.take v).2 := by
    unfold St.step
    rw [if_pos hfin]
    simp only
    rw [if_neg]
    rw [Caps.take_eq hf]
    show ¬ (st.X.s.cap v).kind = 2
    rw [hk6]; decide
  have hne : ∀ i : Nat, i < k → ((i : Int), (1 : Int)) ≠ v := fun i hi e => by
    have := (h.fat v hv).2
    rw [← e] at this
    simp at this
  have hcap : ∀ b, (st.step v).X.s.cap b = if b = v then Cap.zero else st.X.s.cap b := fun b => St.step_cap h.ok hf
  refine ⟨⟨St.step_ok h.ok v, ?_, fun id hid => ?_, fun id hid => ?_, Nat.le_refl _, fun a => ?_, h.nd.erase v, fun i hi => ?_, fun a ha => h.fat a (List.mem_of_mem_erase ha), fun a ha => ?_, fun a ha b hb hab => ?_⟩, ?_, hk6⟩
  · rw [hx]; exact z_take h.z hf
  · rw [St.step_radix hf (fun e => by rw [hk6] at e; cases e)]; exact h.node id hid
  · rw [St.step_radix hf (fun e => by rw [hk6] at e; cases e)]; exact h.gone id hid
  · rw [St.step_fl h.ok hf, h.fl, List.Nodup.mem_erase_iff h.nd]
    constructor
    · rintro ⟨h1, h2 | h2⟩
      · exact .inl h2
      · exact .inr ⟨h1, h2⟩
    · rintro (⟨i, hi, rfl⟩ | ⟨h1, h2⟩)
      · exact ⟨hne i hi, .inl ⟨i, hi, rfl⟩⟩
      · exact ⟨h1, .inr h2⟩
  · rw [hcap, if_neg (hne i hi)]; exact h.ncap i hi
  · obtain ⟨h1, h2⟩ := (List.Nodup.mem_erase_iff h.nd).1 ha
    rw [hcap, if_neg h1]; exact h.fcap a h2
  · obtain ⟨h1, h2⟩ := (List.Nodup.mem_erase_iff h.nd).1 ha
    obtain ⟨h3, h4⟩ := (List.Nodup.mem_erase_iff h.nd).1 hb
    rw [hcap, hcap, if_neg h1, if_neg h3] at hab
    exact h.uniq a h2 b h4 hab
  · rw [St.step_ts hf, if_pos hfin]

/-- the innermost node's is taken -/
theorem Ch.inner {st : St} {k : Nat} {F : List Slot} (h : Ch st.X (k + 1) (k + 1) F) (hno : ∀ a ∈ F, a.1 ≠ ((k + 1 : Nat) : Int)) :
    Ch (st.step ((k : Int), 1)).X k k F ∧ (st.step ((k : Int), 1)).ts = st.ts ++ [⟨2, ((k + 1 : Nat) : Int), 0, 0, 0, 0⟩] := by
  obtain ⟨v, hv⟩ : ∃ v : Slot, v = ((k : Int), 1) := ⟨_, rfl⟩
  have hf : st.X.s.fl v := (h.fl v).2 (.inl ⟨k, by omega, hv⟩)
  have hfin := h.final hf
  have hc : st.X.s.cap v = ⟨2, ((k + 1 : Nat) : Int), 0, 0, 0, 0⟩ := by rw [hv]; exact h.ncap k (by omega)
  rw [← hv]
  have hx : (st.step v).X = ((st.X.take v).2.clear ((k + 1 : Nat) : Int)).2 := by
    unfold St.step
    rw [if_pos hfin, Caps.take_eq hf, hc]
    rfl
  have hcap : ∀ b, (st.step v).X.s.cap b = if b = v then Cap.zero else st.X.s.cap b := fun b => St.step_cap h.ok hf
  have hvF : v ∉ F := fun hm => by
    have := (h.fat v hm).2
    rw [hv] at this
    simp at this
  have ane : ∀ a ∈ F, a ≠ v := fun a ha e => hvF (by rw [← e]; exact ha)
  have hrk : ∀ id : Nat, id ≠ k + 1 → (st.step v).X.s.radix id = st.X.s.radix id := fun id hid => St.step_radix hf fun _ _ e => hid (by rw [hc] at e; simp only at e; omega)
  refine ⟨⟨St.step_ok h.ok v, ?_, fun id hid => ?_, fun id hid => ?_, Nat.le_refl _, fun a => ?_, h.nd, fun i hi => ?_, fun a ha => ?_, fun a ha => ?_, fun a ha b hb hab => ?_⟩, ?_⟩
  · rw [hx]
    intro a c hac
    exact z_take h.z hf a c (get_drop hac)
  · rw [hrk id (by omega)]; exact h.node id (by omega)
  · by_cases hid' : id = k + 1
    · subst hid'
      rw [hx]
      have hokt := Caps.take_ok h.ok v
      have hr : (st.X.take v).2.s.radix ((k + 1 : Nat) : Int) = 2 := by rw [Caps.take_eq hf]; simp only; rw [Store.radix_take]; exact h.node _ (Nat.le_refl _)
      cases hm : (st.X.take v).2.s ((k + 1 : Nat) : Int) with
      | none => unfold Store.radix at hr; rw [hm] at hr; cases hr
      | some m =>
        have hr2 : m.radix = 2 := by unfold Store.radix at hr; rw [hm] at hr; exact hr
        have hw := hokt.s.wf _ _ hm
        have hall : m.caps = List.replicate 16 Cap.zero := by
          rw [List.eq_replicate_iff]
          refine ⟨hw.len, fun x hxm => ?_⟩
          obtain ⟨j, hj⟩ := List.getElem?_of_mem hxm
          by_cases h4 : 4 ≤ j
          · exact hw.top j x (by rw [hr2]; omega) hj
          · have hg : (st.X.take v).2.s.get (((k + 1 : Nat) : Int), (j : Int)) = some x := by
              unfold Store.get
              simp only [hm]
              rw [if_pos ⟨by omega, by rw [hr2]; omega⟩]
              simpa using hj
            refine z_take h.z hf _ x hg ?_
            by_cases hxk : x.kind = 0
            · exact hxk
            · exfalso
              have hfx := Store.fl_of hg hxk
              rw [Caps.take_eq hf] at hfx
              obtain ⟨_, hfx⟩ := (fl_take hf).1 hfx
              rcases (h.fl _).1 hfx with ⟨q, hq, e⟩ | hF
              · injection e with e _; omega
              · exact hno _ hF rfl
        show ((st.X.take v).2.s.drop _).2.radix _ = 0
        unfold Store.drop
        simp only [hm]
        rw [if_pos hall]
        unfold Store.radix
        simp
    · rw [hrk id hid']; exact h.gone id (by omega)
  · rw [St.step_fl h.ok hf, h.fl]
    constructor
    · rintro ⟨h1, ⟨i, hi, rfl⟩ | h2⟩
      · refine .inl ⟨i, ?_, rfl⟩
        rcases Nat.lt_or_ge i k with hlt | hge
        · exact hlt
        · have : i = k := by omega
          subst this
          exact absurd hv.symm h1
      · exact .inr h2
    · rintro (⟨i, hi, rfl⟩ | h2)
      · refine ⟨fun e => ?_, .inl ⟨i, by omega, rfl⟩⟩
        rw [hv] at e
        injection e with e _
        omega
      · exact ⟨fun e => hvF (e ▸ h2), .inr h2⟩
  · have hne : (((i : Int), (1 : Int)) : Slot) ≠ v := fun e => by rw [hv] at e; injection e with e _; omega
    rw [hcap, if_neg hne]
    exact h.ncap i (by omega)
  · obtain ⟨⟨i, h1, h2, h3⟩, h4⟩ := h.fat a ha
    refine ⟨⟨i, h1, ?_, h3⟩, h4⟩
    rcases Nat.lt_or_ge k i with hlt | hge
    · exact absurd (by rw [h3]; congr 1; omega : a.1 = ((k + 1 : Nat) : Int)) (hno a ha)
    · exact hge
  · rw [hcap, if_neg (ane a ha)]; exact h.fcap a ha
  · rw [hcap, hcap, if_neg (ane a ha), if_neg (ane b hb)] at hab
    exact h.uniq a ha b hb hab
  · rw [St.step_ts hf, if_pos hfin, hc]

/-- what was told so far -/
def isNode (c : Cap) : Bool := c.kind == 2
structure Tl (n m k f : Nat) (ts : List Cap) : Prop where
  len : ts.length + k + f = n + m
  kn : k ≤ n
  nodes : (ts.filter isNode).map (·.object) = (List.range (n - k)).map fun j : Nat => (n : Int) - j

def ChOut (n m : Nat) : Out → Prop
  | .ok s => Ch s.X 0 0 [] ∧ Tl n m 0 0 s.ts
  | .spent s => ∃ k' F', Ch s.X (k' + 1) (k' + 1) F' ∧ Tl n m (k' + 1) F'.length s.ts
theorem run_chain {st : St} {way : List Slot} {a : Slot} {r : Out} (hr : Run st way a r) : ∀ {n m k : Nat} {F : List Slot}, way = [(0, 1)] → a = (0, 1) → Ch st.X (k + 1) (k + 1) F → Tl n m (k + 1) F.length st.ts →
    ChOut n m r := by
  induction hr with
  | spent h => exact fun {n m k F} _ _ hc ht => ⟨k, F, hc, ht⟩
  | @last st way a h hc =>
    intro n m k F hw ha hch ht
    subst hw ha
    rcases hch.victim k 0 (by omega) hc with hF | ⟨hv, hno⟩
    · have := (hch.fat _ hF).2
      simp at this
    · have hk : k = 0 := by injection hv with e _; omega
      subst hk
      obtain ⟨h1, h2⟩ := hch.inner hno
      have hF : F = [] := by
        cases F with
        | nil => rfl
        | cons b F =>
          obtain ⟨⟨i, a1, a2, a3⟩, _⟩ := h1.fat b (by simp)
          omega
      subst hF
      refine ⟨h1, ?_⟩
      have e2 : (st.step ((0 : Int), 1)).ts = st.ts ++ [⟨2, ((0 + 1 : Nat) : Int), 0, 0, 0, 0⟩] := h2
      rw [e2]
      have hkn := ht.kn
      refine ⟨by rw [List.length_append]; have := ht.len; simp at this ⊢; omega, by omega, ?_⟩
      rw [List.filter_append, List.map_append, ht.nodes]
      have e3 : n - 0 = n - (0 + 1) + 1 := by omega
      rw [e3, List.range_succ, List.map_append]
      congr 1
      simp only [isNode, List.filter_cons, List.filter_nil, List.map_cons, List.map_nil]
      simp
      omega
  | @more st way a v r h hc hv h1 ih =>
    intro n m k F hw ha hch ht
    subst hw ha
    rcases hch.victim k 0 (by omega) hc with hF | ⟨hv', hno⟩
    · obtain ⟨h2, h3, h4⟩ := hch.frame hF
      refine ih (n := n) (m := m) (k := k) rfl rfl h2 ?_
      rw [h3]
      have hl := List.length_erase_of_mem hF
      have hp := List.length_pos_of_mem hF
      refine ⟨by rw [List.length_append, hl]; have := ht.len; simp at this ⊢; omega, ht.kn, ?_⟩
      rw [List.filter_append, List.map_append, ht.nodes]
      have : isNode (st.X.s.cap v) = false := by unfold isNode; rw [h4]; rfl
      simp [this]
    · have hk : k ≠ 0 := by
        rintro rfl
        exact hv hv'
      obtain ⟨k', rfl⟩ : ∃ k', k = k' + 1 := ⟨k - 1, by omega⟩
      obtain ⟨h2, h3⟩ := hch.inner hno
      have ev : v = (((k' + 1 : Nat) : Int), 1) := by rw [hv']; simp
      rw [← ev] at h2 h3
      refine ih (n := n) (m := m) (k := k') rfl rfl h2 ?_
      rw [h3]
      have hkn := ht.kn
      refine ⟨by rw [List.length_append]; have := ht.len; simp at this ⊢; omega, by omega, ?_⟩
      rw [List.filter_append, List.map_append, ht.nodes]
      have e3 : n - (k' + 1) = n - (k' + 1 + 1) + 1 := by omega
      rw [e3, List.range_succ, List.map_append]
      congr 1
      simp only [isNode, List.filter_cons, List.filter_nil, List.map_cons, List.map_nil]
      simp
      omega
end Go.Proofs.Ytpghhaobcikdhaa
