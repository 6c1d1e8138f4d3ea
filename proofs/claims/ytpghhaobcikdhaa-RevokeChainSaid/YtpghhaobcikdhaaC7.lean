/- RevokeTells: what holds behind all calls (plain), and maps of capabilities. -/
import Derived.Test.YtpghhaobcikdhaaC6
import Derived.Test.YtpghhaobcikdhaaHwQ
namespace Go.Proofs.Ytpghhaobcikdhaa
open Go Go.Hw
set_option linter.unusedSimpArgs false
set_option linter.unusedVariables false
set_option maxRecDepth 100000

def isStructD : Option TypeDesc → Bool
  | some (.struct _) => true
  | _ => false
theorem keyC : KeyOk Try.prog T_api_Cap Cap.v := by
  have hs : isStructD (Try.prog.underlying 68) = true := by kernel_rfl
  cases hu : Try.prog.underlying 68 with
  | none => rw [hu] at hs; cases hs
  | some d =>
    rw [hu] at hs
    cases d <;> first | (cases hs; done) | skip
    case struct fs =>
      refine keyOk_agg (cells := fun c : Cap => #[.int .i64 c.kind, .int .i64 c.object, .int .i64 c.rights, .int .u64 c.badge, .int .u64 c.guard, .int .i64 c.bits]) hu (fun e k w => by kernel_rfl) (fun x y w => ?_) (fun k => by simp [Instr.sameBits])
      have h1 := eqi68 9994 w (a0 := x.kind) (b0 := y.kind) (a1 := x.object) (b1 := y.object) (a2 := x.rights) (b2 := y.rights) (a3 := x.badge) (b3 := y.badge) (a4 := x.guard) (b4 := y.guard) (a5 := x.bits) (b5 := y.bits)
      rw [capEq] at h1
      exact h1

/-- behind all calls, many or few -/
def Fin (all : Bool) (X : Caps) (a : Slot) (lk : List Slot) (Xf : Caps) (ts : List Cap) : Prop :=
  match all with
  | true => ts = [] ∧ Xf = takes X lk.reverse
  | false => ∃ (N : Int) (st : St), 0 ≤ N ∧ Run ⟨X, N, []⟩ [a] a (.ok st) ∧ Xf = st.X ∧ ts = st.ts

theorem Fin.same {all : Bool} {X Xf Xg : Caps} {a : Slot} {lk : List Slot} {ts us : List Cap} (h : Fin all X a lk Xf ts) (h' : Fin all X a lk Xg us) : Xf = Xg ∧ ts = us := by
  cases all with
  | true => exact ⟨h.2.trans h'.2.symm, h.1.trans h'.1.symm⟩
  | false =>
    obtain ⟨N, st, hN, hr, rfl, rfl⟩ := h
    obtain ⟨M, st', hM, hr', rfl, rfl⟩ := h'
    have h1 := hr.shift_ok (k := M) (p := []) hM hN
    have h2 := hr'.shift_ok (k := N) (p := []) hN hM
    have e : (St.mk X N []).shift M [] = (St.mk X M []).shift N [] := by unfold St.shift; simp only [St.mk.injEq, true_and, and_true]; omega
    rw [e] at h1
    have := h1.det h2
    injection this with this
    unfold St.shift at this
    simp only [St.mk.injEq, List.nil_append] at this
    exact ⟨this.1, this.2.2⟩

theorem Store.count_pos {σ : Store} (h : σ.Ok) {k o : Int} : σ.count k o ≠ 0 ↔ ∃ b, σ.fl b ∧ (σ.cap b).kind = k ∧ (σ.cap b).object = o := by
  unfold Store.count
  constructor
  · intro hc
    obtain ⟨b, hb⟩ := List.exists_mem_of_length_pos (Nat.pos_of_ne_zero hc)
    obtain ⟨h1, h2⟩ := List.mem_filter.1 hb
    simp only [Store.is, Bool.and_eq_true, beq_iff_eq] at h2
    exact ⟨b, (Store.full_iff h).1 h1, h2.1, h2.2⟩
  · rintro ⟨b, hb, h1, h2⟩ hc
    have : b ∈ σ.full.filter (σ.is k o) := List.mem_filter.2 ⟨(Store.full_iff h).2 hb, by unfold Store.cap at h1 h2; simp [Store.is, h1, h2]⟩
    rw [List.eq_nil_of_length_eq_zero hc] at this
    cases this

/-- what is told is what is gone, once -/
theorem Fin.told {all : Bool} {X Xf : Caps} {a : Slot} {lk : List Slot} {ts : List Cap} (hX : X.Made) (ha : X.s.fl a) (hk : X.t.Kin a lk) (h : Fin all X a lk Xf ts) {k o : Int} (hc : X.s.count k o ≠ 0) :
    (Told ts k o = 1 ↔ Xf.s.count k o = 0) ∧ Told ts k o ≤ 1 := by
  cases all with
  | true =>
    obtain ⟨rfl, rfl⟩ := h
    obtain ⟨h1, h2, h3, h4⟩ := takes_kin hX ha lk.length (l := []) (l2 := lk) rfl hk
    have : (takes X lk.reverse).s.count k o ≠ 0 := by
      rw [Store.count_pos h1.ok.s]
      obtain ⟨b, hb, hb1, hb2⟩ := (Store.count_pos hX.ok.s).1 hc
      by_cases hm : b ∈ lk
      · refine ⟨a, h2, ?_⟩
        have hkey := anc_key hX ((hk.anc b).1 hm)
        injection hkey with e1 e2
        rw [h4, if_neg hk.self]
        exact ⟨e1.symm.trans hb1, e2.symm.trans hb2⟩
      · refine ⟨b, ?_, ?_⟩
        · unfold Store.fl; rw [h4, if_neg hm]; exact hb
        · rw [h4, if_neg hm]; exact ⟨hb1, hb2⟩
    have e : Told [] k o = 0 := rfl
    rw [e]
    exact ⟨⟨fun h => by omega, fun h => absurd h this⟩, by omega⟩
  | false =>
    obtain ⟨N, st, hN, hr, rfl, rfl⟩ := h
    have := (hr.keeps (J := Counted X.s.count) (fun s v hok hv hj => Counted.step s v hok hv hj) hX.ok (Way.one ha) (Counted.start X N)).1 k o
    have h1 : Told st.ts k o = (if X.s.count k o ≠ 0 ∧ st.X.s.count k o = 0 then 1 else 0) := this.1
    rw [h1]
    by_cases hz : st.X.s.count k o = 0
    · rw [if_pos ⟨hc, hz⟩]; exact ⟨⟨fun _ => hz, fun _ => rfl⟩, by omega⟩
    · rw [if_neg (fun e => hz e.2)]; exact ⟨⟨fun h => by omega, fun h => absurd h hz⟩, by omega⟩

/-- few steps at a time: behind so many calls -/
def Few (all : Bool) (X : Caps) (a : Slot) (lk : List Slot) (st i : Nat) (Xi : Caps) (ts : List Cap) : Prop :=
  Xi.s.fl a ∧ match all with
  | true => ts = [] ∧ Xi.Made ∧ ∃ l l2, lk = l ++ l2 ∧ l.length + i * st ≤ 48 ∧ Xi = takes X l2.reverse ∧ Xi.t.Kin a l
  | false => Xi.Ok ∧ Xi.s.full.length + i * st ≤ 48 ∧ ∀ (k : Int) r, 0 ≤ k → Run ⟨Xi, k, ts⟩ [a] a r → Run ⟨X, k + i * st, []⟩ [a] a r

theorem Few.i {all : Bool} {X Xi : Caps} {a : Slot} {lk : List Slot} {st i : Nat} {ts : List Cap} (h : Few all X a lk st i Xi ts) (hs : 1 ≤ st) : i ≤ 48 := by
  have hm : i * 1 ≤ i * st := Nat.mul_le_mul_left i hs
  cases all with
  | true => obtain ⟨_, _, _, l, l2, _, h1, _⟩ := h; omega
  | false => obtain ⟨_, _, h1, _⟩ := h; omega

theorem Few.start {all : Bool} {X : Caps} {a : Slot} {lk : List Slot} {st : Nat} (hX : X.Made) (h3 : X.s.Three) (ha : X.s.fl a) (hk : X.t.Kin a lk) : Few all X a lk st 0 X [] := by
  refine ⟨ha, ?_⟩
  have h48 := three_len hX.ok.s h3 hk.nodup fun y hy => (hX.ok.same y).1 (hk.dom y hy)
  have hf48 := three_len hX.ok.s h3 (Store.full_nodup hX.ok.s.wf) fun y hy => (Store.full_iff hX.ok.s).1 hy
  cases all with
  | true => exact ⟨rfl, hX, lk, [], by simp, by omega, rfl, hk⟩
  | false => exact ⟨hX.ok, by omega, fun k r _ hr => by simpa using hr⟩

theorem Few.del {X Xi : Caps} {a : Slot} {lk : List Slot} {st i : Nat} {ts : List Cap} {r : Out} (h : Few false X a lk st i Xi ts) (hr : Run ⟨Xi, st, []⟩ [a] a r) :
    match r with
    | .ok s => Fin false X a lk s.X (ts ++ s.ts)
    | .spent s => Few false X a lk st (i + 1) s.X (ts ++ s.ts) := by
  obtain ⟨ha, hok, hlen, hcomp⟩ := h
  cases r with
  | ok s =>
    have h1 := hr.shift_ok (k := 0) (p := ts) (by omega) (by simp only; omega)
    have e : (St.mk Xi st []).shift 0 ts = ⟨Xi, st, ts⟩ := by unfold St.shift; simp
    rw [e] at h1
    refine ⟨(st : Int) + i * st, _, by omega, hcomp st _ (by omega) h1, rfl, rfl⟩
  | spent s =>
    have w := hr.left hok (Way.one ha)
    have hok' : s.X.Ok := (hr.keeps (J := fun _ => True) (fun _ _ _ _ _ => trivial) hok (Way.one ha) trivial).2
    obtain ⟨h1, h2⟩ := hr.enough hok (Way.one ha)
    have h3 := hr.spent_n
    have hmul : (i + 1) * st = i * st + st := Nat.succ_mul i st
    refine ⟨w.full a w.mem, hok', ?_, fun k r hk hr2 => ?_⟩
    · simp only at h2
      rw [hmul]
      omega
    · have e2 : s.shift k ts = ⟨s.X, k, ts ++ s.ts⟩ := by unfold St.shift; rw [h3]; simp
      rw [← e2] at hr2
      have h4 := hr.shift_spent (k := k) (p := ts) hk (by simp only; omega) hr2
      have e3 : (St.mk Xi st []).shift k ts = ⟨Xi, st + k, ts⟩ := by unfold St.shift; simp
      rw [e3] at h4
      have h5 := hcomp (st + k) _ (by omega) h4
      have e4 : (k : Int) + ((i + 1 : Nat) : Int) * st = st + k + i * st := by
        have : (((i + 1 : Nat) : Int) * (st : Int)) = ((i * st + st : Nat) : Int) := by rw [← hmul]; simp
        rw [this]
        simp only [Int.natCast_add, Int.natCast_mul]
        omega
      rw [e4]
      exact h5

theorem Few.rev {X Xi : Caps} {a : Slot} {lk : List Slot} {st i : Nat} {ts : List Cap} (h : Few true X a lk st i Xi ts) : ∃ l, Xi.Made ∧ Xi.s.fl a ∧ Xi.t.Kin a l ∧ ts = [] ∧
    match revO Xi l st [] with
    | .ok s => Fin true X a lk s.X []
    | .spent s => Few true X a lk st (i + 1) s.X [] := by
  obtain ⟨ha, rfl, hm, l, l2, rfl, hlen, rfl, hk⟩ := h
  refine ⟨l, hm, ha, hk, rfl, ?_⟩
  unfold revO
  by_cases hl : l.length ≤ st
  · rw [if_pos hl]
    refine ⟨rfl, ?_⟩
    rw [List.reverse_append, takes_append]
  · rw [if_neg hl]
    have el : l = l.take (l.length - st) ++ l.drop (l.length - st) := (List.take_append_drop _ _).symm
    have er : l.reverse.take st = (l.drop (l.length - st)).reverse := by rw [List.take_reverse]
    simp only [er]
    rw [el] at hk
    obtain ⟨h1, h2, h3, h4⟩ := takes_kin hm ha (l.drop (l.length - st)).length rfl hk
    have hmul : (i + 1) * st = i * st + st := Nat.succ_mul i st
    refine ⟨h2, rfl, h1, l.take (l.length - st), l.drop (l.length - st) ++ l2, ?_, ?_, ?_, h3⟩
    · rw [← List.append_assoc, List.take_append_drop]
    · rw [List.length_take, hmul]; omega
    · rw [List.reverse_append, takes_append]

/-- many steps at once -/
theorem once_del {X : Caps} {a : Slot} {lk : List Slot} (hX : X.Made) (h3 : X.s.Three) (ha : X.s.fl a) : ∃ s : St, Run ⟨X, 1000, []⟩ [a] a (.ok s) ∧ Fin false X a lk s.X s.ts := by
  obtain ⟨r, hr⟩ := Run.exists 1000 (st := ⟨X, 1000, []⟩) hX.ok (Way.one ha) rfl
  cases r with
  | ok s => exact ⟨s, hr, 1000, s, by omega, hr, rfl, rfl⟩
  | spent s =>
    have := (hr.enough hX.ok (Way.one ha)).1
    have hf48 := three_len hX.ok.s h3 (Store.full_nodup hX.ok.s.wf) fun y hy => (Store.full_iff hX.ok.s).1 hy
    simp only at this
    omega
theorem once_rev {X : Caps} {a : Slot} {lk : List Slot} (hX : X.Made) (h3 : X.s.Three) (ha : X.s.fl a) (hk : X.t.Kin a lk) : ∃ s : St, revO X lk 1000 [] = .ok s ∧ s.ts = [] ∧ Fin true X a lk s.X [] := by
  have h48 := three_len hX.ok.s h3 hk.nodup fun y hy => (hX.ok.same y).1 (hk.dom y hy)
  unfold revO
  rw [if_pos (by omega)]
  exact ⟨_, rfl, rfl, rfl, rfl⟩
end Go.Proofs.Ytpghhaobcikdhaa
