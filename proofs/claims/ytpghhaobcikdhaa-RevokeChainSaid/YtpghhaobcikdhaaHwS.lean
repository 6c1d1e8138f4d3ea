/- Memory in pieces that lie apart. -/
import Derived.Test.YtpghhaobcikdhaaHwD
namespace Go.Hw
open Go

abbrev Heap := Nat → Option Obj

/-- a piece of memory: what holds of the blocks of a footprint, and of no others -/
structure Chunk where
  hold : Heap → (Nat → Prop) → Prop
  loc : ∀ h h' fp, (∀ b, fp b → h' b = h b) → hold h fp → hold h' fp
  dom : ∀ h fp, hold h fp → ∀ b, fp b → (h b).isSome = true

def pts (b : Nat) (o : Obj) : Chunk where
  hold h fp := h b = some o ∧ ∀ x, fp x ↔ x = b
  loc h h' fp e hh := ⟨by rw [e b ((hh.2 b).2 rfl)]; exact hh.1, hh.2⟩
  dom h fp hh x hx := by rw [(hh.2 x).1 hx, hh.1]; rfl

def star (c d : Chunk) : Chunk where
  hold h fp := ∃ f g, c.hold h f ∧ d.hold h g ∧ (∀ b, ¬ (f b ∧ g b)) ∧ ∀ b, fp b ↔ f b ∨ g b
  loc h h' fp e hh := by
    obtain ⟨f, g, h1, h2, h3, h4⟩ := hh
    exact ⟨f, g, c.loc h h' f (fun b hb => e b ((h4 b).2 (.inl hb))) h1, d.loc h h' g (fun b hb => e b ((h4 b).2 (.inr hb))) h2, h3, h4⟩
  dom h fp hh b hb := by
    obtain ⟨f, g, h1, h2, h3, h4⟩ := hh
    rcases (h4 b).1 hb with hb | hb
    · exact c.dom h f h1 b hb
    · exact d.dom h g h2 b hb

def emp : Chunk where
  hold _ fp := ∀ b, ¬ fp b
  loc _ _ _ _ hh := hh
  dom _ _ hh b hb := absurd hb (hh b)

def ex {α : Type} (c : α → Chunk) : Chunk where
  hold h fp := ∃ x, (c x).hold h fp
  loc h h' fp e hh := let ⟨x, hx⟩ := hh; ⟨x, (c x).loc h h' fp e hx⟩
  dom h fp hh b hb := let ⟨x, hx⟩ := hh; (c x).dom h fp hx b hb

def fact (p : Prop) : Chunk where
  hold _ fp := p ∧ ∀ b, ¬ fp b
  loc _ _ _ _ hh := hh
  dom _ _ hh b hb := absurd hb (hh.2 b)

def stars : List Chunk → Chunk
  | [] => emp
  | c :: l => star c (stars l)

/-- what was there at first, all of it, as it was -/
def init (w0 : World) : Chunk where
  hold h fp := (∀ b, fp b ↔ b < w0.heap.size) ∧ ∀ b, b < w0.heap.size → h b = w0.heap[b]?
  loc h h' fp e hh := ⟨hh.1, fun b hb => by rw [e b ((hh.1 b).2 hb)]; exact hh.2 b hb⟩
  dom h fp hh b hb := by
    have := (hh.1 b).1 hb
    rw [hh.2 b this]
    simp [this]

def look (w : World) : Heap := fun b => w.heap[b]?

structure S (w0 : World) (Γ : List Chunk) (W : World) : Prop where
  os : W.os = w0.os
  tape : W.tape = w0.tape
  output : W.output = w0.output
  mem : ∃ fp, (stars Γ).hold (look W) fp

theorem S.start (w0 : World) : S w0 [init w0] w0 :=
  ⟨rfl, rfl, rfl, fun b => b < w0.heap.size, fun b => b < w0.heap.size, fun _ => False, ⟨fun _ => Iff.rfl, fun _ _ => rfl⟩, fun _ h => h, fun _ h => h.2, fun _ => ⟨.inl, fun h => h.elim id False.elim⟩⟩

theorem S.drew {w0 : World} {Γ : List Chunk} {W : World} (h : S w0 Γ W) : S w0 Γ W.drew := ⟨h.os, h.tape, h.output, h.mem⟩

theorem S.map {w0 : World} {Γ Γ' : List Chunk} {W : World} (h : S w0 Γ W) (f : ∀ h fp, (stars Γ).hold h fp → ∃ fp', (stars Γ').hold h fp') : S w0 Γ' W :=
  ⟨h.os, h.tape, h.output, let ⟨_, hm⟩ := h.mem; f _ _ hm⟩

theorem S.drop {w0 : World} {c : Chunk} {Γ : List Chunk} {W : World} (h : S w0 (c :: Γ) W) : S w0 Γ W :=
  h.map fun _ _ ⟨_, g, _, h2, _, _⟩ => ⟨g, h2⟩

theorem star_comm_hold {c d : Chunk} {h : Heap} {fp : Nat → Prop} (hh : (star c d).hold h fp) : (star d c).hold h fp :=
  let ⟨f, g, h1, h2, h3, h4⟩ := hh
  ⟨g, f, h2, h1, fun b hb => h3 b ⟨hb.2, hb.1⟩, fun b => (h4 b).trans Or.comm⟩

theorem star_assoc_hold {c d e : Chunk} {h : Heap} {fp : Nat → Prop} (hh : (star c (star d e)).hold h fp) : (star (star c d) e).hold h fp := by
  obtain ⟨f, g, h1, ⟨f2, g2, k1, k2, k3, k4⟩, h3, h4⟩ := hh
  refine ⟨fun b => f b ∨ f2 b, g2, ⟨f, f2, h1, k1, fun b hb => h3 b ⟨hb.1, (k4 b).2 (.inl hb.2)⟩, fun _ => Iff.rfl⟩, k2, fun b hb => ?_, fun b => ?_⟩
  · rcases hb with ⟨hb | hb, hc⟩
    · exact h3 b ⟨hb, (k4 b).2 (.inr hc)⟩
    · exact k3 b ⟨hb, hc⟩
  · rw [h4, k4, or_assoc]

theorem star_assoc_hold' {c d e : Chunk} {h : Heap} {fp : Nat → Prop} (hh : (star (star c d) e).hold h fp) : (star c (star d e)).hold h fp := by
  obtain ⟨f, g, ⟨f2, g2, k1, k2, k3, k4⟩, h2, h3, h4⟩ := hh
  refine ⟨f2, fun b => g2 b ∨ g b, k1, ⟨g2, g, k2, h2, fun b hb => h3 b ⟨(k4 b).2 (.inr hb.1), hb.2⟩, fun _ => Iff.rfl⟩, fun b hb => ?_, fun b => ?_⟩
  · rcases hb with ⟨hc, hb | hb⟩
    · exact k3 b ⟨hc, hb⟩
    · exact h3 b ⟨(k4 b).2 (.inl hc), hb⟩
  · rw [h4, k4, or_assoc]

/-- to take one piece out of a list of pieces -/
inductive Take (c : Chunk) : List Chunk → List Chunk → Prop
  | head {Γ : List Chunk} : Take c (c :: Γ) Γ
  | tail {d : Chunk} {Γ Γ' : List Chunk} (h : Take c Γ Γ') : Take c (d :: Γ) (d :: Γ')

theorem Take.hold {c : Chunk} {Γ Γ' : List Chunk} (t : Take c Γ Γ') {h : Heap} : ∀ {fp : Nat → Prop}, (stars Γ).hold h fp → (stars (c :: Γ')).hold h fp := by
  induction t with
  | head => exact fun hh => hh
  | @tail d Γ Γ' _ ih =>
    intro fp hh
    obtain ⟨f, g, h1, h2, h3, h4⟩ := hh
    have : (star d (star c (stars Γ'))).hold h fp := ⟨f, g, h1, ih h2, h3, h4⟩
    have := star_assoc_hold this
    obtain ⟨f, g, h1, h2, h3, h4⟩ := this
    exact star_assoc_hold' ⟨f, g, star_comm_hold h1, h2, h3, h4⟩

theorem S.take {w0 : World} {c : Chunk} {Γ Γ' : List Chunk} {W : World} (h : S w0 Γ W) (t : Take c Γ Γ') : S w0 (c :: Γ') W :=
  h.map fun _ fp hh => ⟨fp, t.hold hh⟩

theorem S.star {w0 : World} {c d : Chunk} {Γ : List Chunk} {W : World} (h : S w0 (star c d :: Γ) W) : S w0 (c :: d :: Γ) W :=
  h.map fun _ fp hh => ⟨fp, star_assoc_hold' hh⟩
theorem S.unstar {w0 : World} {c d : Chunk} {Γ : List Chunk} {W : World} (h : S w0 (c :: d :: Γ) W) : S w0 (Hw.star c d :: Γ) W :=
  h.map fun _ fp hh => ⟨fp, star_assoc_hold hh⟩
theorem S.ex {w0 : World} {α : Type} {c : α → Chunk} {Γ : List Chunk} {W : World} (h : S w0 (ex c :: Γ) W) : ∃ x, S w0 (c x :: Γ) W := by
  obtain ⟨a, b, d, fp, f, g, ⟨x, hx⟩, h2, h3, h4⟩ := h
  exact ⟨x, a, b, d, fp, f, g, hx, h2, h3, h4⟩
theorem S.unex {w0 : World} {α : Type} {c : α → Chunk} (x : α) {Γ : List Chunk} {W : World} (h : S w0 (c x :: Γ) W) : S w0 (Hw.ex c :: Γ) W :=
  h.map fun _ fp ⟨f, g, h1, h2, h3, h4⟩ => ⟨fp, f, g, ⟨x, h1⟩, h2, h3, h4⟩
theorem S.fact {w0 : World} {p : Prop} {Γ : List Chunk} {W : World} (h : S w0 (fact p :: Γ) W) : p ∧ S w0 Γ W :=
  ⟨let ⟨_, _, _, h1, _⟩ := h.mem; h1.1, h.drop⟩
theorem S.unfact {w0 : World} {p : Prop} (hp : p) {Γ : List Chunk} {W : World} (h : S w0 Γ W) : S w0 (Hw.fact p :: Γ) W :=
  h.map fun _ fp hh => ⟨fp, fun _ => False, fp, ⟨hp, fun _ h => h⟩, hh, fun _ h => h.1, fun _ => ⟨.inr, fun h => h.elim False.elim id⟩⟩
theorem S.unemp {w0 : World} {Γ : List Chunk} {W : World} (h : S w0 Γ W) : S w0 (emp :: Γ) W :=
  h.map fun _ fp hh => ⟨fp, fun _ => False, fp, fun _ h => h, hh, fun _ h => h.1, fun _ => ⟨.inr, fun h => h.elim False.elim id⟩⟩
theorem S.imp {w0 : World} {c d : Chunk} (hcd : ∀ h fp, c.hold h fp → d.hold h fp) {Γ : List Chunk} {W : World} (h : S w0 (c :: Γ) W) : S w0 (d :: Γ) W :=
  h.map fun _ fp ⟨f, g, h1, h2, h3, h4⟩ => ⟨fp, f, g, hcd _ _ h1, h2, h3, h4⟩

/-- a list of pieces as one -/
theorem S.stars {w0 : World} : ∀ {l Γ : List Chunk} {W : World}, S w0 (stars l :: Γ) W → S w0 (l ++ Γ) W
  | [], _, _, h => h.drop
  | c :: l, Γ, W, h => by
    have h1 : S w0 (c :: Hw.stars l :: Γ) W := S.star h
    have h2 : S w0 (Hw.stars l :: c :: Γ) W := h1.take (.tail .head)
    have h3 := S.stars h2
    refine h3.take ?_
    clear h h1 h2 h3
    induction l with
    | nil => exact .head
    | cons d l ih => exact .tail ih
theorem S.unstars {w0 : World} : ∀ {l Γ : List Chunk} {W : World}, S w0 (l ++ Γ) W → S w0 (Hw.stars l :: Γ) W
  | [], _, _, h => h.unemp
  | c :: l, Γ, W, h => by
    have h1 : S w0 ((l ++ (c :: Γ))) W := by
      obtain ⟨a, b, d, fp, hh⟩ := h
      refine ⟨a, b, d, fp, ?_⟩
      clear a b d
      induction l generalizing fp with
      | nil => exact hh
      | cons e l ih =>
        have : (Hw.stars (e :: c :: (l ++ Γ))).hold (look W) fp := Take.hold (.tail .head) hh
        obtain ⟨f, g, h1, h2, h3, h4⟩ := this
        exact ⟨f, g, h1, ih g h2, h3, h4⟩
    have h2 : S w0 (Hw.stars l :: c :: Γ) W := S.unstars h1
    exact S.unstar (h2.take (.tail .head))

theorem perm_hold {Γ Γ' : List Chunk} (p : Γ.Perm Γ') {h : Heap} : ∀ {fp : Nat → Prop}, (Hw.stars Γ).hold h fp → (Hw.stars Γ').hold h fp := by
  induction p with
  | nil => exact fun hh => hh
  | cons c _ ih => exact fun ⟨f, g, h1, h2, h3, h4⟩ => ⟨f, g, h1, ih h2, h3, h4⟩
  | swap c d l => exact fun hh => Take.hold (.tail .head) hh
  | trans _ _ ih1 ih2 => exact fun hh => ih2 (ih1 hh)

theorem S.perm {w0 : World} {Γ Γ' : List Chunk} {W : World} (h : S w0 Γ W) (p : Γ.Perm Γ') : S w0 Γ' W := h.map fun _ fp hh => ⟨fp, perm_hold p hh⟩

theorem sub_hold {Γ Γ' : List Chunk} (p : Γ'.Sublist Γ) {h : Heap} : ∀ {fp : Nat → Prop}, (Hw.stars Γ).hold h fp → ∃ fp', (Hw.stars Γ').hold h fp' ∧ ∀ b, fp' b → fp b := by
  induction p with
  | slnil => exact fun {fp} hh => ⟨fp, hh, fun _ h => h⟩
  | cons c _ ih =>
    rintro fp ⟨f, g, h1, h2, h3, h4⟩
    obtain ⟨fp', k1, k2⟩ := ih h2
    exact ⟨fp', k1, fun b hb => (h4 b).2 (.inr (k2 b hb))⟩
  | cons_cons c _ ih =>
    rintro fp ⟨f, g, h1, h2, h3, h4⟩
    obtain ⟨fp', k1, k2⟩ := ih h2
    exact ⟨fun b => f b ∨ fp' b, ⟨f, fp', h1, k1, fun b hb => h3 b ⟨hb.1, k2 b hb.2⟩, fun _ => Iff.rfl⟩, fun b hb => (h4 b).2 (hb.imp id (k2 b))⟩

/-- pieces may be let go -/
theorem S.sub {w0 : World} {Γ Γ' : List Chunk} {W : World} (h : S w0 Γ W) (p : Γ'.Sublist Γ) : S w0 Γ' W :=
  h.map fun _ _ hh => let ⟨fp', k, _⟩ := sub_hold p hh; ⟨fp', k⟩

/-- one of many pieces; and back -/
theorem S.pick {w0 : World} {α : Type} {f : α → Chunk} {l1 l2 : List α} {x : α} {Γ : List Chunk} {W : World} (h : S w0 (Hw.stars ((l1 ++ x :: l2).map f) :: Γ) W) :
    S w0 (f x :: Hw.stars ((l1 ++ l2).map f) :: Γ) W :=
  S.star (S.imp (d := Hw.stars ((x :: (l1 ++ l2)).map f)) (fun _ _ hh => perm_hold (List.perm_middle.map f) hh) h)
theorem S.unpick {w0 : World} {α : Type} {f : α → Chunk} {l1 l2 : List α} {x : α} {Γ : List Chunk} {W : World} (h : S w0 (f x :: Hw.stars ((l1 ++ l2).map f) :: Γ) W) :
    S w0 (Hw.stars ((l1 ++ x :: l2).map f) :: Γ) W :=
  S.imp (c := Hw.stars ((x :: (l1 ++ l2)).map f)) (fun _ _ hh => perm_hold ((List.perm_middle.map f).symm) hh) (S.unstar h)

/-- what is known of a block -/
def Knows (Γ : List Chunk) (b : Nat) (o : Obj) : Prop := ∀ h fp, (stars Γ).hold h fp → h b = some o

theorem Knows.get {w0 : World} {Γ : List Chunk} {W : World} {b : Nat} {o : Obj} (k : Knows Γ b o) (h : S w0 Γ W) : W.heap[b]? = some o :=
  let ⟨_, hh⟩ := h.mem; k _ _ hh
theorem Knows.head {b : Nat} {o : Obj} {Γ : List Chunk} : Knows (pts b o :: Γ) b o := fun _ _ ⟨_, _, h1, _⟩ => h1.1
theorem Knows.tail {b : Nat} {o : Obj} {c : Chunk} {Γ : List Chunk} (k : Knows Γ b o) : Knows (c :: Γ) b o := fun h _ ⟨_, g, _, h2, _⟩ => k h g h2
theorem Knows.init {w0 : World} {b : Nat} {o : Obj} {Γ : List Chunk} (hb : w0.heap[b]? = some o) : Knows (init w0 :: Γ) b o := fun h _ ⟨_, _, h1, _⟩ => by
  have hlt : b < w0.heap.size := by
    rcases Nat.lt_or_ge b w0.heap.size with h | h
    · exact h
    · rw [Array.getElem?_eq_none h] at hb; cases hb
  rw [h1.2 b hlt, hb]

theorem look_alloc (W : World) (o : Obj) (b : Nat) (h : (look W b).isSome = true) : look (W.alloc o) b = look W b := by
  have : b < W.heap.size := by
    unfold look at h
    rcases Nat.lt_or_ge b W.heap.size with h' | h'
    · exact h'
    · rw [Array.getElem?_eq_none h'] at h; cases h
  show (W.heap.push o)[b]? = W.heap[b]?
  rw [Array.getElem?_push, if_neg (by omega)]

theorem S.alloc {w0 : World} {Γ : List Chunk} {W : World} (h : S w0 Γ W) (o : Obj) : S w0 (pts W.heap.size o :: Γ) (W.alloc o) := by
  obtain ⟨a, b, c, fp, hh⟩ := h
  refine ⟨a, b, c, fun x => x = W.heap.size ∨ fp x, fun x => x = W.heap.size, fp, ⟨?_, fun _ => Iff.rfl⟩, ?_, ?_, fun _ => Iff.rfl⟩
  · show (W.heap.push o)[W.heap.size]? = some o
    simp
  · exact (Hw.stars Γ).loc _ _ _ (fun b hb => look_alloc W o b ((Hw.stars Γ).dom _ _ hh b hb)) hh
  · rintro x ⟨rfl, hx⟩
    have := (Hw.stars Γ).dom _ _ hh _ hx
    simp [look] at this

/-- one piece is turned, by whatever turns its blocks, and new ones, alone -/
theorem S.turn {w0 : World} {c d : Chunk} {Γ : List Chunk} {W W' : World} (h : S w0 (c :: Γ) W) (hos : W'.os = W.os) (ht : W'.tape = W.tape) (ho : W'.output = W.output)
    (f : ∀ fp, c.hold (look W) fp → (∀ b, ¬ fp b → (look W b).isSome = true → look W' b = look W b) ∧ ∃ fp', d.hold (look W') fp' ∧ ∀ b, fp' b → fp b ∨ W.heap.size ≤ b) : S w0 (d :: Γ) W' := by
  obtain ⟨x, y, z, fp, f1, g, h1, h2, h3, h4⟩ := h
  obtain ⟨k1, fp', k2, k3⟩ := f f1 h1
  refine ⟨hos.trans x, ht.trans y, ho.trans z, fun b => fp' b ∨ g b, fp', g, k2, ?_, ?_, fun _ => Iff.rfl⟩
  · exact (Hw.stars Γ).loc _ _ _ (fun b hb => k1 b (fun hf => h3 b ⟨hf, hb⟩) ((Hw.stars Γ).dom _ _ h2 b hb)) h2
  · rintro b ⟨hb, hg⟩
    rcases k3 b hb with h | h
    · exact h3 b ⟨h, hg⟩
    · have := (Hw.stars Γ).dom _ _ h2 b hg
      unfold look at this
      rw [Array.getElem?_eq_none h] at this
      cases this

theorem S.setCell {w0 : World} {b off : Nat} {c : Array Value} {T : TypeId} {fr : Nat × Nat} {Γ : List Chunk} {W : World} (h : S w0 (pts b (.cells c T fr) :: Γ) W) (v : Value) :
    S w0 (pts b (.cells (c.setIfInBounds off v) T fr) :: Γ) (W.setCell ⟨b, off, none⟩ v) := by
  refine h.turn rfl rfl rfl fun fp hh => ⟨fun x hx _ => ?_, fp, ⟨?_, hh.2⟩, fun _ => .inl⟩
  · have : x ≠ b := fun e => hx ((hh.2 x).2 e)
    show (W.heap.modify b _)[x]? = W.heap[x]?
    rw [Array.getElem?_modify, if_neg (fun e => this e.symm)]
  · have hb : W.heap[b]? = some (.cells c T fr) := hh.1
    show (W.heap.modify b _)[b]? = _
    rw [Array.getElem?_modify, if_pos rfl, hb]
    rfl

theorem S.setObj {w0 : World} {b : Nat} {o o' : Obj} {Γ : List Chunk} {W : World} (h : S w0 (pts b o :: Γ) W) :
    S w0 (pts b o' :: Γ) { W with heap := W.heap.setIfInBounds b o' } := by
  refine h.turn rfl rfl rfl fun fp hh => ⟨fun x hx _ => ?_, fp, ⟨?_, hh.2⟩, fun _ => .inl⟩
  · have : x ≠ b := fun e => hx ((hh.2 x).2 e)
    show (W.heap.setIfInBounds b o')[x]? = W.heap[x]?
    rw [Array.getElem?_setIfInBounds_ne (fun e => this e.symm)]
  · have hb : W.heap[b]? = some o := hh.1
    have hlt : b < W.heap.size := by
      rcases Nat.lt_or_ge b W.heap.size with h | h
      · exact h
      · rw [Array.getElem?_eq_none h] at hb; cases hb
    show (W.heap.setIfInBounds b o')[b]? = _
    simp [hlt]

end Go.Hw
