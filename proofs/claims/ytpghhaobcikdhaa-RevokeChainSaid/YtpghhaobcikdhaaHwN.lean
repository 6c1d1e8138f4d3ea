/- More of the words' rules: arrays compared. -/
import Derived.Test.YtpghhaobcikdhaaHwM
import Derived.Lib.AppendZeros
namespace Go.Hw
open Go
set_option linter.unusedSimpArgs false

section
variable {P : Program} {E : List PanicEntry → World → Prop} {k : Value → World → Prop} {W : World}

theorem run_partN {e : TypeId} {n : Nat} {cs : Array Value} {o : Nat} (ha : isAggB P e = true) (hs : sizeB P e = some n) (w : World) : (part e cs o).run P w = .ok (.agg ((cs.toList.drop o).take n).toArray) w := by
  unfold part
  simp only [Sem.run_bind, run_isAggT ha, Result.andThen, if_true, run_sizeOf hs]
  have : cs.extract o (o + n) = ((cs.toList.drop o).take n).toArray := by
    apply Array.ext'
    simp [Array.toList_extract, List.extract_eq_take_drop]
  rw [this]
  rfl

theorem eqIn_arr {t e : TypeId} {n len d : Nat} {xs ys : Array Value} (hu : P.underlying t = some (.array len e)) (hs : sizeB P e = some n) {f : Nat → Bool} {w : World}
    (h : ∀ i, i < len → ∃ a b, (part e xs (i * n)).run P w = .ok a w ∧ (part e ys (i * n)).run P w = .ok b w ∧ (Op.equalIn d e a b).run P w = .ok (f i) w) :
    (Op.equalIn (d + 1) t (.agg xs) (.agg ys)).run P w = .ok ((List.range len).all f) w := by
  simp only [Op.equalIn, Sem.run_bind, run_underlying hu, run_sizeOf hs, Result.andThen]
  simp only [Std.Legacy.Range.forIn_eq_forIn_range', Std.Legacy.Range.size, Nat.sub_zero, Nat.add_one_sub_one, Nat.div_one, Nat.add_sub_cancel]
  rw [← List.range_eq_range']
  generalize hl : List.range len = l
  have hmem : ∀ i ∈ l, i < len := by intro i hi; rw [← hl] at hi; exact List.mem_range.1 hi
  clear hl
  induction l with
  | nil => rfl
  | cons i l ih =>
    obtain ⟨a, b, h1, h2, h3⟩ := h i (hmem i (List.mem_cons.2 (.inl rfl)))
    simp only [List.forIn_cons, Sem.run_bind, h1, h2, h3, Result.andThen]
    cases hf : f i with
    | false => simp [hf, Sem.run, pure]
    | true =>
      simp only [Bool.not_true, Bool.false_eq_true, if_false, List.all_cons, hf, Bool.true_and]
      exact ih fun x hx => hmem x (List.mem_cons.2 (.inr hx))
end

section
variable {P : Program} {E : List PanicEntry → World → Prop} {k : Value → World → Prop} {W : World} {w0 : World} {Γ Γ' : List Chunk}

theorem sl_hi_s {T e : TypeId} {n b off len cap : Nat} {h : Int} {q : IntKind} (hu : P.underlying T = some (.slice e)) (hs : sizeB P e = some n) (hh : 0 ≤ h ∧ h ≤ cap) :
    oP P (Instr.sliceAt T (.slice (some ⟨b, off, none⟩) len cap) none (some (.int q h)) none) k W = k (.slice (some ⟨b, off, none⟩) h.toNat cap) W :=
  oP_run fun w => by
    unfold Instr.sliceAt Instr.slice Instr.sliceBounds Instr.sliceBound
    simp only [Sem.run_bind, run_underlying hu, Result.andThen, run_asIntOf, hh, and_self, if_true, run_sizeOf hs, Sem.run_pure, Option.map_some, addr_add, Nat.zero_mul, Nat.add_zero, ite_self, Nat.sub_zero]
theorem sl_hi_n {T e : TypeId} {n len cap : Nat} {h : Int} {q : IntKind} (hu : P.underlying T = some (.slice e)) (hs : sizeB P e = some n) (hh : 0 ≤ h ∧ h ≤ cap) :
    oP P (Instr.sliceAt T (.slice none len cap) none (some (.int q h)) none) k W = k (.slice none h.toNat cap) W :=
  oP_run fun w => by
    unfold Instr.sliceAt Instr.slice Instr.sliceBounds Instr.sliceBound
    simp only [Sem.run_bind, run_underlying hu, Result.andThen, run_asIntOf, hh, and_self, if_true, run_sizeOf hs, Sem.run_pure, Option.map_none, ite_self, Nat.sub_zero]
theorem sl_lo_s {T e : TypeId} {n b off len cap : Nat} {l : Int} {q : IntKind} (hu : P.underlying T = some (.slice e)) (hs : sizeB P e = some n) (hh : 0 ≤ l ∧ l ≤ len) :
    oP P (Instr.sliceAt T (.slice (some ⟨b, off, none⟩) len cap) (some (.int q l)) none none) k W = k (.slice (some (if cap = l.toNat then ⟨b, off, none⟩ else ⟨b, off + l.toNat * n, none⟩)) (len - l.toNat) (cap - l.toNat)) W :=
  oP_run fun w => by
    unfold Instr.sliceAt Instr.slice Instr.sliceBounds Instr.sliceBound
    simp only [Sem.run_bind, run_underlying hu, Result.andThen, run_asIntOf, hh, and_self, if_true, run_sizeOf hs, Sem.run_pure, Option.map_some, addr_add]
    split <;> rfl

/-- what a slice value reads as, of blocks that are known -/
def Kn (Γ : List Chunk) (v : Value) (size : Nat) (xs : List Value) (n : Nat) : Prop :=
  (v = .slice none 0 0 ∧ n = 0 ∧ xs = []) ∨ ∃ b off c T fr cap, v = .slice (some ⟨b, off, none⟩) n cap ∧ Knows Γ b (.cells c T fr) ∧ off + n * size ≤ c.size ∧ (c.toList.drop off).take (n * size) = xs ∧ n ≤ cap

theorem Kn.tail {v : Value} {size n : Nat} {xs : List Value} {c : Chunk} (h : Kn Γ v size xs n) : Kn (c :: Γ) v size xs n := by
  rcases h with h | ⟨b, off, c', T, fr, cap, h1, h2, h3⟩
  · exact .inl h
  · exact .inr ⟨b, off, c', T, fr, cap, h1, h2.tail, h3⟩

theorem Kn.shape {v : Value} {size n : Nat} {xs : List Value} (h : Kn Γ v size xs n) : ∃ a c, v = .slice a n c := by
  rcases h with ⟨rfl, rfl, _⟩ | ⟨b, off, c', T, fr, cap, rfl, _⟩ <;> exact ⟨_, _, rfl⟩

/-- a slice that owns its array, its cells laid open -/
theorem slc_fix {e : TypeId} {size n : Nat} {v : Value} {xs : List Value} (h : S w0 (slc e size v n xs :: Γ) W) :
    ∃ c : Chunk, S w0 (c :: Γ) W ∧ (∀ Γ', Kn (c :: Γ') v size xs n) ∧ ∀ {Γ' : List Chunk} {W' : World}, S w0 (c :: Γ') W' → S w0 (slc e size v n xs :: Γ') W' := by
  obtain ⟨h1, h2, h3, fp, f, g, hc, hr, hd, hu⟩ := h
  obtain ⟨hl, hc⟩ := hc
  rcases hc with ⟨rfl, rfl, hf⟩ | ⟨gb, cap, cur, rfl, hg, hn, hcap, hs, ht, hfp⟩
  · have hx : xs = [] := List.eq_nil_of_length_eq_zero (by simpa using hl)
    subst hx
    refine ⟨emp, ⟨h1, h2, h3, fp, f, g, hf, hr, hd, hu⟩, fun Γ' => .inl ⟨rfl, rfl, rfl⟩, fun hh => ?_⟩
    exact S.imp (c := emp) (d := slc e size (.slice none 0 0) 0 []) (fun h fp hh => ⟨hl, .inl ⟨rfl, rfl, hh⟩⟩) hh
  · refine ⟨pts gb (.cells cur e (0, 0)), ⟨h1, h2, h3, fp, f, g, ⟨hg, hfp⟩, hr, hd, hu⟩, fun Γ' => .inr ⟨gb, 0, cur, e, (0, 0), cap, rfl, Knows.head, ?_, ?_⟩, fun hh => ?_⟩
    · rw [Nat.zero_add, hs]; exact Nat.mul_le_mul_right _ hn
    · rw [List.drop_zero]; exact ⟨ht, hn⟩
    · have := S.toSlc (n := n) (cap := cap) (size := size) hh hn hcap hs
      rw [ht] at this
      exact this

theorem u_ap_nil {t ty e : TypeId} {size bytes : Nat} {v : Value} {n : Nat} {xs : List Value} (h : S w0 Γ W) (tk : Take (slc e size v n xs) Γ Γ') (hk : k v W) :
    oAp P E t ty e size bytes v (.slice none 0 0) k W := by
  rintro ⟨ht, hi, hsz⟩
  cases hinfo : P.info? e with
  | none => rw [hinfo] at hi; cases hi
  | some i =>
    obtain ⟨_, _, _, fp, hh⟩ := h
    obtain ⟨f1, g1, hc, _⟩ := tk.hold hh
    have : (Builtin.append_ #[t, t] ty #[v, .slice none 0 0]).run P W = .ok v W := by
      rcases hc.2 with ⟨rfl, rfl, _⟩ | ⟨g, cap, cur, rfl, hg, hn, _⟩
      · simp [Builtin.append_, Go.run_underlying ht, sizeOf, typeInfo, hinfo, Builtin.lenOf, Builtin.firstCells]
      · simp [Builtin.append_, Go.run_underlying ht, sizeOf, typeInfo, hinfo, Builtin.lenOf, Builtin.firstCells, hn, storeCells]
    rw [oV_run this]
    exact hk

theorem u_apK {t ty e : TypeId} {size bytes : Nat} {v x : Value} {n m : Nat} {xs ys : List Value} (h : S w0 Γ W) (tk : Take (slc e size v n xs) Γ Γ') (hx : Kn Γ x size ys m)
    (h1 : ys.all Value.oneCell' = true) (h63 : n + m ≤ 1000000) (hbytes : bytes ≤ 1000000) (hk : ∀ v' W', S w0 (slc e size v' (n + m) (xs ++ ys) :: Γ') W' → k v' W') :
    oAp P E t ty e size bytes v x k W := by
  rcases hx with ⟨rfl, rfl, rfl⟩ | ⟨b, off, c', T, fr, cap, rfl, hb, hin, rfl, _⟩
  · refine u_ap_nil h tk (hk v W ?_)
    rw [List.append_nil]
    exact h.take tk
  · exact u_ap h tk hb hin h1 h63 hbytes hk
theorem Kn.read {α : Type} {f : α → List Value} {m : Nat} (hf : ∀ a, (f a).length = m) {l : List α} {v : Value} (h : S w0 Γ W) (hk : Kn Γ v m (l.flatMap f) l.length) {i : Nat} (hi : i < l.length) :
    ∃ g off cap cur T fr, v = .slice (some ⟨g, off, none⟩) l.length cap ∧ W.heap[g]? = some (.cells cur T fr) ∧ ((cur.toList.drop (off + i * m)).take m) = f l[i] ∧ off + i * m + m ≤ cur.size := by
  rcases hk with ⟨_, h0, _⟩ | ⟨b, off, c, T, fr, cap, rfl, hb, hin, ht, _⟩
  · omega
  · have hle : i * m + m ≤ l.length * m := by
      have := Nat.mul_le_mul_right m (show i + 1 ≤ l.length from hi)
      rw [Nat.add_mul] at this
      omega
    refine ⟨b, off, cap, c, T, fr, rfl, hb.get h, ?_, by omega⟩
    rw [← flat_drop hf l i hi, ← ht, List.drop_take, List.take_take, List.drop_drop]
    congr 1
    omega

theorem Kn.hi {T e : TypeId} {v : Value} {size n i : Nat} {xs : List Value} {q : IntKind} (hu : P.underlying T = some (.slice e)) (hs : sizeB P e = some size) (hk : Kn Γ v size xs n) (hi : i ≤ n) :
    ∃ v', (∀ k W, oP P (Instr.sliceAt T v none (some (.int q i)) none) k W = k v' W) ∧ Kn Γ v' size (xs.take (i * size)) i := by
  rcases hk with ⟨rfl, rfl, rfl⟩ | ⟨b, off, c, T', fr, cap, rfl, hb, hin, rfl, hc⟩
  · have : i = 0 := by omega
    subst this
    exact ⟨_, fun k W => sl_hi_n hu hs ⟨by omega, by omega⟩, .inl ⟨rfl, rfl, by simp⟩⟩
  · refine ⟨_, fun k W => sl_hi_s hu hs ⟨by omega, by omega⟩, .inr ⟨b, off, c, T', fr, cap, rfl, hb, ?_, ?_, by omega⟩⟩
    · have := Nat.mul_le_mul_right size hi
      omega
    · rw [List.take_take, Nat.min_eq_left (Nat.mul_le_mul_right _ hi)]

theorem Kn.lo {T e : TypeId} {v : Value} {size n i : Nat} {xs : List Value} {q : IntKind} (hu : P.underlying T = some (.slice e)) (hs : sizeB P e = some size) (hk : Kn Γ v size xs n) (hi : i ≤ n) (h0 : 0 < n) :
    ∃ v', (∀ k W, oP P (Instr.sliceAt T v (some (.int q i)) none none) k W = k v' W) ∧ Kn Γ v' size (xs.drop (i * size)) (n - i) := by
  rcases hk with ⟨rfl, rfl, rfl⟩ | ⟨b, off, c, T', fr, cap, rfl, hb, hin, rfl, hc⟩
  · omega
  · refine ⟨_, fun k W => sl_lo_s hu hs ⟨by omega, by omega⟩, ?_⟩
    have e0 : (Int.toNat (i : Int)) = i := by omega
    rw [e0]
    have hm := Nat.mul_le_mul_right size hi
    split
    · have : n = i := by omega
      subst this
      refine .inr ⟨b, off, c, T', fr, _, rfl, hb, ?_, ?_, by omega⟩
      · simp only [Nat.sub_self, Nat.zero_mul]; omega
      · simp [List.drop_take]
    · refine .inr ⟨b, off + i * size, c, T', fr, _, rfl, hb, ?_, ?_, by omega⟩
      · rw [Nat.sub_mul]; omega
      · rw [List.drop_take, List.drop_drop, Nat.sub_mul]

end

end Go.Hw
