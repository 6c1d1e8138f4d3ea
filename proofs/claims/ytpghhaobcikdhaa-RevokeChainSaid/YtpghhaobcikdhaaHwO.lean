/- The words' rules, with their places found by themselves; the general rules as one. -/
import Derived.Test.YtpghhaobcikdhaaHwN
namespace Go.Hw
open Go

section
variable {P : Program} {E : List PanicEntry → World → Prop} {k : Value → World → Prop} {W : World} {w0 : World} {Γ Γ' : List Chunk}

theorem a_ld1 {t : TypeId} {b off : Nat} {c : Array Value} {T : TypeId} {fr : Nat × Nat} {v : Value} (h : S w0 Γ W) (hk : k v W)
    (hb : Take (pts b (.cells c T (0, 0))) Γ Γ' := by repeat (first | exact Take.head | apply Take.tail)) (hv : c.toList[off]? = some v := by rfl) : oLd1 P t (.pointer (some ⟨b, off, none⟩)) k W := u_ld1 h hb.knows hv hk
theorem a_ldN {t : TypeId} {b off n : Nat} {c : Array Value} {T : TypeId} (h : S w0 Γ W) (hk : k (.agg ((c.toList.drop off).take n).toArray) W)
    (hb : Take (pts b (.cells c T (0, 0))) Γ Γ' := by repeat (first | exact Take.head | apply Take.tail)) (hlen : off + n ≤ c.size := by exact Nat.le_of_ble_eq_true rfl) : oLdN P t n (.pointer (some ⟨b, off, none⟩)) k W :=
  u_ldN h hb.knows hlen hk
theorem a_rs1 {t : TypeId} {b off : Nat} {c : Array Value} {T : TypeId} {v : Value} (h : S w0 Γ W) (hk : k v W)
    (hb : Take (pts b (.cells c T (0, 0))) Γ Γ' := by repeat (first | exact Take.head | apply Take.tail)) (hv : c.toList[off]? = some v := by rfl) : oRs1 P t (.pointer (some ⟨b, off, none⟩)) k W := u_rs1 h hb.knows hv hk
theorem a_rsN {t : TypeId} {b off n : Nat} {c : Array Value} {T : TypeId} (h : S w0 Γ W) (hk : k (.agg ((c.toList.drop off).take n).toArray) W)
    (hb : Take (pts b (.cells c T (0, 0))) Γ Γ' := by repeat (first | exact Take.head | apply Take.tail)) (hlen : off + n ≤ c.size := by exact Nat.le_of_ble_eq_true rfl) : oRsN P t n (.pointer (some ⟨b, off, none⟩)) k W :=
  u_rsN h hb.knows hlen hk
theorem a_st {t : TypeId} {b off n : Nat} {c : Array Value} {T : TypeId} {v : Value} (h : S w0 Γ W)
    (hk : ∀ W', S w0 (pts b (.cells (putL c.toList off v.cells.toList).toArray T (0, 0)) :: Γ') W' → k undef W')
    (tk : Take (pts b (.cells c T (0, 0))) Γ Γ' := by repeat (first | exact Take.head | apply Take.tail))
    (hv : v.cells.size = n := by rfl) (ho : v.cells.toList.all Value.oneCell' = true := by rfl) (hlen : off + n ≤ c.size := by exact Nat.le_of_ble_eq_true rfl) : oSt P E t n (.pointer (some ⟨b, off, none⟩)) v k W :=
  u_st h tk hv ho hlen hk
theorem a_rd1 {g : Bool} {t : TypeId} {b off : Nat} {c : Array Value} {T : TypeId} {v : Value} {R : Prop} (h : S w0 Γ W) (hk : R)
    (hb : Take (pts b (.cells c T (0, 0))) Γ Γ' := by repeat (first | exact Take.head | apply Take.tail)) (hv : c.toList[off]? = some v := by rfl) : oRd1 g P t (.pointer (some ⟨b, off, none⟩)) v W ∧ R := ⟨u_rd1 h hb.knows hv, hk⟩
theorem a_rdN {g : Bool} {t : TypeId} {b off n : Nat} {c : Array Value} {T : TypeId} {v : Value} {R : Prop} (h : S w0 Γ W) (hk : R)
    (hb : Take (pts b (.cells c T (0, 0))) Γ Γ' := by repeat (first | exact Take.head | apply Take.tail)) (hlen : off + n ≤ c.size := by exact Nat.le_of_ble_eq_true rfl) (hv : v = .agg ((c.toList.drop off).take n).toArray := by rfl) :
    oRdN g P t n (.pointer (some ⟨b, off, none⟩)) v W ∧ R := ⟨u_rdN h hb.knows hlen hv, hk⟩
theorem S.subA (h : S w0 Γ W) (p : Γ'.Sublist Γ := by repeat (first | exact List.Sublist.refl _ | apply List.Sublist.cons_cons | apply List.Sublist.cons)) : S w0 Γ' W := h.sub p
theorem S.takeA {c : Chunk} (h : S w0 Γ W) (t : Take c Γ Γ' := by repeat (first | exact Take.head | apply Take.tail)) : S w0 (c :: Γ') W := h.take t
end

theorem GG : ((((type_of% @oPick_b) ∧ ((type_of% @oNil_p) ∧ (type_of% @oNil_f))) ∧ (((type_of% @oCond_t) ∧ (type_of% @oCond_f)) ∧ ((type_of% @oGk_t) ∧ (type_of% @oGk_f)))) ∧ ((((type_of% @gb_tt) ∧ (type_of% @gb_tf)) ∧ ((type_of% @gb_ft) ∧ (type_of% @gb_ff))) ∧ (((type_of% @oRd_f) ∧ (type_of% @b_add)) ∧ ((type_of% @b_sub) ∧ (type_of% @b_mul))))) ∧ ((((type_of% @b_lss) ∧ ((type_of% @b_leq) ∧ (type_of% @b_gtr))) ∧ (((type_of% @b_geq) ∧ (type_of% @b_eql)) ∧ ((type_of% @b_neq) ∧ (type_of% @b_and)))) ∧ ((((type_of% @b_or) ∧ (type_of% @b_andNot)) ∧ ((type_of% @b_not) ∧ (type_of% @x_0))) ∧ (((type_of% @x_1) ∧ (type_of% @x_2)) ∧ ((type_of% @x_3) ∧ (type_of% @bx_of))))) := ⟨⟨⟨⟨@oPick_b, ⟨@oNil_p, @oNil_f⟩⟩, ⟨⟨@oCond_t, @oCond_f⟩, ⟨@oGk_t, @oGk_f⟩⟩⟩, ⟨⟨⟨@gb_tt, @gb_tf⟩, ⟨@gb_ft, @gb_ff⟩⟩, ⟨⟨@oRd_f, @b_add⟩, ⟨@b_sub, @b_mul⟩⟩⟩⟩, ⟨⟨⟨@b_lss, ⟨@b_leq, @b_gtr⟩⟩, ⟨⟨@b_geq, @b_eql⟩, ⟨@b_neq, @b_and⟩⟩⟩, ⟨⟨⟨@b_or, @b_andNot⟩, ⟨@b_not, @x_0⟩⟩, ⟨⟨@x_1, @x_2⟩, ⟨@x_3, @bx_of⟩⟩⟩⟩⟩
theorem NN : ((((type_of% @all_env) ∧ ((type_of% @true_and) ∧ (type_of% @cells_agg))) ∧ ((type_of% @cells_int) ∧ ((type_of% @cells_bool) ∧ (type_of% @cells_ptr)))) ∧ (((type_of% @cells_slice) ∧ ((type_of% @cells_map) ∧ (type_of% @cells_str))) ∧ ((type_of% @Nat.add_zero) ∧ ((type_of% @Nat.zero_add) ∧ (type_of% @List.toList_toArray.{0}))))) ∧ ((((type_of% @List.drop_zero.{0}) ∧ ((type_of% @List.drop_succ_cons.{0}) ∧ (type_of% @List.take_succ_cons.{0}))) ∧ ((type_of% @List.take_zero.{0}) ∧ ((type_of% @List.take_nil.{0}) ∧ (type_of% @List.drop_nil.{0})))) ∧ (((type_of% @cond_true.{1}) ∧ ((type_of% @cond_false.{1}) ∧ (type_of% @Bool.not_true))) ∧ (((type_of% @Bool.not_false) ∧ (type_of% @beq_self_eq_true.{0})) ∧ ((type_of% @decide_true) ∧ (type_of% @decide_false))))) := ⟨⟨⟨⟨@all_env, ⟨@true_and, @cells_agg⟩⟩, ⟨@cells_int, ⟨@cells_bool, @cells_ptr⟩⟩⟩, ⟨⟨@cells_slice, ⟨@cells_map, @cells_str⟩⟩, ⟨@Nat.add_zero, ⟨@Nat.zero_add, @List.toList_toArray.{0}⟩⟩⟩⟩, ⟨⟨⟨@List.drop_zero.{0}, ⟨@List.drop_succ_cons.{0}, @List.take_succ_cons.{0}⟩⟩, ⟨@List.take_zero.{0}, ⟨@List.take_nil.{0}, @List.drop_nil.{0}⟩⟩⟩, ⟨⟨@cond_true.{1}, ⟨@cond_false.{1}, @Bool.not_true⟩⟩, ⟨⟨@Bool.not_false, @beq_self_eq_true.{0}⟩, ⟨@decide_true, @decide_false⟩⟩⟩⟩⟩
end Go.Hw
