/- Revoke: run. -/
import Derived.Test.YtpghhaobcikdhaaA20
import Derived.Recover
import Derived.Tactics
import Derived.Tactics2
namespace Go.Proofs.Ytpghhaobcikdhaa
open Go Go.Hw
set_option linter.unusedSimpArgs false
set_option linter.unusedVariables false
set_option maxRecDepth 100000

section
variable {w0 : World} {Γ Γ' : List Chunk} {W : World} {c s t k : Nat} {X : Caps} {σ : Store} {n : Int} {ts : List Cap}

theorem S.cell {p : Nat} {v : Value} {T : TypeId} (h : S w0 (pts p (.cells #[v] T (0, 0)) :: Γ) W) : W.cell? ⟨p, 0, none⟩ = some v ∧ W.frozen? ⟨p, 0, none⟩ = false := by
  have hb : W.heap[p]? = some (.cells #[v] T (0, 0)) := Knows.head.get h
  constructor
  · simp [World.cell?, hb]
  · simp [World.frozen?, hb]

theorem catch_idle {d e : Nat} : CallsD Try.prog 72 #[.pointer (some ⟨d, 0, none⟩), .pointer (some ⟨e, 0, none⟩)] .returning W fun en u' w' => en = .returned (.tuple #[]) ∧ u' = .returning ∧ w' = W := by
  have hf : Try.prog.funcs[72]? = some Try.f72 := by kernel_rfl
  have hn : Try.f72.ntmps = 11 := rfl
  have b1 : ∀ w, (binOp .eql 20 .nilIface .nilIface).run Try.prog w = .ok (.bool true) w := fun w => by kernel_rfl
  have b2 : ∀ w, (binOp .eql 20 (.iface 180 (.agg #[])) .nilIface).run Try.prog w = .ok (.bool false) w := fun w => by kernel_rfl
  have b3 : ∀ w, (Instr.typeAssert (.iface 180 (.agg #[])) 20 180 true).run Try.prog w = .ok (.tuple #[.agg #[], .bool true]) w := fun w => by kernel_rfl
  refine callsD_of_wpS hf rfl fun c₀ cs hu => ?_
  apply wpS_seq
  apply wpS_region
  simp [wpOpsS, go_sem, recoverD, hu, hn, Exit.thenS]
  refine wpS_of_wp ?_
  go_wp2
  refine ⟨rfl, .returning, ?_, .tuple #[], results_none rfl _ _ _, rfl, rfl, rfl⟩
  cases c₀
  simp only at hu
  rw [hu]


theorem catch_spent {d e : Nat} (h : S w0 (pts d (.cells #[.bool false] 4 (0, 0)) :: pts e (.cells #[.int .i64 0] 42 (0, 0)) :: Γ) W) :
    CallsD Try.prog 72 #[.pointer (some ⟨d, 0, none⟩), .pointer (some ⟨e, 0, none⟩)] (.panicking spentCh) W fun en u' w' => en = .returned (.tuple #[]) ∧ u' = .panicking [{ v := .iface 180 (.agg #[]), recovered := true }] ∧
      S w0 (pts d (.cells #[.bool false] 4 (0, 0)) :: pts e (.cells #[.int .i64 11] 42 (0, 0)) :: Γ) w' := by
  have hf : Try.prog.funcs[72]? = some Try.f72 := by kernel_rfl
  have hn : Try.f72.ntmps = 11 := rfl
  have b1 : ∀ w, (binOp .eql 20 .nilIface .nilIface).run Try.prog w = .ok (.bool true) w := fun w => by kernel_rfl
  have b2 : ∀ w, (binOp .eql 20 (.iface 180 (.agg #[])) .nilIface).run Try.prog w = .ok (.bool false) w := fun w => by kernel_rfl
  have b3 : ∀ w, (Instr.typeAssert (.iface 180 (.agg #[])) 20 180 true).run Try.prog w = .ok (.tuple #[.agg #[], .bool true]) w := fun w => by kernel_rfl
  refine callsD_of_wpS hf rfl fun c₀ cs hu => ?_
  apply wpS_seq
  apply wpS_region
  have h1 := h.alloc (.cells #[] 180 (0, 0))
  have h2 := h1.take (c := pts d (.cells #[.bool false] 4 (0, 0))) (.tail .head)
  obtain ⟨cd, fd⟩ := S.cell h2
  have h3 := (h2.setCell (off := 0) (.bool false)).take (c := pts e (.cells #[.int .i64 0] 42 (0, 0))) (.tail (.tail .head))
  obtain ⟨ce, fe⟩ := S.cell h3
  have h4 := (h3.setCell (off := 0) (.int .i64 11)).take (c := pts d (.cells #[.bool false] 4 (0, 0))) (.tail .head)
  simp [wpOpsS, go_sem, recoverD, hu, hn, Exit.thenS, spentCh]
  refine wpS_of_wp ?_
  go_wp2
  exact ⟨rfl, _, rfl, .tuple #[], results_none rfl _ _ _, rfl, rfl, h4.subA⟩

/-- what run comes to: done, and the error -/
def runV : Out → Value
  | .ok _ => .tuple #[.bool true, .int .i64 0]
  | .spent _ => .tuple #[.bool false, .int .i64 11]
def Out.st : Out → St
  | .ok st => st
  | .spent st => st

theorem results49 {d e : Nat} {tmps : Array Value} {v1 v2 : Value} {T1 T2 : TypeId} (hd : tmps.getD 4 undef = .pointer (some ⟨d, 0, none⟩)) (he : tmps.getD 5 undef = .pointer (some ⟨e, 0, none⟩))
    (h : S w0 (pts d (.cells #[v1] T1 (0, 0)) :: pts e (.cells #[v2] T2 (0, 0)) :: Γ) W) : (results Try.f49 tmps).run Try.prog W = .ok (.tuple #[v1, v2]) W := by
  have e1 := run_loadVar1 (P := Try.prog) (t := 4) (by kernel_rfl) (by kernel_rfl) ((Take.knows (b := d) (by repeat (first | exact Take.head | apply Take.tail))).get h) (off := 0) (v := v1) (by rfl)
  have e2 := run_loadVar1 (P := Try.prog) (t := 42) (by kernel_rfl) (by kernel_rfl) ((Take.knows (b := e) (by repeat (first | exact Take.head | apply Take.tail))).get h) (off := 0) (v := v2) (by rfl)
  refine run_results (vs := [v1, v2]) ?_
  show (List.mapM (resOne tmps) [.cell 4 4, .cell 5 42]).run Try.prog W = _
  simp only [List.mapM_cons, List.mapM_nil, resOne, Sem.run_bind, hd, he]
  have ha : ∀ (x : Addr) w, (asAddr (.pointer (some x))).run Try.prog w = .ok x w := fun _ _ => rfl
  simp only [ha, Result.andThen, e1, e2]
  rfl

theorem kRun {f : FuncId} {cap : Array Value} {st : St} {r : Out} {tk : Value} (hcb : callable Try.prog f = true) (h : S w0 (stC k c st Γ) W)
    (hcall : ∀ (d e : Nat) (W' : World), S w0 (stC k c st (pts d (.cells #[.bool false] 4 (0, 0)) :: pts e (.cells #[.int .i64 0] 42 (0, 0)) :: Γ)) W' →
      Calls Try.prog f cap W' (outQ w0 k c (pts d (.cells #[.bool false] 4 (0, 0)) :: pts e (.cells #[.int .i64 0] 42 (0, 0)) :: Γ) r)) :
    Calls Try.prog 49 #[tk, .func (.func f) #[] cap] W (Ret fun v W' => v = runV r ∧ S w0 (stC k c r.st Γ) W') := by
  have hmf : ∀ (fn : Fn) (first cap : Array Value) (w : World), (Instr.makeFunc fn first cap).run Try.prog w = .ok (.func fn first cap) w := fun _ _ _ _ => rfl
  have hf : Try.prog.funcs[49]? = some Try.f49 := by kernel_rfl
  have hn : Try.f49.ntmps = 9 := rfl
  have h1 := (h.alloc (.cells #[.bool false] 4 (0, 0))).alloc (.cells #[.int .i64 0] 42 (0, 0))
  have hsz : (W.alloc (.cells #[.bool false] 4)).heap.size = W.heap.size + 1 := by show (W.heap.push _).size = _; exact Array.size_push _
  rw [hsz] at h1
  have h2 := (S.get4 (c1 := takC k c st.n st.ts) (c2 := capsC c st.X) (c3 := pts W.heap.size (.cells #[.bool false] 4 (0, 0))) (c4 := pts (W.heap.size + 1) (.cells #[.int .i64 0] 42 (0, 0))) h1 (by repeat (first | exact Take.head | apply Take.tail)) (by repeat (first | exact Take.head | apply Take.tail)) (by repeat (first | exact Take.head | apply Take.tail)) (by repeat (first | exact Take.head | apply Take.tail)))
  go_enter_defers hf, hn
  go_wp2
  rw [run_callFunc hcb, Oper.upon_enter]
  refine Calls.mono (hcall _ _ _ h2) ?_
  intro en W' he
  cases en with
  | returned v =>
    obtain ⟨st', rfl, rfl, h⟩ := he
    have h3 := h.take (c := pts W.heap.size (.cells #[.bool false] 4 (0, 0))) (by repeat (first | exact Take.head | apply Take.tail))
    obtain ⟨cd, fd⟩ := S.cell h3
    have h4 := (h3.setCell (off := 0) (.bool true)).take (c := pts (W.heap.size + 1) (.cells #[.int .i64 0] 42 (0, 0))) (by repeat (first | exact Take.head | apply Take.tail))
    obtain ⟨ce, fe⟩ := S.cell h4
    have h5 := h4.setCell (off := 0) (.int .i64 0)
    dsimp only
    apply_assumption
    simp only [wpList, Exit.then]
    apply_assumption
    clear hcall
    simp [Act.put]
    go_wp2
    refine leaves_cons (f := 72) (args := #[.pointer (some ⟨W.heap.size, 0, none⟩), .pointer (some ⟨W.heap.size + 1, 0, none⟩)]) (by simp) (by simp [go_sem]) ?_
    refine catch_idle.mono ?_
    rintro e u' w'' ⟨rfl, rfl, rfl⟩
    refine ⟨_, results49 rfl rfl (S.get2 (c1 := pts W.heap.size (.cells #[.bool true] 4 (0, 0))) (c2 := pts (W.heap.size + 1) (.cells #[.int .i64 0] 42 (0, 0))) h5 (by repeat (first | exact Take.head | apply Take.tail)) (by repeat (first | exact Take.head | apply Take.tail))), rfl, h5.subA⟩
  | panicked ch =>
    obtain ⟨st', rfl, rfl, h⟩ := he
    clear hcall
    show bodyPostD _ _ _ (.panic spentCh) _ _
    refine leaves_cons (f := 72) (args := #[.pointer (some ⟨W.heap.size, 0, none⟩), .pointer (some ⟨W.heap.size + 1, 0, none⟩)]) (by simp) (by simp [go_sem]) ?_
    refine (catch_spent (S.get2 (c1 := pts W.heap.size (.cells #[.bool false] 4 (0, 0))) (c2 := pts (W.heap.size + 1) (.cells #[.int .i64 0] 42 (0, 0))) h (by repeat (first | exact Take.head | apply Take.tail)) (by repeat (first | exact Take.head | apply Take.tail)))).mono ?_
    rintro e u' w'' ⟨rfl, rfl, h⟩
    refine ⟨_, results49 rfl rfl (S.get2 (c1 := pts W.heap.size (.cells #[.bool false] 4 (0, 0))) (c2 := pts (W.heap.size + 1) (.cells #[.int .i64 11] 42 (0, 0))) h (by repeat (first | exact Take.head | apply Take.tail)) (by repeat (first | exact Take.head | apply Take.tail))), rfl, h.subA⟩
  | outgrown => exact he.elim
end
end Go.Proofs.Ytpghhaobcikdhaa
